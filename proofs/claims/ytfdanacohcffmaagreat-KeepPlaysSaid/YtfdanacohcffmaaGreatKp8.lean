/- Parts of the proof. Conditions: none. -/
import Derived.Test.YtfdanacohcffmaaGreatKp7
import Derived.Defers
set_option linter.unusedSimpArgs false
set_option linter.unusedVariables false
namespace Go.AM
open List Nat Bool Option
open Go Go.RowKit
variable {K:R->Bool} {call:mU} {o:Oper} {w':World} {v:AV}
structure alH (w0:World) (μ:Mu) (d:uV) (D:Deferred):Prop where
 ex:∃ cap args:List Value,D = { target:=.fn (.func d.f) cap.toArray,args:=args.toArray }/\fA w0 μ d.args args/\fA w0 μ d.cap cap
inductive Cf (w0:World) (μ:Mu):List uV->List Deferred->Prop where
 |nil:Cf w0 μ [] []
 |cons {d:uV} {D:Deferred} {ds:List uV} {Ds:List Deferred} (h:alH w0 μ d D) (t:Cf w0 μ ds Ds):Cf w0 μ (d :: ds) (D :: Ds)
def G5(w0:World)(μ:Mu)(env:Env)(n:Nat)(tmps:Array Value):Prop:=tmps.size=n/\∀ t,VR w0 μ (env t) (tmps.getD t undef)
structure SR (w0:World) (μ:Mu) (s:St) (a:Act) (w:World):Prop where
 env:G5 w0 μ s.env s.n a.tmps
 defs:Cf w0 μ s.defs a.defers
 iD:Good w0 μ s.h w
section
variable {P:Program} {w0 w:World} {μ μ':Mu} {h h':Heap} {s:St} {a:Act}
theorem Cf.mono(hm:μ.le μ'){ds:List uV}{Ds:List Deferred}(h:Cf w0 μ ds Ds):Cf w0 μ' ds Ds:=by
 induction h with
 |nil=>exact .nil
 |cons h t ih=>obtain ⟨c,x,e,a,b⟩:=h;exact .cons ⟨c,x,e,a.mono hm,b.mono hm⟩ ih
theorem G5.mono(hm:μ.le μ'){env:Env}{n:Nat}{tmps:Array Value}(h:G5 w0 μ env n tmps):G5 w0 μ' env n tmps:=⟨h.1,fun t=>(h.2 t).mono hm⟩
theorem r8(env:Env)(d:Nat)(v:AV)(t:Nat):cF env d v t=if t=d then v else env t:=by
 unfold cF
 cases h:Nat.beq t d with
 |true=>rw [if_pos (eq_of_beq_eq_true h)]
 |false=>rw [if_neg (ne_of_beq_eq_false h)]
def nP(h:Heap):AV:=.ptr (Heap.next h) 0
def hA(h:Heap)(l:List AV):Heap:=h.alloc (.cells l)
noncomputable def sL(e:Env):List (Nat×AV)->Env
 |[]=>e
 |(k,v) :: l=>sL (cF e k v) l
noncomputable def fl(k:Nat)(x:AV)(h:Heap)(f:AV->AV->Bool):Bool:=aa (ja k x) fun d=>aa (au none d h) fun v=>f d v
noncomputable def il(k:Nat)(x i:AV)(h:Heap)(f:AV->AV->Bool):Bool:=aa (jw k x i) fun d=>aa (au none d h) fun v=>f d v
noncomputable def ou(k:Nat)(x i:AV)(j:Nat)(h:Heap)(f:AV->AV->AV->Bool):Bool:=aa (jw k x i) fun c=>aa (ja j c) fun d=>aa (au none d h) fun v=>f c d v
theorem oD{env:Env}{n:Nat}{dst:Option Tmp}{k:Env->Bool}(h:kf env n dst v k=true):k (qp env n dst v)=true:=by
 cases dst with
 |none=>exact h
 |some d=>
  simp only [kf] at h;simp only [qp]
  cases hb:ble (d+1) n with
  |false=>rw [hb] at h;cases h
  |true=>
   rw [hb] at h;have:d<n:=le_of_ble_eq_true hb;rw [if_pos this];exact h
theorem G5.put{env:Env}{n:Nat}{tmps:Array Value}(h:G5 w0 μ env n tmps)(dst:Option Tmp){vc:Value}(hv:VR w0 μ v vc):G5 w0 μ (qp env n dst v) n (match dst with|some d=>tmps.setIfInBounds d vc|none=>tmps):=by
 cases dst with
 |none=>exact h
 |some d=>
  refine ⟨by simpa using h.1,fun t=>?_⟩;have ht:=h.2 t;simp only [qp];by_cases hd:d<n
  ·rw [if_pos hd];rw [r8];by_cases e:t=d
   ·subst e;rw [if_pos rfl];have:(tmps.setIfInBounds t vc).getD t undef=vc:=by simp [Array.getD,show t<tmps.size by rw [h.1];exact hd]
    rw [this];exact hv
   ·rw [if_neg e]
    have:(tmps.setIfInBounds d vc).getD t undef=tmps.getD t undef:=by
     simp only [Array.getD_eq_getD_getElem?];rw [Array.getElem?_setIfInBounds_ne (fun q=>e q.symm)]
    rw [this];exact ht
  ·rw [if_neg hd];have:(tmps.setIfInBounds d vc)=tmps:=Array.setIfInBounds_eq_of_size_le (h.1▸Nat.le_of_not_lt hd);rw [this];exact ht
theorem Act.NR(a:Act)(dst:Option Tmp)(v:Value):(a.put dst v).tmps=(match dst with|some d=>a.tmps.setIfInBounds d v|none=>a.tmps):=by cases dst<;>rfl
theorem Act.EG(a:Act)(dst:Option Tmp)(v:Value):(a.put dst v).defers=a.defers:=by cases dst<;>rfl
theorem SR.left(hs:SR w0 μ s a w)(dst:Option Tmp){vc:Value}(hv:VR w0 μ' v vc)(hg:Good w0 μ' h' w')(hm:μ.le μ'):SR w0 μ' (s.ada h' dst v) (a.put dst vc) w':=
 ⟨by rw [Act.NR];exact (hs.env.mono hm).put dst hv,by rw [Act.EG];exact hs.defs.mono hm,hg⟩
theorem SR.afV(hs:SR w0 μ s a w)(hg:Good w0 μ' h' w')(hm:μ.le μ'):SR w0 μ' ⟨s.env,s.n,s.defs,h'⟩ a w':=
 ⟨hs.env.mono hm,hs.defs.mono hm,hg⟩
theorem SR.eval(hs:SR w0 μ s a w):∀ x,VR w0 μ (evalArg s.env x) (a.eval x):=by
 intro x
 cases x with
 |tmp t=>exact hs.env.2 t
 |const v=>exact VR.ofConst v
 |global g=>exact .undef _
 |func f=>exact .func f [] [] [] [] rfl rfl (by simp) (by simp)
theorem oK(hs:G5 w0 μ s.env s.n a.tmps){ops:Array Oper}{b:Bool}(h:kZ ops.toList o s.env=some b):Region.wanted o (yielded ops a.tmps)=b:=by
 unfold kZ at h;unfold Region.wanted;split at h
 ·rename_i hg;rw [hg];simpa using h
 ·rename_i j want hg;rw [hg];simp only;split at h
  ·rename_i g hj;split at h
   ·rename_i d hd;have Mc:ops[j]?=some g:=by rw [Array.getElem?_toList] at hj;exact hj
    have ht:=hs.2 d
    have key:∀ v:Value,VR w0 μ (s.env d) v->v=a.tmps.getD d undef->(yielded ops a.tmps j==some want)=b:=by
     intro v hv he;unfold yielded;simp only [Mc,bind_some,hd];split at h
     ·rename_i b' hb;rw [hb] at hv;cases h;rw [hv.ku] at he;by_cases hlt:d<a.tmps.size
      ·have:a.tmps[d]?=some (.bool b'):=by
        simp [Array.getD,hlt] at he;simp [hlt,he]
       rw [this];simp
      ·simp [Array.getD,hlt,undef] at he
     ·rename_i vs hb;rw [hb] at hv;cases h;obtain ⟨us,rfl,_⟩:=hv.Kt;by_cases hlt:d<a.tmps.size
      ·have:a.tmps[d]?=some (.tuple us.toArray):=by
        simp [Array.getD,hlt] at he;simp [hlt,he]
       rw [this];simp
      ·have:a.tmps[d]?=none:=Array.getElem?_eq_none (Nat.le_of_not_lt hlt);rw [this];simp
     ·cases h
    exact key _ ht rfl
   ·cases h
  ·cases h
def Dm(w0:World)(μ:Mu)(h:Heap)(w:World)(K:Out->Heap->Bool):Ending->World->Prop
 |.returned vc,w'=>∃ v h' μ',K (.ret v) h'=true/\VR w0 μ' v vc/\Good w0 μ' h' w'/\Ext μ h w μ' h' w'
 |.panicked chain,w'=>∃ v vc h' μ',K (.panic v) h'=true/\chain = [{ v:=vc,recovered:=false }]/\VR w0 μ' v vc/\Good w0 μ' h' w'/\Ext μ h w μ' h' w'
 |.outgrown,_=>False
def Enters(P:Program)(f:FuncId):Prop:=∃ fn c,P.funcs[f]?=some fn/\fn.body=some c/\fn.name≠ "runtime.NumGoroutine"
theorem Cg{f:FuncId}(he:Enters P f)(args:Array Value):(callFunc f args).run P w = .ok (.enter f args) w:=by
 obtain ⟨fn,c,h1,h2,h3⟩:=he;simp [callFunc,h1,h2,h3]
def iS(P:Program)(call:mU):Prop:=
 ∀ f args h K,call f args h K=true->Enters P f/\∀ (w0:World) (μ:Mu) (w:World) (vs:List Value),Good w0 μ h w->fA w0 μ args vs->Calls P f vs.toArray w (Dm w0 μ h w K)
structure Ky (w0:World) (μ:Mu) (s:St) (a:Act) (w:World) (dst:Option Tmp) (K:R->Bool) (next:Act->World->Prop) (Q:Exit->Act->World->Prop):Prop where
 ok:∀ (v:AV) (mV:List uV) (h':Heap) (a':Act) (w':World) (μ':Mu),K (.ok v mV h')=true->SR w0 μ' ⟨qp s.env s.n dst v,s.n,mV,h'⟩ a' w'->Ext μ s.h w μ' h' w'->next a' w'
 panic:∀ (v:AV) (vc:Value) (h':Heap) (w':World) (μ':Mu),K (.panic v h')=true->VR w0 μ' v vc->SR w0 μ' ⟨s.env,s.n,s.defs,h'⟩ a w'->Ext μ s.h w μ' h' w'->Q (.panic [{ v:=vc,recovered:=false }]) a w'
theorem G6(hs:SR w0 μ s a w){next:Act->World->Prop}{Q:Exit->Act->World->Prop}(hl:Ky w0 μ s a w o.dst K next Q)
  (h:tZ o.op P call s.env s.defs s.h K=true):o.wp P a w next Q:=by
 obtain ⟨v,h',vc,w',μ',hK,hr,hv,hg,hx⟩:=adp hs.iD hs.eval h;unfold Oper.wp;rcases hr with hr|⟨rfl,hr⟩
 ·rw [hr];exact hl.ok _ _ _ _ _ _ hK (hs.left o.dst hv hg hx.mono) hx
 ·rw [hr];exact hl.ok _ _ _ _ _ _ hK (hs.left o.dst hv hg hx.mono) hx
theorem Y6(hs:SR w0 μ s a w)(hc:iS P call){c:Call}(ho:o.op = .call c){next:Act->World->Prop}{Q:Exit->Act->World->Prop}(hl:Ky w0 μ s a w o.dst K next Q)
  (h:Ba c P call s.env s.defs s.h K=true):o.wp P a w next Q:=by
 obtain ⟨Dh,args,ts⟩:=c
 cases Dh with
 |builtin b=>exact G6 hs hl (call:=call) (by rw [ho];exact h)
 |invoke r m=>exact G6 hs hl (call:=call) (by rw [ho];exact h)
 |value f=>
  simp only [Ba,Gm] at h;split at h
  ·rename_i g first cap hf
   obtain ⟨he,adq⟩:=hc _ _ _ _ h;have hfv:=hs.eval f;rw [hf] at hfv;generalize hfe:a.eval f=fv at hfv;cases hfv;rename_i us vs h1 r1 h2 r2;have AO:fA w0 μ (args.toList.map (evalArg s.env)) (args.toList.map a.eval):=fA.map _ fun x _=>hs.eval x;have jS:=(fA.mk h1 r1).append (AO.append (fA.mk h2 r2));have hcl:=adq w0 μ w _ hs.iD jS
   have hrun:(execOp a.eval o).run P w = .ok (.enter g (us++(args.toList.map a.eval++vs)).toArray) w:=by
    have e:us.toArray++args.map a.eval++vs.toArray=(us++(args.toList.map a.eval++vs)).toArray:=by
     apply Array.ext';simp
    simp only [execOp,ho,resolve,hfe,Deferred.ofValue,Sem.run_bind,Sem.run_pure,Result.andThen_ok,invoke,Cg he,e]
   unfold Oper.wp;rw [hrun,Oper.upon_enter];refine Calls.mono hcl fun e w' hR=>?_
   cases e with
   |returned vc=>
    obtain ⟨v,h',μ',hK,hv,hg,hx⟩:=hR;exact hl.ok _ _ _ _ _ _ hK (hs.left o.dst hv hg hx.mono) hx
   |panicked chain=>
    obtain ⟨v,vc,h',μ',hK,rfl,hv,hg,hx⟩:=hR;exact hl.panic _ _ _ _ _ hK hv (hs.afV hg hx.mono) hx
   |outgrown=>exact hR.elim
  ·cases h
theorem Wt(hs:SR w0 μ s a w){c:Call}(ho:o.op = .defer c){next:Act->World->Prop}{Q:Exit->Act->World->Prop}(hl:Ky w0 μ s a w o.dst K next Q)
  (h:B4 c P call s.env s.defs s.h K=true):o.wp P a w next Q:=by
 obtain ⟨Dh,args,ts⟩:=c
 cases Dh with
 |builtin b=>cases h
 |invoke r m=>cases h
 |value f=>
  simp only [B4] at h;split at h
  ·rename_i g first cap hf
   have hfv:=hs.eval f;rw [hf] at hfv;generalize hfe:a.eval f=fv at hfv;cases hfv;rename_i us vs h1 r1 h2 r2;have AO:fA w0 μ (args.toList.map (evalArg s.env)) (args.toList.map a.eval):=fA.map _ fun x _=>hs.eval x;have jS:=(fA.mk h1 r1).append AO
   have hrun:(execOp a.eval o).run P w = .ok (.defer { target:=.fn (.func g) vs.toArray,args:=(us++args.toList.map a.eval).toArray }) w:=by
    have e:us.toArray++args.map a.eval=(us++args.toList.map a.eval).toArray:=by
     apply Array.ext';simp
    simp only [execOp,ho,resolve,hfe,Deferred.ofValue,Sem.run_bind,Sem.run_pure,Result.andThen_ok,e]
   unfold Oper.wp;rw [hrun,Oper.upon_defer]
   have iZ:SR w0 μ (St.mk s.env s.n (⟨g,first++args.toList.map (evalArg s.env),cap⟩ :: s.defs) s.h) { a with defers:={ target:=.fn (.func g) vs.toArray,args:=(us++args.toList.map a.eval).toArray } :: a.defers } w:=
    ⟨hs.env,.cons ⟨vs,_,rfl,jS,⟨h2,r2⟩⟩ hs.defs,hs.iD⟩
   exact hl.ok _ _ _ _ _ _ h (iZ.left o.dst VR.bz hs.iD (Mu.le.refl μ)) (Ext.refl _ _ _)
  ·cases h
theorem Wu(hs:SR w0 μ s a w){x:Operand}(ho:o.op = .panic x){next:Act->World->Prop}{Q:Exit->Act->World->Prop}(hl:Ky w0 μ s a w o.dst K next Q)
  (h:B5 x P call s.env s.defs s.h K=true):o.wp P a w next Q:=by
 simp only [B5] at h;split at h
 ·rename_i t v hx;have hv:=hs.eval x;rw [hx] at hv;generalize he:a.eval x=xv at hv;cases hv;rename_i vc hvc
  have hrun:(execOp a.eval o).run P w = .halt (.panic (.iface t vc)) w:=by
   simp [execOp,ho,he,Instr.panic]
  unfold Oper.wp;rw [hrun,Oper.upon_panic];exact hl.panic _ _ _ _ _ h (.iface t v vc hvc) hs (Ext.refl _ _ _)
 ·cases h
theorem EH{defs:List uV}{K:R->Bool}:∀ {L:List (AV×Heap)},pI defs K L=true->∀ p ∈ L,K (.ok p.1 defs p.2)=true
 |[],_,p,hp=>by cases hp
 |q :: L,h,p,hp=>by
  simp only [pI,and_eq_true] at h;rcases mem_cons.1 hp with rfl|hp
  ·exact h.1
  ·exact EH h.2 p hp
theorem Y7(hs:SR w0 μ s a w){x:Operand}{b:Bool}(ho:o.op = .next x b){next:Act->World->Prop}{Q:Exit->Act->World->Prop}(hl:Ky w0 μ s a w o.dst K next Q)
  (h:LW x b P call s.env s.defs s.h K=true):o.wp P a w next Q:=by
 obtain ⟨L,hL,hh⟩:=iB h;obtain ⟨p,vc,w',μ',hp,hr,hv,hg,hx⟩:=Wo (P:=P) hs.iD (hs.eval x) hL o.type;have hrun:(execOp a.eval o).run P w = .ok (.value vc) w':=by simp [execOp,ho,hr]
 unfold Oper.wp;rw [hrun];exact hl.ok _ _ _ _ _ _ (EH hh p hp) (hs.left o.dst hv hg hx.mono) hx
theorem Gt(hs:SR w0 μ s a w)(hc:iS P call){next:Act->World->Prop}{Q:Exit->Act->World->Prop}(hl:Ky w0 μ s a w o.dst K next Q)
  (h:lX o.op P call s.env s.defs s.h K=true):o.wp P a w next Q:=by
 cases ho:o.op<;>rw [ho] at h<;>simp only [lX] at h
 case call c=>exact Y6 hs hc ho hl h
 case defer c=>exact Wt hs ho hl h
 case panic x=>exact Wu hs ho hl h
 case next x b=>exact Y7 hs ho hl h
 all_goals exact G6 hs hl (call:=call) (by rw [ho];exact h)
structure Dp (w0:World) (μ:Mu) (h:Heap) (w:World) (K:RS->Bool) (Q:Exit->Act->World->Prop):Prop where
 ok:∀ (s':St) (a':Act) (w':World) (μ':Mu),K (.ok s')=true->SR w0 μ' s' a' w'->Ext μ h w μ' s'.h w'->Q .normal a' w'
 panic:∀ (v:AV) (vc:Value) (s':St) (a':Act) (w':World) (μ':Mu),K (.panic v s')=true->VR w0 μ' v vc->SR w0 μ' s' a' w'->Ext μ h w μ' s'.h w'->Q (.panic [{ v:=vc,recovered:=false }]) a' w'
theorem Dp.after{K:RS->Bool}{Q:Exit->Act->World->Prop}(hl:Dp w0 μ h w K Q)(hx:Ext μ h w μ' h' w'):Dp w0 μ' h' w' K Q:=
 ⟨fun s2 a2 w2 μ2 k2 r2 x2=>hl.ok s2 a2 w2 μ2 k2 r2 (hx.trans x2),fun v vc s2 a2 w2 μ2 k2 v2 r2 x2=>hl.panic v vc s2 a2 w2 μ2 k2 v2 r2 (hx.trans x2)⟩
theorem Rf{call:mU}(hc:iS P call){ops:Array Oper}{K:RS->Bool}{Q:Exit->Act->World->Prop}:∀ (l:List Oper) (i:Nat) (s:St) (a:Act) (w:World) (μ:Mu),(∀ j o,l[j]?=some o->ops[i+j]?=some o) ->
  SR w0 μ s a w->(hl:Dp w0 μ s.h w K Q)->qZ P call ops.toList l s K=true->wpOps P ops Q (range' i l.length) a w
 |[],i,s,a,w,μ,hi,hs,hl,h=>by
  simp only [length_nil,range'_zero,wpOps];exact hl.ok _ _ _ _ h hs (Ext.refl _ _ _)
 |o :: rest,i,s,a,w,μ,hi,hs,hl,h=>by
  have VQ:ops[i]?=some o:=by simpa using hi 0 o rfl
  obtain ⟨env,n,defs,hp⟩:=s;simp only [length_cons,range'_succ,wpOps,VQ];simp only [qZ] at h
  have Ae:∀ j o',rest[j]?=some o'->ops[i+1+j]?=some o':=fun j o' hj=>by
   have:=hi (j+1) o' (by simpa using hj)
   rwa [show i+1+j=i+(j+1) by omega]
  split at h
  ·rename_i hw;rw [oK hs.env hw,if_pos rfl];refine .inl (Gt hs hc ⟨fun v mV h' a' w' μ' hK iZ hx=>?_,fun v vc h' w' μ' hK hv iZ hx=>?_⟩ h)
   ·exact Rf hc rest (i+1) _ a' w' μ' Ae iZ (hl.after hx) (oD hK)
   ·exact hl.panic v vc _ a w' μ' hK hv iZ hx
  ·rename_i hw;rw [oK hs.env hw];simp only [false_eq_true,if_false];have iZ:=hs.left o.dst (h':=hp) VR.bz hs.iD (Mu.le.refl μ);exact Rf hc rest (i+1) ⟨qp env n o.dst bz,n,defs,hp⟩ _ w μ Ae iZ hl (oD h)
  ·cases h
end
end Go.AM
namespace Go.AM
open List Nat Bool Option
open Go Go.RowKit
variable {op:Op}
section
variable {P:Program} {ρ ρ':Operand->AV}
theorem tg{c:Call}(h:∀ x ∈ c.operands,ρ x = ρ' x):c.args.toList.map ρ=c.args.toList.map ρ':=
 map_congr_left fun x hx=>h x (by simp [Call.operands];exact .inr (by simpa using hx))
theorem EI{ps:Array (Nat×Operand)}(h:∀ x ∈ (ps.toList.map (·.2)).toArray,ρ x = ρ' x):(ps.toList.map fun p=>ρ p.2)=ps.toList.map fun p=>ρ' p.2:=
 map_congr_left fun p hp=>h p.2 (by simp;exact ⟨p.1,by simpa using hp⟩)
theorem Kz{o:Option Operand}(h:∀ x ∈ o.toArray,ρ x = ρ' x):o.map ρ=o.map ρ':=by
 cases o with
 |none=>rfl
 |some x=>simp [h x (by simp)]
theorem EJ(h:∀ x ∈ op.operands,ρ x = ρ' x):qy P ρ op=qy P ρ' op:=by
 cases op<;>simp only [Op.operands] at h<;>simp only [qy]
 case build t ps=>rw [EI h]
 case makeFunc fn first cap=>
  have h1:first.toList.map ρ=first.toList.map ρ':=map_congr_left fun x hx=>h x (by simp;exact .inl (by simpa using hx))
  have h2:cap.toList.map ρ=cap.toList.map ρ':=map_congr_left fun x hx=>h x (by simp;exact .inr (by simpa using hx));rw [h1,h2]
 case slice t x lo hi mx=>
  have h0:ρ x = ρ' x:=h x (by simp);have h1:lo.map ρ=lo.map ρ':=Kz fun y hy=>h y (by simp only [Array.mem_append];exact .inl (.inl (.inr hy)));have h2:hi.map ρ=hi.map ρ':=Kz fun y hy=>h y (by simp only [Array.mem_append];exact .inl (.inr hy));rw [h0,h1,h2]
 case call c=>simp only [tg h]
 all_goals (first|rfl|(simp_all;done))
theorem EK(h:∀ x ∈ op.operands,ρ x = ρ' x)(hp:Heap):pJ P ρ hp op=pJ P ρ' hp op:=by
 cases op<;>simp only [Op.operands] at h<;>simp only [pJ]
 case call c=>simp only [tg h]
 all_goals (first|rfl|(simp_all;done))
theorem Ch(h:∀ x ∈ op.operands,ρ x = ρ' x):ta P ρ op=ta P ρ' op:=by
 cases op<;>simp only [Op.operands] at h<;>simp only [ta]
 case buildSlice t n ps=>rw [EI h]
 all_goals (first|rfl|(simp_all;done))
theorem Bg(h:∀ x ∈ op.operands,ρ x = ρ' x)(hp:Heap)(K:AV->Heap->Bool):jz op P ρ hp K=jz op P ρ' hp K:=by
 cases hk:gZ op with
 |pure=>rw [zx hk,zx hk,EJ h]
 |read=>rw [uX hk,uX hk,EK h]
 |alloc=>rw [vK hk,vK hk,Ch h]
 |Qh=>
  cases op<;>simp only [gZ,reduceCtorEq] at hk<;>simp only [Op.operands] at h<;>simp only [jz]
  case call c=>simp only [xT,tg h]
  all_goals (first|rfl|(simp_all;done))
theorem Md{env fY:Env}(h:∀ x ∈ op.operands,evalArg env x=evalArg fY x)(call:mU)(defs:List uV)(hp:Heap)(K:R->Bool) :
  lX op P call env defs hp K=lX op P call fY defs hp K:=by
 cases op<;>simp only [lX]
 case call c=>
  obtain ⟨Dh,args,ts⟩:=c
  cases Dh with
  |value f=>
   simp only [Ba,Gm];have h1:=tg (c:=⟨.value f,args,ts⟩) h;have h2:evalArg env f=evalArg fY f:=h f (by simp [Op.operands,Call.operands]);simp only at h1;rw [h2,h1]
  |invoke r m=>simp only [Ba,tZ];rw [Bg h]
  |builtin b=>simp only [Ba,tZ];rw [Bg h]
 case defer c=>
  obtain ⟨Dh,args,ts⟩:=c
  cases Dh with
  |value f=>
   simp only [B4];have h1:=tg (c:=⟨.value f,args,ts⟩) h;have h2:evalArg env f=evalArg fY f:=h f (by simp [Op.operands,Call.operands]);simp only at h1;rw [h2,h1]
  |invoke r m=>rfl
  |builtin b=>rfl
 case panic x=>simp only [B5,h x (by simp [Op.operands])]
 case next x b=>simp only [LW,h x (by simp [Op.operands])]
 all_goals (simp only [tZ];rw [Bg h])
theorem NS{hp:Heap}(hc:∀ b,hp.next<=b->hp.get b=none)(o:mI){v:AV}(h:pJ P ρ hp op=some v):pJ P ρ (hp.alloc o) op=some v:=by
 have key:∀ b o',hp.get b=some o'->(hp.alloc o).get b=some o':=fun b o' hb=>by
  rw [Heap.aN,if_neg (fun e=>by rw [e,hc _ (dK _)] at hb;cases hb)];exact hb
 cases op<;>simp only [pJ,reduceCtorEq] at h ⊢
 case load t a=>
  obtain ⟨i,h1,h2⟩:=bind_eq_some_iff.1 h;refine bind_eq_some_iff.2 ⟨i,h1,?_⟩;unfold au at h2 ⊢;split at h2
  ·rename_i b off hx;split at h2
   ·rename_i cs hb;simp only [key _ _ hb];exact h2
   ·cases h2
  ·rename_i hx;exact h2
  ·cases h2
 case lookup t x i ok=>
  obtain ⟨d,h1,h2⟩:=bind_eq_some_iff.1 h;refine bind_eq_some_iff.2 ⟨d,h1,?_⟩;unfold eO at h2 ⊢
  have he:∀ es,ry (ρ x) hp=some es->ry (ρ x) (hp.alloc o)=some es:=by
   intro es he;unfold ry at he ⊢;split at he
   ·rename_i hx;exact he
   ·rename_i b hx;split at he
    ·rename_i Cc ck hb;simp only [key _ _ hb];exact he
    ·cases he
   ·cases he
  split at h2
  ·cases h2
  ·rename_i es hes;rw [he es hes];exact h2
 case call c=>
  split at h
  ·split at h
   ·rename_i t l x e1 e2;obtain ⟨i,h1,h2⟩:=bind_eq_some_iff.1 h;refine bind_eq_some_iff.2 ⟨i,h1,?_⟩;unfold bK at h2 ⊢;split at h2<;>first|exact h2|skip
    ·split at h2
     ·rename_i b _ es ck hb;simp only [key _ _ hb];exact h2
     ·cases h2
   ·cases h
  ·cases h
mutual
theorem AV.beq_eq:∀ (x y:AV),AV.beq x y=true->x=y
 |.undef,y,h=>by cases y<;>simp_all [AV.beq]
 |.bool a,y,h=>by cases y<;>simp_all [AV.beq]
 |.int k a,y,h=>by cases y<;>simp_all [AV.beq]
 |.str a,y,h=>by cases y<;>simp_all [AV.beq]
 |.eZ,y,h=>by cases y<;>simp_all [AV.beq]
 |.ptr a i,y,h=>by cases y<;>simp_all [AV.beq]
 |.dL a i,y,h=>by
  cases y<;>simp only [AV.beq,false_eq_true,and_eq_true,beq_iff_eq] at h;rw [AV.r9 _ _ h.1,h.2]
 |.ai,y,h=>by cases y<;>simp_all [AV.beq]
 |.slice b i l s,y,h=>by cases y<;>simp_all [AV.beq]
 |.ax a i l s,y,h=>by
  cases y<;>simp only [AV.beq,false_eq_true,and_eq_true,beq_iff_eq] at h;rw [AV.r9 _ _ h.1.1.1,h.1.1.2,h.1.2,h.2]
 |.mH,y,h=>by cases y<;>simp_all [AV.beq]
 |.map a,y,h=>by cases y<;>simp_all [AV.beq]
 |.rP,y,h=>by cases y<;>simp_all [AV.beq]
 |.func f a b,y,h=>by
  cases y<;>simp only [AV.beq,false_eq_true,and_eq_true,beq_iff_eq] at h;rw [h.1.1,AV.r9 _ _ h.1.2,AV.r9 _ _ h.2]
 |.uy,y,h=>by cases y<;>simp_all [AV.beq]
 |.iface t v,y,h=>by
  cases y<;>simp only [AV.beq,false_eq_true,and_eq_true,beq_iff_eq] at h;rw [h.1,AV.beq_eq _ _ h.2]
 |.agg a,y,h=>by
  cases y<;>simp only [AV.beq,false_eq_true] at h;rw [AV.r9 _ _ h]
 |.tuple a,y,h=>by
  cases y<;>simp only [AV.beq,false_eq_true] at h;rw [AV.r9 _ _ h]
theorem AV.r9:∀ (xs ys:List AV),AV.B0 xs ys=true->xs=ys
 |[],ys,h=>by cases ys<;>simp_all [AV.B0]
 |x :: xs,ys,h=>by
  cases ys<;>simp only [AV.B0,false_eq_true,and_eq_true] at h;rw [AV.beq_eq _ _ h.1,AV.r9 _ _ h.2]
end
theorem NT{env:Env}{v:AV}{hp:Heap}(hk:gZ op = .read)(h:sameAt P op env v hp=true):pJ P (evalArg env) hp op=some v:=by
 unfold sameAt at h;rw [uX hk] at h;obtain ⟨v',h1,h2⟩:=iB h;rw [h1,AV.beq_eq _ _ h2]
end
end Go.AM
namespace Go.AM
open List Nat Bool Option
open Go Go.RowKit
variable {ops:List Oper}
theorem yd(acc:List Nat)(j:Nat):∀ (es:List Edge),(rQ acc es).testBit j=true->∃ e ∈ es,Region.binds .any e=true/\(j=e.on\/(acc.getD e.on 0).testBit j=true)
 |[],h=>by simp [rQ] at h
 |e :: es,h=>by
  simp only [rQ] at h;split at h
  ·rename_i hb;simp only [testBit_or,or_eq_true,testBit_two_pow,decide_eq_true_eq] at h;rcases h with (h|h)|h
   ·exact ⟨e,by simp,hb,.inl h.symm⟩
   ·exact ⟨e,by simp,hb,.inr h⟩
   ·obtain ⟨e',h1,h2⟩:=yd acc j es h;exact ⟨e',by simp [h1],h2⟩
  ·obtain ⟨e',h1,h2⟩:=yd acc j es h;exact ⟨e',by simp [h1],h2⟩
theorem AP:∀ (os:List Oper) (acc:List Nat),∃ r,rR os acc=acc++r
 |[],acc=>⟨[],by simp [rR]⟩
 |o :: os,acc=>by
  obtain ⟨r,h⟩:=AP os (acc++[rQ acc o.after.toList]);exact ⟨rQ acc o.after.toList :: r,by simp [rR,h]⟩
theorem G7:∀ (os:List Oper) (acc:List Nat) (k:Nat) (o:Oper),os[k]?=some o->(rR os acc)[acc.length+k]?=some (rQ ((rR os acc).take (acc.length+k)) o.after.toList)
 |[],acc,k,o,h=>by simp at h
 |o' :: os,acc,k,o,h=>by
  simp only [rR]
  cases k with
  |zero=>
   simp at h;subst h;obtain ⟨r,hr⟩:=AP os (acc++[rQ acc o'.after.toList]);rw [hr];simp
  |succ k=>
   have:=G7 os (acc++[rQ acc o'.after.toList]) k o (by simpa using h);rw [length_append,length_singleton] at this;rw [show acc.length+(k+1)=acc.length+1+k by omega];exact this
theorem AQ:∀ (os:List Oper) (acc:List Nat),(rR os acc).length=acc.length+os.length
 |[],acc=>by simp [rR]
 |o :: os,acc=>by simp only [rR,AQ os];simp;omega
theorem Wv{i j:Nat}(h:EA (rz ops) i j=true):∃ o,ops[i]?=some o/\∃ e ∈ o.after.toList,Region.binds .any e=true/\(j=e.on\/EA (rz ops) e.on j=true):=by
 unfold EA at h;by_cases hi:i<ops.length
 ·have ho:ops[i]?=some ops[i]:=jQ hi;have hm:=G7 ops [] i _ ho;simp only [length_nil,Nat.zero_add] at hm
  have hg:(rz ops).getD i 0=rQ ((rz ops).take i) ops[i].after.toList:=by
   rw [getD_eq_getElem?_getD];show ((rR ops [])[i]?).getD 0=_;rw [hm];rfl
  rw [hg] at h;obtain ⟨e,h1,h2,h3⟩:=yd _ _ _ h;refine ⟨_,ho,e,h1,h2,?_⟩;rcases h3 with h3|h3
  ·exact .inl h3
  ·refine .inr ?_;unfold EA;rw [getD_eq_getElem?_getD,getElem?_take] at h3;split at h3
   ·rw [getD_eq_getElem?_getD];exact h3
   ·simp at h3
 ·have:(rz ops).getD i 0=0:=by
   rw [getD_eq_getElem?_getD,getElem?_eq_none (by unfold rz;rw [AQ];simp;omega)];rfl
  rw [this] at h;simp at h
def Ww(ms:List Nat)(S:Nat->Bool):Prop:=∀ i j,S i=true->EA ms i j=true->S j=true
def jA(bV:Array Bool)(k:Nat):Bool:=bV.getD k false
theorem Ul{ops:Array Oper}{bV:Array Bool}{i j:Nat}(hc:Ww (rz ops.toList) (jA bV))(hr:i ∈ Region.ready .any ops bV)(hb:EA (rz ops.toList) i j=true):jA bV j=true:=by
 obtain ⟨_,o,ho,he⟩:=mem_ready.1 hr;obtain ⟨o',sZ,e,h1,h2,h3⟩:=Wv hb;rw [Array.getElem?_toList,ho] at sZ;cases sZ;have:=he e (by simpa using h1) h2;rcases h3 with rfl|h3
 ·exact this
 ·exact hc _ _ this h3
theorem Ci{bV:Array Bool}{i:Nat}(hi:i<bV.size)(k:Nat):jA (bV.setIfInBounds i true) k=(decide (k=i)||jA bV k):=by
 unfold jA;by_cases e:k=i
 ·subst e;simp [Array.getD,hi]
 ·simp [e,getD_set_ne false (fun q=>e q.symm)]
structure Dn where
 i:Nat
 o:Oper
 v:AV
 env:Env
 b:Nat
 al:Bool
noncomputable def iO(nW:Env)(n:Nat)(S:Nat->Bool):List Dn->Env
 |[]=>nW
 |d :: ds=>if S d.i then qp (iO nW n S ds) n d.o.dst d.v else iO nW n S ds
theorem Me{env:Env}{n:Nat}{dst:Option Tmp}{v:AV}{t:Nat}(h:dst≠some t):qp env n dst v t=env t:=by
 cases dst with
 |none=>rfl
 |some d=>
  have:t≠d:=fun e=>h (by rw [e]);simp only [qp];split
  ·simp [r8,this]
  ·rfl
theorem Um{env:Env}{n:Nat}{x y:Option Tmp}{u v:AV}(h:∀ t,x=some t->y≠some t):qp (qp env n x u) n y v=qp (qp env n y v) n x u:=by
 cases x with
 |none=>rfl
 |some d=>cases y with
  |none=>rfl
  |some e=>
   have hne:d≠e:=fun q=>h d rfl (by rw [q]);simp only [qp];split<;>split<;>try rfl
   funext t;simp only [r8];split<;>split<;>try rfl
   rename_i h1 h2;exact absurd (h2▸h1) (by simpa using hne)
section
variable {nW:Env} {n:Nat} {S S':Nat->Bool}
theorem G8{t:Nat}:∀ {pre ds:List Dn},(∀ x ∈ pre,S x.i=true->x.o.dst≠some t)->iO nW n S (pre++ds) t=iO nW n S ds t
 |[],ds,h=>rfl
 |x :: pre,ds,h=>by
  simp only [cons_append,iO];have ih:=G8 (pre:=pre) (ds:=ds) (fun y hy=>h y (by simp [hy]));split
  ·rename_i hx;rw [Me (h x (by simp) hx),ih]
  ·exact ih
theorem uc:∀ {ds:List Dn},(∀ x ∈ ds,S x.i=S' x.i)->iO nW n S ds=iO nW n S' ds
 |[],h=>rfl
 |x :: ds,h=>by
  simp only [iO];rw [h x (by simp),uc (ds:=ds) (fun y hy=>h y (by simp [hy]))]
theorem Bh{t:Nat}:∀ {ds:List Dn},(∀ x ∈ ds,x.o.dst=some t->S x.i=true)->iO nW n S ds t=iO nW n (fun _=>true) ds t
 |[],h=>rfl
 |x :: ds,h=>by
  have ih:=Bh (ds:=ds) (fun y hy=>h y (by simp [hy]));simp only [iO,if_true];by_cases hd:x.o.dst=some t
  ·rw [if_pos (h x (by simp) hd),hd];simp only [qp];split
   ·simp [r8]
   ·exact ih
  ·rw [Me hd];split
   ·rw [Me hd];exact ih
   ·exact ih
theorem KA{d:Dn}(hS:S d.i=false)(hS':∀ k,S' k=(decide (k=d.i)||S k)):∀ {pre ds:List Dn},(∀ x ∈ pre,x.i≠d.i)->(∀ x ∈ ds,x.i≠d.i)->(∀ x ∈ pre,∀ t,d.o.dst=some t->x.o.dst≠some t) ->
  iO nW n S' (pre++d :: ds)=qp (iO nW n S (pre++d :: ds)) n d.o.dst d.v
 |[],ds,h1,h2,h3=>by
  simp only [nil_append,iO];rw [if_pos (by rw [hS'];simp),if_neg (by rw [hS];simp),uc (S:=S') (S':=S) (fun x hx=>by rw [hS'];simp [h2 x hx])]
 |x :: pre,ds,h1,h2,h3=>by
  have ih:=KA hS hS' (pre:=pre) (ds:=ds) (fun y hy=>h1 y (by simp [hy])) h2 (fun y hy=>h3 y (by simp [hy]));simp only [cons_append,iO];have hx:S' x.i=S x.i:=by rw [hS'];simp [h1 x (by simp)]
  rw [hx];split
  ·rw [ih,Um (h3 x (by simp))]
  ·exact ih
end
structure Un (ops:List Oper) (ms:List Nat) (a b:Nat×Oper):Prop where
 ne:a.1≠b.1
 nb:EA ms a.1 b.1=false
 Qh:wJ a.2=true->EA ms b.1 a.1=true
 dd:∀ d,a.2.dst=some d->b.2.dst≠some d
 lb:∀ d,a.2.dst=some d->d ∈ uz ops b.2->EA ms b.1 a.1=true
 la:∀ d,b.2.dst=some d->d ∈ uz ops a.2->EA ms b.1 a.1=true
theorem NU{ms:List Nat}{a b:Nat×Oper}(h:QJ ops ms a b=true):Un ops ms a b:=by
 unfold QJ at h;simp only [and_eq_true,bne_iff_ne,ne_eq,not_eq_true',or_eq_true] at h;obtain ⟨h1,h2,h3,h4,h5⟩:=h;refine ⟨h1,h2,fun he=>h3.resolve_left (by simp [he]),fun d hd e=>?_,fun d hd hl=>?_,fun d hd hl=>?_⟩
 ·rw [hd,e] at h4;simp at h4
 ·rw [hd] at h4;simp only [and_eq_true,or_eq_true,not_eq_true'] at h4;exact h4.2.resolve_left (by simp [hl])
 ·rw [hd] at h5;simp only [or_eq_true,not_eq_true'] at h5;exact h5.resolve_left (by simp [hl])
theorem Cj{ops:List Oper}{ms:List Nat}:∀ {L:List (Nat×Oper)},Gp ops ms L=true->L.Pairwise (Un ops ms)
 |[],h=>.nil
 |p :: ps,h=>by
  simp only [Gp,and_eq_true,List.all_eq_true] at h;exact .cons (fun b hb=>NU (h.1 b hb)) (Cj h.2)
theorem Ck{L:List (Nat×Oper)}:∀ {n:Nat},Gq L n=true->∀ i,i<n->∃ p ∈ L,p.1=i
 |0,h,i,hi=>by omega
 |n+1,h,i,hi=>by
  simp only [Gq,and_eq_true,List.any_eq_true,beq_iff_eq] at h;by_cases e:i=n
  ·subst e;exact h.1
  ·exact Ck h.2 i (by omega)
theorem Cl:∀ (os:List Oper) (k:Nat) (p:Nat×Oper),p ∈ zo os k->k<=p.1/\os[p.1-k]?=some p.2
 |[],k,p,h=>by cases h
 |o :: os,k,p,h=>by
  simp only [zo,mem_cons] at h;rcases h with rfl|h
  ·simp
  ·obtain ⟨h1,h2⟩:=Cl os (k+1) p h;refine ⟨by omega,?_⟩;rw [show p.1-k=(p.1-(k+1))+1 by omega];simpa using h2
theorem EL{ms Jq:List Nat}{L:List (Nat×Oper)}:∀ (n k:Nat) (p:Nat×Oper),p ∈ Gn ms Jq L n k->p ∈ L
 |0,k,p,h=>(mem_filter.1 h).1
 |n+1,k,p,h=>by
  simp only [Gn,mem_append] at h;rcases h with h|h|h
  ·exact (mem_filter.1 h).1
  ·exact (mem_filter.1 h).1
  ·exact EL n (k+1) p h
theorem Cm:∀ {os:List Oper} {k:Nat},Gr os k=true->∀ i o,os[i]?=some o->∀ e ∈ o.after.toList,Region.binds .any e=true->e.on<k+i
 |[],k,h,i,o,ho=>by simp at ho
 |o' :: os,k,h,i,o,ho=>by
  simp only [Gr,and_eq_true,List.all_eq_true,or_eq_true,not_eq_true',decide_eq_true_eq] at h;intro e he hb
  cases i with
  |zero=>
   simp at ho;subst ho;have:=(h.1 e he).resolve_left (by simp [hb]);omega
  |succ i=>
   have:=Cm h.2 i o (by simpa using ho) e he hb;omega
structure wM (ops:Array Oper) (ms:List Nat) (L:List (Nat×Oper)):Prop where
 rz:ms=rz ops.toList
 ya:L.Pairwise (Un ops.toList ms)
 cover:∀ i,i<ops.size->∃ p ∈ L,p.1=i
 mem:∀ p ∈ L,ops[p.1]?=some p.2
 mq:∀ (i:Nat) (o:Oper),ops[i]?=some o->∀ e ∈ o.after.toList,Region.binds .any e=true->e.on<i
theorem Rg{ops:Array Oper}{p:ade}(h:Nz ops.toList=some p):wM ops p.ms p.L:=by
 unfold Nz at h;split at h
 ·rename_i hc;cases h;simp only [and_eq_true] at hc;obtain ⟨⟨h1,h2⟩,h3⟩:=hc;refine ⟨rfl,Cj h2,fun i hi=>Ck h3 i (by simpa using hi),fun q hq=>?_,fun i o ho e he hb=>?_⟩
  ·have:=Cl _ _ _ (EL _ _ _ hq);simpa using this.2
  ·have:=Cm h1 i o (by simpa using ho) e he hb;omega
 ·cases h
theorem NV{o:Oper}{env fY:Env}(h:∀ t ∈ uz ops o,env t=fY t):∀ x ∈ o.op.operands,evalArg env x=evalArg fY x:=by
 intro x hx
 cases x with
 |tmp t=>
  apply h;simp only [uz,mem_append,mem_filterMap];exact .inl ⟨.tmp t,by simpa using hx,rfl⟩
 |const v=>rfl
 |global g=>rfl
 |func f=>rfl
theorem Cn{o:Oper}{env fY:Env}(h:∀ t ∈ uz ops o,env t=fY t):kZ ops o env=kZ ops o fY:=by
 unfold kZ;split
 ·rfl
 ·rename_i j want hg;split
  ·rename_i g hj;split
   ·rename_i d hd;have:env d=fY d:=h d (by simp [uz,hg,hj,hd]);rw [this]
   ·rfl
  ·rfl
end Go.AM
namespace Go.AM
open List Nat Bool Option
open Go Go.RowKit
variable {p:Nat×Oper}
structure afW (P:Program) (ops:Array Oper) (μ:Mu) (h:Heap) (lg:List Read) (d:Dn):Prop where
 ex:∃ wb,kZ ops.toList d.o d.env=some wb/\(wb=false->d.v=bz)/\(wb=true ->
  (gZ d.o.op = .pure/\qy P (evalArg d.env) d.o.op=some d.v) \/
  (gZ d.o.op = .read/\pJ P (evalArg d.env) h d.o.op=some d.v/\(⟨d.i,d.o.op,d.env,d.v⟩:Read) ∈ lg) \/
  (gZ d.o.op = .alloc/\d.al=true/\∃ k ob,ta P (evalArg d.env) d.o.op=some (k,ob)/\d.v=k.val d.b/\h.get d.b=some ob/\∀ kk,μ d.b≠some kk))
structure Y8 where
 P:Program
 call:mU
 ops:Array Oper
 ms:List Nat
 L:List (Nat×Oper)
 K:St->Bool
 w0:World
 μb:Mu
 hb:Heap
 wb:World
 nW:Env
 n:Nat
structure qI (C:Y8) (bV:Array Bool) (a:Act) (w:World) (μ:Mu) (dn:List Dn) (R:List (Nat×Oper)) (lg:List Read) (s:St):Prop where
 split:C.L=(dn.reverse.map fun d=>(d.i,d.o))++R
 run:iA C.P C.call C.ops.toList C.ms R lg s C.K=true
 KB:s.n=C.n
 Rh:s.env=iO C.nW C.n (fun _=>true) dn
 size:bV.size=C.ops.size
 Y9:∀ i,jA bV i=true->∃ d ∈ dn,d.i=i
 Jq:∀ d ∈ dn,wJ d.o=true->jA bV d.i=true
 closed:Ww C.ms (jA bV)
 env:G5 C.w0 μ (iO C.nW C.n (jA bV) dn) C.n a.tmps
 defs:Cf C.w0 μ s.defs a.defers
 iD:Good C.w0 μ s.h w
 ext:Ext C.μb C.hb C.wb μ s.h w
 Za:∀ pre d ds,dn=pre++d :: ds->d.env=iO C.nW C.n (fun _=>true) ds
 Zb:∀ d ∈ dn,jA bV d.i=false->afW C.P C.ops μ s.h lg d
 Ri:∀ d ∈ dn,d.al=true->C.hb.next<=d.b/\d.b<s.h.next
 sep:∀ d ∈ dn,∀ d' ∈ dn,d.i≠d'.i->d.al=true->d'.al=true->d.b≠d'.b
theorem Ext.Wd{μb μ:Mu}{hb h:Heap}{wb w:World}(x:Ext μb hb wb μ h w){b n:Nat}(hn:hb.next<=b)(hμ:∀ k,μ b≠some k)(O:Obj):Ext μb hb wb (μ.add b ⟨w.heap.size,0,n⟩) h (w.alloc O):=by
 have hsz:(w.alloc O).heap.size=w.heap.size+1:=by show (w.heap.push O).size=_;simp
 refine ⟨x.mono.trans (Mu.Dg hμ),fun k hk hne=>?_,fun b' k gN=>?_,by rw [hsz];have:=x.size;omega,x.next,x.gG,fun b' k gN=>?_,x.Ca⟩
 ·rw [Below.heap_alloc w O k (Nat.lt_of_lt_of_le hk x.size)];exact x.frame k hk hne
 ·rw [Mu.mo] at gN;by_cases e:b'=b
  ·rw [if_pos e] at gN;cases gN;exact .inr (.inl x.size)
  ·rw [if_neg e] at gN;exact x.new b' k gN
 ·rw [Mu.mo] at gN;by_cases e:b'=b
  ·exact .inr (e▸hn)
  ·rw [if_neg e] at gN;exact x.fresh b' k gN
section
variable {C:Y8} {bV:Array Bool} {a:Act} {w:World} {μ:Mu} {dn:List Dn} {R:List (Nat×Oper)} {lg:List Read} {s:St}
theorem qI.ya(hp:wM C.ops C.ms C.L)(hi:qI C bV a w μ dn R lg s) :
  dn.Pairwise (fun x y=>Un C.ops.toList C.ms (y.i,y.o) (x.i,x.o))/\R.Pairwise (Un C.ops.toList C.ms)/\∀ d ∈ dn,∀ r ∈ R,Un C.ops.toList C.ms (d.i,d.o) r:=by
 have h:=hp.ya;rw [hi.split,pairwise_append,pairwise_map,pairwise_reverse] at h;exact ⟨h.1,h.2.1,fun d hd r hr=>h.2.2 _ (mem_map.2 ⟨d,by simpa using hd,rfl⟩) r hr⟩
theorem qI.fresh(hp:wM C.ops C.ms C.L)(hi:qI C bV a w μ dn R lg s){r:Nat×Oper}(hr:r ∈ R):jA bV r.1=false/\∀ d ∈ dn,d.i≠r.1:=by
 have hne:∀ d ∈ dn,d.i≠r.1:=fun d hd=>((hi.ya hp).2.2 d hd r hr).ne;refine ⟨?_,hne⟩
 cases h:jA bV r.1 with
 |false=>rfl
 |true=>obtain ⟨d,hd,he⟩:=hi.Y9 _ h;exact absurd he (hne d hd)
theorem qI.Wx(hp:wM C.ops C.ms C.L)(hi:qI C bV a w μ dn (p :: R) lg s)(he:wJ p.2=false):∃ EM Uo s',qI C bV a w μ EM R Uo s':=by
 obtain ⟨hf,hne⟩:=hi.fresh hp (r:=p) (by simp);obtain ⟨env,n,defs,Da⟩:=s;have hrun:=hi.run;simp only [iA] at hrun
 have step:∀ (v:AV) (b:Nat) (al:Bool) (Uo:List Read) (h':Heap),iA C.P C.call C.ops.toList C.ms R Uo ⟨qp env n p.2.dst v,n,defs,h'⟩ C.K=true ->
   (∀ r ∈ lg,r ∈ Uo)->Good C.w0 μ h' w->Ext C.μb C.hb C.wb μ h' w->Da.next<=h'.next->(∀ b' o,Da.get b'=some o->h'.get b'=some o)->(∀ op v,pJ C.P (evalArg env) Da op=some v\/True) ->
   (∀ env op v,pJ C.P (evalArg env) Da op=some v->pJ C.P (evalArg env) h' op=some v) ->
   afW C.P C.ops μ h' Uo ⟨p.1,p.2,v,env,b,al⟩->(al=true->b=Da.next/\Da.next<h'.next)->∃ EM Uo s',qI C bV a w μ EM R Uo s':=by
  intro v b al Uo h' hr hlg hg hx mS hget _ hrd hpd hal;have Y2:C.hb.next<=Da.next:=hi.ext.next
  refine ⟨⟨p.1,p.2,v,env,b,al⟩ :: dn,Uo,⟨qp env n p.2.dst v,n,defs,h'⟩,?_⟩;refine ⟨by rw [hi.split];simp,hr,hi.KB,?_,hi.size,fun i h=>?_,fun d hd h=>?_,hi.closed,?_,hi.defs,hg,hx,fun pre d ds h=>?_,fun d hd h=>?_,fun d hd h=>?_,fun d hd d' wN Zc h1 h2=>?_⟩
  ·show qp env n p.2.dst v=_;simp only [iO,if_true];have e1:n=C.n:=hi.KB;have e2:env=iO C.nW C.n (fun _=>true) dn:=hi.Rh;rw [e2,e1]
  ·obtain ⟨d,hd,e⟩:=hi.Y9 i h;exact ⟨d,by simp [hd],e⟩
  ·rcases mem_cons.1 hd with rfl|hd
   ·simp [he] at h
   ·exact hi.Jq d hd h
  ·have:iO C.nW C.n (jA bV) (⟨p.1,p.2,v,env,b,al⟩ :: dn)=iO C.nW C.n (jA bV) dn:=by
    simp only [iO];rw [if_neg (by rw [hf];simp)]
   rw [this];exact hi.env
  ·cases pre with
   |nil=>
    simp only [nil_append,List.cons.injEq] at h;obtain ⟨rfl,rfl⟩:=h;exact hi.Rh
   |cons x pre=>
    simp only [cons_append,List.cons.injEq] at h;exact hi.Za pre d ds h.2
  ·rcases mem_cons.1 hd with rfl|hd
   ·exact hpd
   ·obtain ⟨wb,q1,q2,q3⟩:=(hi.Zb d hd h).ex;refine ⟨wb,q1,q2,fun hw=>?_⟩;rcases q3 hw with q|⟨k1,k2,k3⟩|⟨k1,k2,k,ob,k3,k4,k5,k6⟩
    ·exact .inl q
    ·exact .inr (.inl ⟨k1,hrd _ _ _ k2,hlg _ k3⟩)
    ·exact .inr (.inr ⟨k1,k2,k,ob,k3,k4,hget _ _ k5,k6⟩)
  ·rcases mem_cons.1 hd with rfl|hd
   ·obtain ⟨e1,e2⟩:=hal h;show _<=b/\b<h'.next
    omega
   ·have:=hi.Ri d hd h;exact ⟨this.1,Nat.lt_of_lt_of_le this.2 mS⟩
  ·rcases mem_cons.1 hd with rfl|hd
   ·rcases mem_cons.1 wN with rfl|wN
    ·exact absurd rfl Zc
    ·have:d'.b<Da.next:=(hi.Ri d' wN h2).2
     obtain ⟨e1,_⟩:=hal h1;show b≠d'.b;omega
   ·rcases mem_cons.1 wN with rfl|wN
    ·have:d.b<Da.next:=(hi.Ri d hd h1).2
     obtain ⟨e1,_⟩:=hal h2;show d.b≠b;omega
    ·exact hi.sep d hd d' wN Zc h1 h2
 split at hrun
 ·rename_i hw;split at hrun
  ·rename_i hk;rw [zx hk] at hrun;obtain ⟨v,hv,hK⟩:=iB hrun;have hK:=oD hK;exact step v 0 false lg Da hK (fun r h=>h) hi.iD hi.ext (dK _) (fun _ _ h=>h) (fun _ _=>.inr trivial) (fun _ _ _ h=>h) ⟨true,hw,by simp,fun _=>.inl ⟨hk,hv⟩⟩ (by simp)
  ·rename_i hk;rw [uX hk] at hrun;obtain ⟨v,hv,hK⟩:=iB hrun;have hK:=oD hK;exact step v 0 false _ Da hK (fun r h=>by simp [h]) hi.iD hi.ext (dK _) (fun _ _ h=>h) (fun _ _=>.inr trivial) (fun _ _ _ h=>h) ⟨true,hw,by simp,fun _=>.inr (.inl ⟨hk,hv,by simp⟩)⟩ (by simp)
  ·rename_i hk;rw [vK hk] at hrun;obtain ⟨⟨k,ob⟩,hv,hK⟩:=iB hrun;have hK:=oD hK;obtain ⟨g1,g2⟩:=hi.iD.adh ob
   refine step (k.val Da.next) Da.next true lg (Da.alloc ob) hK (fun r h=>h) g1 (hi.ext.trans g2) (le_succ _) (fun b' o h=>?_) (fun _ _=>.inr trivial) (fun _ _ _ h=>NS hi.iD.clean ob h)
    ⟨true,hw,by simp,fun _=>.inr (.inr ⟨hk,rfl,k,ob,hv,rfl,by rw [Heap.aN,if_pos rfl],hi.iD.Cb⟩)⟩ (fun _=>⟨rfl,lt_succ_self _⟩)
   rw [Heap.aN,if_neg (fun e=>by rw [e,hi.iD.clean _ (dK _)] at h;cases h)];exact h
  ·rename_i hk;simp [wJ,hk] at he
 ·rename_i hw;exact step bz 0 false lg Da (oD hrun) (fun r h=>h) hi.iD hi.ext (dK _) (fun _ _ h=>h) (fun _ _=>.inr trivial) (fun _ _ _ h=>h) ⟨false,hw,by simp,by simp⟩ (by simp)
 ·cases hrun
theorem qI.advance(hp:wM C.ops C.ms C.L):∀ (R:List (Nat×Oper)) (dn:List Dn) (lg:List Read) (s:St),qI C bV a w μ dn R lg s ->
  ∃ EM R' Uo s',qI C bV a w μ EM R' Uo s'/\(∀ p rest,R'=p :: rest->wJ p.2=true)
 |[],dn,lg,s,hi=>⟨dn,[],lg,s,hi,by simp⟩
 |p :: R,dn,lg,s,hi=>by
  cases he:wJ p.2 with
  |true=>exact ⟨dn,p :: R,lg,s,hi,fun q rest h=>by cases h;exact he⟩
  |false=>
   obtain ⟨EM,Uo,s',h'⟩:=hi.Wx hp he;exact qI.advance hp R EM Uo s' h'
theorem qI.agree(hp:wM C.ops C.ms C.L)(hi:qI C bV a w μ dn R lg s){d:Dn}(hd:d ∈ dn)(hS:jA bV d.i=false)(hr:∀ j,EA C.ms d.i j=true->jA bV j=true) :
  ∀ t ∈ uz C.ops.toList d.o,iO C.nW C.n (jA bV) dn t=d.env t:=by
 intro t ht;obtain ⟨pre,ds,rfl⟩:=append_of_mem hd;rw [hi.Za pre d ds rfl];have YC:=(hi.ya hp).1;rw [pairwise_append] at YC;obtain ⟨_,Wy,Zd⟩:=YC;rw [pairwise_cons] at Wy;rw [G8 (fun x hx hSx hdx=>?_)]
 ·simp only [iO];rw [if_neg (by rw [hS];simp)];refine Bh fun x hx hdx=>hr _ ?_;exact (Wy.1 x hx).lb t hdx ht
 ·have:=(Zd x hx d (by simp)).la t hdx ht;have:=hi.closed _ _ hSx this;rw [hS] at this;cases this
theorem qI.Up(hp:wM C.ops C.ms C.L)(hi:qI C bV a w μ dn (p :: R) lg s)(hr:∀ j,EA C.ms p.1 j=true->jA bV j=true) :
  ∀ t ∈ uz C.ops.toList p.2,iO C.nW C.n (jA bV) dn t=s.env t:=by
 intro t ht;rw [hi.Rh];exact Bh fun x hx hdx=>hr _ (((hi.ya hp).2.2 x hx p (by simp)).lb t hdx ht)
theorem qI.ran(hp:wM C.ops C.ms C.L)(hi:qI C bV a w μ dn R lg s){d:Dn}(hd:d ∈ dn)(hS:jA bV d.i=false)(hlt:d.i<bV.size)(hr:∀ j,EA C.ms d.i j=true->jA bV j=true)
  {w':World} {μ':Mu} {vc:Value} (hm:μ.le μ') (hv:VR C.w0 μ' d.v vc) (hg:Good C.w0 μ' s.h w') (hx:Ext C.μb C.hb C.wb μ' s.h w')
  (rY:∀ d' ∈ dn,jA bV d'.i=false->d'.i≠d.i->d'.al=true->(∀ kk,μ d'.b≠some kk)->∀ kk,μ' d'.b≠some kk) :
  qI C (bV.setIfInBounds d.i true) (a.put d.o.dst vc) w' μ' dn R lg s:=by
 have mu:=Ci hlt;refine ⟨hi.split,hi.run,hi.KB,hi.Rh,by simpa using hi.size,fun i h=>?_,fun d' wN h=>?_,fun i j h hb=>?_,?_,?_,hg,hx,hi.Za,fun d' wN h=>?_,hi.Ri,hi.sep⟩
 ·rw [mu] at h;simp only [or_eq_true,decide_eq_true_eq] at h;rcases h with rfl|h
  ·exact ⟨d,hd,rfl⟩
  ·exact hi.Y9 i h
 ·rw [mu,hi.Jq d' wN h];simp
 ·rw [mu] at h ⊢;simp only [or_eq_true,decide_eq_true_eq] at h ⊢;rcases h with rfl|h
  ·exact .inr (hr j hb)
  ·exact .inr (hi.closed i j h hb)
 ·obtain ⟨pre,ds,rfl⟩:=append_of_mem hd;have YC:=(hi.ya hp).1;rw [pairwise_append] at YC;obtain ⟨_,Wy,Zd⟩:=YC;rw [pairwise_cons] at Wy;rw [KA (S:=jA bV) (d:=d) hS (fun k=>mu k) (fun x hx=>((Zd x hx d (by simp)).ne).symm) (fun x hx=>(Wy.1 x hx).ne) (fun x hx t ht=>(Zd x hx d (by simp)).dd t ht),Act.NR];exact (hi.env.mono hm).put d.o.dst hv
 ·rw [Act.EG];exact hi.defs.mono hm
 ·rw [mu] at h;simp only [or_eq_false_iff,decide_eq_false_iff_not] at h;obtain ⟨wb,q1,q2,q3⟩:=(hi.Zb d' wN h.2).ex;refine ⟨wb,q1,q2,fun hw=>?_⟩;rcases q3 hw with q|q|⟨k1,k2,k,ob,k3,k4,k5,k6⟩
  ·exact .inl q
  ·exact .inr (.inl q)
  ·exact .inr (.inr ⟨k1,k2,k,ob,k3,k4,k5,rY d' wN h.2 h.1 k2 k6⟩)
theorem uD{P:Program}{ms:List Nat}{i:Nat}{h:Heap}:∀ {lg:List Read},mE P ms i h lg=true->∀ r ∈ lg,EA ms i r.i=false->sameAt P r.op r.env r.v h=true
 |[],hh,r,hr,hb=>by cases hr
 |r' :: lg,hh,r,hr,hb=>by
  simp only [mE] at hh;rcases mem_cons.1 hr with rfl|hr
  ·rw [if_neg (by rw [hb];simp)] at hh;simp only [and_eq_true] at hh;exact hh.1
  ·split at hh
   ·exact uD hh r hr hb
   ·simp only [and_eq_true] at hh;exact uD hh.2 r hr hb
theorem qI.ace(hp:wM C.ops C.ms C.L)(hi:qI C bV a w μ dn (p :: R) lg s)(hlt:p.1<bV.size)(hr:∀ j,EA C.ms p.1 j=true->jA bV j=true)
  {a':Act} {w':World} {μ':Mu} {v:AV} {mV:List uV} {h':Heap} (hrun:iA C.P C.call C.ops.toList C.ms R lg ⟨qp s.env s.n p.2.dst v,s.n,mV,h'⟩ C.K=true)
  (hs:SR C.w0 μ' ⟨qp (iO C.nW C.n (jA bV) dn) C.n p.2.dst v,C.n,mV,h'⟩ a' w') (hx:Ext μ s.h w μ' h' w')
  (hrd:∀ r ∈ lg,gZ r.op = .read->EA C.ms p.1 r.i=false->pJ C.P (evalArg r.env) s.h r.op=some r.v->pJ C.P (evalArg r.env) h' r.op=some r.v) :
  qI C (bV.setIfInBounds p.1 true) a' w' μ' (⟨p.1,p.2,v,s.env,0,false⟩ :: dn) R lg ⟨qp s.env s.n p.2.dst v,s.n,mV,h'⟩:=by
 have mu:=Ci hlt;obtain ⟨hf,hne⟩:=hi.fresh hp (r:=p) (by simp);refine ⟨by rw [hi.split];simp,hrun,hi.KB,?_,by simpa using hi.size,fun i h=>?_,fun d' wN h=>?_,fun i j h hb=>?_,?_,hs.defs,hs.iD,hi.ext.trans hx,fun pre d ds h=>?_,fun d' wN h=>?_,fun d' wN h=>?_,fun d1 h1 d2 h2 Zc a1 a2=>?_⟩
 ·show qp s.env s.n p.2.dst v=_;simp only [iO,if_true];rw [hi.KB,hi.Rh]
 ·rw [mu] at h;simp only [or_eq_true,decide_eq_true_eq] at h;rcases h with rfl|h
  ·exact ⟨⟨p.1,p.2,v,s.env,0,false⟩,by simp,rfl⟩
  ·obtain ⟨d,hd,e⟩:=hi.Y9 i h;exact ⟨d,by simp [hd],e⟩
 ·rw [mu];rcases mem_cons.1 wN with rfl|wN
  ·simp
  ·rw [hi.Jq d' wN h];simp
 ·rw [mu] at h ⊢;simp only [or_eq_true,decide_eq_true_eq] at h ⊢;rcases h with rfl|h
  ·exact .inr (hr j hb)
  ·exact .inr (hi.closed i j h hb)
 ·have:iO C.nW C.n (jA (bV.setIfInBounds p.1 true)) (⟨p.1,p.2,v,s.env,0,false⟩ :: dn)=qp (iO C.nW C.n (jA bV) dn) C.n p.2.dst v:=by
   simp only [iO];rw [if_pos (by rw [mu];simp),uc (S':=jA bV) (fun x hx=>by rw [mu];simp [hne x hx])]
  rw [this];exact hs.env
 ·cases pre with
  |nil=>
   simp only [nil_append,List.cons.injEq] at h;obtain ⟨rfl,rfl⟩:=h;exact hi.Rh
  |cons x pre=>
   simp only [cons_append,List.cons.injEq] at h;exact hi.Za pre d ds h.2
 ·rw [mu] at h;simp only [or_eq_false_iff,decide_eq_false_iff_not] at h;rcases mem_cons.1 wN with rfl|wN
  ·exact absurd rfl h.1
  ·obtain ⟨wb,q1,q2,q3⟩:=(hi.Zb d' wN h.2).ex;refine ⟨wb,q1,q2,fun hw=>?_⟩;rcases q3 hw with q|⟨k1,k2,k3⟩|⟨k1,k2,k,ob,k3,k4,k5,k6⟩
   ·exact .inl q
   ·refine .inr (.inl ⟨k1,hrd _ k3 k1 ?_ k2,k3⟩)
    cases hb:EA C.ms p.1 d'.i with
    |false=>rfl
    |true=>have:=hr _ hb;rw [h.2] at this;cases this
   ·have hb:=hi.Ri d' wN k2;refine .inr (.inr ⟨k1,k2,k,ob,k3,k4,?_,fun kk hk=>?_⟩)
    ·show h'.get d'.b=some ob;rw [hx.gG _ hb.2 k6];exact k5
    ·rcases hx.fresh _ kk hk with e|e
     ·exact k6 kk e
     ·omega
 ·rcases mem_cons.1 wN with rfl|wN
  ·cases h
  ·have:=hi.Ri d' wN h;exact ⟨this.1,Nat.lt_of_lt_of_le this.2 hx.next⟩
 ·rcases mem_cons.1 h1 with rfl|h1
  ·cases a1
  ·rcases mem_cons.1 h2 with rfl|h2
   ·cases a2
   ·exact hi.sep d1 h1 d2 h2 Zc a1 a2
end
end Go.AM
namespace Go.AM
open List Nat Bool Option
open Go Go.RowKit
variable {bV:Array Bool}
def EN(bV:Array Bool):Nat:=((List.range bV.size).filter fun i=>!jA bV i).length
theorem filter_lt{α:Type}(p q:α->Bool)(hpq:∀ x,q x=true->p x=true):∀ (l:List α) (x:α),x ∈ l->p x=true->q x=false->(l.filter q).length<(l.filter p).length
 |[],x,h,_,_=>by cases h
 |y :: l,x,h,h1,h2=>by
  have le:∀ l:List α,(l.filter q).length<=(l.filter p).length:=by
   intro l
   induction l with
   |nil=>simp
   |cons z l ih=>
    simp only [filter_cons];by_cases hq:q z=true
    ·rw [if_pos hq,if_pos (hpq z hq)];simp;exact ih
    ·rw [if_neg hq];split
     ·simp;omega
     ·exact ih
  simp only [filter_cons];rcases mem_cons.1 h with rfl|h
  ·rw [if_pos h1,if_neg (by rw [h2];simp)];have:=le l;simp;omega
  ·have ih:=filter_lt p q hpq l x h h1 h2;by_cases hq:q y=true
   ·rw [if_pos hq,if_pos (hpq y hq)];simp;exact ih
   ·rw [if_neg hq];split
    ·simp;omega
    ·exact ih
theorem Uq{i:Nat}(hi:i<bV.size)(h:jA bV i=false):EN (bV.setIfInBounds i true)<EN bV:=by
 unfold EN;rw [Array.size_setIfInBounds];refine filter_lt _ _ (fun x hx=>?_) _ i (by simpa using hi) (by simp [h]) (by rw [Ci hi];simp);rw [Ci hi] at hx;simp only [not_eq_true',or_eq_false_iff] at hx;simp [hx.2]
theorem Rj(h:EN bV=0):∀ i,i<bV.size->jA bV i=true:=by
 intro i hi;unfold EN at h;have:=eq_nil_of_length_eq_zero h;rw [filter_eq_nil_iff] at this;simpa using this i (by simpa using hi)
theorem Ur{ops:Array Oper}(hs:bV.size=ops.size)(he:∀ (i:Nat) (o:Oper),ops[i]?=some o->∀ e ∈ o.after.toList,Region.binds .any e=true->e.on<i)(h:Region.ready .any ops bV = []) :
  ∀ i,i<ops.size->jA bV i=true:=by
 intro i
 induction i using Nat.strongRecOn with
 |ind i ih=>
  intro hi
  cases hl:jA bV i with
  |true=>rfl
  |false=>
   exfalso;have ho:ops[i]?=some ops[i]:=by simp [hi]
   have:i ∈ Region.ready .any ops bV:=by
    refine mem_ready.2 ⟨?_,_,ho,fun e Bi hb=>?_⟩
    ·have:=hl;unfold jA at this;simp only [Array.getD_eq_getD_getElem?] at this ⊢;rw [Array.getElem?_eq_getElem (by omega)] at this ⊢;simpa using this
    ·have:=he i _ ho e (by simpa using Bi) hb;exact ih e.on this (by omega)
   rw [h] at this;cases this
section
variable {C:Y8} {bV:Array Bool} {a:Act} {w:World} {μ:Mu} {dn:List Dn} {R:List (Nat×Oper)} {lg:List Read} {s:St}
theorem qI.done(hp:wM C.ops C.ms C.L)(hi:qI C bV a w μ dn R lg s)(jS:∀ i,i<C.ops.size->jA bV i=true):C.K s=true/\SR C.w0 μ s a w/\Ext C.μb C.hb C.wb μ s.h w:=by
 have hR:R = []:=by
  cases R with
  |nil=>rfl
  |cons p R=>
   have hm:p ∈ C.L:=by rw [hi.split];simp
   have hlt:=(Array.getElem?_eq_some_iff.1 (hp.mem p hm)).1;have:=(hi.fresh hp (r:=p) (by simp)).1;rw [jS _ hlt] at this;cases this
 subst hR;have hrun:=hi.run;simp only [iA] at hrun;refine ⟨hrun,⟨?_,hi.defs,hi.iD⟩,hi.ext⟩
 have:iO C.nW C.n (jA bV) dn=s.env:=by
  rw [hi.Rh];refine uc fun x hx=>?_;have hm:(x.i,x.o) ∈ C.L:=by rw [hi.split];simp;exact ⟨x,hx,rfl,rfl⟩
  exact jS _ (Array.getElem?_eq_some_iff.1 (hp.mem _ hm)).1
 have he:=hi.env;rw [this] at he;rw [hi.KB];exact he
theorem Rk(hp:wM C.ops C.ms C.L)(hc:iS C.P C.call){Q:Exit->Act->World->Prop}(hQ:∀ s' a' w' μ',C.K s'=true->SR C.w0 μ' s' a' w'->Ext C.μb C.hb C.wb μ' s'.h w'->Q .normal a' w') :
  ∀ (fuel:Nat) (bV:Array Bool) (a:Act) (w:World) (μ:Mu) (dn:List Dn) (R:List (Nat×Oper)) (lg:List Read) (s:St),qI C bV a w μ dn R lg s->EN bV<=fuel->wpAny C.P .any C.ops Q fuel bV a w:=by
 have fin:∀ (bV:Array Bool) (a:Act) (w:World) (μ:Mu) (dn:List Dn) (R:List (Nat×Oper)) (lg:List Read) (s:St),qI C bV a w μ dn R lg s->Region.ready .any C.ops bV = []->Q .normal a w:=by
  intro bV a w μ dn R lg s hi hr;obtain ⟨h1,h2,h3⟩:=hi.done hp (Ur hi.size hp.mq hr);exact hQ _ _ _ _ h1 h2 h3
 intro fuel
 induction fuel with
 |zero=>
  intro bV a w μ dn R lg s hi hl;have jS:=Rj (le_zero.1 hl)
  have hr:Region.ready .any C.ops bV = []:=by
   cases h:Region.ready .any C.ops bV with
   |nil=>rfl
   |cons i l=>
    have hm:i ∈ Region.ready .any C.ops bV:=(by rw [h];simp);obtain ⟨h1,o,ho,_⟩:=mem_ready.1 hm;have hlt:=(Array.getElem?_eq_some_iff.1 ho).1;have:=jS i (by rw [hi.size];exact hlt);unfold jA at this;simp only [Array.getD_eq_getD_getElem?] at this h1;rw [Array.getElem?_eq_getElem (by rw [hi.size];exact hlt)] at this h1;simp at this h1;rw [this] at h1;cases h1
  exact ⟨hr,fin _ _ _ _ _ _ _ _ hi hr⟩
 |succ fuel ih=>
  intro bV a w μ dn R lg s hi0 hl;refine ⟨fin _ _ _ _ _ _ _ _ hi0,fun i Bi=>?_⟩;obtain ⟨dn,R,lg,s,hi,acf⟩:=hi0.advance hp;obtain ⟨h1,o,ho,_⟩:=mem_ready.1 Bi;have hlt:i<C.ops.size:=(Array.getElem?_eq_some_iff.1 ho).1;have NW:i<bV.size:=by rw [hi.size];exact hlt
  have hS:jA bV i=false:=by
   unfold jA;simp only [Array.getD_eq_getD_getElem?] at h1 ⊢;rw [Array.getElem?_eq_getElem NW] at h1 ⊢;simpa using h1
  have hr:∀ j,EA C.ms i j=true->jA bV j=true:=fun j hb=>by
   rw [hp.rz] at hb;exact Ul (by rw [<- hp.rz];exact hi.closed) Bi hb
  have G0:EN (bV.setIfInBounds i true)<=fuel:=by have:=Uq NW hS;omega
  obtain ⟨p,hpL,Ze⟩:=hp.cover i hlt;have hpo:=hp.mem p hpL;rw [Ze,ho] at hpo;obtain ⟨pi,po⟩:=p;simp only at Ze hpo;obtain rfl:=Ze;obtain rfl:=Option.some.inj hpo;have hρ:∀ x,VR C.w0 μ (evalArg (iO C.nW C.n (jA bV) dn) x) (a.eval x):=SR.eval (s:=⟨iO C.nW C.n (jA bV) dn,C.n,s.defs,s.h⟩) ⟨hi.env,hi.defs,hi.iD⟩;have Wz:∀ b,kZ C.ops.toList o (iO C.nW C.n (jA bV) dn)=some b->Region.wanted o (yielded C.ops a.tmps)=b:=fun b hb=>oK (s:=⟨iO C.nW C.n (jA bV) dn,C.n,s.defs,s.h⟩) hi.env hb;unfold wpOp;simp only [ho];rw [hi.split,mem_append,mem_map] at hpL;rcases hpL with ⟨d,hd,Rl⟩|hpR
  ·
   rw [mem_reverse] at hd;simp only [Prod.mk.injEq] at Rl;obtain ⟨rfl,rfl⟩:=Rl;have ye:=hi.agree hp hd hS hr;have WA:∀ x ∈ d.o.op.operands,evalArg (iO C.nW C.n (jA bV) dn) x=evalArg d.env x:=NV ye;obtain ⟨wb,q1,q2,q3⟩:=(hi.Zb d hd hS).ex;rw [<- Cn ye] at q1;rw [Wz wb q1]
   cases wb with
   |false=>
    simp only [false_eq_true,if_false];have Ae:=hi.ran hp hd hS NW hr (Mu.le.refl μ) (vc:=undef) (by rw [q2 rfl];exact VR.bz) hi.iD hi.ext (fun _ _ _ _ _ h=>h);exact ih _ _ _ _ _ _ _ _ Ae G0
   |true=>
    rw [if_pos rfl];refine .inl ?_;rcases q3 rfl with ⟨k1,k2⟩|⟨k1,k2,k3⟩|⟨k1,k2,k,ob,k3,k4,k5,k6⟩
    ·rw [<- EJ WA] at k2;obtain ⟨vc,e1,e2⟩:=NJ hρ k1 k2;unfold Oper.wp;rw [e1 w,Oper.upon_value];exact ih _ _ _ _ _ _ _ _ (hi.ran hp hd hS NW hr (Mu.le.refl μ) e2 hi.iD hi.ext (fun _ _ _ _ _ h=>h)) G0
    ·rw [<- EK WA] at k2;obtain ⟨vc,e1,e2⟩:=NL hi.iD hρ k1 k2;unfold Oper.wp;rw [e1,Oper.upon_value];exact ih _ _ _ _ _ _ _ _ (hi.ran hp hd hS NW hr (Mu.le.refl μ) e2 hi.iD hi.ext (fun _ _ _ _ _ h=>h)) G0
    ·rw [<- Ch WA] at k3;obtain ⟨O,n,f,hm⟩:=Kw (w0:=C.w0) (μ:=μ) hρ k1 k3;have hb:=hi.Ri d hd k2;have S4:=hi.iD.Wd hb.2 k6 k5 O n (hm.obj _);have gl:=hi.ext.Wd (n:=n) hb.1 k6 O;unfold Oper.wp;rw [hm.run w,Oper.upon_value];refine ih _ _ _ _ _ _ _ _ (hi.ran hp hd hS NW hr (Mu.Dg k6) (by rw [k4];exact hm.val _ _ _ (Mu.add_same _ _ _)) S4 gl (fun d' wN _ hne hal Zf kk hk=>?_)) G0;rw [Mu.mo] at hk;have:d'.b≠d.b:=hi.sep d' wN d hd hne hal k2;rw [if_neg this] at hk;exact Zf kk hk
  ·
   have hRp:∃ rest,R=(pi,o) :: rest:=by
    cases R with
    |nil=>cases hpR
    |cons q rest=>
     rcases mem_cons.1 hpR with e|hq
     ·exact ⟨rest,by rw [e]⟩
     ·exfalso;have rV:=(hi.ya hp).2.1;rw [pairwise_cons] at rV;have hb:=(rV.1 _ hq).Qh (acf q rest rfl);have h2:=hr _ hb;have:=(hi.fresh hp (r:=q) (by simp)).1;rw [h2] at this;cases this
   obtain ⟨rest,rfl⟩:=hRp;have ads:=acf _ _ rfl
   have hk:gZ o.op = .Qh:=by
    unfold wJ at ads;simp only at ads;cases hk:gZ o.op<;>simp [hk] at ads;rfl
   have ye:=hi.Up hp hr;have WA:∀ x ∈ o.op.operands,evalArg (iO C.nW C.n (jA bV) dn) x=evalArg s.env x:=NV (ops:=C.ops.toList) ye;obtain ⟨aqI,ns,acg,hs0⟩:=s;have hrun:=hi.run;simp only [iA] at hrun;rw [<- Cn (ops:=C.ops.toList) ye] at hrun;split at hrun
   ·rename_i hw;rw [Wz _ hw,if_pos rfl];simp only [hk] at hrun;rw [<- Md WA] at hrun;refine .inl ?_;have se:SR C.w0 μ ⟨iO C.nW C.n (jA bV) dn,C.n,acg,hs0⟩ a w:=⟨hi.env,hi.defs,hi.iD⟩
    refine Gt se hc ⟨fun v mV h' a' w' μ' hK iZ hx=>?_,fun v vc h' w' μ' hK _ _ _=>by cases hK⟩ hrun;simp only at hK;split at hK
    ·rename_i hsr;refine ih _ _ _ _ _ _ _ _ (hi.ace hp NW hr (oD hK) iZ hx (fun r r7 hk2 hb hv=>?_)) G0;exact NT hk2 (uD hsr r r7 hb)
    ·cases hK
   ·rename_i hw;rw [Wz _ hw];simp only [false_eq_true,if_false];have se:SR C.w0 μ ⟨iO C.nW C.n (jA bV) dn,C.n,acg,hs0⟩ a w:=⟨hi.env,hi.defs,hi.iD⟩
    have S5:=se.left o.dst (h':=hs0) VR.bz hi.iD (Mu.le.refl μ);exact ih _ _ _ _ _ _ _ _ (hi.ace hp NW hr (v:=bz) (oD hrun) S5 (Ext.refl _ _ _) (fun r _ _ _ hv=>hv)) G0
   ·cases hrun
end
theorem S6{P:Program}{w0 w:World}{μ:Mu}{s:St}{a:Act}(hm:P.follows .mixedOrders=true){call:mU}(hc:iS P call){id:Nat}{ops:Array Oper}{NX:ade}(hp:Nz ops.toList=some NX){K:St->Bool}
  {Q:Exit->Act->World->Prop} (hs:SR w0 μ s a w) (hQ:∀ s' a' w' μ',K s'=true->SR w0 μ' s' a' w'->Ext μ s.h w μ' s'.h w'->Q .normal a' w')
  (h:iA P call ops.toList NX.ms NX.L [] s K=true):(Code.region id ops true).wp P Q a w:=by
 refine wp_region_any hm ?_
 let C:Y8:=⟨P,call,ops,NX.ms,NX.L,K,w0,μ,s.h,w,s.env,s.n⟩
 have sF:wM C.ops C.ms C.L:=Rg hp
 have hin:∀ k,jA (Array.replicate ops.size false) k=false:=fun k=>by
  unfold jA;simp only [Array.getD_eq_getD_getElem?,Array.getElem?_replicate];split<;>rfl
 have hi:qI C (Array.replicate ops.size false) a { w with drawn:=w.drawn+1 } μ [] NX.L [] s:=by
  refine ⟨rfl,h,rfl,rfl,by simp [C],fun i hh=>?_,by simp,fun i j hh=>?_,hs.env,hs.defs,hs.iD.same rfl rfl rfl rfl,?_,by simp,by simp,by simp,by simp⟩
  ·rw [hin] at hh;cases hh
  ·rw [hin] at hh;cases hh
  ·exact ⟨Mu.le.refl μ,fun _ _ _=>rfl,fun _ _ h=>.inl h,dK _,dK _,fun _ _ _=>rfl,fun _ _ h=>.inl h,fun _ _ h=>.inl h⟩
 refine Rk sF hc hQ _ _ _ _ _ _ _ _ _ hi ?_;unfold EN;refine Nat.le_trans (length_filter_le _ _) ?_;simp [C]
end Go.AM