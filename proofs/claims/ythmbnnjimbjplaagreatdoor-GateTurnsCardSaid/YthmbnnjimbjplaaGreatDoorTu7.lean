/- Parts of the proof. Conditions: none. -/
import Derived.Test.YthmbnnjimbjplaaGreatDoorTu6
import Derived.Defers
set_option linter.unusedSimpArgs false
set_option linter.unusedVariables false
namespace Go.AM
open List Nat Bool Option
open Go Go.RowKit
variable {K:R->Bool} {call:fT} {o:Oper} {w':World} {v:AV}
structure Nb (w0:World) (μ:Mu) (d:j6) (D:Deferred):Prop where
 ex:∃ cap args:List Value,D = { target:=.fn (.func d.f) cap.toArray,args:=args.toArray }/\cj w0 μ d.args args/\cj w0 μ d.cap cap
inductive pI (w0:World) (μ:Mu):List j6->List Deferred->Prop where
 |nil:pI w0 μ [] []
 |cons {d:j6} {D:Deferred} {ds:List j6} {Ds:List Deferred} (h:Nb w0 μ d D) (t:pI w0 μ ds Ds):pI w0 μ (d :: ds) (D :: Ds)
def uQ(w0:World)(μ:Mu)(env:Env)(n:Nat)(tmps:Array Value):Prop:=tmps.size=n/\∀ t,VR w0 μ (env t) (tmps.getD t undef)
structure SR (w0:World) (μ:Mu) (s:St) (a:Act) (w:World):Prop where
 env:uQ w0 μ s.env s.n a.tmps
 defs:pI w0 μ s.defs a.defers
 fE:Good w0 μ s.h w
section
variable {P:Program} {w0 w:World} {μ μ':Mu} {h h':Heap} {s:St} {a:Act}
theorem pI.mono(hm:μ.le μ'){ds:List j6}{Ds:List Deferred}(h:pI w0 μ ds Ds):pI w0 μ' ds Ds:=by
 induction h with
 |nil=>exact .nil
 |cons h t ih=>obtain ⟨c,x,e,a,b⟩:=h;exact .cons ⟨c,x,e,a.mono hm,b.mono hm⟩ ih
theorem uQ.mono(hm:μ.le μ'){env:Env}{n:Nat}{tmps:Array Value}(h:uQ w0 μ env n tmps):uQ w0 μ' env n tmps:=⟨h.1,fun t=>(h.2 t).mono hm⟩
theorem kW(env:Env)(d:Nat)(v:AV)(t:Nat):bZ env d v t=if t=d then v else env t:=by
 unfold bZ
 cases h:Nat.beq t d with
 |true=>rw [if_pos (eq_of_beq_eq_true h)]
 |false=>rw [if_neg (ne_of_beq_eq_false h)]
def nP(h:Heap):AV:=.ptr (Heap.next h) 0
def hA(h:Heap)(l:List AV):Heap:=h.alloc (.cells l)
noncomputable def sL(e:Env):List (Nat×AV)->Env
 |[]=>e
 |(k,v) :: l=>sL (bZ e k v) l
noncomputable def fl(k:Nat)(x:AV)(h:Heap)(f:AV->AV->Bool):Bool:=af (sV k x) fun d=>af (au none d h) fun v=>f d v
noncomputable def il(k:Nat)(x i:AV)(h:Heap)(f:AV->AV->Bool):Bool:=af (iZ k x i) fun d=>af (au none d h) fun v=>f d v
noncomputable def lP(k:Nat)(x i:AV)(j:Nat)(h:Heap)(f:AV->AV->AV->Bool):Bool:=af (iZ k x i) fun c=>af (sV j c) fun d=>af (au none d h) fun v=>f c d v
theorem gF{env:Env}{n:Nat}{dst:Option Tmp}{k:Env->Bool}(h:eC env n dst v k=true):k (iq env n dst v)=true:=by
 cases dst with
 |none=>exact h
 |some d=>
  simp only [eC] at h;simp only [iq]
  cases hb:ble (d+1) n with
  |false=>rw [hb] at h;cases h
  |true=>
   rw [hb] at h;have:d<n:=le_of_ble_eq_true hb;rw [if_pos this];exact h
theorem uQ.put{env:Env}{n:Nat}{tmps:Array Value}(h:uQ w0 μ env n tmps)(dst:Option Tmp){vc:Value}(hv:VR w0 μ v vc):uQ w0 μ (iq env n dst v) n (match dst with|some d=>tmps.setIfInBounds d vc|none=>tmps):=by
 cases dst with
 |none=>exact h
 |some d=>
  refine ⟨by simpa using h.1,fun t=>?_⟩;have ht:=h.2 t;simp only [iq];by_cases hd:d<n
  ·rw [if_pos hd];rw [kW];by_cases e:t=d
   ·subst e;rw [if_pos rfl];have:(tmps.setIfInBounds t vc).getD t undef=vc:=by simp [Array.getD,show t<tmps.size by rw [h.1];exact hd]
    rw [this];exact hv
   ·rw [if_neg e]
    have:(tmps.setIfInBounds d vc).getD t undef=tmps.getD t undef:=by
     simp only [Array.getD_eq_getD_getElem?];rw [Array.getElem?_setIfInBounds_ne (fun q=>e q.symm)]
    rw [this];exact ht
  ·rw [if_neg hd];have:(tmps.setIfInBounds d vc)=tmps:=Array.setIfInBounds_eq_of_size_le (h.1▸Nat.le_of_not_lt hd);rw [this];exact ht
theorem Act.Ai(a:Act)(dst:Option Tmp)(v:Value):(a.put dst v).tmps=(match dst with|some d=>a.tmps.setIfInBounds d v|none=>a.tmps):=by cases dst<;>rfl
theorem Act.sn(a:Act)(dst:Option Tmp)(v:Value):(a.put dst v).defers=a.defers:=by cases dst<;>rfl
theorem SR.left(hs:SR w0 μ s a w)(dst:Option Tmp){vc:Value}(hv:VR w0 μ' v vc)(hg:Good w0 μ' h' w')(hm:μ.le μ'):SR w0 μ' (s.I3 h' dst v) (a.put dst vc) w':=
 ⟨by rw [Act.Ai];exact (hs.env.mono hm).put dst hv,by rw [Act.sn];exact hs.defs.mono hm,hg⟩
theorem SR.Le(hs:SR w0 μ s a w)(hg:Good w0 μ' h' w')(hm:μ.le μ'):SR w0 μ' ⟨s.env,s.n,s.defs,h'⟩ a w':=
 ⟨hs.env.mono hm,hs.defs.mono hm,hg⟩
theorem SR.eval(hs:SR w0 μ s a w):∀ x,VR w0 μ (evalArg s.env x) (a.eval x):=by
 intro x
 cases x with
 |tmp t=>exact hs.env.2 t
 |const v=>exact VR.ofConst v
 |global g=>exact .undef _
 |func f=>exact .func f [] [] [] [] rfl rfl (by simp) (by simp)
theorem gJ(hs:uQ w0 μ s.env s.n a.tmps){ops:Array Oper}{b:Bool}(h:eW ops.toList o s.env=some b):Region.wanted o (yielded ops a.tmps)=b:=by
 unfold eW at h;unfold Region.wanted;split at h
 ·rename_i hg;rw [hg];simpa using h
 ·rename_i j want hg;rw [hg];simp only;split at h
  ·rename_i g hj;split at h
   ·rename_i d hd;have DT:ops[j]?=some g:=by rw [Array.getElem?_toList] at hj;exact hj
    have ht:=hs.2 d
    have key:∀ v:Value,VR w0 μ (s.env d) v->v=a.tmps.getD d undef->(yielded ops a.tmps j==some want)=b:=by
     intro v hv he;unfold yielded;simp only [DT,bind_some,hd];split at h
     ·rename_i b' hb;rw [hb] at hv;cases h;rw [hv.eH] at he;by_cases hlt:d<a.tmps.size
      ·have:a.tmps[d]?=some (.bool b'):=by
        simp [Array.getD,hlt] at he;simp [hlt,he]
       rw [this];simp
      ·simp [Array.getD,hlt,undef] at he
     ·rename_i vs hb;rw [hb] at hv;cases h;obtain ⟨us,rfl,_⟩:=hv.xH;by_cases hlt:d<a.tmps.size
      ·have:a.tmps[d]?=some (.tuple us.toArray):=by
        simp [Array.getD,hlt] at he;simp [hlt,he]
       rw [this];simp
      ·have:a.tmps[d]?=none:=Array.getElem?_eq_none (Nat.le_of_not_lt hlt);rw [this];simp
     ·cases h
    exact key _ ht rfl
   ·cases h
  ·cases h
def qU(w0:World)(μ:Mu)(h:Heap)(w:World)(K:Out->Heap->Bool):Ending->World->Prop
 |.returned vc,w'=>∃ v h' μ',K (.ret v) h'=true/\VR w0 μ' v vc/\Good w0 μ' h' w'/\Ext μ h w μ' h' w'
 |.panicked chain,w'=>∃ v vc h' μ',K (.panic v) h'=true/\chain = [{ v:=vc,recovered:=false }]/\VR w0 μ' v vc/\Good w0 μ' h' w'/\Ext μ h w μ' h' w'
 |.outgrown,_=>False
def Enters(P:Program)(f:FuncId):Prop:=∃ fn c,P.funcs[f]?=some fn/\fn.body=some c/\fn.name≠ "runtime.NumGoroutine"
theorem pJ{f:FuncId}(he:Enters P f)(args:Array Value):(callFunc f args).run P w = .ok (.enter f args) w:=by
 obtain ⟨fn,c,h1,h2,h3⟩:=he;simp [callFunc,h1,h2,h3]
def di(P:Program)(call:fT):Prop:=
 ∀ f args h K,call f args h K=true->Enters P f/\∀ (w0:World) (μ:Mu) (w:World) (vs:List Value),Good w0 μ h w->cj w0 μ args vs->Calls P f vs.toArray w (qU w0 μ h w K)
structure xN (w0:World) (μ:Mu) (s:St) (a:Act) (w:World) (dst:Option Tmp) (K:R->Bool) (next:Act->World->Prop) (Q:Exit->Act->World->Prop):Prop where
 ok:∀ (v:AV) (fU:List j6) (h':Heap) (a':Act) (w':World) (μ':Mu),K (.ok v fU h')=true->SR w0 μ' ⟨iq s.env s.n dst v,s.n,fU,h'⟩ a' w'->Ext μ s.h w μ' h' w'->next a' w'
 panic:∀ (v:AV) (vc:Value) (h':Heap) (w':World) (μ':Mu),K (.panic v h')=true->VR w0 μ' v vc->SR w0 μ' ⟨s.env,s.n,s.defs,h'⟩ a w'->Ext μ s.h w μ' h' w'->Q (.panic [{ v:=vc,recovered:=false }]) a w'
theorem uR(hs:SR w0 μ s a w){next:Act->World->Prop}{Q:Exit->Act->World->Prop}(hl:xN w0 μ s a w o.dst K next Q)
  (h:jO o.op P call s.env s.defs s.h K=true):o.wp P a w next Q:=by
 obtain ⟨v,h',vc,w',μ',hK,hr,hv,hg,hx⟩:=Ji hs.fE hs.eval h;unfold Oper.wp;rcases hr with hr|⟨rfl,hr⟩
 ·rw [hr];exact hl.ok _ _ _ _ _ _ hK (hs.left o.dst hv hg hx.mono) hx
 ·rw [hr];exact hl.ok _ _ _ _ _ _ hK (hs.left o.dst hv hg hx.mono) hx
theorem G2(hs:SR w0 μ s a w)(hc:di P call){c:Call}(ho:o.op = .call c){next:Act->World->Prop}{Q:Exit->Act->World->Prop}(hl:xN w0 μ s a w o.dst K next Q)
  (h:nW c P call s.env s.defs s.h K=true):o.wp P a w next Q:=by
 obtain ⟨qP,args,ts⟩:=c
 cases qP with
 |builtin b=>exact uR hs hl (call:=call) (by rw [ho];exact h)
 |invoke r m=>exact uR hs hl (call:=call) (by rw [ho];exact h)
 |value f=>
  simp only [nW,tT] at h;split at h
  ·rename_i g first cap hf
   obtain ⟨he,Jj⟩:=hc _ _ _ _ h;have hfv:=hs.eval f;rw [hf] at hfv;generalize Nc:a.eval f=fv at hfv;cases hfv;rename_i us vs h1 r1 h2 r2;have sq:cj w0 μ (args.toList.map (evalArg s.env)) (args.toList.map a.eval):=cj.map _ fun x _=>hs.eval x;have kV:=(cj.mk h1 r1).append (sq.append (cj.mk h2 r2));have hcl:=Jj w0 μ w _ hs.fE kV
   have hrun:(execOp a.eval o).run P w = .ok (.enter g (us++(args.toList.map a.eval++vs)).toArray) w:=by
    have e:us.toArray++args.map a.eval++vs.toArray=(us++(args.toList.map a.eval++vs)).toArray:=by
     apply Array.ext';simp
    simp only [execOp,ho,resolve,Nc,Deferred.ofValue,Sem.run_bind,Sem.run_pure,Result.andThen_ok,invoke,pJ he,e]
   unfold Oper.wp;rw [hrun,Oper.upon_enter];refine Calls.mono hcl fun e w' hR=>?_
   cases e with
   |returned vc=>
    obtain ⟨v,h',μ',hK,hv,hg,hx⟩:=hR;exact hl.ok _ _ _ _ _ _ hK (hs.left o.dst hv hg hx.mono) hx
   |panicked chain=>
    obtain ⟨v,vc,h',μ',hK,rfl,hv,hg,hx⟩:=hR;exact hl.panic _ _ _ _ _ hK hv (hs.Le hg hx.mono) hx
   |outgrown=>exact hR.elim
  ·cases h
theorem Fm(hs:SR w0 μ s a w){c:Call}(ho:o.op = .defer c){next:Act->World->Prop}{Q:Exit->Act->World->Prop}(hl:xN w0 μ s a w o.dst K next Q)
  (h:oZ c P call s.env s.defs s.h K=true):o.wp P a w next Q:=by
 obtain ⟨qP,args,ts⟩:=c
 cases qP with
 |builtin b=>cases h
 |invoke r m=>cases h
 |value f=>
  simp only [oZ] at h;split at h
  ·rename_i g first cap hf
   have hfv:=hs.eval f;rw [hf] at hfv;generalize Nc:a.eval f=fv at hfv;cases hfv;rename_i us vs h1 r1 h2 r2;have sq:cj w0 μ (args.toList.map (evalArg s.env)) (args.toList.map a.eval):=cj.map _ fun x _=>hs.eval x;have kV:=(cj.mk h1 r1).append sq
   have hrun:(execOp a.eval o).run P w = .ok (.defer { target:=.fn (.func g) vs.toArray,args:=(us++args.toList.map a.eval).toArray }) w:=by
    have e:us.toArray++args.map a.eval=(us++args.toList.map a.eval).toArray:=by
     apply Array.ext';simp
    simp only [execOp,ho,resolve,Nc,Deferred.ofValue,Sem.run_bind,Sem.run_pure,Result.andThen_ok,e]
   unfold Oper.wp;rw [hrun,Oper.upon_defer]
   have ei:SR w0 μ (St.mk s.env s.n (⟨g,first++args.toList.map (evalArg s.env),cap⟩ :: s.defs) s.h) { a with defers:={ target:=.fn (.func g) vs.toArray,args:=(us++args.toList.map a.eval).toArray } :: a.defers } w:=
    ⟨hs.env,.cons ⟨vs,_,rfl,kV,⟨h2,r2⟩⟩ hs.defs,hs.fE⟩
   exact hl.ok _ _ _ _ _ _ h (ei.left o.dst VR.aZ hs.fE (Mu.le.refl μ)) (Ext.refl _ _ _)
  ·cases h
theorem Fo(hs:SR w0 μ s a w){x:Operand}(ho:o.op = .panic x){next:Act->World->Prop}{Q:Exit->Act->World->Prop}(hl:xN w0 μ s a w o.dst K next Q)
  (h:o8 x P call s.env s.defs s.h K=true):o.wp P a w next Q:=by
 simp only [o8] at h;split at h
 ·rename_i t v hx;have hv:=hs.eval x;rw [hx] at hv;generalize he:a.eval x=xv at hv;cases hv;rename_i vc hvc
  have hrun:(execOp a.eval o).run P w = .halt (.panic (.iface t vc)) w:=by
   simp [execOp,ho,he,Instr.panic]
  unfold Oper.wp;rw [hrun,Oper.upon_panic];exact hl.panic _ _ _ _ _ h (.iface t v vc hvc) hs (Ext.refl _ _ _)
 ·cases h
theorem sr{defs:List j6}{K:R->Bool}:∀ {L:List (AV×Heap)},jg defs K L=true->∀ p ∈ L,K (.ok p.1 defs p.2)=true
 |[],_,p,hp=>by cases hp
 |q :: L,h,p,hp=>by
  simp only [jg,and_eq_true] at h;rcases mem_cons.1 hp with rfl|hp
  ·exact h.1
  ·exact sr h.2 p hp
theorem G3(hs:SR w0 μ s a w){x:Operand}{b:Bool}(ho:o.op = .next x b){next:Act->World->Prop}{Q:Exit->Act->World->Prop}(hl:xN w0 μ s a w o.dst K next Q)
  (h:yJ x b P call s.env s.defs s.h K=true):o.wp P a w next Q:=by
 obtain ⟨L,hL,hh⟩:=cZ h;obtain ⟨p,vc,w',μ',hp,hr,hv,hg,hx⟩:=Fi (P:=P) hs.fE (hs.eval x) hL o.type;have hrun:(execOp a.eval o).run P w = .ok (.value vc) w':=by simp [execOp,ho,hr]
 unfold Oper.wp;rw [hrun];exact hl.ok _ _ _ _ _ _ (sr hh p hp) (hs.left o.dst hv hg hx.mono) hx
theorem uc(hs:SR w0 μ s a w)(hc:di P call){next:Act->World->Prop}{Q:Exit->Act->World->Prop}(hl:xN w0 μ s a w o.dst K next Q)
  (h:fm o.op P call s.env s.defs s.h K=true):o.wp P a w next Q:=by
 cases ho:o.op<;>rw [ho] at h<;>simp only [fm] at h
 case call c=>exact G2 hs hc ho hl h
 case defer c=>exact Fm hs ho hl h
 case panic x=>exact Fo hs ho hl h
 case next x b=>exact G3 hs ho hl h
 all_goals exact uR hs hl (call:=call) (by rw [ho];exact h)
structure qV (w0:World) (μ:Mu) (h:Heap) (w:World) (K:RS->Bool) (Q:Exit->Act->World->Prop):Prop where
 ok:∀ (s':St) (a':Act) (w':World) (μ':Mu),K (.ok s')=true->SR w0 μ' s' a' w'->Ext μ h w μ' s'.h w'->Q .normal a' w'
 panic:∀ (v:AV) (vc:Value) (s':St) (a':Act) (w':World) (μ':Mu),K (.panic v s')=true->VR w0 μ' v vc->SR w0 μ' s' a' w'->Ext μ h w μ' s'.h w'->Q (.panic [{ v:=vc,recovered:=false }]) a' w'
theorem qV.after{K:RS->Bool}{Q:Exit->Act->World->Prop}(hl:qV w0 μ h w K Q)(hx:Ext μ h w μ' h' w'):qV w0 μ' h' w' K Q:=
 ⟨fun s2 a2 w2 μ2 k2 r2 x2=>hl.ok s2 a2 w2 μ2 k2 r2 (hx.trans x2),fun v vc s2 a2 w2 μ2 k2 v2 r2 x2=>hl.panic v vc s2 a2 w2 μ2 k2 v2 r2 (hx.trans x2)⟩
theorem B4{call:fT}(hc:di P call){ops:Array Oper}{K:RS->Bool}{Q:Exit->Act->World->Prop}:∀ (l:List Oper) (i:Nat) (s:St) (a:Act) (w:World) (μ:Mu),(∀ j o,l[j]?=some o->ops[i+j]?=some o) ->
  SR w0 μ s a w->(hl:qV w0 μ s.h w K Q)->iO P call ops.toList l s K=true->wpOps P ops Q (range' i l.length) a w
 |[],i,s,a,w,μ,hi,hs,hl,h=>by
  simp only [length_nil,range'_zero,wpOps];exact hl.ok _ _ _ _ h hs (Ext.refl _ _ _)
 |o :: rest,i,s,a,w,μ,hi,hs,hl,h=>by
  have Lf:ops[i]?=some o:=by simpa using hi 0 o rfl
  obtain ⟨env,n,defs,hp⟩:=s;simp only [length_cons,range'_succ,wpOps,Lf];simp only [iO] at h
  have sW:∀ j o',rest[j]?=some o'->ops[i+1+j]?=some o':=fun j o' hj=>by
   have:=hi (j+1) o' (by simpa using hj)
   rwa [show i+1+j=i+(j+1) by omega]
  split at h
  ·rename_i hw;rw [gJ hs.env hw,if_pos rfl];refine .inl (uc hs hc ⟨fun v fU h' a' w' μ' hK ei hx=>?_,fun v vc h' w' μ' hK hv ei hx=>?_⟩ h)
   ·exact B4 hc rest (i+1) _ a' w' μ' sW ei (hl.after hx) (gF hK)
   ·exact hl.panic v vc _ a w' μ' hK hv ei hx
  ·rename_i hw;rw [gJ hs.env hw];simp only [false_eq_true,if_false];have ei:=hs.left o.dst (h':=hp) VR.aZ hs.fE (Mu.le.refl μ);exact B4 hc rest (i+1) ⟨iq env n o.dst aZ,n,defs,hp⟩ _ w μ sW ei hl (gF h)
  ·cases h
end
end Go.AM
namespace Go.AM
open List Nat Bool Option
open Go Go.RowKit
variable {op:Op}
section
variable {P:Program} {ρ ρ':Operand->AV}
theorem jz{c:Call}(h:∀ x ∈ c.operands,ρ x = ρ' x):c.args.toList.map ρ=c.args.toList.map ρ':=
 map_congr_left fun x hx=>h x (by simp [Call.operands];exact .inr (by simpa using hx))
theorem su{ps:Array (Nat×Operand)}(h:∀ x ∈ (ps.toList.map (·.2)).toArray,ρ x = ρ' x):(ps.toList.map fun p=>ρ p.2)=ps.toList.map fun p=>ρ' p.2:=
 map_congr_left fun p hp=>h p.2 (by simp;exact ⟨p.1,by simpa using hp⟩)
theorem xO{o:Option Operand}(h:∀ x ∈ o.toArray,ρ x = ρ' x):o.map ρ=o.map ρ':=by
 cases o with
 |none=>rfl
 |some x=>simp [h x (by simp)]
theorem sw(h:∀ x ∈ op.operands,ρ x = ρ' x):iu P ρ op=iu P ρ' op:=by
 cases op<;>simp only [Op.operands] at h<;>simp only [iu]
 case build t ps=>rw [su h]
 case makeFunc fn first cap=>
  have h1:first.toList.map ρ=first.toList.map ρ':=map_congr_left fun x hx=>h x (by simp;exact .inl (by simpa using hx))
  have h2:cap.toList.map ρ=cap.toList.map ρ':=map_congr_left fun x hx=>h x (by simp;exact .inr (by simpa using hx));rw [h1,h2]
 case slice t x lo hi mx=>
  have h0:ρ x = ρ' x:=h x (by simp);have h1:lo.map ρ=lo.map ρ':=xO fun y hy=>h y (by simp only [Array.mem_append];exact .inl (.inl (.inr hy)));have h2:hi.map ρ=hi.map ρ':=xO fun y hy=>h y (by simp only [Array.mem_append];exact .inl (.inr hy));rw [h0,h1,h2]
 case call c=>simp only [jz h]
 all_goals (first|rfl|(simp_all;done))
theorem sx(h:∀ x ∈ op.operands,ρ x = ρ' x)(hp:Heap):g6 P ρ hp op=g6 P ρ' hp op:=by
 cases op<;>simp only [Op.operands] at h<;>simp only [g6]
 case call c=>simp only [jz h]
 all_goals (first|rfl|(simp_all;done))
theorem pL(h:∀ x ∈ op.operands,ρ x = ρ' x):jw P ρ op=jw P ρ' op:=by
 cases op<;>simp only [Op.operands] at h<;>simp only [jw]
 case buildSlice t n ps=>rw [su h]
 all_goals (first|rfl|(simp_all;done))
theorem oh(h:∀ x ∈ op.operands,ρ x = ρ' x)(hp:Heap)(K:AV->Heap->Bool):dY op P ρ hp K=dY op P ρ' hp K:=by
 cases hk:cP op with
 |pure=>rw [m6 hk,m6 hk,sw h]
 |read=>rw [ku hk,ku hk,sx h]
 |alloc=>rw [kT hk,kT hk,pL h]
 |Bw=>
  cases op<;>simp only [cP,reduceCtorEq] at hk<;>simp only [Op.operands] at h<;>simp only [dY]
  case call c=>simp only [l6,jz h]
  all_goals (first|rfl|(simp_all;done))
theorem yV{env cu:Env}(h:∀ x ∈ op.operands,evalArg env x=evalArg cu x)(call:fT)(defs:List j6)(hp:Heap)(K:R->Bool) :
  fm op P call env defs hp K=fm op P call cu defs hp K:=by
 cases op<;>simp only [fm]
 case call c=>
  obtain ⟨qP,args,ts⟩:=c
  cases qP with
  |value f=>
   simp only [nW,tT];have h1:=jz (c:=⟨.value f,args,ts⟩) h;have h2:evalArg env f=evalArg cu f:=h f (by simp [Op.operands,Call.operands]);simp only at h1;rw [h2,h1]
  |invoke r m=>simp only [nW,jO];rw [oh h]
  |builtin b=>simp only [nW,jO];rw [oh h]
 case defer c=>
  obtain ⟨qP,args,ts⟩:=c
  cases qP with
  |value f=>
   simp only [oZ];have h1:=jz (c:=⟨.value f,args,ts⟩) h;have h2:evalArg env f=evalArg cu f:=h f (by simp [Op.operands,Call.operands]);simp only at h1;rw [h2,h1]
  |invoke r m=>rfl
  |builtin b=>rfl
 case panic x=>simp only [o8,h x (by simp [Op.operands])]
 case next x b=>simp only [yJ,h x (by simp [Op.operands])]
 all_goals (simp only [jO];rw [oh h])
theorem Aj{hp:Heap}(hc:∀ b,hp.next<=b->hp.get b=none)(o:gh){v:AV}(h:g6 P ρ hp op=some v):g6 P ρ (hp.alloc o) op=some v:=by
 have key:∀ b o',hp.get b=some o'->(hp.alloc o).get b=some o':=fun b o' hb=>by
  rw [Heap.aD,if_neg (fun e=>by rw [e,hc _ (dR _)] at hb;cases hb)];exact hb
 cases op<;>simp only [g6,reduceCtorEq] at h ⊢
 case load t a=>
  obtain ⟨i,h1,h2⟩:=bind_eq_some_iff.1 h;refine bind_eq_some_iff.2 ⟨i,h1,?_⟩;unfold au at h2 ⊢;split at h2
  ·rename_i b off hx;split at h2
   ·rename_i cs hb;simp only [key _ _ hb];exact h2
   ·cases h2
  ·rename_i hx;exact h2
  ·cases h2
 case lookup t x i ok=>
  obtain ⟨d,h1,h2⟩:=bind_eq_some_iff.1 h;refine bind_eq_some_iff.2 ⟨d,h1,?_⟩;unfold dy at h2 ⊢
  have he:∀ es,iT (ρ x) hp=some es->iT (ρ x) (hp.alloc o)=some es:=by
   intro es he;unfold iT at he ⊢;split at he
   ·rename_i hx;exact he
   ·rename_i b hx;split at he
    ·rename_i kS ck hb;simp only [key _ _ hb];exact he
    ·cases he
   ·cases he
  split at h2
  ·cases h2
  ·rename_i es Iu;rw [he es Iu];exact h2
 case call c=>
  split at h
  ·split at h
   ·rename_i t l x e1 e2;obtain ⟨i,h1,h2⟩:=bind_eq_some_iff.1 h;refine bind_eq_some_iff.2 ⟨i,h1,?_⟩;unfold bB at h2 ⊢;split at h2<;>first|exact h2|skip
    ·split at h2
     ·rename_i b _ es ck hb;simp only [key _ _ hb];exact h2
     ·cases h2
   ·cases h
  ·cases h
mutual
theorem AV.beq_eq:∀ (x y:AV),AV.beq x y=true->x=y
 |.undef,y,h=>by cases y<;>simp_all [AV.beq]
 |.bool a,y,h=>by cases y<;>simp_all [AV.beq]
 |.int k a,y,h=>by cases y<;>simp_all [AV.beq]
 |.str a,y,h=>by cases y<;>simp_all [AV.beq]
 |.jt,y,h=>by cases y<;>simp_all [AV.beq]
 |.ptr a i,y,h=>by cases y<;>simp_all [AV.beq]
 |.cS a i,y,h=>by
  cases y<;>simp only [AV.beq,false_eq_true,and_eq_true,beq_iff_eq] at h;rw [AV.ji _ _ h.1,h.2]
 |.aE,y,h=>by cases y<;>simp_all [AV.beq]
 |.slice b i l s,y,h=>by cases y<;>simp_all [AV.beq]
 |.aL a i l s,y,h=>by
  cases y<;>simp only [AV.beq,false_eq_true,and_eq_true,beq_iff_eq] at h;rw [AV.ji _ _ h.1.1.1,h.1.1.2,h.1.2,h.2]
 |.dI,y,h=>by cases y<;>simp_all [AV.beq]
 |.map a,y,h=>by cases y<;>simp_all [AV.beq]
 |.j0,y,h=>by cases y<;>simp_all [AV.beq]
 |.func f a b,y,h=>by
  cases y<;>simp only [AV.beq,false_eq_true,and_eq_true,beq_iff_eq] at h;rw [h.1.1,AV.ji _ _ h.1.2,AV.ji _ _ h.2]
 |.j3,y,h=>by cases y<;>simp_all [AV.beq]
 |.iface t v,y,h=>by
  cases y<;>simp only [AV.beq,false_eq_true,and_eq_true,beq_iff_eq] at h;rw [h.1,AV.beq_eq _ _ h.2]
 |.agg a,y,h=>by
  cases y<;>simp only [AV.beq,false_eq_true] at h;rw [AV.ji _ _ h]
 |.tuple a,y,h=>by
  cases y<;>simp only [AV.beq,false_eq_true] at h;rw [AV.ji _ _ h]
theorem AV.ji:∀ (xs ys:List AV),AV.oX xs ys=true->xs=ys
 |[],ys,h=>by cases ys<;>simp_all [AV.oX]
 |x :: xs,ys,h=>by
  cases ys<;>simp only [AV.oX,false_eq_true,and_eq_true] at h;rw [AV.beq_eq _ _ h.1,AV.ji _ _ h.2]
end
theorem Ak{env:Env}{v:AV}{hp:Heap}(hk:cP op = .read)(h:sameAt P op env v hp=true):g6 P (evalArg env) hp op=some v:=by
 unfold sameAt at h;rw [ku hk] at h;obtain ⟨v',h1,h2⟩:=cZ h;rw [h1,AV.beq_eq _ _ h2]
end
end Go.AM
namespace Go.AM
open List Nat Bool Option
open Go Go.RowKit
variable {ops:List Oper}
theorem mu(acc:List Nat)(j:Nat):∀ (es:List Edge),(ja acc es).testBit j=true->∃ e ∈ es,Region.binds .any e=true/\(j=e.on\/(acc.getD e.on 0).testBit j=true)
 |[],h=>by simp [ja] at h
 |e :: es,h=>by
  simp only [ja] at h;split at h
  ·rename_i hb;simp only [testBit_or,or_eq_true,testBit_two_pow,decide_eq_true_eq] at h;rcases h with (h|h)|h
   ·exact ⟨e,by simp,hb,.inl h.symm⟩
   ·exact ⟨e,by simp,hb,.inr h⟩
   ·obtain ⟨e',h1,h2⟩:=mu acc j es h;exact ⟨e',by simp [h1],h2⟩
  ·obtain ⟨e',h1,h2⟩:=mu acc j es h;exact ⟨e',by simp [h1],h2⟩
theorem nK:∀ (os:List Oper) (acc:List Nat),∃ r,jb os acc=acc++r
 |[],acc=>⟨[],by simp [jb]⟩
 |o :: os,acc=>by
  obtain ⟨r,h⟩:=nK os (acc++[ja acc o.after.toList]);exact ⟨ja acc o.after.toList :: r,by simp [jb,h]⟩
theorem uS:∀ (os:List Oper) (acc:List Nat) (k:Nat) (o:Oper),os[k]?=some o->(jb os acc)[acc.length+k]?=some (ja ((jb os acc).take (acc.length+k)) o.after.toList)
 |[],acc,k,o,h=>by simp at h
 |o' :: os,acc,k,o,h=>by
  simp only [jb]
  cases k with
  |zero=>
   simp at h;subst h;obtain ⟨r,hr⟩:=nK os (acc++[ja acc o'.after.toList]);rw [hr];simp
  |succ k=>
   have:=uS os (acc++[ja acc o'.after.toList]) k o (by simpa using h);rw [length_append,length_singleton] at this;rw [show acc.length+(k+1)=acc.length+1+k by omega];exact this
theorem nL:∀ (os:List Oper) (acc:List Nat),(jb os acc).length=acc.length+os.length
 |[],acc=>by simp [jb]
 |o :: os,acc=>by simp only [jb,nL os];simp;omega
theorem Fp{i j:Nat}(h:tU (iU ops) i j=true):∃ o,ops[i]?=some o/\∃ e ∈ o.after.toList,Region.binds .any e=true/\(j=e.on\/tU (iU ops) e.on j=true):=by
 unfold tU at h;by_cases hi:i<ops.length
 ·have ho:ops[i]?=some ops[i]:=fc hi;have hm:=uS ops [] i _ ho;simp only [length_nil,Nat.zero_add] at hm
  have hg:(iU ops).getD i 0=ja ((iU ops).take i) ops[i].after.toList:=by
   rw [getD_eq_getElem?_getD];show ((jb ops [])[i]?).getD 0=_;rw [hm];rfl
  rw [hg] at h;obtain ⟨e,h1,h2,h3⟩:=mu _ _ _ h;refine ⟨_,ho,e,h1,h2,?_⟩;rcases h3 with h3|h3
  ·exact .inl h3
  ·refine .inr ?_;unfold tU;rw [getD_eq_getElem?_getD,getElem?_take] at h3;split at h3
   ·rw [getD_eq_getElem?_getD];exact h3
   ·simp at h3
 ·have:(iU ops).getD i 0=0:=by
   rw [getD_eq_getElem?_getD,getElem?_eq_none (by unfold iU;rw [nL];simp;omega)];rfl
  rw [this] at h;simp at h
def Fq(ms:List Nat)(S:Nat->Bool):Prop:=∀ i j,S i=true->tU ms i j=true->S j=true
def dZ(listed:Array Bool)(k:Nat):Bool:=listed.getD k false
theorem DU{ops:Array Oper}{listed:Array Bool}{i j:Nat}(hc:Fq (iU ops.toList) (dZ listed))(hr:i ∈ Region.ready .any ops listed)(hb:tU (iU ops.toList) i j=true):dZ listed j=true:=by
 obtain ⟨_,o,ho,he⟩:=mem_ready.1 hr;obtain ⟨o',kN,e,h1,h2,h3⟩:=Fp hb;rw [Array.getElem?_toList,ho] at kN;cases kN;have:=he e (by simpa using h1) h2;rcases h3 with rfl|h3
 ·exact this
 ·exact hc _ _ this h3
theorem pM{listed:Array Bool}{i:Nat}(hi:i<listed.size)(k:Nat):dZ (listed.setIfInBounds i true) k=(decide (k=i)||dZ listed k):=by
 unfold dZ;by_cases e:k=i
 ·subst e;simp [Array.getD,hi]
 ·simp [e,getD_set_ne false (fun q=>e q.symm)]
structure Dn where
 i:Nat
 o:Oper
 v:AV
 env:Env
 b:Nat
 al:Bool
noncomputable def de(gA:Env)(n:Nat)(S:Nat->Bool):List Dn->Env
 |[]=>gA
 |d :: ds=>if S d.i then iq (de gA n S ds) n d.o.dst d.v else de gA n S ds
theorem yW{env:Env}{n:Nat}{dst:Option Tmp}{v:AV}{t:Nat}(h:dst≠some t):iq env n dst v t=env t:=by
 cases dst with
 |none=>rfl
 |some d=>
  have:t≠d:=fun e=>h (by rw [e]);simp only [iq];split
  ·simp [kW,this]
  ·rfl
theorem DV{env:Env}{n:Nat}{x y:Option Tmp}{u v:AV}(h:∀ t,x=some t->y≠some t):iq (iq env n x u) n y v=iq (iq env n y v) n x u:=by
 cases x with
 |none=>rfl
 |some d=>cases y with
  |none=>rfl
  |some e=>
   have hne:d≠e:=fun q=>h d rfl (by rw [q]);simp only [iq];split<;>split<;>try rfl
   funext t;simp only [kW];split<;>split<;>try rfl
   rename_i h1 h2;exact absurd (h2▸h1) (by simpa using hne)
section
variable {gA:Env} {n:Nat} {S S':Nat->Bool}
theorem uT{t:Nat}:∀ {pre ds:List Dn},(∀ x ∈ pre,S x.i=true->x.o.dst≠some t)->de gA n S (pre++ds) t=de gA n S ds t
 |[],ds,h=>rfl
 |x :: pre,ds,h=>by
  simp only [cons_append,de];have ih:=uT (pre:=pre) (ds:=ds) (fun y hy=>h y (by simp [hy]));split
  ·rename_i hx;rw [yW (h x (by simp) hx),ih]
  ·exact ih
theorem jQ:∀ {ds:List Dn},(∀ x ∈ ds,S x.i=S' x.i)->de gA n S ds=de gA n S' ds
 |[],h=>rfl
 |x :: ds,h=>by
  simp only [de];rw [h x (by simp),jQ (ds:=ds) (fun y hy=>h y (by simp [hy]))]
theorem om{t:Nat}:∀ {ds:List Dn},(∀ x ∈ ds,x.o.dst=some t->S x.i=true)->de gA n S ds t=de gA n (fun _=>true) ds t
 |[],h=>rfl
 |x :: ds,h=>by
  have ih:=om (ds:=ds) (fun y hy=>h y (by simp [hy]));simp only [de,if_true];by_cases hd:x.o.dst=some t
  ·rw [if_pos (h x (by simp) hd),hd];simp only [iq];split
   ·simp [kW]
   ·exact ih
  ·rw [yW hd];split
   ·rw [yW hd];exact ih
   ·exact ih
theorem xP{d:Dn}(hS:S d.i=false)(Mw:∀ k,S' k=(decide (k=d.i)||S k)):∀ {pre ds:List Dn},(∀ x ∈ pre,x.i≠d.i)->(∀ x ∈ ds,x.i≠d.i)->(∀ x ∈ pre,∀ t,d.o.dst=some t->x.o.dst≠some t) ->
  de gA n S' (pre++d :: ds)=iq (de gA n S (pre++d :: ds)) n d.o.dst d.v
 |[],ds,h1,h2,h3=>by
  simp only [nil_append,de];rw [if_pos (by rw [Mw];simp),if_neg (by rw [hS];simp),jQ (S:=S') (S':=S) (fun x hx=>by rw [Mw];simp [h2 x hx])]
 |x :: pre,ds,h1,h2,h3=>by
  have ih:=xP hS Mw (pre:=pre) (ds:=ds) (fun y hy=>h1 y (by simp [hy])) h2 (fun y hy=>h3 y (by simp [hy]));simp only [cons_append,de];have hx:S' x.i=S x.i:=by rw [Mw];simp [h1 x (by simp)]
  rw [hx];split
  ·rw [ih,DV (h3 x (by simp))]
  ·exact ih
end
structure DW (ops:List Oper) (ms:List Nat) (a b:Nat×Oper):Prop where
 ne:a.1≠b.1
 nb:tU ms a.1 b.1=false
 Bw:lK a.2=true->tU ms b.1 a.1=true
 dd:∀ d,a.2.dst=some d->b.2.dst≠some d
 lb:∀ d,a.2.dst=some d->d ∈ j7 ops b.2->tU ms b.1 a.1=true
 la:∀ d,b.2.dst=some d->d ∈ j7 ops a.2->tU ms b.1 a.1=true
theorem Al{ms:List Nat}{a b:Nat×Oper}(h:BN ops ms a b=true):DW ops ms a b:=by
 unfold BN at h;simp only [and_eq_true,bne_iff_ne,ne_eq,not_eq_true',or_eq_true] at h;obtain ⟨h1,h2,h3,h4,h5⟩:=h;refine ⟨h1,h2,fun he=>h3.resolve_left (by simp [he]),fun d hd e=>?_,fun d hd hl=>?_,fun d hd hl=>?_⟩
 ·rw [hd,e] at h4;simp at h4
 ·rw [hd] at h4;simp only [and_eq_true,or_eq_true,not_eq_true'] at h4;exact h4.2.resolve_left (by simp [hl])
 ·rw [hd] at h5;simp only [or_eq_true,not_eq_true'] at h5;exact h5.resolve_left (by simp [hl])
theorem pN{ops:List Oper}{ms:List Nat}:∀ {L:List (Nat×Oper)},tW ops ms L=true->L.Pairwise (DW ops ms)
 |[],h=>.nil
 |p :: ps,h=>by
  simp only [tW,and_eq_true,List.all_eq_true] at h;exact .cons (fun b hb=>Al (h.1 b hb)) (pN h.2)
theorem pO{L:List (Nat×Oper)}:∀ {n:Nat},tX L n=true->∀ i,i<n->∃ p ∈ L,p.1=i
 |0,h,i,hi=>by omega
 |n+1,h,i,hi=>by
  simp only [tX,and_eq_true,List.any_eq_true,beq_iff_eq] at h;by_cases e:i=n
  ·subst e;exact h.1
  ·exact pO h.2 i (by omega)
theorem pP:∀ (os:List Oper) (k:Nat) (p:Nat×Oper),p ∈ mW os k->k<=p.1/\os[p.1-k]?=some p.2
 |[],k,p,h=>by cases h
 |o :: os,k,p,h=>by
  simp only [mW,mem_cons] at h;rcases h with rfl|h
  ·simp
  ·obtain ⟨h1,h2⟩:=pP os (k+1) p h;refine ⟨by omega,?_⟩;rw [show p.1-k=(p.1-(k+1))+1 by omega];simpa using h2
theorem sy{ms wH:List Nat}{L:List (Nat×Oper)}:∀ (n k:Nat) (p:Nat×Oper),p ∈ tV ms wH L n k->p ∈ L
 |0,k,p,h=>(mem_filter.1 h).1
 |n+1,k,p,h=>by
  simp only [tV,mem_append] at h;rcases h with h|h|h
  ·exact (mem_filter.1 h).1
  ·exact (mem_filter.1 h).1
  ·exact sy n (k+1) p h
theorem pQ:∀ {os:List Oper} {k:Nat},tY os k=true->∀ i o,os[i]?=some o->∀ e ∈ o.after.toList,Region.binds .any e=true->e.on<k+i
 |[],k,h,i,o,ho=>by simp at ho
 |o' :: os,k,h,i,o,ho=>by
  simp only [tY,and_eq_true,List.all_eq_true,or_eq_true,not_eq_true',decide_eq_true_eq] at h;intro e he hb
  cases i with
  |zero=>
   simp at ho;subst ho;have:=(h.1 e he).resolve_left (by simp [hb]);omega
  |succ i=>
   have:=pQ h.2 i o (by simpa using ho) e he hb;omega
structure lQ (ops:Array Oper) (ms:List Nat) (L:List (Nat×Oper)):Prop where
 iU:ms=iU ops.toList
 mj:L.Pairwise (DW ops.toList ms)
 cover:∀ i,i<ops.size->∃ p ∈ L,p.1=i
 mem:∀ p ∈ L,ops[p.1]?=some p.2
 Lg:∀ (i:Nat) (o:Oper),ops[i]?=some o->∀ e ∈ o.after.toList,Region.binds .any e=true->e.on<i
theorem B5{ops:Array Oper}{p:I5}(h:zV ops.toList=some p):lQ ops p.ms p.L:=by
 unfold zV at h;split at h
 ·rename_i hc;cases h;simp only [and_eq_true] at hc;obtain ⟨⟨h1,h2⟩,h3⟩:=hc;refine ⟨rfl,pN h2,fun i hi=>pO h3 i (by simpa using hi),fun q hq=>?_,fun i o ho e he hb=>?_⟩
  ·have:=pP _ _ _ (sy _ _ _ hq);simpa using this.2
  ·have:=pQ h1 i o (by simpa using ho) e he hb;omega
 ·cases h
theorem Am{o:Oper}{env cu:Env}(h:∀ t ∈ j7 ops o,env t=cu t):∀ x ∈ o.op.operands,evalArg env x=evalArg cu x:=by
 intro x hx
 cases x with
 |tmp t=>
  apply h;simp only [j7,mem_append,mem_filterMap];exact .inl ⟨.tmp t,by simpa using hx,rfl⟩
 |const v=>rfl
 |global g=>rfl
 |func f=>rfl
theorem pR{o:Oper}{env cu:Env}(h:∀ t ∈ j7 ops o,env t=cu t):eW ops o env=eW ops o cu:=by
 unfold eW;split
 ·rfl
 ·rename_i j want hg;split
  ·rename_i g hj;split
   ·rename_i d hd;have:env d=cu d:=h d (by simp [j7,hg,hj,hd]);rw [this]
   ·rfl
  ·rfl
end Go.AM
namespace Go.AM
open List Nat Bool Option
open Go Go.RowKit
variable {p:Nat×Oper}
structure Lh (P:Program) (ops:Array Oper) (μ:Mu) (h:Heap) (lg:List Read) (d:Dn):Prop where
 ex:∃ wb,eW ops.toList d.o d.env=some wb/\(wb=false->d.v=aZ)/\(wb=true ->
  (cP d.o.op = .pure/\iu P (evalArg d.env) d.o.op=some d.v) \/
  (cP d.o.op = .read/\g6 P (evalArg d.env) h d.o.op=some d.v/\(⟨d.i,d.o.op,d.env,d.v⟩:Read) ∈ lg) \/
  (cP d.o.op = .alloc/\d.al=true/\∃ k ob,jw P (evalArg d.env) d.o.op=some (k,ob)/\d.v=k.val d.b/\h.get d.b=some ob/\∀ kk,μ d.b≠some kk))
structure G4 where
 P:Program
 call:fT
 ops:Array Oper
 ms:List Nat
 L:List (Nat×Oper)
 K:St->Bool
 w0:World
 μb:Mu
 hb:Heap
 wb:World
 gA:Env
 n:Nat
structure iE (C:G4) (listed:Array Bool) (a:Act) (w:World) (μ:Mu) (dn:List Dn) (R:List (Nat×Oper)) (lg:List Read) (s:St):Prop where
 split:C.L=(dn.reverse.map fun d=>(d.i,d.o))++R
 run:cY C.P C.call C.ops.toList C.ms R lg s C.K=true
 xQ:s.n=C.n
 B6:s.env=de C.gA C.n (fun _=>true) dn
 size:listed.size=C.ops.size
 G5:∀ i,dZ listed i=true->∃ d ∈ dn,d.i=i
 wH:∀ d ∈ dn,lK d.o=true->dZ listed d.i=true
 closed:Fq C.ms (dZ listed)
 env:uQ C.w0 μ (de C.gA C.n (dZ listed) dn) C.n a.tmps
 defs:pI C.w0 μ s.defs a.defers
 fE:Good C.w0 μ s.h w
 ext:Ext C.μb C.hb C.wb μ s.h w
 G6:∀ pre d ds,dn=pre++d :: ds->d.env=de C.gA C.n (fun _=>true) ds
 G7:∀ d ∈ dn,dZ listed d.i=false->Lh C.P C.ops μ s.h lg d
 B7:∀ d ∈ dn,d.al=true->C.hb.next<=d.b/\d.b<s.h.next
 sep:∀ d ∈ dn,∀ d' ∈ dn,d.i≠d'.i->d.al=true->d'.al=true->d.b≠d'.b
theorem Ext.E6{μb μ:Mu}{hb h:Heap}{wb w:World}(x:Ext μb hb wb μ h w){b n:Nat}(hn:hb.next<=b)(hμ:∀ k,μ b≠some k)(O:Obj):Ext μb hb wb (μ.add b ⟨w.heap.size,0,n⟩) h (w.alloc O):=by
 have hsz:(w.alloc O).heap.size=w.heap.size+1:=by show (w.heap.push O).size=_;simp
 refine ⟨x.mono.trans (Mu.qO hμ),fun k hk hne=>?_,fun b' k dw=>?_,by rw [hsz];have:=x.size;omega,x.next,x.wI,fun b' k dw=>?_,x.nY⟩
 ·rw [Below.heap_alloc w O k (Nat.lt_of_lt_of_le hk x.size)];exact x.frame k hk hne
 ·rw [Mu.fD] at dw;by_cases e:b'=b
  ·rw [if_pos e] at dw;cases dw;exact .inr (.inl x.size)
  ·rw [if_neg e] at dw;exact x.new b' k dw
 ·rw [Mu.fD] at dw;by_cases e:b'=b
  ·exact .inr (e▸hn)
  ·rw [if_neg e] at dw;exact x.fresh b' k dw
section
variable {C:G4} {listed:Array Bool} {a:Act} {w:World} {μ:Mu} {dn:List Dn} {R:List (Nat×Oper)} {lg:List Read} {s:St}
theorem iE.mj(hp:lQ C.ops C.ms C.L)(hi:iE C listed a w μ dn R lg s) :
  dn.Pairwise (fun x y=>DW C.ops.toList C.ms (y.i,y.o) (x.i,x.o))/\R.Pairwise (DW C.ops.toList C.ms)/\∀ d ∈ dn,∀ r ∈ R,DW C.ops.toList C.ms (d.i,d.o) r:=by
 have h:=hp.mj;rw [hi.split,pairwise_append,pairwise_map,pairwise_reverse] at h;exact ⟨h.1,h.2.1,fun d hd r hr=>h.2.2 _ (mem_map.2 ⟨d,by simpa using hd,rfl⟩) r hr⟩
theorem iE.fresh(hp:lQ C.ops C.ms C.L)(hi:iE C listed a w μ dn R lg s){r:Nat×Oper}(hr:r ∈ R):dZ listed r.1=false/\∀ d ∈ dn,d.i≠r.1:=by
 have hne:∀ d ∈ dn,d.i≠r.1:=fun d hd=>((hi.mj hp).2.2 d hd r hr).ne;refine ⟨?_,hne⟩
 cases h:dZ listed r.1 with
 |false=>rfl
 |true=>obtain ⟨d,hd,he⟩:=hi.G5 _ h;exact absurd he (hne d hd)
theorem iE.Fs(hp:lQ C.ops C.ms C.L)(hi:iE C listed a w μ dn (p :: R) lg s)(he:lK p.2=false):∃ Jk DX s',iE C listed a w μ Jk R DX s':=by
 obtain ⟨hf,hne⟩:=hi.fresh hp (r:=p) (by simp);obtain ⟨env,n,defs,BA⟩:=s;have hrun:=hi.run;simp only [cY] at hrun
 have step:∀ (v:AV) (b:Nat) (al:Bool) (DX:List Read) (h':Heap),cY C.P C.call C.ops.toList C.ms R DX ⟨iq env n p.2.dst v,n,defs,h'⟩ C.K=true ->
   (∀ r ∈ lg,r ∈ DX)->Good C.w0 μ h' w->Ext C.μb C.hb C.wb μ h' w->BA.next<=h'.next->(∀ b' o,BA.get b'=some o->h'.get b'=some o)->(∀ op v,g6 C.P (evalArg env) BA op=some v\/True) ->
   (∀ env op v,g6 C.P (evalArg env) BA op=some v->g6 C.P (evalArg env) h' op=some v) ->
   Lh C.P C.ops μ h' DX ⟨p.1,p.2,v,env,b,al⟩->(al=true->b=BA.next/\BA.next<h'.next)->∃ Jk DX s',iE C listed a w μ Jk R DX s':=by
  intro v b al DX h' hr QI hg hx oU hget _ C7 Li hal;have Jf:C.hb.next<=BA.next:=hi.ext.next
  refine ⟨⟨p.1,p.2,v,env,b,al⟩ :: dn,DX,⟨iq env n p.2.dst v,n,defs,h'⟩,?_⟩;refine ⟨by rw [hi.split];simp,hr,hi.xQ,?_,hi.size,fun i h=>?_,fun d hd h=>?_,hi.closed,?_,hi.defs,hg,hx,fun pre d ds h=>?_,fun d hd h=>?_,fun d hd h=>?_,fun d hd d' nM G8 h1 h2=>?_⟩
  ·show iq env n p.2.dst v=_;simp only [de,if_true];have e1:n=C.n:=hi.xQ;have e2:env=de C.gA C.n (fun _=>true) dn:=hi.B6;rw [e2,e1]
  ·obtain ⟨d,hd,e⟩:=hi.G5 i h;exact ⟨d,by simp [hd],e⟩
  ·rcases mem_cons.1 hd with rfl|hd
   ·simp [he] at h
   ·exact hi.wH d hd h
  ·have:de C.gA C.n (dZ listed) (⟨p.1,p.2,v,env,b,al⟩ :: dn)=de C.gA C.n (dZ listed) dn:=by
    simp only [de];rw [if_neg (by rw [hf];simp)]
   rw [this];exact hi.env
  ·cases pre with
   |nil=>
    simp only [nil_append,List.cons.injEq] at h;obtain ⟨rfl,rfl⟩:=h;exact hi.B6
   |cons x pre=>
    simp only [cons_append,List.cons.injEq] at h;exact hi.G6 pre d ds h.2
  ·rcases mem_cons.1 hd with rfl|hd
   ·exact Li
   ·obtain ⟨wb,q1,q2,q3⟩:=(hi.G7 d hd h).ex;refine ⟨wb,q1,q2,fun hw=>?_⟩;rcases q3 hw with q|⟨k1,k2,k3⟩|⟨k1,k2,k,ob,k3,k4,k5,k6⟩
    ·exact .inl q
    ·exact .inr (.inl ⟨k1,C7 _ _ _ k2,QI _ k3⟩)
    ·exact .inr (.inr ⟨k1,k2,k,ob,k3,k4,hget _ _ k5,k6⟩)
  ·rcases mem_cons.1 hd with rfl|hd
   ·obtain ⟨e1,e2⟩:=hal h;show _<=b/\b<h'.next
    omega
   ·have:=hi.B7 d hd h;exact ⟨this.1,Nat.lt_of_lt_of_le this.2 oU⟩
  ·rcases mem_cons.1 hd with rfl|hd
   ·rcases mem_cons.1 nM with rfl|nM
    ·exact absurd rfl G8
    ·have:d'.b<BA.next:=(hi.B7 d' nM h2).2
     obtain ⟨e1,_⟩:=hal h1;show b≠d'.b;omega
   ·rcases mem_cons.1 nM with rfl|nM
    ·have:d.b<BA.next:=(hi.B7 d hd h1).2
     obtain ⟨e1,_⟩:=hal h2;show d.b≠b;omega
    ·exact hi.sep d hd d' nM G8 h1 h2
 split at hrun
 ·rename_i hw;split at hrun
  ·rename_i hk;rw [m6 hk] at hrun;obtain ⟨v,hv,hK⟩:=cZ hrun;have hK:=gF hK;exact step v 0 false lg BA hK (fun r h=>h) hi.fE hi.ext (dR _) (fun _ _ h=>h) (fun _ _=>.inr trivial) (fun _ _ _ h=>h) ⟨true,hw,by simp,fun _=>.inl ⟨hk,hv⟩⟩ (by simp)
  ·rename_i hk;rw [ku hk] at hrun;obtain ⟨v,hv,hK⟩:=cZ hrun;have hK:=gF hK;exact step v 0 false _ BA hK (fun r h=>by simp [h]) hi.fE hi.ext (dR _) (fun _ _ h=>h) (fun _ _=>.inr trivial) (fun _ _ _ h=>h) ⟨true,hw,by simp,fun _=>.inr (.inl ⟨hk,hv,by simp⟩)⟩ (by simp)
  ·rename_i hk;rw [kT hk] at hrun;obtain ⟨⟨k,ob⟩,hv,hK⟩:=cZ hrun;have hK:=gF hK;obtain ⟨g1,g2⟩:=hi.fE.Ja ob
   refine step (k.val BA.next) BA.next true lg (BA.alloc ob) hK (fun r h=>h) g1 (hi.ext.trans g2) (le_succ _) (fun b' o h=>?_) (fun _ _=>.inr trivial) (fun _ _ _ h=>Aj hi.fE.clean ob h)
    ⟨true,hw,by simp,fun _=>.inr (.inr ⟨hk,rfl,k,ob,hv,rfl,by rw [Heap.aD,if_pos rfl],hi.fE.pE⟩)⟩ (fun _=>⟨rfl,lt_succ_self _⟩)
   rw [Heap.aD,if_neg (fun e=>by rw [e,hi.fE.clean _ (dR _)] at h;cases h)];exact h
  ·rename_i hk;simp [lK,hk] at he
 ·rename_i hw;exact step aZ 0 false lg BA (gF hrun) (fun r h=>h) hi.fE hi.ext (dR _) (fun _ _ h=>h) (fun _ _=>.inr trivial) (fun _ _ _ h=>h) ⟨false,hw,by simp,by simp⟩ (by simp)
 ·cases hrun
theorem iE.advance(hp:lQ C.ops C.ms C.L):∀ (R:List (Nat×Oper)) (dn:List Dn) (lg:List Read) (s:St),iE C listed a w μ dn R lg s ->
  ∃ Jk R' DX s',iE C listed a w μ Jk R' DX s'/\(∀ p rest,R'=p :: rest->lK p.2=true)
 |[],dn,lg,s,hi=>⟨dn,[],lg,s,hi,by simp⟩
 |p :: R,dn,lg,s,hi=>by
  cases he:lK p.2 with
  |true=>exact ⟨dn,p :: R,lg,s,hi,fun q rest h=>by cases h;exact he⟩
  |false=>
   obtain ⟨Jk,DX,s',h'⟩:=hi.Fs hp he;exact iE.advance hp R Jk DX s' h'
theorem iE.agree(hp:lQ C.ops C.ms C.L)(hi:iE C listed a w μ dn R lg s){d:Dn}(hd:d ∈ dn)(hS:dZ listed d.i=false)(hr:∀ j,tU C.ms d.i j=true->dZ listed j=true) :
  ∀ t ∈ j7 C.ops.toList d.o,de C.gA C.n (dZ listed) dn t=d.env t:=by
 intro t ht;obtain ⟨pre,ds,rfl⟩:=append_of_mem hd;rw [hi.G6 pre d ds rfl];have Lj:=(hi.mj hp).1;rw [pairwise_append] at Lj;obtain ⟨_,Ft,G9⟩:=Lj;rw [pairwise_cons] at Ft;rw [uT (fun x hx QJ Ll=>?_)]
 ·simp only [de];rw [if_neg (by rw [hS];simp)];refine om fun x hx Ll=>hr _ ?_;exact (Ft.1 x hx).lb t Ll ht
 ·have:=(G9 x hx d (by simp)).la t Ll ht;have:=hi.closed _ _ QJ this;rw [hS] at this;cases this
theorem iE.DY(hp:lQ C.ops C.ms C.L)(hi:iE C listed a w μ dn (p :: R) lg s)(hr:∀ j,tU C.ms p.1 j=true->dZ listed j=true) :
  ∀ t ∈ j7 C.ops.toList p.2,de C.gA C.n (dZ listed) dn t=s.env t:=by
 intro t ht;rw [hi.B6];exact om fun x hx Ll=>hr _ (((hi.mj hp).2.2 x hx p (by simp)).lb t Ll ht)
theorem iE.Mx(hp:lQ C.ops C.ms C.L)(hi:iE C listed a w μ dn R lg s){d:Dn}(hd:d ∈ dn)(hS:dZ listed d.i=false)(hlt:d.i<listed.size)(hr:∀ j,tU C.ms d.i j=true->dZ listed j=true)
  {w':World} {μ':Mu} {vc:Value} (hm:μ.le μ') (hv:VR C.w0 μ' d.v vc) (hg:Good C.w0 μ' s.h w') (hx:Ext C.μb C.hb C.wb μ' s.h w')
  (jL:∀ d' ∈ dn,dZ listed d'.i=false->d'.i≠d.i->d'.al=true->(∀ kk,μ d'.b≠some kk)->∀ kk,μ' d'.b≠some kk) :
  iE C (listed.setIfInBounds d.i true) (a.put d.o.dst vc) w' μ' dn R lg s:=by
 have kC:=pM hlt;refine ⟨hi.split,hi.run,hi.xQ,hi.B6,by simpa using hi.size,fun i h=>?_,fun d' nM h=>?_,fun i j h hb=>?_,?_,?_,hg,hx,hi.G6,fun d' nM h=>?_,hi.B7,hi.sep⟩
 ·rw [kC] at h;simp only [or_eq_true,decide_eq_true_eq] at h;rcases h with rfl|h
  ·exact ⟨d,hd,rfl⟩
  ·exact hi.G5 i h
 ·rw [kC,hi.wH d' nM h];simp
 ·rw [kC] at h ⊢;simp only [or_eq_true,decide_eq_true_eq] at h ⊢;rcases h with rfl|h
  ·exact .inr (hr j hb)
  ·exact .inr (hi.closed i j h hb)
 ·obtain ⟨pre,ds,rfl⟩:=append_of_mem hd;have Lj:=(hi.mj hp).1;rw [pairwise_append] at Lj;obtain ⟨_,Ft,G9⟩:=Lj;rw [pairwise_cons] at Ft;rw [xP (S:=dZ listed) (d:=d) hS (fun k=>kC k) (fun x hx=>((G9 x hx d (by simp)).ne).symm) (fun x hx=>(Ft.1 x hx).ne) (fun x hx t ht=>(G9 x hx d (by simp)).dd t ht),Act.Ai];exact (hi.env.mono hm).put d.o.dst hv
 ·rw [Act.sn];exact hi.defs.mono hm
 ·rw [kC] at h;simp only [or_eq_false_iff,decide_eq_false_iff_not] at h;obtain ⟨wb,q1,q2,q3⟩:=(hi.G7 d' nM h.2).ex;refine ⟨wb,q1,q2,fun hw=>?_⟩;rcases q3 hw with q|q|⟨k1,k2,k,ob,k3,k4,k5,k6⟩
  ·exact .inl q
  ·exact .inr (.inl q)
  ·exact .inr (.inr ⟨k1,k2,k,ob,k3,k4,k5,jL d' nM h.2 h.1 k2 k6⟩)
theorem ke{P:Program}{ms:List Nat}{i:Nat}{h:Heap}:∀ {lg:List Read},fJ P ms i h lg=true->∀ r ∈ lg,tU ms i r.i=false->sameAt P r.op r.env r.v h=true
 |[],hh,r,hr,hb=>by cases hr
 |r' :: lg,hh,r,hr,hb=>by
  simp only [fJ] at hh;rcases mem_cons.1 hr with rfl|hr
  ·rw [if_neg (by rw [hb];simp)] at hh;simp only [and_eq_true] at hh;exact hh.1
  ·split at hh
   ·exact ke hh r hr hb
   ·simp only [and_eq_true] at hh;exact ke hh.2 r hr hb
theorem iE.Iz(hp:lQ C.ops C.ms C.L)(hi:iE C listed a w μ dn (p :: R) lg s)(hlt:p.1<listed.size)(hr:∀ j,tU C.ms p.1 j=true->dZ listed j=true)
  {a':Act} {w':World} {μ':Mu} {v:AV} {fU:List j6} {h':Heap} (hrun:cY C.P C.call C.ops.toList C.ms R lg ⟨iq s.env s.n p.2.dst v,s.n,fU,h'⟩ C.K=true)
  (hs:SR C.w0 μ' ⟨iq (de C.gA C.n (dZ listed) dn) C.n p.2.dst v,C.n,fU,h'⟩ a' w') (hx:Ext μ s.h w μ' h' w')
  (C7:∀ r ∈ lg,cP r.op = .read->tU C.ms p.1 r.i=false->g6 C.P (evalArg r.env) s.h r.op=some r.v->g6 C.P (evalArg r.env) h' r.op=some r.v) :
  iE C (listed.setIfInBounds p.1 true) a' w' μ' (⟨p.1,p.2,v,s.env,0,false⟩ :: dn) R lg ⟨iq s.env s.n p.2.dst v,s.n,fU,h'⟩:=by
 have kC:=pM hlt;obtain ⟨hf,hne⟩:=hi.fresh hp (r:=p) (by simp);refine ⟨by rw [hi.split];simp,hrun,hi.xQ,?_,by simpa using hi.size,fun i h=>?_,fun d' nM h=>?_,fun i j h hb=>?_,?_,hs.defs,hs.fE,hi.ext.trans hx,fun pre d ds h=>?_,fun d' nM h=>?_,fun d' nM h=>?_,fun d1 h1 d2 h2 G8 a1 a2=>?_⟩
 ·show iq s.env s.n p.2.dst v=_;simp only [de,if_true];rw [hi.xQ,hi.B6]
 ·rw [kC] at h;simp only [or_eq_true,decide_eq_true_eq] at h;rcases h with rfl|h
  ·exact ⟨⟨p.1,p.2,v,s.env,0,false⟩,by simp,rfl⟩
  ·obtain ⟨d,hd,e⟩:=hi.G5 i h;exact ⟨d,by simp [hd],e⟩
 ·rw [kC];rcases mem_cons.1 nM with rfl|nM
  ·simp
  ·rw [hi.wH d' nM h];simp
 ·rw [kC] at h ⊢;simp only [or_eq_true,decide_eq_true_eq] at h ⊢;rcases h with rfl|h
  ·exact .inr (hr j hb)
  ·exact .inr (hi.closed i j h hb)
 ·have:de C.gA C.n (dZ (listed.setIfInBounds p.1 true)) (⟨p.1,p.2,v,s.env,0,false⟩ :: dn)=iq (de C.gA C.n (dZ listed) dn) C.n p.2.dst v:=by
   simp only [de];rw [if_pos (by rw [kC];simp),jQ (S':=dZ listed) (fun x hx=>by rw [kC];simp [hne x hx])]
  rw [this];exact hs.env
 ·cases pre with
  |nil=>
   simp only [nil_append,List.cons.injEq] at h;obtain ⟨rfl,rfl⟩:=h;exact hi.B6
  |cons x pre=>
   simp only [cons_append,List.cons.injEq] at h;exact hi.G6 pre d ds h.2
 ·rw [kC] at h;simp only [or_eq_false_iff,decide_eq_false_iff_not] at h;rcases mem_cons.1 nM with rfl|nM
  ·exact absurd rfl h.1
  ·obtain ⟨wb,q1,q2,q3⟩:=(hi.G7 d' nM h.2).ex;refine ⟨wb,q1,q2,fun hw=>?_⟩;rcases q3 hw with q|⟨k1,k2,k3⟩|⟨k1,k2,k,ob,k3,k4,k5,k6⟩
   ·exact .inl q
   ·refine .inr (.inl ⟨k1,C7 _ k3 k1 ?_ k2,k3⟩)
    cases hb:tU C.ms p.1 d'.i with
    |false=>rfl
    |true=>have:=hr _ hb;rw [h.2] at this;cases this
   ·have hb:=hi.B7 d' nM k2;refine .inr (.inr ⟨k1,k2,k,ob,k3,k4,?_,fun kk hk=>?_⟩)
    ·show h'.get d'.b=some ob;rw [hx.wI _ hb.2 k6];exact k5
    ·rcases hx.fresh _ kk hk with e|e
     ·exact k6 kk e
     ·omega
 ·rcases mem_cons.1 nM with rfl|nM
  ·cases h
  ·have:=hi.B7 d' nM h;exact ⟨this.1,Nat.lt_of_lt_of_le this.2 hx.next⟩
 ·rcases mem_cons.1 h1 with rfl|h1
  ·cases a1
  ·rcases mem_cons.1 h2 with rfl|h2
   ·cases a2
   ·exact hi.sep d1 h1 d2 h2 G8 a1 a2
end
end Go.AM
namespace Go.AM
open List Nat Bool Option
open Go Go.RowKit
variable {listed:Array Bool}
def sA(listed:Array Bool):Nat:=((List.range listed.size).filter fun i=>!dZ listed i).length
theorem filter_lt{α:Type}(p q:α->Bool)(Nd:∀ x,q x=true->p x=true):∀ (l:List α) (x:α),x ∈ l->p x=true->q x=false->(l.filter q).length<(l.filter p).length
 |[],x,h,_,_=>by cases h
 |y :: l,x,h,h1,h2=>by
  have le:∀ l:List α,(l.filter q).length<=(l.filter p).length:=by
   intro l
   induction l with
   |nil=>simp
   |cons z l ih=>
    simp only [filter_cons];by_cases hq:q z=true
    ·rw [if_pos hq,if_pos (Nd z hq)];simp;exact ih
    ·rw [if_neg hq];split
     ·simp;omega
     ·exact ih
  simp only [filter_cons];rcases mem_cons.1 h with rfl|h
  ·rw [if_pos h1,if_neg (by rw [h2];simp)];have:=le l;simp;omega
  ·have ih:=filter_lt p q Nd l x h h1 h2;by_cases hq:q y=true
   ·rw [if_pos hq,if_pos (Nd y hq)];simp;exact ih
   ·rw [if_neg hq];split
    ·simp;omega
    ·exact ih
theorem DZ{i:Nat}(hi:i<listed.size)(h:dZ listed i=false):sA (listed.setIfInBounds i true)<sA listed:=by
 unfold sA;rw [Array.size_setIfInBounds];refine filter_lt _ _ (fun x hx=>?_) _ i (by simpa using hi) (by simp [h]) (by rw [pM hi];simp);rw [pM hi] at hx;simp only [not_eq_true',or_eq_false_iff] at hx;simp [hx.2]
theorem B8(h:sA listed=0):∀ i,i<listed.size->dZ listed i=true:=by
 intro i hi;unfold sA at h;have:=eq_nil_of_length_eq_zero h;rw [filter_eq_nil_iff] at this;simpa using this i (by simpa using hi)
theorem D1{ops:Array Oper}(hs:listed.size=ops.size)(he:∀ (i:Nat) (o:Oper),ops[i]?=some o->∀ e ∈ o.after.toList,Region.binds .any e=true->e.on<i)(h:Region.ready .any ops listed = []) :
  ∀ i,i<ops.size->dZ listed i=true:=by
 intro i
 induction i using Nat.strongRecOn with
 |ind i ih=>
  intro hi
  cases hl:dZ listed i with
  |true=>rfl
  |false=>
   exfalso;have ho:ops[i]?=some ops[i]:=by simp [hi]
   have:i ∈ Region.ready .any ops listed:=by
    refine mem_ready.2 ⟨?_,_,ho,fun e yX hb=>?_⟩
    ·have:=hl;unfold dZ at this;simp only [Array.getD_eq_getD_getElem?] at this ⊢;rw [Array.getElem?_eq_getElem (by omega)] at this ⊢;simpa using this
    ·have:=he i _ ho e (by simpa using yX) hb;exact ih e.on this (by omega)
   rw [h] at this;cases this
section
variable {C:G4} {listed:Array Bool} {a:Act} {w:World} {μ:Mu} {dn:List Dn} {R:List (Nat×Oper)} {lg:List Read} {s:St}
theorem iE.done(hp:lQ C.ops C.ms C.L)(hi:iE C listed a w μ dn R lg s)(kV:∀ i,i<C.ops.size->dZ listed i=true):C.K s=true/\SR C.w0 μ s a w/\Ext C.μb C.hb C.wb μ s.h w:=by
 have hR:R = []:=by
  cases R with
  |nil=>rfl
  |cons p R=>
   have hm:p ∈ C.L:=by rw [hi.split];simp
   have hlt:=(Array.getElem?_eq_some_iff.1 (hp.mem p hm)).1;have:=(hi.fresh hp (r:=p) (by simp)).1;rw [kV _ hlt] at this;cases this
 subst hR;have hrun:=hi.run;simp only [cY] at hrun;refine ⟨hrun,⟨?_,hi.defs,hi.fE⟩,hi.ext⟩
 have:de C.gA C.n (dZ listed) dn=s.env:=by
  rw [hi.B6];refine jQ fun x hx=>?_;have hm:(x.i,x.o) ∈ C.L:=by rw [hi.split];simp;exact ⟨x,hx,rfl,rfl⟩
  exact kV _ (Array.getElem?_eq_some_iff.1 (hp.mem _ hm)).1
 have he:=hi.env;rw [this] at he;rw [hi.xQ];exact he
theorem B9(hp:lQ C.ops C.ms C.L)(hc:di C.P C.call){Q:Exit->Act->World->Prop}(hQ:∀ s' a' w' μ',C.K s'=true->SR C.w0 μ' s' a' w'->Ext C.μb C.hb C.wb μ' s'.h w'->Q .normal a' w') :
  ∀ (fuel:Nat) (listed:Array Bool) (a:Act) (w:World) (μ:Mu) (dn:List Dn) (R:List (Nat×Oper)) (lg:List Read) (s:St),iE C listed a w μ dn R lg s->sA listed<=fuel->wpAny C.P .any C.ops Q fuel listed a w:=by
 have fin:∀ (listed:Array Bool) (a:Act) (w:World) (μ:Mu) (dn:List Dn) (R:List (Nat×Oper)) (lg:List Read) (s:St),iE C listed a w μ dn R lg s->Region.ready .any C.ops listed = []->Q .normal a w:=by
  intro listed a w μ dn R lg s hi hr;obtain ⟨h1,h2,h3⟩:=hi.done hp (D1 hi.size hp.Lg hr);exact hQ _ _ _ _ h1 h2 h3
 intro fuel
 induction fuel with
 |zero=>
  intro listed a w μ dn R lg s hi hl;have kV:=B8 (le_zero.1 hl)
  have hr:Region.ready .any C.ops listed = []:=by
   cases h:Region.ready .any C.ops listed with
   |nil=>rfl
   |cons i l=>
    have hm:i ∈ Region.ready .any C.ops listed:=(by rw [h];simp);obtain ⟨h1,o,ho,_⟩:=mem_ready.1 hm;have hlt:=(Array.getElem?_eq_some_iff.1 ho).1;have:=kV i (by rw [hi.size];exact hlt);unfold dZ at this;simp only [Array.getD_eq_getD_getElem?] at this h1;rw [Array.getElem?_eq_getElem (by rw [hi.size];exact hlt)] at this h1;simp at this h1;rw [this] at h1;cases h1
  exact ⟨hr,fin _ _ _ _ _ _ _ _ hi hr⟩
 |succ fuel ih=>
  intro listed a w μ dn R lg s hi0 hl;refine ⟨fin _ _ _ _ _ _ _ _ hi0,fun i yX=>?_⟩;obtain ⟨dn,R,lg,s,hi,IA⟩:=hi0.advance hp;obtain ⟨h1,o,ho,_⟩:=mem_ready.1 yX;have hlt:i<C.ops.size:=(Array.getElem?_eq_some_iff.1 ho).1;have An:i<listed.size:=by rw [hi.size];exact hlt
  have hS:dZ listed i=false:=by
   unfold dZ;simp only [Array.getD_eq_getD_getElem?] at h1 ⊢;rw [Array.getElem?_eq_getElem An] at h1 ⊢;simpa using h1
  have hr:∀ j,tU C.ms i j=true->dZ listed j=true:=fun j hb=>by
   rw [hp.iU] at hb;exact DU (by rw [<- hp.iU];exact hi.closed) yX hb
  have uM:sA (listed.setIfInBounds i true)<=fuel:=by have:=DZ An hS;omega
  obtain ⟨p,Nf,Jl⟩:=hp.cover i hlt;have Jm:=hp.mem p Nf;rw [Jl,ho] at Jm;obtain ⟨pi,po⟩:=p;simp only at Jl Jm;obtain rfl:=Jl;obtain rfl:=Option.some.inj Jm;have hρ:∀ x,VR C.w0 μ (evalArg (de C.gA C.n (dZ listed) dn) x) (a.eval x):=SR.eval (s:=⟨de C.gA C.n (dZ listed) dn,C.n,s.defs,s.h⟩) ⟨hi.env,hi.defs,hi.fE⟩;have Fu:∀ b,eW C.ops.toList o (de C.gA C.n (dZ listed) dn)=some b->Region.wanted o (yielded C.ops a.tmps)=b:=fun b hb=>gJ (s:=⟨de C.gA C.n (dZ listed) dn,C.n,s.defs,s.h⟩) hi.env hb;unfold wpOp;simp only [ho];rw [hi.split,mem_append,mem_map] at Nf;rcases Nf with ⟨d,hd,OT⟩|OU
  ·
   rw [mem_reverse] at hd;simp only [Prod.mk.injEq] at OT;obtain ⟨rfl,rfl⟩:=OT;have Jn:=hi.agree hp hd hS hr;have Fv:∀ x ∈ d.o.op.operands,evalArg (de C.gA C.n (dZ listed) dn) x=evalArg d.env x:=Am Jn;obtain ⟨wb,q1,q2,q3⟩:=(hi.G7 d hd hS).ex;rw [<- pR Jn] at q1;rw [Fu wb q1]
   cases wb with
   |false=>
    simp only [false_eq_true,if_false];have sW:=hi.Mx hp hd hS An hr (Mu.le.refl μ) (vc:=undef) (by rw [q2 rfl];exact VR.aZ) hi.fE hi.ext (fun _ _ _ _ _ h=>h);exact ih _ _ _ _ _ _ _ _ sW uM
   |true=>
    rw [if_pos rfl];refine .inl ?_;rcases q3 rfl with ⟨k1,k2⟩|⟨k1,k2,k3⟩|⟨k1,k2,k,ob,k3,k4,k5,k6⟩
    ·rw [<- sw Fv] at k2;obtain ⟨vc,e1,e2⟩:=Aa hρ k1 k2;unfold Oper.wp;rw [e1 w,Oper.upon_value];exact ih _ _ _ _ _ _ _ _ (hi.Mx hp hd hS An hr (Mu.le.refl μ) e2 hi.fE hi.ext (fun _ _ _ _ _ h=>h)) uM
    ·rw [<- sx Fv] at k2;obtain ⟨vc,e1,e2⟩:=Ac hi.fE hρ k1 k2;unfold Oper.wp;rw [e1,Oper.upon_value];exact ih _ _ _ _ _ _ _ _ (hi.Mx hp hd hS An hr (Mu.le.refl μ) e2 hi.fE hi.ext (fun _ _ _ _ _ h=>h)) uM
    ·rw [<- pL Fv] at k3;obtain ⟨O,n,f,hm⟩:=xL (w0:=C.w0) (μ:=μ) hρ k1 k3;have hb:=hi.B7 d hd k2;have nc:=hi.fE.E6 hb.2 k6 k5 O n (hm.obj _ _);have gG:=hi.ext.E6 (n:=n) hb.1 k6 O;unfold Oper.wp;rw [hm.run w,Oper.upon_value];refine ih _ _ _ _ _ _ _ _ (hi.Mx hp hd hS An hr (Mu.qO k6) (by rw [k4];exact hm.val _ _ _ (Mu.add_same _ _ _)) nc gG (fun d' nM _ hne hal QK kk hk=>?_)) uM;rw [Mu.fD] at hk;have:d'.b≠d.b:=hi.sep d' nM d hd hne hal k2;rw [if_neg this] at hk;exact QK kk hk
  ·
   have QL:∃ rest,R=(pi,o) :: rest:=by
    cases R with
    |nil=>cases OU
    |cons q rest=>
     rcases mem_cons.1 OU with e|hq
     ·exact ⟨rest,by rw [e]⟩
     ·exfalso;have oV:=(hi.mj hp).2.1;rw [pairwise_cons] at oV;have hb:=(oV.1 _ hq).Bw (IA q rest rfl);have h2:=hr _ hb;have:=(hi.fresh hp (r:=q) (by simp)).1;rw [h2] at this;cases this
   obtain ⟨rest,rfl⟩:=QL;have Jo:=IA _ _ rfl
   have hk:cP o.op = .Bw:=by
    unfold lK at Jo;simp only at Jo;cases hk:cP o.op<;>simp [hk] at Jo;rfl
   have Jn:=hi.DY hp hr;have Fv:∀ x ∈ o.op.operands,evalArg (de C.gA C.n (dZ listed) dn) x=evalArg s.env x:=Am (ops:=C.ops.toList) Jn;obtain ⟨QM,ns,IB,KU⟩:=s;have hrun:=hi.run;simp only [cY] at hrun;rw [<- pR (ops:=C.ops.toList) Jn] at hrun;split at hrun
   ·rename_i hw;rw [Fu _ hw,if_pos rfl];simp only [hk] at hrun;rw [<- yV Fv] at hrun;refine .inl ?_;have BB:SR C.w0 μ ⟨de C.gA C.n (dZ listed) dn,C.n,IB,KU⟩ a w:=⟨hi.env,hi.defs,hi.fE⟩
    refine uc BB hc ⟨fun v fU h' a' w' μ' hK ei hx=>?_,fun v vc h' w' μ' hK _ _ _=>by cases hK⟩ hrun;simp only at hK;split at hK
    ·rename_i QN;refine ih _ _ _ _ _ _ _ _ (hi.Iz hp An hr (gF hK) ei hx (fun r zQ Jp hb hv=>?_)) uM;exact Ak Jp (ke QN r zQ hb)
    ·cases hK
   ·rename_i hw;rw [Fu _ hw];simp only [false_eq_true,if_false];have BB:SR C.w0 μ ⟨de C.gA C.n (dZ listed) dn,C.n,IB,KU⟩ a w:=⟨hi.env,hi.defs,hi.fE⟩
    have GC:=BB.left o.dst (h':=KU) VR.aZ hi.fE (Mu.le.refl μ);exact ih _ _ _ _ _ _ _ _ (hi.Iz hp An hr (v:=aZ) (gF hrun) GC (Ext.refl _ _ _) (fun r _ _ _ hv=>hv)) uM
   ·cases hrun
end
theorem C8{P:Program}{w0 w:World}{μ:Mu}{s:St}{a:Act}(hm:P.follows .mixedOrders=true){call:fT}(hc:di P call){id:Nat}{ops:Array Oper}{Ao:I5}(hp:zV ops.toList=some Ao){K:St->Bool}
  {Q:Exit->Act->World->Prop} (hs:SR w0 μ s a w) (hQ:∀ s' a' w' μ',K s'=true->SR w0 μ' s' a' w'->Ext μ s.h w μ' s'.h w'->Q .normal a' w')
  (h:cY P call ops.toList Ao.ms Ao.L [] s K=true):(Code.region id ops true).wp P Q a w:=by
 refine wp_region_any hm ?_
 let C:G4:=⟨P,call,ops,Ao.ms,Ao.L,K,w0,μ,s.h,w,s.env,s.n⟩
 have EK:lQ C.ops C.ms C.L:=B5 hp
 have hin:∀ k,dZ (Array.replicate ops.size false) k=false:=fun k=>by
  unfold dZ;simp only [Array.getD_eq_getD_getElem?,Array.getElem?_replicate];split<;>rfl
 have hi:iE C (Array.replicate ops.size false) a { w with drawn:=w.drawn+1 } μ [] Ao.L [] s:=by
  refine ⟨rfl,h,rfl,rfl,by simp [C],fun i hh=>?_,by simp,fun i j hh=>?_,hs.env,hs.defs,hs.fE.same rfl rfl rfl rfl,?_,by simp,by simp,by simp,by simp⟩
  ·rw [hin] at hh;cases hh
  ·rw [hin] at hh;cases hh
  ·exact ⟨Mu.le.refl μ,fun _ _ _=>rfl,fun _ _ h=>.inl h,dR _,dR _,fun _ _ _=>rfl,fun _ _ h=>.inl h,fun _ _ h=>.inl h⟩
 refine B9 EK hc hQ _ _ _ _ _ _ _ _ _ hi ?_;unfold sA;refine Nat.le_trans (length_filter_le _ _) ?_;simp [C]
end Go.AM