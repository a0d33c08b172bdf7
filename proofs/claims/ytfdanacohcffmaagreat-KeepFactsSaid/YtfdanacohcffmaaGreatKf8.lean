/- Parts of the proof. Conditions: none. -/
import Derived.Test.YtfdanacohcffmaaGreatKf7
import Derived.Defers
import Derived.Orders
set_option linter.unusedSimpArgs false
set_option linter.unusedVariables false
namespace Go.AM
open List Nat Bool Option
open Go Go.RowKit
variable {K:R->Bool} {call:jQ} {o:Oper} {w':World} {v:AV}
structure adN (w0:World) (μ:Mu) (d:pJ) (D:Deferred):Prop where
 ex:∃ cap args:List Value,D = { target:=.fn (.func d.f) cap.toArray,args:=args.toArray }/\dW w0 μ d.args args/\dW w0 μ d.cap cap
inductive xW (w0:World) (μ:Mu):List pJ->List Deferred->Prop where
 |nil:xW w0 μ [] []
 |cons {d:pJ} {D:Deferred} {ds:List pJ} {Ds:List Deferred} (h:adN w0 μ d D) (t:xW w0 μ ds Ds):xW w0 μ (d :: ds) (D :: Ds)
def Cv(w0:World)(μ:Mu)(env:Env)(n:Nat)(tmps:Array Value):Prop:=tmps.size=n/\∀ t,VR w0 μ (env t) (tmps.getD t undef)
structure SR (w0:World) (μ:Mu) (s:St) (a:Act) (w:World):Prop where
 env:Cv w0 μ s.env s.n a.tmps
 defs:xW w0 μ s.defs a.defers
 fP:Good w0 μ s.h w
section
variable {P:Program} {w0 w:World} {μ μ':Mu} {h h':Heap} {s:St} {a:Act}
theorem xW.mono(hm:μ.le μ'){ds:List pJ}{Ds:List Deferred}(h:xW w0 μ ds Ds):xW w0 μ' ds Ds:=by
 induction h with
 |nil=>exact .nil
 |cons h t ih=>obtain ⟨c,x,e,a,b⟩:=h;exact .cons ⟨c,x,e,a.mono hm,b.mono hm⟩ ih
theorem Cv.mono(hm:μ.le μ'){env:Env}{n:Nat}{tmps:Array Value}(h:Cv w0 μ env n tmps):Cv w0 μ' env n tmps:=⟨h.1,fun t=>(h.2 t).mono hm⟩
theorem bO(env:Env)(d:Nat)(v:AV)(t:Nat):aa env d v t=if t=d then v else env t:=by
 unfold aa
 cases h:Nat.beq t d with
 |true=>rw [if_pos (eq_of_beq_eq_true h)]
 |false=>rw [if_neg (ne_of_beq_eq_false h)]
theorem k7{env:Env}{n:Nat}{dst:Option Tmp}{k:Env->Bool}(h:iA env n dst v k=true):k (mD env n dst v)=true:=by
 cases dst with
 |none=>exact h
 |some d=>
  simp only [iA] at h;simp only [mD]
  cases hb:ble (d+1) n with
  |false=>rw [hb] at h;cases h
  |true=>
   rw [hb] at h;have:d<n:=le_of_ble_eq_true hb;rw [if_pos this];exact h
theorem Cv.put{env:Env}{n:Nat}{tmps:Array Value}(h:Cv w0 μ env n tmps)(dst:Option Tmp){vc:Value}(hv:VR w0 μ v vc):Cv w0 μ (mD env n dst v) n (match dst with|some d=>tmps.setIfInBounds d vc|none=>tmps):=by
 cases dst with
 |none=>exact h
 |some d=>
  refine ⟨by simpa using h.1,fun t=>?_⟩;have ht:=h.2 t;simp only [mD];by_cases hd:d<n
  ·rw [if_pos hd];rw [bO];by_cases e:t=d
   ·subst e;rw [if_pos rfl];have:(tmps.setIfInBounds t vc).getD t undef=vc:=by simp [Array.getD,show t<tmps.size by rw [h.1];exact hd]
    rw [this];exact hv
   ·rw [if_neg e]
    have:(tmps.setIfInBounds d vc).getD t undef=tmps.getD t undef:=by
     simp only [Array.getD_eq_getD_getElem?];rw [Array.getElem?_setIfInBounds_ne (fun q=>e q.symm)]
    rw [this];exact ht
  ·rw [if_neg hd];have:(tmps.setIfInBounds d vc)=tmps:=Array.setIfInBounds_eq_of_size_le (h.1▸Nat.le_of_not_lt hd);rw [this];exact ht
theorem Act.It(a:Act)(dst:Option Tmp)(v:Value):(a.put dst v).tmps=(match dst with|some d=>a.tmps.setIfInBounds d v|none=>a.tmps):=by cases dst<;>rfl
theorem Act.Aq(a:Act)(dst:Option Tmp)(v:Value):(a.put dst v).defers=a.defers:=by cases dst<;>rfl
theorem SR.left(hs:SR w0 μ s a w)(dst:Option Tmp){vc:Value}(hv:VR w0 μ' v vc)(hg:Good w0 μ' h' w')(hm:μ.le μ'):SR w0 μ' (s.VI h' dst v) (a.put dst vc) w':=
 ⟨by rw [Act.It];exact (hs.env.mono hm).put dst hv,by rw [Act.Aq];exact hs.defs.mono hm,hg⟩
theorem SR.YA(hs:SR w0 μ s a w)(hg:Good w0 μ' h' w')(hm:μ.le μ'):SR w0 μ' ⟨s.env,s.n,s.defs,h'⟩ a w':=
 ⟨hs.env.mono hm,hs.defs.mono hm,hg⟩
theorem SR.eval(hs:SR w0 μ s a w):∀ x,VR w0 μ (evalArg s.env x) (a.eval x):=by
 intro x
 cases x with
 |tmp t=>exact hs.env.2 t
 |const v=>exact VR.ofConst v
 |global g=>exact .undef _
 |func f=>exact .func f [] [] [] [] rfl rfl (by simp) (by simp)
theorem lf(hs:Cv w0 μ s.env s.n a.tmps){ops:Array Oper}{b:Bool}(h:iU ops.toList o s.env=some b):Region.wanted o (yielded ops a.tmps)=b:=by
 unfold iU at h;unfold Region.wanted;split at h
 ·rename_i hg;rw [hg];simpa using h
 ·rename_i j want hg;rw [hg];simp only;split at h
  ·rename_i g hj;split at h
   ·rename_i d hd;have GW:ops[j]?=some g:=by rw [Array.getElem?_toList] at hj;exact hj
    have ht:=hs.2 d
    have key:∀ v:Value,VR w0 μ (s.env d) v->v=a.tmps.getD d undef->(yielded ops a.tmps j==some want)=b:=by
     intro v hv he;unfold yielded;simp only [GW,bind_some,hd];split at h
     ·rename_i b' hb;rw [hb] at hv;cases h;rw [hv.iD] at he;by_cases hlt:d<a.tmps.size
      ·have:a.tmps[d]?=some (.bool b'):=by
        simp [Array.getD,hlt] at he;simp [hlt,he]
       rw [this];simp
      ·simp [Array.getD,hlt,undef] at he
     ·rename_i vs hb;rw [hb] at hv;cases h;obtain ⟨us,rfl,_⟩:=hv.FA;by_cases hlt:d<a.tmps.size
      ·have:a.tmps[d]?=some (.tuple us.toArray):=by
        simp [Array.getD,hlt] at he;simp [hlt,he]
       rw [this];simp
      ·have:a.tmps[d]?=none:=Array.getElem?_eq_none (Nat.le_of_not_lt hlt);rw [this];simp
     ·cases h
    exact key _ ht rfl
   ·cases h
  ·cases h
def zk(w0:World)(μ:Mu)(h:Heap)(w:World)(K:Out->Heap->Bool):Ending->World->Prop
 |.returned vc,w'=>∃ v h' μ',K (.ret v) h'=true/\VR w0 μ' v vc/\Good w0 μ' h' w'/\Ext μ h w μ' h' w'
 |.panicked chain,w'=>∃ v vc h' μ',K (.panic v) h'=true/\chain = [{ v:=vc,recovered:=false }]/\VR w0 μ' v vc/\Good w0 μ' h' w'/\Ext μ h w μ' h' w'
 |.outgrown,_=>False
def Enters(P:Program)(f:FuncId):Prop:=∃ fn c,P.funcs[f]?=some fn/\fn.body=some c/\fn.name≠ "runtime.NumGoroutine"
theorem xX{f:FuncId}(he:Enters P f)(args:Array Value):(callFunc f args).run P w = .ok (.enter f args) w:=by
 obtain ⟨fn,c,h1,h2,h3⟩:=he;simp [callFunc,h1,h2,h3]
def fV(P:Program)(call:jQ):Prop:=
 ∀ f args h K,call f args h K=true->Enters P f/\∀ (w0:World) (μ:Mu) (w:World) (vs:List Value),Good w0 μ h w->dW w0 μ args vs->Calls P f vs.toArray w (zk w0 μ h w K)
structure FF (w0:World) (μ:Mu) (s:St) (a:Act) (w:World) (dst:Option Tmp) (K:R->Bool) (next:Act->World->Prop) (Q:Exit->Act->World->Prop):Prop where
 ok:∀ (v:AV) (jR:List pJ) (h':Heap) (a':Act) (w':World) (μ':Mu),K (.ok v jR h')=true->SR w0 μ' ⟨mD s.env s.n dst v,s.n,jR,h'⟩ a' w'->Ext μ s.h w μ' h' w'->next a' w'
 panic:∀ (v:AV) (vc:Value) (h':Heap) (w':World) (μ':Mu),K (.panic v h')=true->VR w0 μ' v vc->SR w0 μ' ⟨s.env,s.n,s.defs,h'⟩ a w'->Ext μ s.h w μ' h' w'->Q (.panic [{ v:=vc,recovered:=false }]) a w'
theorem Cw(hs:SR w0 μ s a w){next:Act->World->Prop}{Q:Exit->Act->World->Prop}(hl:FF w0 μ s a w o.dst K next Q)
  (h:pL o.op P call s.env s.defs s.h K=true):o.wp P a w next Q:=by
 obtain ⟨v,h',vc,w',μ',hK,hr,hv,hg,hx⟩:=VW hs.fP hs.eval h;unfold Oper.wp;rcases hr with hr|⟨rfl,hr⟩
 ·rw [hr];exact hl.ok _ _ _ _ _ _ hK (hs.left o.dst hv hg hx.mono) hx
 ·rw [hr];exact hl.ok _ _ _ _ _ _ hK (hs.left o.dst hv hg hx.mono) hx
theorem R9(hs:SR w0 μ s a w)(hc:fV P call){c:Call}(ho:o.op = .call c){next:Act->World->Prop}{Q:Exit->Act->World->Prop}(hl:FF w0 μ s a w o.dst K next Q)
  (h:wE c P call s.env s.defs s.h K=true):o.wp P a w next Q:=by
 obtain ⟨zf,args,ts⟩:=c
 cases zf with
 |builtin b=>exact Cw hs hl (call:=call) (by rw [ho];exact h)
 |invoke r m=>exact Cw hs hl (call:=call) (by rw [ho];exact h)
 |value f=>
  simp only [wE,BJ] at h;split at h
  ·rename_i g first cap hf
   obtain ⟨he,VX⟩:=hc _ _ _ _ h;have hfv:=hs.eval f;rw [hf] at hfv;generalize hfe:a.eval f=fv at hfv;cases hfv;rename_i us vs h1 r1 h2 r2;have Ar:dW w0 μ (args.toList.map (evalArg s.env)) (args.toList.map a.eval):=dW.map _ fun x _=>hs.eval x;have lY:=(dW.mk h1 r1).append (Ar.append (dW.mk h2 r2));have hcl:=VX w0 μ w _ hs.fP lY
   have hrun:(execOp a.eval o).run P w = .ok (.enter g (us++(args.toList.map a.eval++vs)).toArray) w:=by
    have e:us.toArray++args.map a.eval++vs.toArray=(us++(args.toList.map a.eval++vs)).toArray:=by
     apply Array.ext';simp
    simp only [execOp,ho,resolve,hfe,Deferred.ofValue,Sem.run_bind,Sem.run_pure,Result.andThen_ok,invoke,xX he,e]
   unfold Oper.wp;rw [hrun,Oper.upon_enter];refine Calls.mono hcl fun e w' hR=>?_
   cases e with
   |returned vc=>
    obtain ⟨v,h',μ',hK,hv,hg,hx⟩:=hR;exact hl.ok _ _ _ _ _ _ hK (hs.left o.dst hv hg hx.mono) hx
   |panicked chain=>
    obtain ⟨v,vc,h',μ',hK,rfl,hv,hg,hx⟩:=hR;exact hl.panic _ _ _ _ _ hK hv (hs.YA hg hx.mono) hx
   |outgrown=>exact hR.elim
  ·cases h
theorem Pq(hs:SR w0 μ s a w){c:Call}(ho:o.op = .defer c){next:Act->World->Prop}{Q:Exit->Act->World->Prop}(hl:FF w0 μ s a w o.dst K next Q)
  (h:xL c P call s.env s.defs s.h K=true):o.wp P a w next Q:=by
 obtain ⟨zf,args,ts⟩:=c
 cases zf with
 |builtin b=>cases h
 |invoke r m=>cases h
 |value f=>
  simp only [xL] at h;split at h
  ·rename_i g first cap hf
   have hfv:=hs.eval f;rw [hf] at hfv;generalize hfe:a.eval f=fv at hfv;cases hfv;rename_i us vs h1 r1 h2 r2;have Ar:dW w0 μ (args.toList.map (evalArg s.env)) (args.toList.map a.eval):=dW.map _ fun x _=>hs.eval x;have lY:=(dW.mk h1 r1).append Ar
   have hrun:(execOp a.eval o).run P w = .ok (.defer { target:=.fn (.func g) vs.toArray,args:=(us++args.toList.map a.eval).toArray }) w:=by
    have e:us.toArray++args.map a.eval=(us++args.toList.map a.eval).toArray:=by
     apply Array.ext';simp
    simp only [execOp,ho,resolve,hfe,Deferred.ofValue,Sem.run_bind,Sem.run_pure,Result.andThen_ok,e]
   unfold Oper.wp;rw [hrun,Oper.upon_defer]
   have gC:SR w0 μ (St.mk s.env s.n (⟨g,first++args.toList.map (evalArg s.env),cap⟩ :: s.defs) s.h) { a with defers:={ target:=.fn (.func g) vs.toArray,args:=(us++args.toList.map a.eval).toArray } :: a.defers } w:=
    ⟨hs.env,.cons ⟨vs,_,rfl,lY,⟨h2,r2⟩⟩ hs.defs,hs.fP⟩
   exact hl.ok _ _ _ _ _ _ h (gC.left o.dst VR.bI hs.fP (Mu.le.refl μ)) (Ext.refl _ _ _)
  ·cases h
theorem Pr(hs:SR w0 μ s a w){x:Operand}(ho:o.op = .panic x){next:Act->World->Prop}{Q:Exit->Act->World->Prop}(hl:FF w0 μ s a w o.dst K next Q)
  (h:xM x P call s.env s.defs s.h K=true):o.wp P a w next Q:=by
 simp only [xM] at h;split at h
 ·rename_i t v hx;have hv:=hs.eval x;rw [hx] at hv;generalize he:a.eval x=xv at hv;cases hv;rename_i vc hvc
  have hrun:(execOp a.eval o).run P w = .halt (.panic (.iface t vc)) w:=by
   simp [execOp,ho,he,Instr.panic]
  unfold Oper.wp;rw [hrun,Oper.upon_panic];exact hl.panic _ _ _ _ _ h (.iface t v vc hvc) hs (Ext.refl _ _ _)
 ·cases h
theorem As{defs:List pJ}{K:R->Bool}:∀ {L:List (AV×Heap)},l9 defs K L=true->∀ p ∈ L,K (.ok p.1 defs p.2)=true
 |[],_,p,hp=>by cases hp
 |q :: L,h,p,hp=>by
  simp only [l9,and_eq_true] at h;rcases mem_cons.1 hp with rfl|hp
  ·exact h.1
  ·exact As h.2 p hp
theorem Sa(hs:SR w0 μ s a w){x:Operand}{b:Bool}(ho:o.op = .next x b){next:Act->World->Prop}{Q:Exit->Act->World->Prop}(hl:FF w0 μ s a w o.dst K next Q)
  (h:GN x b P call s.env s.defs s.h K=true):o.wp P a w next Q:=by
 obtain ⟨L,hL,hh⟩:=fI h;obtain ⟨p,vc,w',μ',hp,hr,hv,hg,hx⟩:=Pm (P:=P) hs.fP (hs.eval x) hL o.type;have hrun:(execOp a.eval o).run P w = .ok (.value vc) w':=by simp [execOp,ho,hr]
 unfold Oper.wp;rw [hrun];exact hl.ok _ _ _ _ _ _ (As hh p hp) (hs.left o.dst hv hg hx.mono) hx
theorem BP(hs:SR w0 μ s a w)(hc:fV P call){next:Act->World->Prop}{Q:Exit->Act->World->Prop}(hl:FF w0 μ s a w o.dst K next Q)
  (h:jg o.op P call s.env s.defs s.h K=true):o.wp P a w next Q:=by
 cases ho:o.op<;>rw [ho] at h<;>simp only [jg] at h
 case call c=>exact R9 hs hc ho hl h
 case defer c=>exact Pq hs ho hl h
 case panic x=>exact Pr hs ho hl h
 case next x b=>exact Sa hs ho hl h
 all_goals exact Cw hs hl (call:=call) (by rw [ho];exact h)
structure zl (w0:World) (μ:Mu) (h:Heap) (w:World) (K:RS->Bool) (Q:Exit->Act->World->Prop):Prop where
 ok:∀ (s':St) (a':Act) (w':World) (μ':Mu),K (.ok s')=true->SR w0 μ' s' a' w'->Ext μ h w μ' s'.h w'->Q .normal a' w'
 panic:∀ (v:AV) (vc:Value) (s':St) (a':Act) (w':World) (μ':Mu),K (.panic v s')=true->VR w0 μ' v vc->SR w0 μ' s' a' w'->Ext μ h w μ' s'.h w'->Q (.panic [{ v:=vc,recovered:=false }]) a' w'
theorem zl.after{K:RS->Bool}{Q:Exit->Act->World->Prop}(hl:zl w0 μ h w K Q)(hx:Ext μ h w μ' h' w'):zl w0 μ' h' w' K Q:=
 ⟨fun s2 a2 w2 μ2 k2 r2 x2=>hl.ok s2 a2 w2 μ2 k2 r2 (hx.trans x2),fun v vc s2 a2 w2 μ2 k2 v2 r2 x2=>hl.panic v vc s2 a2 w2 μ2 k2 v2 r2 (hx.trans x2)⟩
theorem KJ{call:jQ}(hc:fV P call){ops:Array Oper}{K:RS->Bool}{Q:Exit->Act->World->Prop}:∀ (l:List Oper) (i:Nat) (s:St) (a:Act) (w:World) (μ:Mu),(∀ j o,l[j]?=some o->ops[i+j]?=some o) ->
  SR w0 μ s a w->(hl:zl w0 μ s.h w K Q)->m4 P call ops.toList l s K=true->wpOps P ops Q (range' i l.length) a w
 |[],i,s,a,w,μ,hi,hs,hl,h=>by
  simp only [length_nil,range'_zero,wpOps];exact hl.ok _ _ _ _ h hs (Ext.refl _ _ _)
 |o :: rest,i,s,a,w,μ,hi,hs,hl,h=>by
  have OO:ops[i]?=some o:=by simpa using hi 0 o rfl
  obtain ⟨env,n,defs,hp⟩:=s;simp only [length_cons,range'_succ,wpOps,OO];simp only [m4] at h
  have vr:∀ j o',rest[j]?=some o'->ops[i+1+j]?=some o':=fun j o' hj=>by
   have:=hi (j+1) o' (by simpa using hj)
   rwa [show i+1+j=i+(j+1) by omega]
  split at h
  ·rename_i hw;rw [lf hs.env hw,if_pos rfl];refine .inl (BP hs hc ⟨fun v jR h' a' w' μ' hK gC hx=>?_,fun v vc h' w' μ' hK hv gC hx=>?_⟩ h)
   ·exact KJ hc rest (i+1) _ a' w' μ' vr gC (hl.after hx) (k7 hK)
   ·exact hl.panic v vc _ a w' μ' hK hv gC hx
  ·rename_i hw;rw [lf hs.env hw];simp only [false_eq_true,if_false];have gC:=hs.left o.dst (h':=hp) VR.bI hs.fP (Mu.le.refl μ);exact KJ hc rest (i+1) ⟨mD env n o.dst bI,n,defs,hp⟩ _ w μ vr gC hl (k7 h)
  ·cases h
end
end Go.AM
namespace Go.AM
open List Nat Bool Option
open Go Go.RowKit
variable {op:Op}
section
variable {P:Program} {ρ ρ':Operand->AV}
theorem oJ{c:Call}(h:∀ x ∈ c.operands,ρ x = ρ' x):c.args.toList.map ρ=c.args.toList.map ρ':=
 map_congr_left fun x hx=>h x (by simp [Call.operands];exact .inr (by simpa using hx))
theorem Au{ps:Array (Nat×Operand)}(h:∀ x ∈ (ps.toList.map (·.2)).toArray,ρ x = ρ' x):(ps.toList.map fun p=>ρ p.2)=ps.toList.map fun p=>ρ' p.2:=
 map_congr_left fun p hp=>h p.2 (by simp;exact ⟨p.1,by simpa using hp⟩)
theorem FG{o:Option Operand}(h:∀ x ∈ o.toArray,ρ x = ρ' x):o.map ρ=o.map ρ':=by
 cases o with
 |none=>rfl
 |some x=>simp [h x (by simp)]
theorem Av(h:∀ x ∈ op.operands,ρ x = ρ' x):mF P ρ op=mF P ρ' op:=by
 cases op<;>simp only [Op.operands] at h<;>simp only [mF]
 case build t ps=>rw [Au h]
 case makeFunc fn first cap=>
  have h1:first.toList.map ρ=first.toList.map ρ':=map_congr_left fun x hx=>h x (by simp;exact .inl (by simpa using hx))
  have h2:cap.toList.map ρ=cap.toList.map ρ':=map_congr_left fun x hx=>h x (by simp;exact .inr (by simpa using hx));rw [h1,h2]
 case slice t x lo hi mx=>
  have h0:ρ x = ρ' x:=h x (by simp);have h1:lo.map ρ=lo.map ρ':=FG fun y hy=>h y (by simp only [Array.mem_append];exact .inl (.inl (.inr hy)));have h2:hi.map ρ=hi.map ρ':=FG fun y hy=>h y (by simp only [Array.mem_append];exact .inl (.inr hy));rw [h0,h1,h2]
 case call c=>simp only [oJ h]
 all_goals (first|rfl|(simp_all;done))
theorem Aw(h:∀ x ∈ op.operands,ρ x = ρ' x)(hp:Heap):mc P ρ hp op=mc P ρ' hp op:=by
 cases op<;>simp only [Op.operands] at h<;>simp only [mc]
 case call c=>simp only [oJ h]
 all_goals (first|rfl|(simp_all;done))
theorem xY(h:∀ x ∈ op.operands,ρ x = ρ' x):oE P ρ op=oE P ρ' op:=by
 cases op<;>simp only [Op.operands] at h<;>simp only [oE]
 case buildSlice t n ps=>rw [Au h]
 all_goals (first|rfl|(simp_all;done))
theorem wL(h:∀ x ∈ op.operands,ρ x = ρ' x)(hp:Heap)(K:AV->Heap->Bool):gN op P ρ hp K=gN op P ρ' hp K:=by
 cases hk:fo op with
 |pure=>rw [uD hk,uD hk,Av h]
 |read=>rw [qw hk,qw hk,Aw h]
 |alloc=>rw [ru hk,ru hk,xY h]
 |J9=>
  cases op<;>simp only [fo,reduceCtorEq] at hk<;>simp only [Op.operands] at h<;>simp only [gN]
  case call c=>simp only [sR,oJ h]
  all_goals (first|rfl|(simp_all;done))
theorem GX{env eC:Env}(h:∀ x ∈ op.operands,evalArg env x=evalArg eC x)(call:jQ)(defs:List pJ)(hp:Heap)(K:R->Bool) :
  jg op P call env defs hp K=jg op P call eC defs hp K:=by
 cases op<;>simp only [jg]
 case call c=>
  obtain ⟨zf,args,ts⟩:=c
  cases zf with
  |value f=>
   simp only [wE,BJ];have h1:=oJ (c:=⟨.value f,args,ts⟩) h;have h2:evalArg env f=evalArg eC f:=h f (by simp [Op.operands,Call.operands]);simp only at h1;rw [h2,h1]
  |invoke r m=>simp only [wE,pL];rw [wL h]
  |builtin b=>simp only [wE,pL];rw [wL h]
 case defer c=>
  obtain ⟨zf,args,ts⟩:=c
  cases zf with
  |value f=>
   simp only [xL];have h1:=oJ (c:=⟨.value f,args,ts⟩) h;have h2:evalArg env f=evalArg eC f:=h f (by simp [Op.operands,Call.operands]);simp only at h1;rw [h2,h1]
  |invoke r m=>rfl
  |builtin b=>rfl
 case panic x=>simp only [xM,h x (by simp [Op.operands])]
 case next x b=>simp only [GN,h x (by simp [Op.operands])]
 all_goals (simp only [pL];rw [wL h])
theorem Iu{hp:Heap}(hc:∀ b,hp.next<=b->hp.get b=none)(o:j5){v:AV}(h:mc P ρ hp op=some v):mc P ρ (hp.alloc o) op=some v:=by
 have key:∀ b o',hp.get b=some o'->(hp.alloc o).get b=some o':=fun b o' hb=>by
  rw [Heap.aV,if_neg (fun e=>by rw [e,hc _ (dL _)] at hb;cases hb)];exact hb
 cases op<;>simp only [mc,reduceCtorEq] at h ⊢
 case load t a=>
  obtain ⟨i,h1,h2⟩:=bind_eq_some_iff.1 h;refine bind_eq_some_iff.2 ⟨i,h1,?_⟩;unfold ag at h2 ⊢;split at h2
  ·rename_i b off hx;split at h2
   ·rename_i cs hb;simp only [key _ _ hb];exact h2
   ·cases h2
  ·rename_i hx;exact h2
  ·cases h2
 case lookup t x i ok=>
  obtain ⟨d,h1,h2⟩:=bind_eq_some_iff.1 h;refine bind_eq_some_iff.2 ⟨d,h1,?_⟩;unfold dR at h2 ⊢
  have he:∀ es,lZ (ρ x) hp=some es->lZ (ρ x) (hp.alloc o)=some es:=by
   intro es he;unfold lZ at he ⊢;split at he
   ·rename_i hx;exact he
   ·rename_i b hx;split at he
    ·rename_i xT ck hb;simp only [key _ _ hb];exact he
    ·cases he
   ·cases he
  split at h2
  ·cases h2
  ·rename_i es US;rw [he es US];exact h2
 case call c=>
  split at h
  ·split at h
   ·rename_i t l x e1 e2;obtain ⟨i,h1,h2⟩:=bind_eq_some_iff.1 h;refine bind_eq_some_iff.2 ⟨i,h1,?_⟩;unfold bW at h2 ⊢;split at h2<;>first|exact h2|skip
    ·split at h2
     ·rename_i b _ es ck hb;simp only [key _ _ hb];exact h2
     ·cases h2
   ·cases h
  ·cases h
mutual
theorem AV.beq_eq:∀ (x y:AV),AV.beq x y=true->x=y
 |.undef,y,h=>by cases y<;>simp_all [AV.beq]
 |.bool a,y,h=>by cases y<;>simp_all [AV.beq]
 |.int k a,y,h=>by cases y<;>simp_all [AV.beq]
 |.str a,y,h=>by cases y<;>simp_all [AV.beq]
 |.ez,y,h=>by cases y<;>simp_all [AV.beq]
 |.ptr a i,y,h=>by cases y<;>simp_all [AV.beq]
 |.dN a i,y,h=>by
  cases y<;>simp only [AV.beq,false_eq_true,and_eq_true,beq_iff_eq] at h;rw [AV.nK _ _ h.1,h.2]
 |.ax,y,h=>by cases y<;>simp_all [AV.beq]
 |.slice b i l s,y,h=>by cases y<;>simp_all [AV.beq]
 |.au a i l s,y,h=>by
  cases y<;>simp only [AV.beq,false_eq_true,and_eq_true,beq_iff_eq] at h;rw [AV.nK _ _ h.1.1.1,h.1.1.2,h.1.2,h.2]
 |.jP,y,h=>by cases y<;>simp_all [AV.beq]
 |.map a,y,h=>by cases y<;>simp_all [AV.beq]
 |.nu,y,h=>by cases y<;>simp_all [AV.beq]
 |.func f a b,y,h=>by
  cases y<;>simp only [AV.beq,false_eq_true,and_eq_true,beq_iff_eq] at h;rw [h.1.1,AV.nK _ _ h.1.2,AV.nK _ _ h.2]
 |.pY,y,h=>by cases y<;>simp_all [AV.beq]
 |.iface t v,y,h=>by
  cases y<;>simp only [AV.beq,false_eq_true,and_eq_true,beq_iff_eq] at h;rw [h.1,AV.beq_eq _ _ h.2]
 |.agg a,y,h=>by
  cases y<;>simp only [AV.beq,false_eq_true] at h;rw [AV.nK _ _ h]
 |.tuple a,y,h=>by
  cases y<;>simp only [AV.beq,false_eq_true] at h;rw [AV.nK _ _ h]
theorem AV.nK:∀ (xs ys:List AV),AV.xJ xs ys=true->xs=ys
 |[],ys,h=>by cases ys<;>simp_all [AV.xJ]
 |x :: xs,ys,h=>by
  cases ys<;>simp only [AV.xJ,false_eq_true,and_eq_true] at h;rw [AV.beq_eq _ _ h.1,AV.nK _ _ h.2]
end
theorem Iv{env:Env}{v:AV}{hp:Heap}(hk:fo op = .read)(h:sameAt P op env v hp=true):mc P (evalArg env) hp op=some v:=by
 unfold sameAt at h;rw [qw hk] at h;obtain ⟨v',h1,h2⟩:=fI h;rw [h1,AV.beq_eq _ _ h2]
end
end Go.AM
namespace Go.AM
open List Nat Bool Option
open Go Go.RowKit
variable {ops:List Oper}
theorem tg(acc:List Nat)(j:Nat):∀ (es:List Edge),(nw acc es).testBit j=true->∃ e ∈ es,Region.binds .any e=true/\(j=e.on\/(acc.getD e.on 0).testBit j=true)
 |[],h=>by simp [nw] at h
 |e :: es,h=>by
  simp only [nw] at h;split at h
  ·rename_i hb;simp only [testBit_or,or_eq_true,testBit_two_pow,decide_eq_true_eq] at h;rcases h with (h|h)|h
   ·exact ⟨e,by simp,hb,.inl h.symm⟩
   ·exact ⟨e,by simp,hb,.inr h⟩
   ·obtain ⟨e',h1,h2⟩:=tg acc j es h;exact ⟨e',by simp [h1],h2⟩
  ·obtain ⟨e',h1,h2⟩:=tg acc j es h;exact ⟨e',by simp [h1],h2⟩
theorem vY:∀ (os:List Oper) (acc:List Nat),∃ r,nx os acc=acc++r
 |[],acc=>⟨[],by simp [nx]⟩
 |o :: os,acc=>by
  obtain ⟨r,h⟩:=vY os (acc++[nw acc o.after.toList]);exact ⟨nw acc o.after.toList :: r,by simp [nx,h]⟩
theorem Cx:∀ (os:List Oper) (acc:List Nat) (k:Nat) (o:Oper),os[k]?=some o->(nx os acc)[acc.length+k]?=some (nw ((nx os acc).take (acc.length+k)) o.after.toList)
 |[],acc,k,o,h=>by simp at h
 |o' :: os,acc,k,o,h=>by
  simp only [nx]
  cases k with
  |zero=>
   simp at h;subst h;obtain ⟨r,hr⟩:=vY os (acc++[nw acc o'.after.toList]);rw [hr];simp
  |succ k=>
   have:=Cx os (acc++[nw acc o'.after.toList]) k o (by simpa using h);rw [length_append,length_singleton] at this;rw [show acc.length+(k+1)=acc.length+1+k by omega];exact this
theorem vZ:∀ (os:List Oper) (acc:List Nat),(nx os acc).length=acc.length+os.length
 |[],acc=>by simp [nx]
 |o :: os,acc=>by simp only [nx,vZ os];simp;omega
theorem Pt{i j:Nat}(h:pE (ni ops) i j=true):∃ o,ops[i]?=some o/\∃ e ∈ o.after.toList,Region.binds .any e=true/\(j=e.on\/pE (ni ops) e.on j=true):=by
 unfold pE at h;by_cases hi:i<ops.length
 ·have ho:ops[i]?=some ops[i]:=ep hi;have hm:=Cx ops [] i _ ho;simp only [length_nil,Nat.zero_add] at hm
  have hg:(ni ops).getD i 0=nw ((ni ops).take i) ops[i].after.toList:=by
   rw [getD_eq_getElem?_getD];show ((nx ops [])[i]?).getD 0=_;rw [hm];rfl
  rw [hg] at h;obtain ⟨e,h1,h2,h3⟩:=tg _ _ _ h;refine ⟨_,ho,e,h1,h2,?_⟩;rcases h3 with h3|h3
  ·exact .inl h3
  ·refine .inr ?_;unfold pE;rw [getD_eq_getElem?_getD,getElem?_take] at h3;split at h3
   ·rw [getD_eq_getElem?_getD];exact h3
   ·simp at h3
 ·have:(ni ops).getD i 0=0:=by
   rw [getD_eq_getElem?_getD,getElem?_eq_none (by unfold ni;rw [vZ];simp;omega)];rfl
  rw [this] at h;simp at h
def Pu(ms:List Nat)(S:Nat->Bool):Prop:=∀ i j,S i=true->pE ms i j=true->S j=true
def gO(bF:Array Bool)(k:Nat):Bool:=bF.getD k false
theorem Nr{ops:Array Oper}{bF:Array Bool}{i j:Nat}(hc:Pu (ni ops.toList) (gO bF))(hr:i ∈ Region.ready .any ops bF)(hb:pE (ni ops.toList) i j=true):gO bF j=true:=by
 obtain ⟨_,o,ho,he⟩:=mem_ready.1 hr;obtain ⟨o',oD,e,h1,h2,h3⟩:=Pt hb;rw [Array.getElem?_toList,ho] at oD;cases oD;have:=he e (by simpa using h1) h2;rcases h3 with rfl|h3
 ·exact this
 ·exact hc _ _ this h3
theorem xZ{bF:Array Bool}{i:Nat}(hi:i<bF.size)(k:Nat):gO (bF.setIfInBounds i true) k=(decide (k=i)||gO bF k):=by
 unfold gO;by_cases e:k=i
 ·subst e;simp [Array.getD,hi]
 ·simp [e,getD_set_ne false (fun q=>e q.symm)]
structure Dn where
 i:Nat
 o:Oper
 v:AV
 env:Env
 b:Nat
 al:Bool
noncomputable def fO(kI:Env)(n:Nat)(S:Nat->Bool):List Dn->Env
 |[]=>kI
 |d :: ds=>if S d.i then mD (fO kI n S ds) n d.o.dst d.v else fO kI n S ds
theorem GY{env:Env}{n:Nat}{dst:Option Tmp}{v:AV}{t:Nat}(h:dst≠some t):mD env n dst v t=env t:=by
 cases dst with
 |none=>rfl
 |some d=>
  have:t≠d:=fun e=>h (by rw [e]);simp only [mD];split
  ·simp [bO,this]
  ·rfl
theorem Ns{env:Env}{n:Nat}{x y:Option Tmp}{u v:AV}(h:∀ t,x=some t->y≠some t):mD (mD env n x u) n y v=mD (mD env n y v) n x u:=by
 cases x with
 |none=>rfl
 |some d=>cases y with
  |none=>rfl
  |some e=>
   have hne:d≠e:=fun q=>h d rfl (by rw [q]);simp only [mD];split<;>split<;>try rfl
   funext t;simp only [bO];split<;>split<;>try rfl
   rename_i h1 h2;exact absurd (h2▸h1) (by simpa using hne)
section
variable {kI:Env} {n:Nat} {S S':Nat->Bool}
theorem Cy{t:Nat}:∀ {pre ds:List Dn},(∀ x ∈ pre,S x.i=true->x.o.dst≠some t)->fO kI n S (pre++ds) t=fO kI n S ds t
 |[],ds,h=>rfl
 |x :: pre,ds,h=>by
  simp only [cons_append,fO];have ih:=Cy (pre:=pre) (ds:=ds) (fun y hy=>h y (by simp [hy]));split
  ·rename_i hx;rw [GY (h x (by simp) hx),ih]
  ·exact ih
theorem pN:∀ {ds:List Dn},(∀ x ∈ ds,S x.i=S' x.i)->fO kI n S ds=fO kI n S' ds
 |[],h=>rfl
 |x :: ds,h=>by
  simp only [fO];rw [h x (by simp),pN (ds:=ds) (fun y hy=>h y (by simp [hy]))]
theorem wM{t:Nat}:∀ {ds:List Dn},(∀ x ∈ ds,x.o.dst=some t->S x.i=true)->fO kI n S ds t=fO kI n (fun _=>true) ds t
 |[],h=>rfl
 |x :: ds,h=>by
  have ih:=wM (ds:=ds) (fun y hy=>h y (by simp [hy]));simp only [fO,if_true];by_cases hd:x.o.dst=some t
  ·rw [if_pos (h x (by simp) hd),hd];simp only [mD];split
   ·simp [bO]
   ·exact ih
  ·rw [GY hd];split
   ·rw [GY hd];exact ih
   ·exact ih
theorem FH{d:Dn}(hS:S d.i=false)(hS':∀ k,S' k=(decide (k=d.i)||S k)):∀ {pre ds:List Dn},(∀ x ∈ pre,x.i≠d.i)->(∀ x ∈ ds,x.i≠d.i)->(∀ x ∈ pre,∀ t,d.o.dst=some t->x.o.dst≠some t) ->
  fO kI n S' (pre++d :: ds)=mD (fO kI n S (pre++d :: ds)) n d.o.dst d.v
 |[],ds,h1,h2,h3=>by
  simp only [nil_append,fO];rw [if_pos (by rw [hS'];simp),if_neg (by rw [hS];simp),pN (S:=S') (S':=S) (fun x hx=>by rw [hS'];simp [h2 x hx])]
 |x :: pre,ds,h1,h2,h3=>by
  have ih:=FH hS hS' (pre:=pre) (ds:=ds) (fun y hy=>h1 y (by simp [hy])) h2 (fun y hy=>h3 y (by simp [hy]));simp only [cons_append,fO];have hx:S' x.i=S x.i:=by rw [hS'];simp [h1 x (by simp)]
  rw [hx];split
  ·rw [ih,Ns (h3 x (by simp))]
  ·exact ih
end
structure Nt (ops:List Oper) (ms:List Nat) (a b:Nat×Oper):Prop where
 ne:a.1≠b.1
 nb:pE ms a.1 b.1=false
 J9:rW a.2=true->pE ms b.1 a.1=true
 dd:∀ d,a.2.dst=some d->b.2.dst≠some d
 lb:∀ d,a.2.dst=some d->d ∈ p9 ops b.2->pE ms b.1 a.1=true
 la:∀ d,b.2.dst=some d->d ∈ p9 ops a.2->pE ms b.1 a.1=true
theorem Iw{ms:List Nat}{a b:Nat×Oper}(h:Ku ops ms a b=true):Nt ops ms a b:=by
 unfold Ku at h;simp only [and_eq_true,bne_iff_ne,ne_eq,not_eq_true',or_eq_true] at h;obtain ⟨h1,h2,h3,h4,h5⟩:=h;refine ⟨h1,h2,fun he=>h3.resolve_left (by simp [he]),fun d hd e=>?_,fun d hd hl=>?_,fun d hd hl=>?_⟩
 ·rw [hd,e] at h4;simp at h4
 ·rw [hd] at h4;simp only [and_eq_true,or_eq_true,not_eq_true'] at h4;exact h4.2.resolve_left (by simp [hl])
 ·rw [hd] at h5;simp only [or_eq_true,not_eq_true'] at h5;exact h5.resolve_left (by simp [hl])
theorem ya{ops:List Oper}{ms:List Nat}:∀ {L:List (Nat×Oper)},BL ops ms L=true->L.Pairwise (Nt ops ms)
 |[],h=>.nil
 |p :: ps,h=>by
  simp only [BL,and_eq_true,List.all_eq_true] at h;exact .cons (fun b hb=>Iw (h.1 b hb)) (ya h.2)
theorem yb{L:List (Nat×Oper)}:∀ {n:Nat},BM L n=true->∀ i,i<n->∃ p ∈ L,p.1=i
 |0,h,i,hi=>by omega
 |n+1,h,i,hi=>by
  simp only [BM,and_eq_true,List.any_eq_true,beq_iff_eq] at h;by_cases e:i=n
  ·subst e;exact h.1
  ·exact yb h.2 i (by omega)
theorem yc:∀ (os:List Oper) (k:Nat) (p:Nat×Oper),p ∈ uz os k->k<=p.1/\os[p.1-k]?=some p.2
 |[],k,p,h=>by cases h
 |o :: os,k,p,h=>by
  simp only [uz,mem_cons] at h;rcases h with rfl|h
  ·simp
  ·obtain ⟨h1,h2⟩:=yc os (k+1) p h;refine ⟨by omega,?_⟩;rw [show p.1-k=(p.1-(k+1))+1 by omega];simpa using h2
theorem Ax{ms El:List Nat}{L:List (Nat×Oper)}:∀ (n k:Nat) (p:Nat×Oper),p ∈ BK ms El L n k->p ∈ L
 |0,k,p,h=>(mem_filter.1 h).1
 |n+1,k,p,h=>by
  simp only [BK,mem_append] at h;rcases h with h|h|h
  ·exact (mem_filter.1 h).1
  ·exact (mem_filter.1 h).1
  ·exact Ax n (k+1) p h
theorem yd:∀ {os:List Oper} {k:Nat},BN os k=true->∀ i o,os[i]?=some o->∀ e ∈ o.after.toList,Region.binds .any e=true->e.on<k+i
 |[],k,h,i,o,ho=>by simp at ho
 |o' :: os,k,h,i,o,ho=>by
  simp only [BN,and_eq_true,List.all_eq_true,or_eq_true,not_eq_true',decide_eq_true_eq] at h;intro e he hb
  cases i with
  |zero=>
   simp at ho;subst ho;have:=(h.1 e he).resolve_left (by simp [hb]);omega
  |succ i=>
   have:=yd h.2 i o (by simpa using ho) e he hb;omega
structure r6 (ops:Array Oper) (ms:List Nat) (L:List (Nat×Oper)):Prop where
 ni:ms=ni ops.toList
 ta:L.Pairwise (Nt ops.toList ms)
 cover:∀ i,i<ops.size->∃ p ∈ L,p.1=i
 mem:∀ p ∈ L,ops[p.1]?=some p.2
 jq:∀ (i:Nat) (o:Oper),ops[i]?=some o->∀ e ∈ o.after.toList,Region.binds .any e=true->e.on<i
theorem KK{ops:Array Oper}{p:VK}(h:H9 ops.toList=some p):r6 ops p.ms p.L:=by
 unfold H9 at h;split at h
 ·rename_i hc;cases h;simp only [and_eq_true] at hc;obtain ⟨⟨h1,h2⟩,h3⟩:=hc;refine ⟨rfl,ya h2,fun i hi=>yb h3 i (by simpa using hi),fun q hq=>?_,fun i o ho e he hb=>?_⟩
  ·have:=yc _ _ _ (Ax _ _ _ hq);simpa using this.2
  ·have:=yd h1 i o (by simpa using ho) e he hb;omega
 ·cases h
theorem Ix{o:Oper}{env eC:Env}(h:∀ t ∈ p9 ops o,env t=eC t):∀ x ∈ o.op.operands,evalArg env x=evalArg eC x:=by
 intro x hx
 cases x with
 |tmp t=>
  apply h;simp only [p9,mem_append,mem_filterMap];exact .inl ⟨.tmp t,by simpa using hx,rfl⟩
 |const v=>rfl
 |global g=>rfl
 |func f=>rfl
theorem ye{o:Oper}{env eC:Env}(h:∀ t ∈ p9 ops o,env t=eC t):iU ops o env=iU ops o eC:=by
 unfold iU;split
 ·rfl
 ·rename_i j want hg;split
  ·rename_i g hj;split
   ·rename_i d hd;have:env d=eC d:=h d (by simp [p9,hg,hj,hd]);rw [this]
   ·rfl
  ·rfl
end Go.AM
namespace Go.AM
open List Nat Bool Option
open Go Go.RowKit
variable {p:Nat×Oper}
structure YB (P:Program) (ops:Array Oper) (μ:Mu) (h:Heap) (lg:List Read) (d:Dn):Prop where
 ex:∃ wb,iU ops.toList d.o d.env=some wb/\(wb=false->d.v=bI)/\(wb=true ->
  (fo d.o.op = .pure/\mF P (evalArg d.env) d.o.op=some d.v) \/
  (fo d.o.op = .read/\mc P (evalArg d.env) h d.o.op=some d.v/\(⟨d.i,d.o.op,d.env,d.v⟩:Read) ∈ lg) \/
  (fo d.o.op = .alloc/\d.al=true/\∃ k ob,oE P (evalArg d.env) d.o.op=some (k,ob)/\d.v=k.val d.b/\h.get d.b=some ob/\∀ kk,μ d.b≠some kk))
structure Sb where
 P:Program
 call:jQ
 ops:Array Oper
 ms:List Nat
 L:List (Nat×Oper)
 K:St->Bool
 w0:World
 μb:Mu
 hb:Heap
 wb:World
 kI:Env
 n:Nat
structure mP (C:Sb) (bF:Array Bool) (a:Act) (w:World) (μ:Mu) (dn:List Dn) (R:List (Nat×Oper)) (lg:List Read) (s:St):Prop where
 split:C.L=(dn.reverse.map fun d=>(d.i,d.o))++R
 run:fH C.P C.call C.ops.toList C.ms R lg s C.K=true
 FI:s.n=C.n
 KL:s.env=fO C.kI C.n (fun _=>true) dn
 size:bF.size=C.ops.size
 Sc:∀ i,gO bF i=true->∃ d ∈ dn,d.i=i
 El:∀ d ∈ dn,rW d.o=true->gO bF d.i=true
 closed:Pu C.ms (gO bF)
 env:Cv C.w0 μ (fO C.kI C.n (gO bF) dn) C.n a.tmps
 defs:xW C.w0 μ s.defs a.defers
 fP:Good C.w0 μ s.h w
 ext:Ext C.μb C.hb C.wb μ s.h w
 Sd:∀ pre d ds,dn=pre++d :: ds->d.env=fO C.kI C.n (fun _=>true) ds
 Se:∀ d ∈ dn,gO bF d.i=false->YB C.P C.ops μ s.h lg d
 KM:∀ d ∈ dn,d.al=true->C.hb.next<=d.b/\d.b<s.h.next
 sep:∀ d ∈ dn,∀ d' ∈ dn,d.i≠d'.i->d.al=true->d'.al=true->d.b≠d'.b
theorem Ext.O8{μb μ:Mu}{hb h:Heap}{wb w:World}(x:Ext μb hb wb μ h w){b n:Nat}(hn:hb.next<=b)(hμ:∀ k,μ b≠some k)(O:Obj):Ext μb hb wb (μ.add b ⟨w.heap.size,0,n⟩) h (w.alloc O):=by
 have hsz:(w.alloc O).heap.size=w.heap.size+1:=by show (w.heap.push O).size=_;simp
 refine ⟨x.mono.trans (Mu.ze hμ),fun k hk hne=>?_,fun b' k ff=>?_,by rw [hsz];have:=x.size;omega,x.next,x.gr,fun b' k ff=>?_,x.xR⟩
 ·rw [Below.heap_alloc w O k (Nat.lt_of_lt_of_le hk x.size)];exact x.frame k hk hne
 ·rw [Mu.jo] at ff;by_cases e:b'=b
  ·rw [if_pos e] at ff;cases ff;exact .inr (.inl x.size)
  ·rw [if_neg e] at ff;exact x.new b' k ff
 ·rw [Mu.jo] at ff;by_cases e:b'=b
  ·exact .inr (e▸hn)
  ·rw [if_neg e] at ff;exact x.fresh b' k ff
section
variable {C:Sb} {bF:Array Bool} {a:Act} {w:World} {μ:Mu} {dn:List Dn} {R:List (Nat×Oper)} {lg:List Read} {s:St}
theorem mP.ta(hp:r6 C.ops C.ms C.L)(hi:mP C bF a w μ dn R lg s) :
  dn.Pairwise (fun x y=>Nt C.ops.toList C.ms (y.i,y.o) (x.i,x.o))/\R.Pairwise (Nt C.ops.toList C.ms)/\∀ d ∈ dn,∀ r ∈ R,Nt C.ops.toList C.ms (d.i,d.o) r:=by
 have h:=hp.ta;rw [hi.split,pairwise_append,pairwise_map,pairwise_reverse] at h;exact ⟨h.1,h.2.1,fun d hd r hr=>h.2.2 _ (mem_map.2 ⟨d,by simpa using hd,rfl⟩) r hr⟩
theorem mP.fresh(hp:r6 C.ops C.ms C.L)(hi:mP C bF a w μ dn R lg s){r:Nat×Oper}(hr:r ∈ R):gO bF r.1=false/\∀ d ∈ dn,d.i≠r.1:=by
 have hne:∀ d ∈ dn,d.i≠r.1:=fun d hd=>((hi.ta hp).2.2 d hd r hr).ne;refine ⟨?_,hne⟩
 cases h:gO bF r.1 with
 |false=>rfl
 |true=>obtain ⟨d,hd,he⟩:=hi.Sc _ h;exact absurd he (hne d hd)
theorem mP.Pv(hp:r6 C.ops C.ms C.L)(hi:mP C bF a w μ dn (p :: R) lg s)(he:rW p.2=false):∃ Pw Nu s',mP C bF a w μ Pw R Nu s':=by
 obtain ⟨hf,hne⟩:=hi.fresh hp (r:=p) (by simp);obtain ⟨env,n,defs,BQ⟩:=s;have hrun:=hi.run;simp only [fH] at hrun
 have step:∀ (v:AV) (b:Nat) (al:Bool) (Nu:List Read) (h':Heap),fH C.P C.call C.ops.toList C.ms R Nu ⟨mD env n p.2.dst v,n,defs,h'⟩ C.K=true ->
   (∀ r ∈ lg,r ∈ Nu)->Good C.w0 μ h' w->Ext C.μb C.hb C.wb μ h' w->BQ.next<=h'.next->(∀ b' o,BQ.get b'=some o->h'.get b'=some o)->(∀ op v,mc C.P (evalArg env) BQ op=some v\/True) ->
   (∀ env op v,mc C.P (evalArg env) BQ op=some v->mc C.P (evalArg env) h' op=some v) ->
   YB C.P C.ops μ h' Nu ⟨p.1,p.2,v,env,b,al⟩->(al=true->b=BQ.next/\BQ.next<h'.next)->∃ Pw Nu s',mP C bF a w μ Pw R Nu s':=by
  intro v b al Nu h' hr hlg hg hx pF hget _ hrd YC hal;have VT:C.hb.next<=BQ.next:=hi.ext.next
  refine ⟨⟨p.1,p.2,v,env,b,al⟩ :: dn,Nu,⟨mD env n p.2.dst v,n,defs,h'⟩,?_⟩;refine ⟨by rw [hi.split];simp,hr,hi.FI,?_,hi.size,fun i h=>?_,fun d hd h=>?_,hi.closed,?_,hi.defs,hg,hx,fun pre d ds h=>?_,fun d hd h=>?_,fun d hd h=>?_,fun d hd d' r7 Sf h1 h2=>?_⟩
  ·show mD env n p.2.dst v=_;simp only [fO,if_true];have e1:n=C.n:=hi.FI;have e2:env=fO C.kI C.n (fun _=>true) dn:=hi.KL;rw [e2,e1]
  ·obtain ⟨d,hd,e⟩:=hi.Sc i h;exact ⟨d,by simp [hd],e⟩
  ·rcases mem_cons.1 hd with rfl|hd
   ·simp [he] at h
   ·exact hi.El d hd h
  ·have:fO C.kI C.n (gO bF) (⟨p.1,p.2,v,env,b,al⟩ :: dn)=fO C.kI C.n (gO bF) dn:=by
    simp only [fO];rw [if_neg (by rw [hf];simp)]
   rw [this];exact hi.env
  ·cases pre with
   |nil=>
    simp only [nil_append,List.cons.injEq] at h;obtain ⟨rfl,rfl⟩:=h;exact hi.KL
   |cons x pre=>
    simp only [cons_append,List.cons.injEq] at h;exact hi.Sd pre d ds h.2
  ·rcases mem_cons.1 hd with rfl|hd
   ·exact YC
   ·obtain ⟨wb,q1,q2,q3⟩:=(hi.Se d hd h).ex;refine ⟨wb,q1,q2,fun hw=>?_⟩;rcases q3 hw with q|⟨k1,k2,k3⟩|⟨k1,k2,k,ob,k3,k4,k5,k6⟩
    ·exact .inl q
    ·exact .inr (.inl ⟨k1,hrd _ _ _ k2,hlg _ k3⟩)
    ·exact .inr (.inr ⟨k1,k2,k,ob,k3,k4,hget _ _ k5,k6⟩)
  ·rcases mem_cons.1 hd with rfl|hd
   ·obtain ⟨e1,e2⟩:=hal h;show _<=b/\b<h'.next
    omega
   ·have:=hi.KM d hd h;exact ⟨this.1,Nat.lt_of_lt_of_le this.2 pF⟩
  ·rcases mem_cons.1 hd with rfl|hd
   ·rcases mem_cons.1 r7 with rfl|r7
    ·exact absurd rfl Sf
    ·have:d'.b<BQ.next:=(hi.KM d' r7 h2).2
     obtain ⟨e1,_⟩:=hal h1;show b≠d'.b;omega
   ·rcases mem_cons.1 r7 with rfl|r7
    ·have:d.b<BQ.next:=(hi.KM d hd h1).2
     obtain ⟨e1,_⟩:=hal h2;show d.b≠b;omega
    ·exact hi.sep d hd d' r7 Sf h1 h2
 split at hrun
 ·rename_i hw;split at hrun
  ·rename_i hk;rw [uD hk] at hrun;obtain ⟨v,hv,hK⟩:=fI hrun;have hK:=k7 hK;exact step v 0 false lg BQ hK (fun r h=>h) hi.fP hi.ext (dL _) (fun _ _ h=>h) (fun _ _=>.inr trivial) (fun _ _ _ h=>h) ⟨true,hw,by simp,fun _=>.inl ⟨hk,hv⟩⟩ (by simp)
  ·rename_i hk;rw [qw hk] at hrun;obtain ⟨v,hv,hK⟩:=fI hrun;have hK:=k7 hK;exact step v 0 false _ BQ hK (fun r h=>by simp [h]) hi.fP hi.ext (dL _) (fun _ _ h=>h) (fun _ _=>.inr trivial) (fun _ _ _ h=>h) ⟨true,hw,by simp,fun _=>.inr (.inl ⟨hk,hv,by simp⟩)⟩ (by simp)
  ·rename_i hk;rw [ru hk] at hrun;obtain ⟨⟨k,ob⟩,hv,hK⟩:=fI hrun;have hK:=k7 hK;obtain ⟨g1,g2⟩:=hi.fP.VN ob
   refine step (k.val BQ.next) BQ.next true lg (BQ.alloc ob) hK (fun r h=>h) g1 (hi.ext.trans g2) (le_succ _) (fun b' o h=>?_) (fun _ _=>.inr trivial) (fun _ _ _ h=>Iu hi.fP.clean ob h)
    ⟨true,hw,by simp,fun _=>.inr (.inr ⟨hk,rfl,k,ob,hv,rfl,by rw [Heap.aV,if_pos rfl],hi.fP.xS⟩)⟩ (fun _=>⟨rfl,lt_succ_self _⟩)
   rw [Heap.aV,if_neg (fun e=>by rw [e,hi.fP.clean _ (dL _)] at h;cases h)];exact h
  ·rename_i hk;simp [rW,hk] at he
 ·rename_i hw;exact step bI 0 false lg BQ (k7 hrun) (fun r h=>h) hi.fP hi.ext (dL _) (fun _ _ h=>h) (fun _ _=>.inr trivial) (fun _ _ _ h=>h) ⟨false,hw,by simp,by simp⟩ (by simp)
 ·cases hrun
theorem mP.advance(hp:r6 C.ops C.ms C.L):∀ (R:List (Nat×Oper)) (dn:List Dn) (lg:List Read) (s:St),mP C bF a w μ dn R lg s ->
  ∃ Pw R' Nu s',mP C bF a w μ Pw R' Nu s'/\(∀ p rest,R'=p :: rest->rW p.2=true)
 |[],dn,lg,s,hi=>⟨dn,[],lg,s,hi,by simp⟩
 |p :: R,dn,lg,s,hi=>by
  cases he:rW p.2 with
  |true=>exact ⟨dn,p :: R,lg,s,hi,fun q rest h=>by cases h;exact he⟩
  |false=>
   obtain ⟨Pw,Nu,s',h'⟩:=hi.Pv hp he;exact mP.advance hp R Pw Nu s' h'
theorem mP.agree(hp:r6 C.ops C.ms C.L)(hi:mP C bF a w μ dn R lg s){d:Dn}(hd:d ∈ dn)(hS:gO bF d.i=false)(hr:∀ j,pE C.ms d.i j=true->gO bF j=true) :
  ∀ t ∈ p9 C.ops.toList d.o,fO C.kI C.n (gO bF) dn t=d.env t:=by
 intro t ht;obtain ⟨pre,ds,rfl⟩:=append_of_mem hd;rw [hi.Sd pre d ds rfl];have VY:=(hi.ta hp).1;rw [pairwise_append] at VY;obtain ⟨_,Px,Sg⟩:=VY;rw [pairwise_cons] at Px;rw [Cy (fun x hx hSx YD=>?_)]
 ·simp only [fO];rw [if_neg (by rw [hS];simp)];refine wM fun x hx YD=>hr _ ?_;exact (Px.1 x hx).lb t YD ht
 ·have:=(Sg x hx d (by simp)).la t YD ht;have:=hi.closed _ _ hSx this;rw [hS] at this;cases this
theorem mP.Nv(hp:r6 C.ops C.ms C.L)(hi:mP C bF a w μ dn (p :: R) lg s)(hr:∀ j,pE C.ms p.1 j=true->gO bF j=true) :
  ∀ t ∈ p9 C.ops.toList p.2,fO C.kI C.n (gO bF) dn t=s.env t:=by
 intro t ht;rw [hi.KL];exact wM fun x hx YD=>hr _ (((hi.ta hp).2.2 x hx p (by simp)).lb t YD ht)
theorem mP.ran(hp:r6 C.ops C.ms C.L)(hi:mP C bF a w μ dn R lg s){d:Dn}(hd:d ∈ dn)(hS:gO bF d.i=false)(hlt:d.i<bF.size)(hr:∀ j,pE C.ms d.i j=true->gO bF j=true)
  {w':World} {μ':Mu} {vc:Value} (hm:μ.le μ') (hv:VR C.w0 μ' d.v vc) (hg:Good C.w0 μ' s.h w') (hx:Ext C.μb C.hb C.wb μ' s.h w')
  (pI:∀ d' ∈ dn,gO bF d'.i=false->d'.i≠d.i->d'.al=true->(∀ kk,μ d'.b≠some kk)->∀ kk,μ' d'.b≠some kk) :
  mP C (bF.setIfInBounds d.i true) (a.put d.o.dst vc) w' μ' dn R lg s:=by
 have me:=xZ hlt;refine ⟨hi.split,hi.run,hi.FI,hi.KL,by simpa using hi.size,fun i h=>?_,fun d' r7 h=>?_,fun i j h hb=>?_,?_,?_,hg,hx,hi.Sd,fun d' r7 h=>?_,hi.KM,hi.sep⟩
 ·rw [me] at h;simp only [or_eq_true,decide_eq_true_eq] at h;rcases h with rfl|h
  ·exact ⟨d,hd,rfl⟩
  ·exact hi.Sc i h
 ·rw [me,hi.El d' r7 h];simp
 ·rw [me] at h ⊢;simp only [or_eq_true,decide_eq_true_eq] at h ⊢;rcases h with rfl|h
  ·exact .inr (hr j hb)
  ·exact .inr (hi.closed i j h hb)
 ·obtain ⟨pre,ds,rfl⟩:=append_of_mem hd;have VY:=(hi.ta hp).1;rw [pairwise_append] at VY;obtain ⟨_,Px,Sg⟩:=VY;rw [pairwise_cons] at Px;rw [FH (S:=gO bF) (d:=d) hS (fun k=>me k) (fun x hx=>((Sg x hx d (by simp)).ne).symm) (fun x hx=>(Px.1 x hx).ne) (fun x hx t ht=>(Sg x hx d (by simp)).dd t ht),Act.It];exact (hi.env.mono hm).put d.o.dst hv
 ·rw [Act.Aq];exact hi.defs.mono hm
 ·rw [me] at h;simp only [or_eq_false_iff,decide_eq_false_iff_not] at h;obtain ⟨wb,q1,q2,q3⟩:=(hi.Se d' r7 h.2).ex;refine ⟨wb,q1,q2,fun hw=>?_⟩;rcases q3 hw with q|q|⟨k1,k2,k,ob,k3,k4,k5,k6⟩
  ·exact .inl q
  ·exact .inr (.inl q)
  ·exact .inr (.inr ⟨k1,k2,k,ob,k3,k4,k5,pI d' r7 h.2 h.1 k2 k6⟩)
theorem qd{P:Program}{ms:List Nat}{i:Nat}{h:Heap}:∀ {lg:List Read},jy P ms i h lg=true->∀ r ∈ lg,pE ms i r.i=false->sameAt P r.op r.env r.v h=true
 |[],hh,r,hr,hb=>by cases hr
 |r' :: lg,hh,r,hr,hb=>by
  simp only [jy] at hh;rcases mem_cons.1 hr with rfl|hr
  ·rw [if_neg (by rw [hb];simp)] at hh;simp only [and_eq_true] at hh;exact hh.1
  ·split at hh
   ·exact qd hh r hr hb
   ·simp only [and_eq_true] at hh;exact qd hh.2 r hr hb
theorem mP.U0(hp:r6 C.ops C.ms C.L)(hi:mP C bF a w μ dn (p :: R) lg s)(hlt:p.1<bF.size)(hr:∀ j,pE C.ms p.1 j=true->gO bF j=true)
  {a':Act} {w':World} {μ':Mu} {v:AV} {jR:List pJ} {h':Heap} (hrun:fH C.P C.call C.ops.toList C.ms R lg ⟨mD s.env s.n p.2.dst v,s.n,jR,h'⟩ C.K=true)
  (hs:SR C.w0 μ' ⟨mD (fO C.kI C.n (gO bF) dn) C.n p.2.dst v,C.n,jR,h'⟩ a' w') (hx:Ext μ s.h w μ' h' w')
  (hrd:∀ r ∈ lg,fo r.op = .read->pE C.ms p.1 r.i=false->mc C.P (evalArg r.env) s.h r.op=some r.v->mc C.P (evalArg r.env) h' r.op=some r.v) :
  mP C (bF.setIfInBounds p.1 true) a' w' μ' (⟨p.1,p.2,v,s.env,0,false⟩ :: dn) R lg ⟨mD s.env s.n p.2.dst v,s.n,jR,h'⟩:=by
 have me:=xZ hlt;obtain ⟨hf,hne⟩:=hi.fresh hp (r:=p) (by simp);refine ⟨by rw [hi.split];simp,hrun,hi.FI,?_,by simpa using hi.size,fun i h=>?_,fun d' r7 h=>?_,fun i j h hb=>?_,?_,hs.defs,hs.fP,hi.ext.trans hx,fun pre d ds h=>?_,fun d' r7 h=>?_,fun d' r7 h=>?_,fun d1 h1 d2 h2 Sf a1 a2=>?_⟩
 ·show mD s.env s.n p.2.dst v=_;simp only [fO,if_true];rw [hi.FI,hi.KL]
 ·rw [me] at h;simp only [or_eq_true,decide_eq_true_eq] at h;rcases h with rfl|h
  ·exact ⟨⟨p.1,p.2,v,s.env,0,false⟩,by simp,rfl⟩
  ·obtain ⟨d,hd,e⟩:=hi.Sc i h;exact ⟨d,by simp [hd],e⟩
 ·rw [me];rcases mem_cons.1 r7 with rfl|r7
  ·simp
  ·rw [hi.El d' r7 h];simp
 ·rw [me] at h ⊢;simp only [or_eq_true,decide_eq_true_eq] at h ⊢;rcases h with rfl|h
  ·exact .inr (hr j hb)
  ·exact .inr (hi.closed i j h hb)
 ·have:fO C.kI C.n (gO (bF.setIfInBounds p.1 true)) (⟨p.1,p.2,v,s.env,0,false⟩ :: dn)=mD (fO C.kI C.n (gO bF) dn) C.n p.2.dst v:=by
   simp only [fO];rw [if_pos (by rw [me];simp),pN (S':=gO bF) (fun x hx=>by rw [me];simp [hne x hx])]
  rw [this];exact hs.env
 ·cases pre with
  |nil=>
   simp only [nil_append,List.cons.injEq] at h;obtain ⟨rfl,rfl⟩:=h;exact hi.KL
  |cons x pre=>
   simp only [cons_append,List.cons.injEq] at h;exact hi.Sd pre d ds h.2
 ·rw [me] at h;simp only [or_eq_false_iff,decide_eq_false_iff_not] at h;rcases mem_cons.1 r7 with rfl|r7
  ·exact absurd rfl h.1
  ·obtain ⟨wb,q1,q2,q3⟩:=(hi.Se d' r7 h.2).ex;refine ⟨wb,q1,q2,fun hw=>?_⟩;rcases q3 hw with q|⟨k1,k2,k3⟩|⟨k1,k2,k,ob,k3,k4,k5,k6⟩
   ·exact .inl q
   ·refine .inr (.inl ⟨k1,hrd _ k3 k1 ?_ k2,k3⟩)
    cases hb:pE C.ms p.1 d'.i with
    |false=>rfl
    |true=>have:=hr _ hb;rw [h.2] at this;cases this
   ·have hb:=hi.KM d' r7 k2;refine .inr (.inr ⟨k1,k2,k,ob,k3,k4,?_,fun kk hk=>?_⟩)
    ·show h'.get d'.b=some ob;rw [hx.gr _ hb.2 k6];exact k5
    ·rcases hx.fresh _ kk hk with e|e
     ·exact k6 kk e
     ·omega
 ·rcases mem_cons.1 r7 with rfl|r7
  ·cases h
  ·have:=hi.KM d' r7 h;exact ⟨this.1,Nat.lt_of_lt_of_le this.2 hx.next⟩
 ·rcases mem_cons.1 h1 with rfl|h1
  ·cases a1
  ·rcases mem_cons.1 h2 with rfl|h2
   ·cases a2
   ·exact hi.sep d1 h1 d2 h2 Sf a1 a2
end
end Go.AM
namespace Go.AM
open List Nat Bool Option
open Go Go.RowKit
variable {bF:Array Bool}
def Ay(bF:Array Bool):Nat:=((List.range bF.size).filter fun i=>!gO bF i).length
theorem filter_lt{α:Type}(p q:α->Bool)(hpq:∀ x,q x=true->p x=true):∀ (l:List α) (x:α),x ∈ l->p x=true->q x=false->(l.filter q).length<(l.filter p).length
 |[],x,h,_,_=>by cases h
 |y :: l,x,h,h1,h2=>by
  have le:∀ l:List α,(l.filter q).length<=(l.filter p).length:=by
   intro l
   induction l with
   |nil=>simp
   |cons z l ih=>
    simp only [filter_cons];by_cases hq:q z=true
    ·rw [if_pos hq,if_pos (hpq z hq)];simp;exact ih
    ·rw [if_neg hq];split
     ·simp;omega
     ·exact ih
  simp only [filter_cons];rcases mem_cons.1 h with rfl|h
  ·rw [if_pos h1,if_neg (by rw [h2];simp)];have:=le l;simp;omega
  ·have ih:=filter_lt p q hpq l x h h1 h2;by_cases hq:q y=true
   ·rw [if_pos hq,if_pos (hpq y hq)];simp;exact ih
   ·rw [if_neg hq];split
    ·simp;omega
    ·exact ih
theorem Nw{i:Nat}(hi:i<bF.size)(h:gO bF i=false):Ay (bF.setIfInBounds i true)<Ay bF:=by
 unfold Ay;rw [Array.size_setIfInBounds];refine filter_lt _ _ (fun x hx=>?_) _ i (by simpa using hi) (by simp [h]) (by rw [xZ hi];simp);rw [xZ hi] at hx;simp only [not_eq_true',or_eq_false_iff] at hx;simp [hx.2]
theorem KN(h:Ay bF=0):∀ i,i<bF.size->gO bF i=true:=by
 intro i hi;unfold Ay at h;have:=eq_nil_of_length_eq_zero h;rw [filter_eq_nil_iff] at this;simpa using this i (by simpa using hi)
theorem Nx{ops:Array Oper}(hs:bF.size=ops.size)(he:∀ (i:Nat) (o:Oper),ops[i]?=some o->∀ e ∈ o.after.toList,Region.binds .any e=true->e.on<i)(h:Region.ready .any ops bF = []) :
  ∀ i,i<ops.size->gO bF i=true:=by
 intro i
 induction i using Nat.strongRecOn with
 |ind i ih=>
  intro hi
  cases hl:gO bF i with
  |true=>rfl
  |false=>
   exfalso;have ho:ops[i]?=some ops[i]:=by simp [hi]
   have:i ∈ Region.ready .any ops bF:=by
    refine mem_ready.2 ⟨?_,_,ho,fun e Ny hb=>?_⟩
    ·have:=hl;unfold gO at this;simp only [Array.getD_eq_getD_getElem?] at this ⊢;rw [Array.getElem?_eq_getElem (by omega)] at this ⊢;simpa using this
    ·have:=he i _ ho e (by simpa using Ny) hb;exact ih e.on this (by omega)
   rw [h] at this;cases this
section
variable {C:Sb} {bF:Array Bool} {a:Act} {w:World} {μ:Mu} {dn:List Dn} {R:List (Nat×Oper)} {lg:List Read} {s:St}
theorem mP.done(hp:r6 C.ops C.ms C.L)(hi:mP C bF a w μ dn R lg s)(lY:∀ i,i<C.ops.size->gO bF i=true):C.K s=true/\SR C.w0 μ s a w/\Ext C.μb C.hb C.wb μ s.h w:=by
 have hR:R = []:=by
  cases R with
  |nil=>rfl
  |cons p R=>
   have hm:p ∈ C.L:=by rw [hi.split];simp
   have hlt:=(Array.getElem?_eq_some_iff.1 (hp.mem p hm)).1;have:=(hi.fresh hp (r:=p) (by simp)).1;rw [lY _ hlt] at this;cases this
 subst hR;have hrun:=hi.run;simp only [fH] at hrun;refine ⟨hrun,⟨?_,hi.defs,hi.fP⟩,hi.ext⟩
 have:fO C.kI C.n (gO bF) dn=s.env:=by
  rw [hi.KL];refine pN fun x hx=>?_;have hm:(x.i,x.o) ∈ C.L:=by rw [hi.split];simp;exact ⟨x,hx,rfl,rfl⟩
  exact lY _ (Array.getElem?_eq_some_iff.1 (hp.mem _ hm)).1
 have he:=hi.env;rw [this] at he;rw [hi.FI];exact he
theorem KO(hp:r6 C.ops C.ms C.L)(hc:fV C.P C.call){Q:Exit->Act->World->Prop}(hQ:∀ s' a' w' μ',C.K s'=true->SR C.w0 μ' s' a' w'->Ext C.μb C.hb C.wb μ' s'.h w'->Q .normal a' w') :
  ∀ (fuel:Nat) (bF:Array Bool) (a:Act) (w:World) (μ:Mu) (dn:List Dn) (R:List (Nat×Oper)) (lg:List Read) (s:St),mP C bF a w μ dn R lg s->Ay bF<=fuel->wpAny C.P .any C.ops Q fuel bF a w:=by
 have fin:∀ (bF:Array Bool) (a:Act) (w:World) (μ:Mu) (dn:List Dn) (R:List (Nat×Oper)) (lg:List Read) (s:St),mP C bF a w μ dn R lg s->Region.ready .any C.ops bF = []->Q .normal a w:=by
  intro bF a w μ dn R lg s hi hr;obtain ⟨h1,h2,h3⟩:=hi.done hp (Nx hi.size hp.jq hr);exact hQ _ _ _ _ h1 h2 h3
 intro fuel
 induction fuel with
 |zero=>
  intro bF a w μ dn R lg s hi hl;have lY:=KN (le_zero.1 hl)
  have hr:Region.ready .any C.ops bF = []:=by
   cases h:Region.ready .any C.ops bF with
   |nil=>rfl
   |cons i l=>
    have hm:i ∈ Region.ready .any C.ops bF:=(by rw [h];simp);obtain ⟨h1,o,ho,_⟩:=mem_ready.1 hm;have hlt:=(Array.getElem?_eq_some_iff.1 ho).1;have:=lY i (by rw [hi.size];exact hlt);unfold gO at this;simp only [Array.getD_eq_getD_getElem?] at this h1;rw [Array.getElem?_eq_getElem (by rw [hi.size];exact hlt)] at this h1;simp at this h1;rw [this] at h1;cases h1
  exact ⟨hr,fin _ _ _ _ _ _ _ _ hi hr⟩
 |succ fuel ih=>
  intro bF a w μ dn R lg s hi0 hl;refine ⟨fin _ _ _ _ _ _ _ _ hi0,fun i Ny=>?_⟩;obtain ⟨dn,R,lg,s,hi,U1⟩:=hi0.advance hp;obtain ⟨h1,o,ho,_⟩:=mem_ready.1 Ny;have hlt:i<C.ops.size:=(Array.getElem?_eq_some_iff.1 ho).1;have Iy:i<bF.size:=by rw [hi.size];exact hlt
  have hS:gO bF i=false:=by
   unfold gO;simp only [Array.getD_eq_getD_getElem?] at h1 ⊢;rw [Array.getElem?_eq_getElem Iy] at h1 ⊢;simpa using h1
  have hr:∀ j,pE C.ms i j=true->gO bF j=true:=fun j hb=>by
   rw [hp.ni] at hb;exact Nr (by rw [<- hp.ni];exact hi.closed) Ny hb
  have Cq:Ay (bF.setIfInBounds i true)<=fuel:=by have:=Nw Iy hS;omega
  obtain ⟨p,hpL,Sh⟩:=hp.cover i hlt;have VZ:=hp.mem p hpL;rw [Sh,ho] at VZ;obtain ⟨pi,po⟩:=p;simp only at Sh VZ;obtain rfl:=Sh;obtain rfl:=Option.some.inj VZ;have hρ:∀ x,VR C.w0 μ (evalArg (fO C.kI C.n (gO bF) dn) x) (a.eval x):=SR.eval (s:=⟨fO C.kI C.n (gO bF) dn,C.n,s.defs,s.h⟩) ⟨hi.env,hi.defs,hi.fP⟩;have Py:∀ b,iU C.ops.toList o (fO C.kI C.n (gO bF) dn)=some b->Region.wanted o (yielded C.ops a.tmps)=b:=fun b hb=>lf (s:=⟨fO C.kI C.n (gO bF) dn,C.n,s.defs,s.h⟩) hi.env hb;unfold wpOp;simp only [ho];rw [hi.split,mem_append,mem_map] at hpL;rcases hpL with ⟨d,hd,RC⟩|hpR
  ·
   rw [mem_reverse] at hd;simp only [Prod.mk.injEq] at RC;obtain ⟨rfl,rfl⟩:=RC;have xF:=hi.agree hp hd hS hr;have Pz:∀ x ∈ d.o.op.operands,evalArg (fO C.kI C.n (gO bF) dn) x=evalArg d.env x:=Ix xF;obtain ⟨wb,q1,q2,q3⟩:=(hi.Se d hd hS).ex;rw [<- ye xF] at q1;rw [Py wb q1]
   cases wb with
   |false=>
    simp only [false_eq_true,if_false];have vr:=hi.ran hp hd hS Iy hr (Mu.le.refl μ) (vc:=undef) (by rw [q2 rfl];exact VR.bI) hi.fP hi.ext (fun _ _ _ _ _ h=>h);exact ih _ _ _ _ _ _ _ _ vr Cq
   |true=>
    rw [if_pos rfl];refine .inl ?_;rcases q3 rfl with ⟨k1,k2⟩|⟨k1,k2,k3⟩|⟨k1,k2,k,ob,k3,k4,k5,k6⟩
    ·rw [<- Av Pz] at k2;obtain ⟨vc,e1,e2⟩:=Ik hρ k1 k2;unfold Oper.wp;rw [e1 w,Oper.upon_value];exact ih _ _ _ _ _ _ _ _ (hi.ran hp hd hS Iy hr (Mu.le.refl μ) e2 hi.fP hi.ext (fun _ _ _ _ _ h=>h)) Cq
    ·rw [<- Aw Pz] at k2;obtain ⟨vc,e1,e2⟩:=Io hi.fP hρ k1 k2;unfold Oper.wp;rw [e1,Oper.upon_value];exact ih _ _ _ _ _ _ _ _ (hi.ran hp hd hS Iy hr (Mu.le.refl μ) e2 hi.fP hi.ext (fun _ _ _ _ _ h=>h)) Cq
    ·rw [<- xY Pz] at k3;obtain ⟨O,n,f,hm⟩:=FD (w0:=C.w0) (μ:=μ) hρ k1 k3;have hb:=hi.KM d hd k2;have Mq:=hi.fP.O8 hb.2 k6 k5 O n (hm.obj _);have fK:=hi.ext.O8 (n:=n) hb.1 k6 O;unfold Oper.wp;rw [hm.run w,Oper.upon_value];refine ih _ _ _ _ _ _ _ _ (hi.ran hp hd hS Iy hr (Mu.ze k6) (by rw [k4];exact hm.val _ _ _ (Mu.add_same _ _ _)) Mq fK (fun d' r7 _ hne hal hun kk hk=>?_)) Cq;rw [Mu.jo] at hk;have:d'.b≠d.b:=hi.sep d' r7 d hd hne hal k2;rw [if_neg this] at hk;exact hun kk hk
  ·
   have hRp:∃ rest,R=(pi,o) :: rest:=by
    cases R with
    |nil=>cases hpR
    |cons q rest=>
     rcases mem_cons.1 hpR with e|hq
     ·exact ⟨rest,by rw [e]⟩
     ·exfalso;have nU:=(hi.ta hp).2.1;rw [pairwise_cons] at nU;have hb:=(nU.1 _ hq).J9 (U1 q rest rfl);have h2:=hr _ hb;have:=(hi.fresh hp (r:=q) (by simp)).1;rw [h2] at this;cases this
   obtain ⟨rest,rfl⟩:=hRp;have V1:=U1 _ _ rfl
   have hk:fo o.op = .J9:=by
    unfold rW at V1;simp only at V1;cases hk:fo o.op<;>simp [hk] at V1;rfl
   have xF:=hi.Nv hp hr;have Pz:∀ x ∈ o.op.operands,evalArg (fO C.kI C.n (gO bF) dn) x=evalArg s.env x:=Ix (ops:=C.ops.toList) xF;obtain ⟨ait,ns,U2,XI⟩:=s;have hrun:=hi.run;simp only [fH] at hrun;rw [<- ye (ops:=C.ops.toList) xF] at hrun;split at hrun
   ·rename_i hw;rw [Py _ hw,if_pos rfl];simp only [hk] at hrun;rw [<- GX Pz] at hrun;refine .inl ?_;have qX:SR C.w0 μ ⟨fO C.kI C.n (gO bF) dn,C.n,U2,XI⟩ a w:=⟨hi.env,hi.defs,hi.fP⟩
    refine BP qX hc ⟨fun v jR h' a' w' μ' hK gC hx=>?_,fun v vc h' w' μ' hK _ _ _=>by cases hK⟩ hrun;simp only at hK;split at hK
    ·rename_i hsr;refine ih _ _ _ _ _ _ _ _ (hi.U0 hp Iy hr (k7 hK) gC hx (fun r rY V2 hb hv=>?_)) Cq;exact Iv V2 (qd hsr r rY hb)
    ·cases hK
   ·rename_i hw;rw [Py _ hw];simp only [false_eq_true,if_false];have qX:SR C.w0 μ ⟨fO C.kI C.n (gO bF) dn,C.n,U2,XI⟩ a w:=⟨hi.env,hi.defs,hi.fP⟩
    have Mr:=qX.left o.dst (h':=XI) VR.bI hi.fP (Mu.le.refl μ);exact ih _ _ _ _ _ _ _ _ (hi.U0 hp Iy hr (v:=bI) (k7 hrun) Mr (Ext.refl _ _ _) (fun r _ _ _ hv=>hv)) Cq
   ·cases hrun
end
theorem Ms{P:Program}{w0 w:World}{μ:Mu}{s:St}{a:Act}(hm:P.follows .mixedOrders=true){call:jQ}(hc:fV P call){id:Nat}{ops:Array Oper}{Iz:VK}(hp:H9 ops.toList=some Iz){K:St->Bool}
  {Q:Exit->Act->World->Prop} (hs:SR w0 μ s a w) (hQ:∀ s' a' w' μ',K s'=true->SR w0 μ' s' a' w'->Ext μ s.h w μ' s'.h w'->Q .normal a' w')
  (h:fH P call ops.toList Iz.ms Iz.L [] s K=true):(Code.region id ops true).wp P Q a w:=by
 refine wp_region_any hm ?_
 let C:Sb:=⟨P,call,ops,Iz.ms,Iz.L,K,w0,μ,s.h,w,s.env,s.n⟩
 have sX:r6 C.ops C.ms C.L:=KK hp
 have hin:∀ k,gO (Array.replicate ops.size false) k=false:=fun k=>by
  unfold gO;simp only [Array.getD_eq_getD_getElem?,Array.getElem?_replicate];split<;>rfl
 have hi:mP C (Array.replicate ops.size false) a { w with drawn:=w.drawn+1 } μ [] Iz.L [] s:=by
  refine ⟨rfl,h,rfl,rfl,by simp [C],fun i hh=>?_,by simp,fun i j hh=>?_,hs.env,hs.defs,hs.fP.same rfl rfl rfl rfl,?_,by simp,by simp,by simp,by simp⟩
  ·rw [hin] at hh;cases hh
  ·rw [hin] at hh;cases hh
  ·exact ⟨Mu.le.refl μ,fun _ _ _=>rfl,fun _ _ h=>.inl h,dL _,dL _,fun _ _ _=>rfl,fun _ _ h=>.inl h,fun _ _ h=>.inl h⟩
 refine KO sX hc hQ _ _ _ _ _ _ _ _ _ hi ?_;unfold Ay;refine Nat.le_trans (length_filter_le _ _) ?_;simp [C]
end Go.AM