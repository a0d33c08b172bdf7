/- Parts of the proof. Conditions: none. -/
import Derived.Test.YtfdanacohcffmaaGreatKd7
import Derived.Defers
import Derived.Orders
set_option linter.unusedSimpArgs false
set_option linter.unusedVariables false
namespace Go.AM
open List Nat Bool Option
open Go Go.RowKit
variable {K:R->Bool} {call:jS} {o:Oper} {w':World} {v:AV}
structure aeD (w0:World) (μ:Mu) (d:qh) (D:Deferred):Prop where
 ex:∃ cap args:List Value,D = { target:=.fn (.func d.f) cap.toArray,args:=args.toArray }/\ep w0 μ d.args args/\ep w0 μ d.cap cap
inductive yI (w0:World) (μ:Mu):List qh->List Deferred->Prop where
 |nil:yI w0 μ [] []
 |cons {d:qh} {D:Deferred} {ds:List qh} {Ds:List Deferred} (h:aeD w0 μ d D) (t:yI w0 μ ds Ds):yI w0 μ (d :: ds) (D :: Ds)
def CY(w0:World)(μ:Mu)(env:Env)(n:Nat)(tmps:Array Value):Prop:=tmps.size=n/\∀ t,VR w0 μ (env t) (tmps.getD t undef)
structure SR (w0:World) (μ:Mu) (s:St) (a:Act) (w:World):Prop where
 env:CY w0 μ s.env s.n a.tmps
 defs:yI w0 μ s.defs a.defers
 fV:Good w0 μ s.h w
section
variable {P:Program} {w0 w:World} {μ μ':Mu} {h h':Heap} {s:St} {a:Act}
theorem yI.mono(hm:μ.le μ'){ds:List qh}{Ds:List Deferred}(h:yI w0 μ ds Ds):yI w0 μ' ds Ds:=by
 induction h with
 |nil=>exact .nil
 |cons h t ih=>obtain ⟨c,x,e,a,b⟩:=h;exact .cons ⟨c,x,e,a.mono hm,b.mono hm⟩ ih
theorem CY.mono(hm:μ.le μ'){env:Env}{n:Nat}{tmps:Array Value}(h:CY w0 μ env n tmps):CY w0 μ' env n tmps:=⟨h.1,fun t=>(h.2 t).mono hm⟩
theorem bL(env:Env)(d:Nat)(v:AV)(t:Nat):aa env d v t=if t=d then v else env t:=by
 unfold aa
 cases h:Nat.beq t d with
 |true=>rw [if_pos (eq_of_beq_eq_true h)]
 |false=>rw [if_neg (ne_of_beq_eq_false h)]
theorem lu{env:Env}{n:Nat}{dst:Option Tmp}{k:Env->Bool}(h:iF env n dst v k=true):k (mQ env n dst v)=true:=by
 cases dst with
 |none=>exact h
 |some d=>
  simp only [iF] at h;simp only [mQ]
  cases hb:ble (d+1) n with
  |false=>rw [hb] at h;cases h
  |true=>
   rw [hb] at h;have:d<n:=le_of_ble_eq_true hb;rw [if_pos this];exact h
theorem CY.put{env:Env}{n:Nat}{tmps:Array Value}(h:CY w0 μ env n tmps)(dst:Option Tmp){vc:Value}(hv:VR w0 μ v vc):CY w0 μ (mQ env n dst v) n (match dst with|some d=>tmps.setIfInBounds d vc|none=>tmps):=by
 cases dst with
 |none=>exact h
 |some d=>
  refine ⟨by simpa using h.1,fun t=>?_⟩;have ht:=h.2 t;simp only [mQ];by_cases hd:d<n
  ·rw [if_pos hd];rw [bL];by_cases e:t=d
   ·subst e;rw [if_pos rfl];have:(tmps.setIfInBounds t vc).getD t undef=vc:=by simp [Array.getD,show t<tmps.size by rw [h.1];exact hd]
    rw [this];exact hv
   ·rw [if_neg e]
    have:(tmps.setIfInBounds d vc).getD t undef=tmps.getD t undef:=by
     simp only [Array.getD_eq_getD_getElem?];rw [Array.getElem?_setIfInBounds_ne (fun q=>e q.symm)]
    rw [this];exact ht
  ·rw [if_neg hd];have:(tmps.setIfInBounds d vc)=tmps:=Array.setIfInBounds_eq_of_size_le (h.1▸Nat.le_of_not_lt hd);rw [this];exact ht
theorem Act.I8(a:Act)(dst:Option Tmp)(v:Value):(a.put dst v).tmps=(match dst with|some d=>a.tmps.setIfInBounds d v|none=>a.tmps):=by cases dst<;>rfl
theorem Act.AZ(a:Act)(dst:Option Tmp)(v:Value):(a.put dst v).defers=a.defers:=by cases dst<;>rfl
theorem SR.left(hs:SR w0 μ s a w)(dst:Option Tmp){vc:Value}(hv:VR w0 μ' v vc)(hg:Good w0 μ' h' w')(hm:μ.le μ'):SR w0 μ' (s.WQ h' dst v) (a.put dst vc) w':=
 ⟨by rw [Act.I8];exact (hs.env.mono hm).put dst hv,by rw [Act.AZ];exact hs.defs.mono hm,hg⟩
theorem SR.Zt(hs:SR w0 μ s a w)(hg:Good w0 μ' h' w')(hm:μ.le μ'):SR w0 μ' ⟨s.env,s.n,s.defs,h'⟩ a w':=
 ⟨hs.env.mono hm,hs.defs.mono hm,hg⟩
theorem SR.eval(hs:SR w0 μ s a w):∀ x,VR w0 μ (evalArg s.env x) (a.eval x):=by
 intro x
 cases x with
 |tmp t=>exact hs.env.2 t
 |const v=>exact VR.ofConst v
 |global g=>exact .undef _
 |func f=>exact .func f [] [] [] [] rfl rfl (by simp) (by simp)
theorem lF(hs:CY w0 μ s.env s.n a.tmps){ops:Array Oper}{b:Bool}(h:iW ops.toList o s.env=some b):Region.wanted o (yielded ops a.tmps)=b:=by
 unfold iW at h;unfold Region.wanted;split at h
 ·rename_i hg;rw [hg];simpa using h
 ·rename_i j want hg;rw [hg];simp only;split at h
  ·rename_i g hj;split at h
   ·rename_i d hd;have Hw:ops[j]?=some g:=by rw [Array.getElem?_toList] at hj;exact hj
    have ht:=hs.2 d
    have key:∀ v:Value,VR w0 μ (s.env d) v->v=a.tmps.getD d undef->(yielded ops a.tmps j==some want)=b:=by
     intro v hv he;unfold yielded;simp only [Hw,bind_some,hd];split at h
     ·rename_i b' hb;rw [hb] at hv;cases h;rw [hv.iK] at he;by_cases hlt:d<a.tmps.size
      ·have:a.tmps[d]?=some (.bool b'):=by
        simp [Array.getD,hlt] at he;simp [hlt,he]
       rw [this];simp
      ·simp [Array.getD,hlt,undef] at he
     ·rename_i vs hb;rw [hb] at hv;cases h;obtain ⟨us,rfl,_⟩:=hv.FY;by_cases hlt:d<a.tmps.size
      ·have:a.tmps[d]?=some (.tuple us.toArray):=by
        simp [Array.getD,hlt] at he;simp [hlt,he]
       rw [this];simp
      ·have:a.tmps[d]?=none:=Array.getElem?_eq_none (Nat.le_of_not_lt hlt);rw [this];simp
     ·cases h
    exact key _ ht rfl
   ·cases h
  ·cases h
def zT(w0:World)(μ:Mu)(h:Heap)(w:World)(K:Out->Heap->Bool):Ending->World->Prop
 |.returned vc,w'=>∃ v h' μ',K (.ret v) h'=true/\VR w0 μ' v vc/\Good w0 μ' h' w'/\Ext μ h w μ' h' w'
 |.panicked chain,w'=>∃ v vc h' μ',K (.panic v) h'=true/\chain = [{ v:=vc,recovered:=false }]/\VR w0 μ' v vc/\Good w0 μ' h' w'/\Ext μ h w μ' h' w'
 |.outgrown,_=>False
def Enters(P:Program)(f:FuncId):Prop:=∃ fn c,P.funcs[f]?=some fn/\fn.body=some c/\fn.name≠ "runtime.NumGoroutine"
theorem yJ{f:FuncId}(he:Enters P f)(args:Array Value):(callFunc f args).run P w = .ok (.enter f args) w:=by
 obtain ⟨fn,c,h1,h2,h3⟩:=he;simp [callFunc,h1,h2,h3]
def fZ(P:Program)(call:jS):Prop:=
 ∀ f args h K,call f args h K=true->Enters P f/\∀ (w0:World) (μ:Mu) (w:World) (vs:List Value),Good w0 μ h w->ep w0 μ args vs->Calls P f vs.toArray w (zT w0 μ h w K)
structure F9 (w0:World) (μ:Mu) (s:St) (a:Act) (w:World) (dst:Option Tmp) (K:R->Bool) (next:Act->World->Prop) (Q:Exit->Act->World->Prop):Prop where
 ok:∀ (v:AV) (jT:List qh) (h':Heap) (a':Act) (w':World) (μ':Mu),K (.ok v jT h')=true->SR w0 μ' ⟨mQ s.env s.n dst v,s.n,jT,h'⟩ a' w'->Ext μ s.h w μ' h' w'->next a' w'
 panic:∀ (v:AV) (vc:Value) (h':Heap) (w':World) (μ':Mu),K (.panic v h')=true->VR w0 μ' v vc->SR w0 μ' ⟨s.env,s.n,s.defs,h'⟩ a w'->Ext μ s.h w μ' h' w'->Q (.panic [{ v:=vc,recovered:=false }]) a w'
theorem CZ(hs:SR w0 μ s a w){next:Act->World->Prop}{Q:Exit->Act->World->Prop}(hl:F9 w0 μ s a w o.dst K next Q)
  (h:qm o.op P call s.env s.defs s.h K=true):o.wp P a w next Q:=by
 obtain ⟨v,h',vc,w',μ',hK,hr,hv,hg,hx⟩:=W5 hs.fV hs.eval h;unfold Oper.wp;rcases hr with hr|⟨rfl,hr⟩
 ·rw [hr];exact hl.ok _ _ _ _ _ _ hK (hs.left o.dst hv hg hx.mono) hx
 ·rw [hr];exact hl.ok _ _ _ _ _ _ hK (hs.left o.dst hv hg hx.mono) hx
theorem Tf(hs:SR w0 μ s a w)(hc:fZ P call){c:Call}(ho:o.op = .call c){next:Act->World->Prop}{Q:Exit->Act->World->Prop}(hl:F9 w0 μ s a w o.dst K next Q)
  (h:xD c P call s.env s.defs s.h K=true):o.wp P a w next Q:=by
 obtain ⟨zN,args,ts⟩:=c
 cases zN with
 |builtin b=>exact CZ hs hl (call:=call) (by rw [ho];exact h)
 |invoke r m=>exact CZ hs hl (call:=call) (by rw [ho];exact h)
 |value f=>
  simp only [xD,Cg] at h;split at h
  ·rename_i g first cap hf
   obtain ⟨he,W6⟩:=hc _ _ _ _ h;have hfv:=hs.eval f;rw [hf] at hfv;generalize hfe:a.eval f=fv at hfv;cases hfv;rename_i us vs h1 r1 h2 r2;have wW:ep w0 μ (args.toList.map (evalArg s.env)) (args.toList.map a.eval):=ep.map _ fun x _=>hs.eval x;have mA:=(ep.mk h1 r1).append (wW.append (ep.mk h2 r2));have hcl:=W6 w0 μ w _ hs.fV mA
   have hrun:(execOp a.eval o).run P w = .ok (.enter g (us++(args.toList.map a.eval++vs)).toArray) w:=by
    have e:us.toArray++args.map a.eval++vs.toArray=(us++(args.toList.map a.eval++vs)).toArray:=by
     apply Array.ext';simp
    simp only [execOp,ho,resolve,hfe,Deferred.ofValue,Sem.run_bind,Sem.run_pure,Result.andThen_ok,invoke,yJ he,e]
   unfold Oper.wp;rw [hrun,Oper.upon_enter];refine Calls.mono hcl fun e w' hR=>?_
   cases e with
   |returned vc=>
    obtain ⟨v,h',μ',hK,hv,hg,hx⟩:=hR;exact hl.ok _ _ _ _ _ _ hK (hs.left o.dst hv hg hx.mono) hx
   |panicked chain=>
    obtain ⟨v,vc,h',μ',hK,rfl,hv,hg,hx⟩:=hR;exact hl.panic _ _ _ _ _ hK hv (hs.Zt hg hx.mono) hx
   |outgrown=>exact hR.elim
  ·cases h
theorem Qp(hs:SR w0 μ s a w){c:Call}(ho:o.op = .defer c){next:Act->World->Prop}{Q:Exit->Act->World->Prop}(hl:F9 w0 μ s a w o.dst K next Q)
  (h:yu c P call s.env s.defs s.h K=true):o.wp P a w next Q:=by
 obtain ⟨zN,args,ts⟩:=c
 cases zN with
 |builtin b=>cases h
 |invoke r m=>cases h
 |value f=>
  simp only [yu] at h;split at h
  ·rename_i g first cap hf
   have hfv:=hs.eval f;rw [hf] at hfv;generalize hfe:a.eval f=fv at hfv;cases hfv;rename_i us vs h1 r1 h2 r2;have wW:ep w0 μ (args.toList.map (evalArg s.env)) (args.toList.map a.eval):=ep.map _ fun x _=>hs.eval x;have mA:=(ep.mk h1 r1).append wW
   have hrun:(execOp a.eval o).run P w = .ok (.defer { target:=.fn (.func g) vs.toArray,args:=(us++args.toList.map a.eval).toArray }) w:=by
    have e:us.toArray++args.map a.eval=(us++args.toList.map a.eval).toArray:=by
     apply Array.ext';simp
    simp only [execOp,ho,resolve,hfe,Deferred.ofValue,Sem.run_bind,Sem.run_pure,Result.andThen_ok,e]
   unfold Oper.wp;rw [hrun,Oper.upon_defer]
   have gI:SR w0 μ (St.mk s.env s.n (⟨g,first++args.toList.map (evalArg s.env),cap⟩ :: s.defs) s.h) { a with defers:={ target:=.fn (.func g) vs.toArray,args:=(us++args.toList.map a.eval).toArray } :: a.defers } w:=
    ⟨hs.env,.cons ⟨vs,_,rfl,mA,⟨h2,r2⟩⟩ hs.defs,hs.fV⟩
   exact hl.ok _ _ _ _ _ _ h (gI.left o.dst VR.bM hs.fV (Mu.le.refl μ)) (Ext.refl _ _ _)
  ·cases h
theorem Qq(hs:SR w0 μ s a w){x:Operand}(ho:o.op = .panic x){next:Act->World->Prop}{Q:Exit->Act->World->Prop}(hl:F9 w0 μ s a w o.dst K next Q)
  (h:yw x P call s.env s.defs s.h K=true):o.wp P a w next Q:=by
 simp only [yw] at h;split at h
 ·rename_i t v hx;have hv:=hs.eval x;rw [hx] at hv;generalize he:a.eval x=xv at hv;cases hv;rename_i vc hvc
  have hrun:(execOp a.eval o).run P w = .halt (.panic (.iface t vc)) w:=by
   simp [execOp,ho,he,Instr.panic]
  unfold Oper.wp;rw [hrun,Oper.upon_panic];exact hl.panic _ _ _ _ _ h (.iface t v vc hvc) hs (Ext.refl _ _ _)
 ·cases h
theorem A0{defs:List qh}{K:R->Bool}:∀ {L:List (AV×Heap)},mC defs K L=true->∀ p ∈ L,K (.ok p.1 defs p.2)=true
 |[],_,p,hp=>by cases hp
 |q :: L,h,p,hp=>by
  simp only [mC,and_eq_true] at h;rcases mem_cons.1 hp with rfl|hp
  ·exact h.1
  ·exact A0 h.2 p hp
theorem Tg(hs:SR w0 μ s a w){x:Operand}{b:Bool}(ho:o.op = .next x b){next:Act->World->Prop}{Q:Exit->Act->World->Prop}(hl:F9 w0 μ s a w o.dst K next Q)
  (h:Hj x b P call s.env s.defs s.h K=true):o.wp P a w next Q:=by
 obtain ⟨L,hL,hh⟩:=fP h;obtain ⟨p,vc,w',μ',hp,hr,hv,hg,hx⟩:=Ql (P:=P) hs.fV (hs.eval x) hL o.type;have hrun:(execOp a.eval o).run P w = .ok (.value vc) w':=by simp [execOp,ho,hr]
 unfold Oper.wp;rw [hrun];exact hl.ok _ _ _ _ _ _ (A0 hh p hp) (hs.left o.dst hv hg hx.mono) hx
theorem Cn(hs:SR w0 μ s a w)(hc:fZ P call){next:Act->World->Prop}{Q:Exit->Act->World->Prop}(hl:F9 w0 μ s a w o.dst K next Q)
  (h:jk o.op P call s.env s.defs s.h K=true):o.wp P a w next Q:=by
 cases ho:o.op<;>rw [ho] at h<;>simp only [jk] at h
 case call c=>exact Tf hs hc ho hl h
 case defer c=>exact Qp hs ho hl h
 case panic x=>exact Qq hs ho hl h
 case next x b=>exact Tg hs ho hl h
 all_goals exact CZ hs hl (call:=call) (by rw [ho];exact h)
structure zU (w0:World) (μ:Mu) (h:Heap) (w:World) (K:RS->Bool) (Q:Exit->Act->World->Prop):Prop where
 ok:∀ (s':St) (a':Act) (w':World) (μ':Mu),K (.ok s')=true->SR w0 μ' s' a' w'->Ext μ h w μ' s'.h w'->Q .normal a' w'
 panic:∀ (v:AV) (vc:Value) (s':St) (a':Act) (w':World) (μ':Mu),K (.panic v s')=true->VR w0 μ' v vc->SR w0 μ' s' a' w'->Ext μ h w μ' s'.h w'->Q (.panic [{ v:=vc,recovered:=false }]) a' w'
theorem zU.after{K:RS->Bool}{Q:Exit->Act->World->Prop}(hl:zU w0 μ h w K Q)(hx:Ext μ h w μ' h' w'):zU w0 μ' h' w' K Q:=
 ⟨fun s2 a2 w2 μ2 k2 r2 x2=>hl.ok s2 a2 w2 μ2 k2 r2 (hx.trans x2),fun v vc s2 a2 w2 μ2 k2 v2 r2 x2=>hl.panic v vc s2 a2 w2 μ2 k2 v2 r2 (hx.trans x2)⟩
theorem LA{call:jS}(hc:fZ P call){ops:Array Oper}{K:RS->Bool}{Q:Exit->Act->World->Prop}:∀ (l:List Oper) (i:Nat) (s:St) (a:Act) (w:World) (μ:Mu),(∀ j o,l[j]?=some o->ops[i+j]?=some o) ->
  SR w0 μ s a w->(hl:zU w0 μ s.h w K Q)->ny P call ops.toList l s K=true->wpOps P ops Q (range' i l.length) a w
 |[],i,s,a,w,μ,hi,hs,hl,h=>by
  simp only [length_nil,range'_zero,wpOps];exact hl.ok _ _ _ _ h hs (Ext.refl _ _ _)
 |o :: rest,i,s,a,w,μ,hi,hs,hl,h=>by
  have PM:ops[i]?=some o:=by simpa using hi 0 o rfl
  obtain ⟨env,n,defs,hp⟩:=s;simp only [length_cons,range'_succ,wpOps,PM];simp only [ny] at h
  have wo:∀ j o',rest[j]?=some o'->ops[i+1+j]?=some o':=fun j o' hj=>by
   have:=hi (j+1) o' (by simpa using hj)
   rwa [show i+1+j=i+(j+1) by omega]
  split at h
  ·rename_i hw;rw [lF hs.env hw,if_pos rfl];refine .inl (Cn hs hc ⟨fun v jT h' a' w' μ' hK gI hx=>?_,fun v vc h' w' μ' hK hv gI hx=>?_⟩ h)
   ·exact LA hc rest (i+1) _ a' w' μ' wo gI (hl.after hx) (lu hK)
   ·exact hl.panic v vc _ a w' μ' hK hv gI hx
  ·rename_i hw;rw [lF hs.env hw];simp only [false_eq_true,if_false];have gI:=hs.left o.dst (h':=hp) VR.bM hs.fV (Mu.le.refl μ);exact LA hc rest (i+1) ⟨mQ env n o.dst bM,n,defs,hp⟩ _ w μ wo gI hl (lu h)
  ·cases h
end
end Go.AM
namespace Go.AM
open List Nat Bool Option
open Go Go.RowKit
variable {op:Op}
section
variable {P:Program} {ρ ρ':Operand->AV}
theorem pz{c:Call}(h:∀ x ∈ c.operands,ρ x = ρ' x):c.args.toList.map ρ=c.args.toList.map ρ':=
 map_congr_left fun x hx=>h x (by simp [Call.operands];exact .inr (by simpa using hx))
theorem A1{ps:Array (Nat×Operand)}(h:∀ x ∈ (ps.toList.map (·.2)).toArray,ρ x = ρ' x):(ps.toList.map fun p=>ρ p.2)=ps.toList.map fun p=>ρ' p.2:=
 map_congr_left fun p hp=>h p.2 (by simp;exact ⟨p.1,by simpa using hp⟩)
theorem Ga{o:Option Operand}(h:∀ x ∈ o.toArray,ρ x = ρ' x):o.map ρ=o.map ρ':=by
 cases o with
 |none=>rfl
 |some x=>simp [h x (by simp)]
theorem A2(h:∀ x ∈ op.operands,ρ x = ρ' x):mT P ρ op=mT P ρ' op:=by
 cases op<;>simp only [Op.operands] at h<;>simp only [mT]
 case build t ps=>rw [A1 h]
 case makeFunc fn first cap=>
  have h1:first.toList.map ρ=first.toList.map ρ':=map_congr_left fun x hx=>h x (by simp;exact .inl (by simpa using hx))
  have h2:cap.toList.map ρ=cap.toList.map ρ':=map_congr_left fun x hx=>h x (by simp;exact .inr (by simpa using hx));rw [h1,h2]
 case slice t x lo hi mx=>
  have h0:ρ x = ρ' x:=h x (by simp);have h1:lo.map ρ=lo.map ρ':=Ga fun y hy=>h y (by simp only [Array.mem_append];exact .inl (.inl (.inr hy)));have h2:hi.map ρ=hi.map ρ':=Ga fun y hy=>h y (by simp only [Array.mem_append];exact .inl (.inr hy));rw [h0,h1,h2]
 case call c=>simp only [pz h]
 all_goals (first|rfl|(simp_all;done))
theorem A3(h:∀ x ∈ op.operands,ρ x = ρ' x)(hp:Heap):mD P ρ hp op=mD P ρ' hp op:=by
 cases op<;>simp only [Op.operands] at h<;>simp only [mD]
 case call c=>simp only [pz h]
 all_goals (first|rfl|(simp_all;done))
theorem yK(h:∀ x ∈ op.operands,ρ x = ρ' x):pe P ρ op=pe P ρ' op:=by
 cases op<;>simp only [Op.operands] at h<;>simp only [pe]
 case buildSlice t n ps=>rw [A1 h]
 all_goals (first|rfl|(simp_all;done))
theorem xK(h:∀ x ∈ op.operands,ρ x = ρ' x)(hp:Heap)(K:AV->Heap->Bool):gZ op P ρ hp K=gZ op P ρ' hp K:=by
 cases hk:fE op with
 |pure=>rw [vq hk,vq hk,A2 h]
 |read=>rw [ri hk,ri hk,A3 h]
 |alloc=>rw [rW hk,rW hk,yK h]
 |KO=>
  cases op<;>simp only [fE,reduceCtorEq] at hk<;>simp only [Op.operands] at h<;>simp only [gZ]
  case call c=>simp only [tX,pz h]
  all_goals (first|rfl|(simp_all;done))
theorem Hy{env eO:Env}(h:∀ x ∈ op.operands,evalArg env x=evalArg eO x)(call:jS)(defs:List qh)(hp:Heap)(K:R->Bool) :
  jk op P call env defs hp K=jk op P call eO defs hp K:=by
 cases op<;>simp only [jk]
 case call c=>
  obtain ⟨zN,args,ts⟩:=c
  cases zN with
  |value f=>
   simp only [xD,Cg];have h1:=pz (c:=⟨.value f,args,ts⟩) h;have h2:evalArg env f=evalArg eO f:=h f (by simp [Op.operands,Call.operands]);simp only at h1;rw [h2,h1]
  |invoke r m=>simp only [xD,qm];rw [xK h]
  |builtin b=>simp only [xD,qm];rw [xK h]
 case defer c=>
  obtain ⟨zN,args,ts⟩:=c
  cases zN with
  |value f=>
   simp only [yu];have h1:=pz (c:=⟨.value f,args,ts⟩) h;have h2:evalArg env f=evalArg eO f:=h f (by simp [Op.operands,Call.operands]);simp only at h1;rw [h2,h1]
  |invoke r m=>rfl
  |builtin b=>rfl
 case panic x=>simp only [yw,h x (by simp [Op.operands])]
 case next x b=>simp only [Hj,h x (by simp [Op.operands])]
 all_goals (simp only [qm];rw [xK h])
theorem I9{hp:Heap}(hc:∀ b,hp.next<=b->hp.get b=none)(o:j9){v:AV}(h:mD P ρ hp op=some v):mD P ρ (hp.alloc o) op=some v:=by
 have key:∀ b o',hp.get b=some o'->(hp.alloc o).get b=some o':=fun b o' hb=>by
  rw [Heap.aQ,if_neg (fun e=>by rw [e,hc _ (dK _)] at hb;cases hb)];exact hb
 cases op<;>simp only [mD,reduceCtorEq] at h ⊢
 case load t a=>
  obtain ⟨i,h1,h2⟩:=bind_eq_some_iff.1 h;refine bind_eq_some_iff.2 ⟨i,h1,?_⟩;unfold ag at h2 ⊢;split at h2
  ·rename_i b off hx;split at h2
   ·rename_i cs hb;simp only [key _ _ hb];exact h2
   ·cases h2
  ·rename_i hx;exact h2
  ·cases h2
 case lookup t x i ok=>
  obtain ⟨d,h1,h2⟩:=bind_eq_some_iff.1 h;refine bind_eq_some_iff.2 ⟨d,h1,?_⟩;unfold dW at h2 ⊢
  have he:∀ es,mB (ρ x) hp=some es->mB (ρ x) (hp.alloc o)=some es:=by
   intro es he;unfold mB at he ⊢;split at he
   ·rename_i hx;exact he
   ·rename_i b hx;split at he
    ·rename_i yE ck hb;simp only [key _ _ hb];exact he
    ·cases he
   ·cases he
  split at h2
  ·cases h2
  ·rename_i es VY;rw [he es VY];exact h2
 case call c=>
  split at h
  ·split at h
   ·rename_i t l x e1 e2;obtain ⟨i,h1,h2⟩:=bind_eq_some_iff.1 h;refine bind_eq_some_iff.2 ⟨i,h1,?_⟩;unfold bX at h2 ⊢;split at h2<;>first|exact h2|skip
    ·split at h2
     ·rename_i b _ es ck hb;simp only [key _ _ hb];exact h2
     ·cases h2
   ·cases h
  ·cases h
mutual
theorem AV.beq_eq:∀ (x y:AV),AV.beq x y=true->x=y
 |.undef,y,h=>by cases y<;>simp_all [AV.beq]
 |.bool a,y,h=>by cases y<;>simp_all [AV.beq]
 |.int k a,y,h=>by cases y<;>simp_all [AV.beq]
 |.str a,y,h=>by cases y<;>simp_all [AV.beq]
 |.eH,y,h=>by cases y<;>simp_all [AV.beq]
 |.ptr a i,y,h=>by cases y<;>simp_all [AV.beq]
 |.ef a i,y,h=>by
  cases y<;>simp only [AV.beq,false_eq_true,and_eq_true,beq_iff_eq] at h;rw [AV.ox _ _ h.1,h.2]
 |.ax,y,h=>by cases y<;>simp_all [AV.beq]
 |.slice b i l s,y,h=>by cases y<;>simp_all [AV.beq]
 |.au a i l s,y,h=>by
  cases y<;>simp only [AV.beq,false_eq_true,and_eq_true,beq_iff_eq] at h;rw [AV.ox _ _ h.1.1.1,h.1.1.2,h.1.2,h.2]
 |.jJ,y,h=>by cases y<;>simp_all [AV.beq]
 |.map a,y,h=>by cases y<;>simp_all [AV.beq]
 |.nO,y,h=>by cases y<;>simp_all [AV.beq]
 |.func f a b,y,h=>by
  cases y<;>simp only [AV.beq,false_eq_true,and_eq_true,beq_iff_eq] at h;rw [h.1.1,AV.ox _ _ h.1.2,AV.ox _ _ h.2]
 |.qE,y,h=>by cases y<;>simp_all [AV.beq]
 |.iface t v,y,h=>by
  cases y<;>simp only [AV.beq,false_eq_true,and_eq_true,beq_iff_eq] at h;rw [h.1,AV.beq_eq _ _ h.2]
 |.agg a,y,h=>by
  cases y<;>simp only [AV.beq,false_eq_true] at h;rw [AV.ox _ _ h]
 |.tuple a,y,h=>by
  cases y<;>simp only [AV.beq,false_eq_true] at h;rw [AV.ox _ _ h]
theorem AV.ox:∀ (xs ys:List AV),AV.yq xs ys=true->xs=ys
 |[],ys,h=>by cases ys<;>simp_all [AV.yq]
 |x :: xs,ys,h=>by
  cases ys<;>simp only [AV.yq,false_eq_true,and_eq_true] at h;rw [AV.beq_eq _ _ h.1,AV.ox _ _ h.2]
end
theorem Ja{env:Env}{v:AV}{hp:Heap}(hk:fE op = .read)(h:sameAt P op env v hp=true):mD P (evalArg env) hp op=some v:=by
 unfold sameAt at h;rw [ri hk] at h;obtain ⟨v',h1,h2⟩:=fP h;rw [h1,AV.beq_eq _ _ h2]
end
end Go.AM
namespace Go.AM
open List Nat Bool Option
open Go Go.RowKit
variable {ops:List Oper}
theorem uh(acc:List Nat)(j:Nat):∀ (es:List Edge),(nP acc es).testBit j=true->∃ e ∈ es,Region.binds .any e=true/\(j=e.on\/(acc.getD e.on 0).testBit j=true)
 |[],h=>by simp [nP] at h
 |e :: es,h=>by
  simp only [nP] at h;split at h
  ·rename_i hb;simp only [testBit_or,or_eq_true,testBit_two_pow,decide_eq_true_eq] at h;rcases h with (h|h)|h
   ·exact ⟨e,by simp,hb,.inl h.symm⟩
   ·exact ⟨e,by simp,hb,.inr h⟩
   ·obtain ⟨e',h1,h2⟩:=uh acc j es h;exact ⟨e',by simp [h1],h2⟩
  ·obtain ⟨e',h1,h2⟩:=uh acc j es h;exact ⟨e',by simp [h1],h2⟩
theorem wX:∀ (os:List Oper) (acc:List Nat),∃ r,nQ os acc=acc++r
 |[],acc=>⟨[],by simp [nQ]⟩
 |o :: os,acc=>by
  obtain ⟨r,h⟩:=wX os (acc++[nP acc o.after.toList]);exact ⟨nP acc o.after.toList :: r,by simp [nQ,h]⟩
theorem C0:∀ (os:List Oper) (acc:List Nat) (k:Nat) (o:Oper),os[k]?=some o->(nQ os acc)[acc.length+k]?=some (nP ((nQ os acc).take (acc.length+k)) o.after.toList)
 |[],acc,k,o,h=>by simp at h
 |o' :: os,acc,k,o,h=>by
  simp only [nQ]
  cases k with
  |zero=>
   simp at h;subst h;obtain ⟨r,hr⟩:=wX os (acc++[nP acc o'.after.toList]);rw [hr];simp
  |succ k=>
   have:=C0 os (acc++[nP acc o'.after.toList]) k o (by simpa using h);rw [length_append,length_singleton] at this;rw [show acc.length+(k+1)=acc.length+1+k by omega];exact this
theorem wY:∀ (os:List Oper) (acc:List Nat),(nQ os acc).length=acc.length+os.length
 |[],acc=>by simp [nQ]
 |o :: os,acc=>by simp only [nQ,wY os];simp;omega
theorem Qr{i j:Nat}(h:Ch (nF ops) i j=true):∃ o,ops[i]?=some o/\∃ e ∈ o.after.toList,Region.binds .any e=true/\(j=e.on\/Ch (nF ops) e.on j=true):=by
 unfold Ch at h;by_cases hi:i<ops.length
 ·have ho:ops[i]?=some ops[i]:=ez hi;have hm:=C0 ops [] i _ ho;simp only [length_nil,Nat.zero_add] at hm
  have hg:(nF ops).getD i 0=nP ((nF ops).take i) ops[i].after.toList:=by
   rw [getD_eq_getElem?_getD];show ((nQ ops [])[i]?).getD 0=_;rw [hm];rfl
  rw [hg] at h;obtain ⟨e,h1,h2,h3⟩:=uh _ _ _ h;refine ⟨_,ho,e,h1,h2,?_⟩;rcases h3 with h3|h3
  ·exact .inl h3
  ·refine .inr ?_;unfold Ch;rw [getD_eq_getElem?_getD,getElem?_take] at h3;split at h3
   ·rw [getD_eq_getElem?_getD];exact h3
   ·simp at h3
 ·have:(nF ops).getD i 0=0:=by
   rw [getD_eq_getElem?_getD,getElem?_eq_none (by unfold nF;rw [wY];simp;omega)];rfl
  rw [this] at h;simp at h
def Qs(ms:List Nat)(S:Nat->Bool):Prop:=∀ i j,S i=true->Ch ms i j=true->S j=true
def g8(bG:Array Bool)(k:Nat):Bool:=bG.getD k false
theorem Om{ops:Array Oper}{bG:Array Bool}{i j:Nat}(hc:Qs (nF ops.toList) (g8 bG))(hr:i ∈ Region.ready .any ops bG)(hb:Ch (nF ops.toList) i j=true):g8 bG j=true:=by
 obtain ⟨_,o,ho,he⟩:=mem_ready.1 hr;obtain ⟨o',oZ,e,h1,h2,h3⟩:=Qr hb;rw [Array.getElem?_toList,ho] at oZ;cases oZ;have:=he e (by simpa using h1) h2;rcases h3 with rfl|h3
 ·exact this
 ·exact hc _ _ this h3
theorem yL{bG:Array Bool}{i:Nat}(hi:i<bG.size)(k:Nat):g8 (bG.setIfInBounds i true) k=(decide (k=i)||g8 bG k):=by
 unfold g8;by_cases e:k=i
 ·subst e;simp [Array.getD,hi]
 ·simp [e,getD_set_ne false (fun q=>e q.symm)]
structure Dn where
 i:Nat
 o:Oper
 v:AV
 env:Env
 b:Nat
 al:Bool
noncomputable def fU(kJ:Env)(n:Nat)(S:Nat->Bool):List Dn->Env
 |[]=>kJ
 |d :: ds=>if S d.i then mQ (fU kJ n S ds) n d.o.dst d.v else fU kJ n S ds
theorem Hz{env:Env}{n:Nat}{dst:Option Tmp}{v:AV}{t:Nat}(h:dst≠some t):mQ env n dst v t=env t:=by
 cases dst with
 |none=>rfl
 |some d=>
  have:t≠d:=fun e=>h (by rw [e]);simp only [mQ];split
  ·simp [bL,this]
  ·rfl
theorem On{env:Env}{n:Nat}{x y:Option Tmp}{u v:AV}(h:∀ t,x=some t->y≠some t):mQ (mQ env n x u) n y v=mQ (mQ env n y v) n x u:=by
 cases x with
 |none=>rfl
 |some d=>cases y with
  |none=>rfl
  |some e=>
   have hne:d≠e:=fun q=>h d rfl (by rw [q]);simp only [mQ];split<;>split<;>try rfl
   funext t;simp only [bL];split<;>split<;>try rfl
   rename_i h1 h2;exact absurd (h2▸h1) (by simpa using hne)
section
variable {kJ:Env} {n:Nat} {S S':Nat->Bool}
theorem C5{t:Nat}:∀ {pre ds:List Dn},(∀ x ∈ pre,S x.i=true->x.o.dst≠some t)->fU kJ n S (pre++ds) t=fU kJ n S ds t
 |[],ds,h=>rfl
 |x :: pre,ds,h=>by
  simp only [cons_append,fU];have ih:=C5 (pre:=pre) (ds:=ds) (fun y hy=>h y (by simp [hy]));split
  ·rename_i hx;rw [Hz (h x (by simp) hx),ih]
  ·exact ih
theorem qq:∀ {ds:List Dn},(∀ x ∈ ds,S x.i=S' x.i)->fU kJ n S ds=fU kJ n S' ds
 |[],h=>rfl
 |x :: ds,h=>by
  simp only [fU];rw [h x (by simp),qq (ds:=ds) (fun y hy=>h y (by simp [hy]))]
theorem xL{t:Nat}:∀ {ds:List Dn},(∀ x ∈ ds,x.o.dst=some t->S x.i=true)->fU kJ n S ds t=fU kJ n (fun _=>true) ds t
 |[],h=>rfl
 |x :: ds,h=>by
  have ih:=xL (ds:=ds) (fun y hy=>h y (by simp [hy]));simp only [fU,if_true];by_cases hd:x.o.dst=some t
  ·rw [if_pos (h x (by simp) hd),hd];simp only [mQ];split
   ·simp [bL]
   ·exact ih
  ·rw [Hz hd];split
   ·rw [Hz hd];exact ih
   ·exact ih
theorem Gb{d:Dn}(hS:S d.i=false)(hS':∀ k,S' k=(decide (k=d.i)||S k)):∀ {pre ds:List Dn},(∀ x ∈ pre,x.i≠d.i)->(∀ x ∈ ds,x.i≠d.i)->(∀ x ∈ pre,∀ t,d.o.dst=some t->x.o.dst≠some t) ->
  fU kJ n S' (pre++d :: ds)=mQ (fU kJ n S (pre++d :: ds)) n d.o.dst d.v
 |[],ds,h1,h2,h3=>by
  simp only [nil_append,fU];rw [if_pos (by rw [hS'];simp),if_neg (by rw [hS];simp),qq (S:=S') (S':=S) (fun x hx=>by rw [hS'];simp [h2 x hx])]
 |x :: pre,ds,h1,h2,h3=>by
  have ih:=Gb hS hS' (pre:=pre) (ds:=ds) (fun y hy=>h1 y (by simp [hy])) h2 (fun y hy=>h3 y (by simp [hy]));simp only [cons_append,fU];have hx:S' x.i=S x.i:=by rw [hS'];simp [h1 x (by simp)]
  rw [hx];split
  ·rw [ih,On (h3 x (by simp))]
  ·exact ih
end
structure Oo (ops:List Oper) (ms:List Nat) (a b:Nat×Oper):Prop where
 ne:a.1≠b.1
 nb:Ch ms a.1 b.1=false
 KO:sQ a.2=true->Ch ms b.1 a.1=true
 dd:∀ d,a.2.dst=some d->b.2.dst≠some d
 lb:∀ d,a.2.dst=some d->d ∈ qH ops b.2->Ch ms b.1 a.1=true
 la:∀ d,b.2.dst=some d->d ∈ qH ops a.2->Ch ms b.1 a.1=true
theorem Jb{ms:List Nat}{a b:Nat×Oper}(h:Le ops ms a b=true):Oo ops ms a b:=by
 unfold Le at h;simp only [and_eq_true,bne_iff_ne,ne_eq,not_eq_true',or_eq_true] at h;obtain ⟨h1,h2,h3,h4,h5⟩:=h;refine ⟨h1,h2,fun he=>h3.resolve_left (by simp [he]),fun d hd e=>?_,fun d hd hl=>?_,fun d hd hl=>?_⟩
 ·rw [hd,e] at h4;simp at h4
 ·rw [hd] at h4;simp only [and_eq_true,or_eq_true,not_eq_true'] at h4;exact h4.2.resolve_left (by simp [hl])
 ·rw [hd] at h5;simp only [or_eq_true,not_eq_true'] at h5;exact h5.resolve_left (by simp [hl])
theorem yM{ops:List Oper}{ms:List Nat}:∀ {L:List (Nat×Oper)},Cj ops ms L=true->L.Pairwise (Oo ops ms)
 |[],h=>.nil
 |p :: ps,h=>by
  simp only [Cj,and_eq_true,List.all_eq_true] at h;exact .cons (fun b hb=>Jb (h.1 b hb)) (yM h.2)
theorem yN{L:List (Nat×Oper)}:∀ {n:Nat},Ck L n=true->∀ i,i<n->∃ p ∈ L,p.1=i
 |0,h,i,hi=>by omega
 |n+1,h,i,hi=>by
  simp only [Ck,and_eq_true,List.any_eq_true,beq_iff_eq] at h;by_cases e:i=n
  ·subst e;exact h.1
  ·exact yN h.2 i (by omega)
theorem yO:∀ (os:List Oper) (k:Nat) (p:Nat×Oper),p ∈ vk os k->k<=p.1/\os[p.1-k]?=some p.2
 |[],k,p,h=>by cases h
 |o :: os,k,p,h=>by
  simp only [vk,mem_cons] at h;rcases h with rfl|h
  ·simp
  ·obtain ⟨h1,h2⟩:=yO os (k+1) p h;refine ⟨by omega,?_⟩;rw [show p.1-k=(p.1-(k+1))+1 by omega];simpa using h2
theorem A4{ms ES:List Nat}{L:List (Nat×Oper)}:∀ (n k:Nat) (p:Nat×Oper),p ∈ Ci ms ES L n k->p ∈ L
 |0,k,p,h=>(mem_filter.1 h).1
 |n+1,k,p,h=>by
  simp only [Ci,mem_append] at h;rcases h with h|h|h
  ·exact (mem_filter.1 h).1
  ·exact (mem_filter.1 h).1
  ·exact A4 n (k+1) p h
theorem yP:∀ {os:List Oper} {k:Nat},Cl os k=true->∀ i o,os[i]?=some o->∀ e ∈ o.after.toList,Region.binds .any e=true->e.on<k+i
 |[],k,h,i,o,ho=>by simp at ho
 |o' :: os,k,h,i,o,ho=>by
  simp only [Cl,and_eq_true,List.all_eq_true,or_eq_true,not_eq_true',decide_eq_true_eq] at h;intro e he hb
  cases i with
  |zero=>
   simp at ho;subst ho;have:=(h.1 e he).resolve_left (by simp [hb]);omega
  |succ i=>
   have:=yP h.2 i o (by simpa using ho) e he hb;omega
structure sV (ops:Array Oper) (ms:List Nat) (L:List (Nat×Oper)):Prop where
 nF:ms=nF ops.toList
 ue:L.Pairwise (Oo ops.toList ms)
 cover:∀ i,i<ops.size->∃ p ∈ L,p.1=i
 mem:∀ p ∈ L,ops[p.1]?=some p.2
 jy:∀ (i:Nat) (o:Oper),ops[i]?=some o->∀ e ∈ o.after.toList,Region.binds .any e=true->e.on<i
theorem LB{ops:Array Oper}{p:WS}(h:IP ops.toList=some p):sV ops p.ms p.L:=by
 unfold IP at h;split at h
 ·rename_i hc;cases h;simp only [and_eq_true] at hc;obtain ⟨⟨h1,h2⟩,h3⟩:=hc;refine ⟨rfl,yM h2,fun i hi=>yN h3 i (by simpa using hi),fun q hq=>?_,fun i o ho e he hb=>?_⟩
  ·have:=yO _ _ _ (A4 _ _ _ hq);simpa using this.2
  ·have:=yP h1 i o (by simpa using ho) e he hb;omega
 ·cases h
theorem Jc{o:Oper}{env eO:Env}(h:∀ t ∈ qH ops o,env t=eO t):∀ x ∈ o.op.operands,evalArg env x=evalArg eO x:=by
 intro x hx
 cases x with
 |tmp t=>
  apply h;simp only [qH,mem_append,mem_filterMap];exact .inl ⟨.tmp t,by simpa using hx,rfl⟩
 |const v=>rfl
 |global g=>rfl
 |func f=>rfl
theorem yQ{o:Oper}{env eO:Env}(h:∀ t ∈ qH ops o,env t=eO t):iW ops o env=iW ops o eO:=by
 unfold iW;split
 ·rfl
 ·rename_i j want hg;split
  ·rename_i g hj;split
   ·rename_i d hd;have:env d=eO d:=h d (by simp [qH,hg,hj,hd]);rw [this]
   ·rfl
  ·rfl
end Go.AM
namespace Go.AM
open List Nat Bool Option
open Go Go.RowKit
variable {p:Nat×Oper}
structure Zu (P:Program) (ops:Array Oper) (μ:Mu) (h:Heap) (lg:List Read) (d:Dn):Prop where
 ex:∃ wb,iW ops.toList d.o d.env=some wb/\(wb=false->d.v=bM)/\(wb=true ->
  (fE d.o.op = .pure/\mT P (evalArg d.env) d.o.op=some d.v) \/
  (fE d.o.op = .read/\mD P (evalArg d.env) h d.o.op=some d.v/\(⟨d.i,d.o.op,d.env,d.v⟩:Read) ∈ lg) \/
  (fE d.o.op = .alloc/\d.al=true/\∃ k ob,pe P (evalArg d.env) d.o.op=some (k,ob)/\d.v=k.val d.b/\h.get d.b=some ob/\∀ kk,μ d.b≠some kk))
structure Th where
 P:Program
 call:jS
 ops:Array Oper
 ms:List Nat
 L:List (Nat×Oper)
 K:St->Bool
 w0:World
 μb:Mu
 hb:Heap
 wb:World
 kJ:Env
 n:Nat
structure m7 (C:Th) (bG:Array Bool) (a:Act) (w:World) (μ:Mu) (dn:List Dn) (R:List (Nat×Oper)) (lg:List Read) (s:St):Prop where
 split:C.L=(dn.reverse.map fun d=>(d.i,d.o))++R
 run:fO C.P C.call C.ops.toList C.ms R lg s C.K=true
 Gc:s.n=C.n
 LC:s.env=fU C.kJ C.n (fun _=>true) dn
 size:bG.size=C.ops.size
 Ti:∀ i,g8 bG i=true->∃ d ∈ dn,d.i=i
 ES:∀ d ∈ dn,sQ d.o=true->g8 bG d.i=true
 closed:Qs C.ms (g8 bG)
 env:CY C.w0 μ (fU C.kJ C.n (g8 bG) dn) C.n a.tmps
 defs:yI C.w0 μ s.defs a.defers
 fV:Good C.w0 μ s.h w
 ext:Ext C.μb C.hb C.wb μ s.h w
 Tj:∀ pre d ds,dn=pre++d :: ds->d.env=fU C.kJ C.n (fun _=>true) ds
 Tk:∀ d ∈ dn,g8 bG d.i=false->Zu C.P C.ops μ s.h lg d
 LD:∀ d ∈ dn,d.al=true->C.hb.next<=d.b/\d.b<s.h.next
 sep:∀ d ∈ dn,∀ d' ∈ dn,d.i≠d'.i->d.al=true->d'.al=true->d.b≠d'.b
theorem Ext.Qb{μb μ:Mu}{hb h:Heap}{wb w:World}(x:Ext μb hb wb μ h w){b n:Nat}(hn:hb.next<=b)(hμ:∀ k,μ b≠some k)(O:Obj):Ext μb hb wb (μ.add b ⟨w.heap.size,0,n⟩) h (w.alloc O):=by
 have hsz:(w.alloc O).heap.size=w.heap.size+1:=by show (w.heap.push O).size=_;simp
 refine ⟨x.mono.trans (Mu.zM hμ),fun k hk hne=>?_,fun b' k fq=>?_,by rw [hsz];have:=x.size;omega,x.next,x.gz,fun b' k fq=>?_,x.yC⟩
 ·rw [Below.heap_alloc w O k (Nat.lt_of_lt_of_le hk x.size)];exact x.frame k hk hne
 ·rw [Mu.jx] at fq;by_cases e:b'=b
  ·rw [if_pos e] at fq;cases fq;exact .inr (.inl x.size)
  ·rw [if_neg e] at fq;exact x.new b' k fq
 ·rw [Mu.jx] at fq;by_cases e:b'=b
  ·exact .inr (e▸hn)
  ·rw [if_neg e] at fq;exact x.fresh b' k fq
section
variable {C:Th} {bG:Array Bool} {a:Act} {w:World} {μ:Mu} {dn:List Dn} {R:List (Nat×Oper)} {lg:List Read} {s:St}
theorem m7.ue(hp:sV C.ops C.ms C.L)(hi:m7 C bG a w μ dn R lg s) :
  dn.Pairwise (fun x y=>Oo C.ops.toList C.ms (y.i,y.o) (x.i,x.o))/\R.Pairwise (Oo C.ops.toList C.ms)/\∀ d ∈ dn,∀ r ∈ R,Oo C.ops.toList C.ms (d.i,d.o) r:=by
 have h:=hp.ue;rw [hi.split,pairwise_append,pairwise_map,pairwise_reverse] at h;exact ⟨h.1,h.2.1,fun d hd r hr=>h.2.2 _ (mem_map.2 ⟨d,by simpa using hd,rfl⟩) r hr⟩
theorem m7.fresh(hp:sV C.ops C.ms C.L)(hi:m7 C bG a w μ dn R lg s){r:Nat×Oper}(hr:r ∈ R):g8 bG r.1=false/\∀ d ∈ dn,d.i≠r.1:=by
 have hne:∀ d ∈ dn,d.i≠r.1:=fun d hd=>((hi.ue hp).2.2 d hd r hr).ne;refine ⟨?_,hne⟩
 cases h:g8 bG r.1 with
 |false=>rfl
 |true=>obtain ⟨d,hd,he⟩:=hi.Ti _ h;exact absurd he (hne d hd)
theorem m7.Qt(hp:sV C.ops C.ms C.L)(hi:m7 C bG a w μ dn (p :: R) lg s)(he:sQ p.2=false):∃ Qu Oq s',m7 C bG a w μ Qu R Oq s':=by
 obtain ⟨hf,hne⟩:=hi.fresh hp (r:=p) (by simp);obtain ⟨env,n,defs,Bx⟩:=s;have hrun:=hi.run;simp only [fO] at hrun
 have step:∀ (v:AV) (b:Nat) (al:Bool) (Oq:List Read) (h':Heap),fO C.P C.call C.ops.toList C.ms R Oq ⟨mQ env n p.2.dst v,n,defs,h'⟩ C.K=true ->
   (∀ r ∈ lg,r ∈ Oq)->Good C.w0 μ h' w->Ext C.μb C.hb C.wb μ h' w->Bx.next<=h'.next->(∀ b' o,Bx.get b'=some o->h'.get b'=some o)->(∀ op v,mD C.P (evalArg env) Bx op=some v\/True) ->
   (∀ env op v,mD C.P (evalArg env) Bx op=some v->mD C.P (evalArg env) h' op=some v) ->
   Zu C.P C.ops μ h' Oq ⟨p.1,p.2,v,env,b,al⟩->(al=true->b=Bx.next/\Bx.next<h'.next)->∃ Qu Oq s',m7 C bG a w μ Qu R Oq s':=by
  intro v b al Oq h' hr hlg hg hx oK hget _ hrd Zv hal;have Tb:C.hb.next<=Bx.next:=hi.ext.next
  refine ⟨⟨p.1,p.2,v,env,b,al⟩ :: dn,Oq,⟨mQ env n p.2.dst v,n,defs,h'⟩,?_⟩;refine ⟨by rw [hi.split];simp,hr,hi.Gc,?_,hi.size,fun i h=>?_,fun d hd h=>?_,hi.closed,?_,hi.defs,hg,hx,fun pre d ds h=>?_,fun d hd h=>?_,fun d hd h=>?_,fun d hd d' sW Tl h1 h2=>?_⟩
  ·show mQ env n p.2.dst v=_;simp only [fU,if_true];have e1:n=C.n:=hi.Gc;have e2:env=fU C.kJ C.n (fun _=>true) dn:=hi.LC;rw [e2,e1]
  ·obtain ⟨d,hd,e⟩:=hi.Ti i h;exact ⟨d,by simp [hd],e⟩
  ·rcases mem_cons.1 hd with rfl|hd
   ·simp [he] at h
   ·exact hi.ES d hd h
  ·have:fU C.kJ C.n (g8 bG) (⟨p.1,p.2,v,env,b,al⟩ :: dn)=fU C.kJ C.n (g8 bG) dn:=by
    simp only [fU];rw [if_neg (by rw [hf];simp)]
   rw [this];exact hi.env
  ·cases pre with
   |nil=>
    simp only [nil_append,List.cons.injEq] at h;obtain ⟨rfl,rfl⟩:=h;exact hi.LC
   |cons x pre=>
    simp only [cons_append,List.cons.injEq] at h;exact hi.Tj pre d ds h.2
  ·rcases mem_cons.1 hd with rfl|hd
   ·exact Zv
   ·obtain ⟨wb,q1,q2,q3⟩:=(hi.Tk d hd h).ex;refine ⟨wb,q1,q2,fun hw=>?_⟩;rcases q3 hw with q|⟨k1,k2,k3⟩|⟨k1,k2,k,ob,k3,k4,k5,k6⟩
    ·exact .inl q
    ·exact .inr (.inl ⟨k1,hrd _ _ _ k2,hlg _ k3⟩)
    ·exact .inr (.inr ⟨k1,k2,k,ob,k3,k4,hget _ _ k5,k6⟩)
  ·rcases mem_cons.1 hd with rfl|hd
   ·obtain ⟨e1,e2⟩:=hal h;show _<=b/\b<h'.next
    omega
   ·have:=hi.LD d hd h;exact ⟨this.1,Nat.lt_of_lt_of_le this.2 oK⟩
  ·rcases mem_cons.1 hd with rfl|hd
   ·rcases mem_cons.1 sW with rfl|sW
    ·exact absurd rfl Tl
    ·have:d'.b<Bx.next:=(hi.LD d' sW h2).2
     obtain ⟨e1,_⟩:=hal h1;show b≠d'.b;omega
   ·rcases mem_cons.1 sW with rfl|sW
    ·have:d.b<Bx.next:=(hi.LD d hd h1).2
     obtain ⟨e1,_⟩:=hal h2;show d.b≠b;omega
    ·exact hi.sep d hd d' sW Tl h1 h2
 split at hrun
 ·rename_i hw;split at hrun
  ·rename_i hk;rw [vq hk] at hrun;obtain ⟨v,hv,hK⟩:=fP hrun;have hK:=lu hK;exact step v 0 false lg Bx hK (fun r h=>h) hi.fV hi.ext (dK _) (fun _ _ h=>h) (fun _ _=>.inr trivial) (fun _ _ _ h=>h) ⟨true,hw,by simp,fun _=>.inl ⟨hk,hv⟩⟩ (by simp)
  ·rename_i hk;rw [ri hk] at hrun;obtain ⟨v,hv,hK⟩:=fP hrun;have hK:=lu hK;exact step v 0 false _ Bx hK (fun r h=>by simp [h]) hi.fV hi.ext (dK _) (fun _ _ h=>h) (fun _ _=>.inr trivial) (fun _ _ _ h=>h) ⟨true,hw,by simp,fun _=>.inr (.inl ⟨hk,hv,by simp⟩)⟩ (by simp)
  ·rename_i hk;rw [rW hk] at hrun;obtain ⟨⟨k,ob⟩,hv,hK⟩:=fP hrun;have hK:=lu hK;obtain ⟨g1,g2⟩:=hi.fV.WV ob
   refine step (k.val Bx.next) Bx.next true lg (Bx.alloc ob) hK (fun r h=>h) g1 (hi.ext.trans g2) (le_succ _) (fun b' o h=>?_) (fun _ _=>.inr trivial) (fun _ _ _ h=>I9 hi.fV.clean ob h)
    ⟨true,hw,by simp,fun _=>.inr (.inr ⟨hk,rfl,k,ob,hv,rfl,by rw [Heap.aQ,if_pos rfl],hi.fV.yD⟩)⟩ (fun _=>⟨rfl,lt_succ_self _⟩)
   rw [Heap.aQ,if_neg (fun e=>by rw [e,hi.fV.clean _ (dK _)] at h;cases h)];exact h
  ·rename_i hk;simp [sQ,hk] at he
 ·rename_i hw;exact step bM 0 false lg Bx (lu hrun) (fun r h=>h) hi.fV hi.ext (dK _) (fun _ _ h=>h) (fun _ _=>.inr trivial) (fun _ _ _ h=>h) ⟨false,hw,by simp,by simp⟩ (by simp)
 ·cases hrun
theorem m7.advance(hp:sV C.ops C.ms C.L):∀ (R:List (Nat×Oper)) (dn:List Dn) (lg:List Read) (s:St),m7 C bG a w μ dn R lg s ->
  ∃ Qu R' Oq s',m7 C bG a w μ Qu R' Oq s'/\(∀ p rest,R'=p :: rest->sQ p.2=true)
 |[],dn,lg,s,hi=>⟨dn,[],lg,s,hi,by simp⟩
 |p :: R,dn,lg,s,hi=>by
  cases he:sQ p.2 with
  |true=>exact ⟨dn,p :: R,lg,s,hi,fun q rest h=>by cases h;exact he⟩
  |false=>
   obtain ⟨Qu,Oq,s',h'⟩:=hi.Qt hp he;exact m7.advance hp R Qu Oq s' h'
theorem m7.agree(hp:sV C.ops C.ms C.L)(hi:m7 C bG a w μ dn R lg s){d:Dn}(hd:d ∈ dn)(hS:g8 bG d.i=false)(hr:∀ j,Ch C.ms d.i j=true->g8 bG j=true) :
  ∀ t ∈ qH C.ops.toList d.o,fU C.kJ C.n (g8 bG) dn t=d.env t:=by
 intro t ht;obtain ⟨pre,ds,rfl⟩:=append_of_mem hd;rw [hi.Tj pre d ds rfl];have W7:=(hi.ue hp).1;rw [pairwise_append] at W7;obtain ⟨_,Qv,Tm⟩:=W7;rw [pairwise_cons] at Qv;rw [C5 (fun x hx hSx Zw=>?_)]
 ·simp only [fU];rw [if_neg (by rw [hS];simp)];refine xL fun x hx Zw=>hr _ ?_;exact (Qv.1 x hx).lb t Zw ht
 ·have:=(Tm x hx d (by simp)).la t Zw ht;have:=hi.closed _ _ hSx this;rw [hS] at this;cases this
theorem m7.Ot(hp:sV C.ops C.ms C.L)(hi:m7 C bG a w μ dn (p :: R) lg s)(hr:∀ j,Ch C.ms p.1 j=true->g8 bG j=true) :
  ∀ t ∈ qH C.ops.toList p.2,fU C.kJ C.n (g8 bG) dn t=s.env t:=by
 intro t ht;rw [hi.LC];exact xL fun x hx Zw=>hr _ (((hi.ue hp).2.2 x hx p (by simp)).lb t Zw ht)
theorem m7.ran(hp:sV C.ops C.ms C.L)(hi:m7 C bG a w μ dn R lg s){d:Dn}(hd:d ∈ dn)(hS:g8 bG d.i=false)(hlt:d.i<bG.size)(hr:∀ j,Ch C.ms d.i j=true->g8 bG j=true)
  {w':World} {μ':Mu} {vc:Value} (hm:μ.le μ') (hv:VR C.w0 μ' d.v vc) (hg:Good C.w0 μ' s.h w') (hx:Ext C.μb C.hb C.wb μ' s.h w')
  (qd:∀ d' ∈ dn,g8 bG d'.i=false->d'.i≠d.i->d'.al=true->(∀ kk,μ d'.b≠some kk)->∀ kk,μ' d'.b≠some kk) :
  m7 C (bG.setIfInBounds d.i true) (a.put d.o.dst vc) w' μ' dn R lg s:=by
 have kK:=yL hlt;refine ⟨hi.split,hi.run,hi.Gc,hi.LC,by simpa using hi.size,fun i h=>?_,fun d' sW h=>?_,fun i j h hb=>?_,?_,?_,hg,hx,hi.Tj,fun d' sW h=>?_,hi.LD,hi.sep⟩
 ·rw [kK] at h;simp only [or_eq_true,decide_eq_true_eq] at h;rcases h with rfl|h
  ·exact ⟨d,hd,rfl⟩
  ·exact hi.Ti i h
 ·rw [kK,hi.ES d' sW h];simp
 ·rw [kK] at h ⊢;simp only [or_eq_true,decide_eq_true_eq] at h ⊢;rcases h with rfl|h
  ·exact .inr (hr j hb)
  ·exact .inr (hi.closed i j h hb)
 ·obtain ⟨pre,ds,rfl⟩:=append_of_mem hd;have W7:=(hi.ue hp).1;rw [pairwise_append] at W7;obtain ⟨_,Qv,Tm⟩:=W7;rw [pairwise_cons] at Qv;rw [Gb (S:=g8 bG) (d:=d) hS (fun k=>kK k) (fun x hx=>((Tm x hx d (by simp)).ne).symm) (fun x hx=>(Qv.1 x hx).ne) (fun x hx t ht=>(Tm x hx d (by simp)).dd t ht),Act.I8];exact (hi.env.mono hm).put d.o.dst hv
 ·rw [Act.AZ];exact hi.defs.mono hm
 ·rw [kK] at h;simp only [or_eq_false_iff,decide_eq_false_iff_not] at h;obtain ⟨wb,q1,q2,q3⟩:=(hi.Tk d' sW h.2).ex;refine ⟨wb,q1,q2,fun hw=>?_⟩;rcases q3 hw with q|q|⟨k1,k2,k,ob,k3,k4,k5,k6⟩
  ·exact .inl q
  ·exact .inr (.inl q)
  ·exact .inr (.inr ⟨k1,k2,k,ob,k3,k4,k5,qd d' sW h.2 h.1 k2 k6⟩)
theorem qM{P:Program}{ms:List Nat}{i:Nat}{h:Heap}:∀ {lg:List Read},jE P ms i h lg=true->∀ r ∈ lg,Ch ms i r.i=false->sameAt P r.op r.env r.v h=true
 |[],hh,r,hr,hb=>by cases hr
 |r' :: lg,hh,r,hr,hb=>by
  simp only [jE] at hh;rcases mem_cons.1 hr with rfl|hr
  ·rw [if_neg (by rw [hb];simp)] at hh;simp only [and_eq_true] at hh;exact hh.1
  ·split at hh
   ·exact qM hh r hr hb
   ·simp only [and_eq_true] at hh;exact qM hh.2 r hr hb
theorem m7.V6(hp:sV C.ops C.ms C.L)(hi:m7 C bG a w μ dn (p :: R) lg s)(hlt:p.1<bG.size)(hr:∀ j,Ch C.ms p.1 j=true->g8 bG j=true)
  {a':Act} {w':World} {μ':Mu} {v:AV} {jT:List qh} {h':Heap} (hrun:fO C.P C.call C.ops.toList C.ms R lg ⟨mQ s.env s.n p.2.dst v,s.n,jT,h'⟩ C.K=true)
  (hs:SR C.w0 μ' ⟨mQ (fU C.kJ C.n (g8 bG) dn) C.n p.2.dst v,C.n,jT,h'⟩ a' w') (hx:Ext μ s.h w μ' h' w')
  (hrd:∀ r ∈ lg,fE r.op = .read->Ch C.ms p.1 r.i=false->mD C.P (evalArg r.env) s.h r.op=some r.v->mD C.P (evalArg r.env) h' r.op=some r.v) :
  m7 C (bG.setIfInBounds p.1 true) a' w' μ' (⟨p.1,p.2,v,s.env,0,false⟩ :: dn) R lg ⟨mQ s.env s.n p.2.dst v,s.n,jT,h'⟩:=by
 have kK:=yL hlt;obtain ⟨hf,hne⟩:=hi.fresh hp (r:=p) (by simp);refine ⟨by rw [hi.split];simp,hrun,hi.Gc,?_,by simpa using hi.size,fun i h=>?_,fun d' sW h=>?_,fun i j h hb=>?_,?_,hs.defs,hs.fV,hi.ext.trans hx,fun pre d ds h=>?_,fun d' sW h=>?_,fun d' sW h=>?_,fun d1 h1 d2 h2 Tl a1 a2=>?_⟩
 ·show mQ s.env s.n p.2.dst v=_;simp only [fU,if_true];rw [hi.Gc,hi.LC]
 ·rw [kK] at h;simp only [or_eq_true,decide_eq_true_eq] at h;rcases h with rfl|h
  ·exact ⟨⟨p.1,p.2,v,s.env,0,false⟩,by simp,rfl⟩
  ·obtain ⟨d,hd,e⟩:=hi.Ti i h;exact ⟨d,by simp [hd],e⟩
 ·rw [kK];rcases mem_cons.1 sW with rfl|sW
  ·simp
  ·rw [hi.ES d' sW h];simp
 ·rw [kK] at h ⊢;simp only [or_eq_true,decide_eq_true_eq] at h ⊢;rcases h with rfl|h
  ·exact .inr (hr j hb)
  ·exact .inr (hi.closed i j h hb)
 ·have:fU C.kJ C.n (g8 (bG.setIfInBounds p.1 true)) (⟨p.1,p.2,v,s.env,0,false⟩ :: dn)=mQ (fU C.kJ C.n (g8 bG) dn) C.n p.2.dst v:=by
   simp only [fU];rw [if_pos (by rw [kK];simp),qq (S':=g8 bG) (fun x hx=>by rw [kK];simp [hne x hx])]
  rw [this];exact hs.env
 ·cases pre with
  |nil=>
   simp only [nil_append,List.cons.injEq] at h;obtain ⟨rfl,rfl⟩:=h;exact hi.LC
  |cons x pre=>
   simp only [cons_append,List.cons.injEq] at h;exact hi.Tj pre d ds h.2
 ·rw [kK] at h;simp only [or_eq_false_iff,decide_eq_false_iff_not] at h;rcases mem_cons.1 sW with rfl|sW
  ·exact absurd rfl h.1
  ·obtain ⟨wb,q1,q2,q3⟩:=(hi.Tk d' sW h.2).ex;refine ⟨wb,q1,q2,fun hw=>?_⟩;rcases q3 hw with q|⟨k1,k2,k3⟩|⟨k1,k2,k,ob,k3,k4,k5,k6⟩
   ·exact .inl q
   ·refine .inr (.inl ⟨k1,hrd _ k3 k1 ?_ k2,k3⟩)
    cases hb:Ch C.ms p.1 d'.i with
    |false=>rfl
    |true=>have:=hr _ hb;rw [h.2] at this;cases this
   ·have hb:=hi.LD d' sW k2;refine .inr (.inr ⟨k1,k2,k,ob,k3,k4,?_,fun kk hk=>?_⟩)
    ·show h'.get d'.b=some ob;rw [hx.gz _ hb.2 k6];exact k5
    ·rcases hx.fresh _ kk hk with e|e
     ·exact k6 kk e
     ·omega
 ·rcases mem_cons.1 sW with rfl|sW
  ·cases h
  ·have:=hi.LD d' sW h;exact ⟨this.1,Nat.lt_of_lt_of_le this.2 hx.next⟩
 ·rcases mem_cons.1 h1 with rfl|h1
  ·cases a1
  ·rcases mem_cons.1 h2 with rfl|h2
   ·cases a2
   ·exact hi.sep d1 h1 d2 h2 Tl a1 a2
end
end Go.AM
namespace Go.AM
open List Nat Bool Option
open Go Go.RowKit
variable {bG:Array Bool}
def A5(bG:Array Bool):Nat:=((List.range bG.size).filter fun i=>!g8 bG i).length
theorem filter_lt{α:Type}(p q:α->Bool)(hpq:∀ x,q x=true->p x=true):∀ (l:List α) (x:α),x ∈ l->p x=true->q x=false->(l.filter q).length<(l.filter p).length
 |[],x,h,_,_=>by cases h
 |y :: l,x,h,h1,h2=>by
  have le:∀ l:List α,(l.filter q).length<=(l.filter p).length:=by
   intro l
   induction l with
   |nil=>simp
   |cons z l ih=>
    simp only [filter_cons];by_cases hq:q z=true
    ·rw [if_pos hq,if_pos (hpq z hq)];simp;exact ih
    ·rw [if_neg hq];split
     ·simp;omega
     ·exact ih
  simp only [filter_cons];rcases mem_cons.1 h with rfl|h
  ·rw [if_pos h1,if_neg (by rw [h2];simp)];have:=le l;simp;omega
  ·have ih:=filter_lt p q hpq l x h h1 h2;by_cases hq:q y=true
   ·rw [if_pos hq,if_pos (hpq y hq)];simp;exact ih
   ·rw [if_neg hq];split
    ·simp;omega
    ·exact ih
theorem Ou{i:Nat}(hi:i<bG.size)(h:g8 bG i=false):A5 (bG.setIfInBounds i true)<A5 bG:=by
 unfold A5;rw [Array.size_setIfInBounds];refine filter_lt _ _ (fun x hx=>?_) _ i (by simpa using hi) (by simp [h]) (by rw [yL hi];simp);rw [yL hi] at hx;simp only [not_eq_true',or_eq_false_iff] at hx;simp [hx.2]
theorem LF(h:A5 bG=0):∀ i,i<bG.size->g8 bG i=true:=by
 intro i hi;unfold A5 at h;have:=eq_nil_of_length_eq_zero h;rw [filter_eq_nil_iff] at this;simpa using this i (by simpa using hi)
theorem Ov{ops:Array Oper}(hs:bG.size=ops.size)(he:∀ (i:Nat) (o:Oper),ops[i]?=some o->∀ e ∈ o.after.toList,Region.binds .any e=true->e.on<i)(h:Region.ready .any ops bG = []) :
  ∀ i,i<ops.size->g8 bG i=true:=by
 intro i
 induction i using Nat.strongRecOn with
 |ind i ih=>
  intro hi
  cases hl:g8 bG i with
  |true=>rfl
  |false=>
   exfalso;have ho:ops[i]?=some ops[i]:=by simp [hi]
   have:i ∈ Region.ready .any ops bG:=by
    refine mem_ready.2 ⟨?_,_,ho,fun e Jd hb=>?_⟩
    ·have:=hl;unfold g8 at this;simp only [Array.getD_eq_getD_getElem?] at this ⊢;rw [Array.getElem?_eq_getElem (by omega)] at this ⊢;simpa using this
    ·have:=he i _ ho e (by simpa using Jd) hb;exact ih e.on this (by omega)
   rw [h] at this;cases this
section
variable {C:Th} {bG:Array Bool} {a:Act} {w:World} {μ:Mu} {dn:List Dn} {R:List (Nat×Oper)} {lg:List Read} {s:St}
theorem m7.done(hp:sV C.ops C.ms C.L)(hi:m7 C bG a w μ dn R lg s)(mA:∀ i,i<C.ops.size->g8 bG i=true):C.K s=true/\SR C.w0 μ s a w/\Ext C.μb C.hb C.wb μ s.h w:=by
 have hR:R = []:=by
  cases R with
  |nil=>rfl
  |cons p R=>
   have hm:p ∈ C.L:=by rw [hi.split];simp
   have hlt:=(Array.getElem?_eq_some_iff.1 (hp.mem p hm)).1;have:=(hi.fresh hp (r:=p) (by simp)).1;rw [mA _ hlt] at this;cases this
 subst hR;have hrun:=hi.run;simp only [fO] at hrun;refine ⟨hrun,⟨?_,hi.defs,hi.fV⟩,hi.ext⟩
 have:fU C.kJ C.n (g8 bG) dn=s.env:=by
  rw [hi.LC];refine qq fun x hx=>?_;have hm:(x.i,x.o) ∈ C.L:=by rw [hi.split];simp;exact ⟨x,hx,rfl,rfl⟩
  exact mA _ (Array.getElem?_eq_some_iff.1 (hp.mem _ hm)).1
 have he:=hi.env;rw [this] at he;rw [hi.Gc];exact he
theorem LG(hp:sV C.ops C.ms C.L)(hc:fZ C.P C.call){Q:Exit->Act->World->Prop}(hQ:∀ s' a' w' μ',C.K s'=true->SR C.w0 μ' s' a' w'->Ext C.μb C.hb C.wb μ' s'.h w'->Q .normal a' w') :
  ∀ (fuel:Nat) (bG:Array Bool) (a:Act) (w:World) (μ:Mu) (dn:List Dn) (R:List (Nat×Oper)) (lg:List Read) (s:St),m7 C bG a w μ dn R lg s->A5 bG<=fuel->wpAny C.P .any C.ops Q fuel bG a w:=by
 have fin:∀ (bG:Array Bool) (a:Act) (w:World) (μ:Mu) (dn:List Dn) (R:List (Nat×Oper)) (lg:List Read) (s:St),m7 C bG a w μ dn R lg s->Region.ready .any C.ops bG = []->Q .normal a w:=by
  intro bG a w μ dn R lg s hi hr;obtain ⟨h1,h2,h3⟩:=hi.done hp (Ov hi.size hp.jy hr);exact hQ _ _ _ _ h1 h2 h3
 intro fuel
 induction fuel with
 |zero=>
  intro bG a w μ dn R lg s hi hl;have mA:=LF (le_zero.1 hl)
  have hr:Region.ready .any C.ops bG = []:=by
   cases h:Region.ready .any C.ops bG with
   |nil=>rfl
   |cons i l=>
    have hm:i ∈ Region.ready .any C.ops bG:=(by rw [h];simp);obtain ⟨h1,o,ho,_⟩:=mem_ready.1 hm;have hlt:=(Array.getElem?_eq_some_iff.1 ho).1;have:=mA i (by rw [hi.size];exact hlt);unfold g8 at this;simp only [Array.getD_eq_getD_getElem?] at this h1;rw [Array.getElem?_eq_getElem (by rw [hi.size];exact hlt)] at this h1;simp at this h1;rw [this] at h1;cases h1
  exact ⟨hr,fin _ _ _ _ _ _ _ _ hi hr⟩
 |succ fuel ih=>
  intro bG a w μ dn R lg s hi0 hl;refine ⟨fin _ _ _ _ _ _ _ _ hi0,fun i Jd=>?_⟩;obtain ⟨dn,R,lg,s,hi,V7⟩:=hi0.advance hp;obtain ⟨h1,o,ho,_⟩:=mem_ready.1 Jd;have hlt:i<C.ops.size:=(Array.getElem?_eq_some_iff.1 ho).1;have Je:i<bG.size:=by rw [hi.size];exact hlt
  have hS:g8 bG i=false:=by
   unfold g8;simp only [Array.getD_eq_getD_getElem?] at h1 ⊢;rw [Array.getElem?_eq_getElem Je] at h1 ⊢;simpa using h1
  have hr:∀ j,Ch C.ms i j=true->g8 bG j=true:=fun j hb=>by
   rw [hp.nF] at hb;exact Om (by rw [<- hp.nF];exact hi.closed) Jd hb
  have CT:A5 (bG.setIfInBounds i true)<=fuel:=by have:=Ou Je hS;omega
  obtain ⟨p,hpL,Tn⟩:=hp.cover i hlt;have W8:=hp.mem p hpL;rw [Tn,ho] at W8;obtain ⟨pi,po⟩:=p;simp only at Tn W8;obtain rfl:=Tn;obtain rfl:=Option.some.inj W8;have hρ:∀ x,VR C.w0 μ (evalArg (fU C.kJ C.n (g8 bG) dn) x) (a.eval x):=SR.eval (s:=⟨fU C.kJ C.n (g8 bG) dn,C.n,s.defs,s.h⟩) ⟨hi.env,hi.defs,hi.fV⟩;have Qw:∀ b,iW C.ops.toList o (fU C.kJ C.n (g8 bG) dn)=some b->Region.wanted o (yielded C.ops a.tmps)=b:=fun b hb=>lF (s:=⟨fU C.kJ C.n (g8 bG) dn,C.n,s.defs,s.h⟩) hi.env hb;unfold wpOp;simp only [ho];rw [hi.split,mem_append,mem_map] at hpL;rcases hpL with ⟨d,hd,SI⟩|hpR
  ·
   rw [mem_reverse] at hd;simp only [Prod.mk.injEq] at SI;obtain ⟨rfl,rfl⟩:=SI;have uj:=hi.agree hp hd hS hr;have Qx:∀ x ∈ d.o.op.operands,evalArg (fU C.kJ C.n (g8 bG) dn) x=evalArg d.env x:=Jc uj;obtain ⟨wb,q1,q2,q3⟩:=(hi.Tk d hd hS).ex;rw [<- yQ uj] at q1;rw [Qw wb q1]
   cases wb with
   |false=>
    simp only [false_eq_true,if_false];have wo:=hi.ran hp hd hS Je hr (Mu.le.refl μ) (vc:=undef) (by rw [q2 rfl];exact VR.bM) hi.fV hi.ext (fun _ _ _ _ _ h=>h);exact ih _ _ _ _ _ _ _ _ wo CT
   |true=>
    rw [if_pos rfl];refine .inl ?_;rcases q3 rfl with ⟨k1,k2⟩|⟨k1,k2,k3⟩|⟨k1,k2,k,ob,k3,k4,k5,k6⟩
    ·rw [<- A2 Qx] at k2;obtain ⟨vc,e1,e2⟩:=I0 hρ k1 k2;unfold Oper.wp;rw [e1 w,Oper.upon_value];exact ih _ _ _ _ _ _ _ _ (hi.ran hp hd hS Je hr (Mu.le.refl μ) e2 hi.fV hi.ext (fun _ _ _ _ _ h=>h)) CT
    ·rw [<- A3 Qx] at k2;obtain ⟨vc,e1,e2⟩:=I3 hi.fV hρ k1 k2;unfold Oper.wp;rw [e1,Oper.upon_value];exact ih _ _ _ _ _ _ _ _ (hi.ran hp hd hS Je hr (Mu.le.refl μ) e2 hi.fV hi.ext (fun _ _ _ _ _ h=>h)) CT
    ·rw [<- yK Qx] at k3;obtain ⟨O,n,f,hm⟩:=F6 (w0:=C.w0) (μ:=μ) hρ k1 k3;have hb:=hi.LD d hd k2;have Na:=hi.fV.Qb hb.2 k6 k5 O n (hm.obj _);have gi:=hi.ext.Qb (n:=n) hb.1 k6 O;unfold Oper.wp;rw [hm.run w,Oper.upon_value];refine ih _ _ _ _ _ _ _ _ (hi.ran hp hd hS Je hr (Mu.zM k6) (by rw [k4];exact hm.val _ _ _ (Mu.add_same _ _ _)) Na gi (fun d' sW _ hne hal Zx kk hk=>?_)) CT;rw [Mu.jx] at hk;have:d'.b≠d.b:=hi.sep d' sW d hd hne hal k2;rw [if_neg this] at hk;exact Zx kk hk
  ·
   have hRp:∃ rest,R=(pi,o) :: rest:=by
    cases R with
    |nil=>cases hpR
    |cons q rest=>
     rcases mem_cons.1 hpR with e|hq
     ·exact ⟨rest,by rw [e]⟩
     ·exfalso;have nW:=(hi.ue hp).2.1;rw [pairwise_cons] at nW;have hb:=(nW.1 _ hq).KO (V7 q rest rfl);have h2:=hr _ hb;have:=(hi.fresh hp (r:=q) (by simp)).1;rw [h2] at this;cases this
   obtain ⟨rest,rfl⟩:=hRp;have W9:=V7 _ _ rfl
   have hk:fE o.op = .KO:=by
    unfold sQ at W9;simp only at W9;cases hk:fE o.op<;>simp [hk] at W9;rfl
   have uj:=hi.Ot hp hr;have Qx:∀ x ∈ o.op.operands,evalArg (fU C.kJ C.n (g8 bG) dn) x=evalArg s.env x:=Jc (ops:=C.ops.toList) uj;obtain ⟨ai8,ns,V8,YH⟩:=s;have hrun:=hi.run;simp only [fO] at hrun;rw [<- yQ (ops:=C.ops.toList) uj] at hrun;split at hrun
   ·rename_i hw;rw [Qw _ hw,if_pos rfl];simp only [hk] at hrun;rw [<- Hy Qx] at hrun;refine .inl ?_;have qW:SR C.w0 μ ⟨fU C.kJ C.n (g8 bG) dn,C.n,V8,YH⟩ a w:=⟨hi.env,hi.defs,hi.fV⟩
    refine Cn qW hc ⟨fun v jT h' a' w' μ' hK gI hx=>?_,fun v vc h' w' μ' hK _ _ _=>by cases hK⟩ hrun;simp only at hK;split at hK
    ·rename_i hsr;refine ih _ _ _ _ _ _ _ _ (hi.V6 hp Je hr (lu hK) gI hx (fun r qL Xa hb hv=>?_)) CT;exact Ja Xa (qM hsr r qL hb)
    ·cases hK
   ·rename_i hw;rw [Qw _ hw];simp only [false_eq_true,if_false];have qW:SR C.w0 μ ⟨fU C.kJ C.n (g8 bG) dn,C.n,V8,YH⟩ a w:=⟨hi.env,hi.defs,hi.fV⟩
    have Nb:=qW.left o.dst (h':=YH) VR.bM hi.fV (Mu.le.refl μ);exact ih _ _ _ _ _ _ _ _ (hi.V6 hp Je hr (v:=bM) (lu hrun) Nb (Ext.refl _ _ _) (fun r _ _ _ hv=>hv)) CT
   ·cases hrun
end
theorem Nc{P:Program}{w0 w:World}{μ:Mu}{s:St}{a:Act}(hm:P.follows .mixedOrders=true){call:jS}(hc:fZ P call){id:Nat}{ops:Array Oper}{Jf:WS}(hp:IP ops.toList=some Jf){K:St->Bool}
  {Q:Exit->Act->World->Prop} (hs:SR w0 μ s a w) (hQ:∀ s' a' w' μ',K s'=true->SR w0 μ' s' a' w'->Ext μ s.h w μ' s'.h w'->Q .normal a' w')
  (h:fO P call ops.toList Jf.ms Jf.L [] s K=true):(Code.region id ops true).wp P Q a w:=by
 refine wp_region_any hm ?_
 let C:Th:=⟨P,call,ops,Jf.ms,Jf.L,K,w0,μ,s.h,w,s.env,s.n⟩
 have qJ:sV C.ops C.ms C.L:=LB hp
 have hin:∀ k,g8 (Array.replicate ops.size false) k=false:=fun k=>by
  unfold g8;simp only [Array.getD_eq_getD_getElem?,Array.getElem?_replicate];split<;>rfl
 have hi:m7 C (Array.replicate ops.size false) a { w with drawn:=w.drawn+1 } μ [] Jf.L [] s:=by
  refine ⟨rfl,h,rfl,rfl,by simp [C],fun i hh=>?_,by simp,fun i j hh=>?_,hs.env,hs.defs,hs.fV.same rfl rfl rfl rfl,?_,by simp,by simp,by simp,by simp⟩
  ·rw [hin] at hh;cases hh
  ·rw [hin] at hh;cases hh
  ·exact ⟨Mu.le.refl μ,fun _ _ _=>rfl,fun _ _ h=>.inl h,dK _,dK _,fun _ _ _=>rfl,fun _ _ h=>.inl h,fun _ _ h=>.inl h⟩
 refine LG qJ hc hQ _ _ _ _ _ _ _ _ _ hi ?_;unfold A5;refine Nat.le_trans (length_filter_le _ _) ?_;simp [C]
end Go.AM