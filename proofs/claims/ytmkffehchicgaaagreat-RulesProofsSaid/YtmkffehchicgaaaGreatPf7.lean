/- Parts of the proof. Conditions: none. -/
import Derived.Test.YtmkffehchicgaaaGreatPf6
import Derived.Defers
import Derived.Orders
set_option linter.unusedSimpArgs false
set_option linter.unusedVariables false
namespace Go.AM
open List Nat Bool Option
open Go Go.RowKit
variable {K:R->Bool} {call:lI} {o:Oper} {w':World} {v:AV}
structure aiV (w0:World) (μ:Mu) (d:su) (D:Deferred):Prop where
 ex:∃ cap args:List Value,D = { target:=.fn (.func d.f) cap.toArray,args:=args.toArray }/\fO w0 μ d.args args/\fO w0 μ d.cap cap
inductive Ay (w0:World) (μ:Mu):List su->List Deferred->Prop where
 |nil:Ay w0 μ [] []
 |cons {d:su} {D:Deferred} {ds:List su} {Ds:List Deferred} (h:aiV w0 μ d D) (t:Ay w0 μ ds Ds):Ay w0 μ (d :: ds) (D :: Ds)
def Fj(w0:World)(μ:Mu)(env:Env)(n:Nat)(tmps:Array Value):Prop:=tmps.size=n/\∀ t,VR w0 μ (env t) (tmps.getD t undef)
structure SR (w0:World) (μ:Mu) (s:St) (a:Act) (w:World):Prop where
 env:Fj w0 μ s.env s.n a.tmps
 defs:Ay w0 μ s.defs a.defers
 iP:Good w0 μ s.h w
section
variable {P:Program} {w0 w:World} {μ μ':Mu} {h h':ag} {s:St} {a:Act}
theorem Ay.mono(hm:μ.le μ'){ds:List su}{Ds:List Deferred}(h:Ay w0 μ ds Ds):Ay w0 μ' ds Ds:=by
 induction h with
 |nil=>exact .nil
 |cons h t ih=>obtain ⟨c,x,e,a,b⟩:=h;exact .cons ⟨c,x,e,a.mono hm,b.mono hm⟩ ih
theorem Fj.mono(hm:μ.le μ'){env:Env}{n:Nat}{tmps:Array Value}(h:Fj w0 μ env n tmps):Fj w0 μ' env n tmps:=⟨h.1,fun t=>(h.2 t).mono hm⟩
theorem bg(env:Env)(d:Nat)(v:AV)(t:Nat):aa env d v t=if t=d then v else env t:=by
 unfold aa
 cases h:beq t d with
 |true=>rw [if_pos (eq_of_beq_eq_true h)]
 |false=>rw [if_neg (ne_of_beq_eq_false h)]
theorem mZ{env:Env}{n:Nat}{dst:Option Tmp}{k:Env->Bool}(h:jF env n dst v k=true):k (oC env n dst v)=true:=by
 cases dst with
 |none=>exact h
 |some d=>
  simp only [jF] at h;simp only [oC]
  cases hb:ble (d+1) n with
  |false=>rw [hb] at h;cases h
  |true=>
   rw [hb] at h;have:d<n:=le_of_ble_eq_true hb;rw [if_pos this];exact h
theorem Fj.put{env:Env}{n:Nat}{tmps:Array Value}(h:Fj w0 μ env n tmps)(dst:Option Tmp){vc:Value}(hv:VR w0 μ v vc):Fj w0 μ (oC env n dst v) n (match dst with|some d=>tmps.setIfInBounds d vc|none=>tmps):=by
 cases dst with
 |none=>exact h
 |some d=>
  refine ⟨by simpa using h.1,fun t=>?_⟩;have ht:=h.2 t;simp only [oC];by_cases hd:d<n
  ·rw [if_pos hd];rw [bg];by_cases e:t=d
   ·subst e;rw [if_pos rfl];have:(tmps.setIfInBounds t vc).getD t undef=vc:=by simp [Array.getD,show t<tmps.size by rw [h.1];exact hd]
    rw [this];exact hv
   ·rw [if_neg e]
    have:(tmps.setIfInBounds d vc).getD t undef=tmps.getD t undef:=by
     simp only [Array.getD_eq_getD_getElem?];rw [Array.getElem?_setIfInBounds_ne (fun q=>e q.symm)]
    rw [this];exact ht
  ·rw [if_neg hd];have:(tmps.setIfInBounds d vc)=tmps:=Array.setIfInBounds_eq_of_size_le (h.1▸Nat.le_of_not_lt hd);rw [this];exact ht
theorem Act.LZ(a:Act)(dst:Option Tmp)(v:Value):(a.put dst v).tmps=(match dst with|some d=>a.tmps.setIfInBounds d v|none=>a.tmps):=by cases dst<;>rfl
theorem Act.CY(a:Act)(dst:Option Tmp)(v:Value):(a.put dst v).defers=a.defers:=by cases dst<;>rfl
theorem SR.left(hs:SR w0 μ s a w)(dst:Option Tmp){vc:Value}(hv:VR w0 μ' v vc)(hg:Good w0 μ' h' w')(hm:μ.le μ'):SR w0 μ' (s.aai h' dst v) (a.put dst vc) w':=
 ⟨by rw [Act.LZ];exact (hs.env.mono hm).put dst hv,by rw [Act.CY];exact hs.defs.mono hm,hg⟩
theorem SR.ac5(hs:SR w0 μ s a w)(hg:Good w0 μ' h' w')(hm:μ.le μ'):SR w0 μ' ⟨s.env,s.n,s.defs,h'⟩ a w':=
 ⟨hs.env.mono hm,hs.defs.mono hm,hg⟩
theorem SR.eval(hs:SR w0 μ s a w):∀ x,VR w0 μ (evalArg s.env x) (a.eval x):=by
 intro x
 cases x with
 |tmp t=>exact hs.env.2 t
 |const v=>exact VR.ofConst v
 |global g=>exact .undef _
 |func f=>exact .func f [] [] [] [] rfl rfl (by simp) (by simp)
theorem nk(hs:Fj w0 μ s.env s.n a.tmps){ops:Array Oper}{b:Bool}(h:j9 ops.toList o s.env=some b):Region.wanted o (yielded ops a.tmps)=b:=by
 unfold j9 at h;unfold Region.wanted;split at h
 ·rename_i hg;rw [hg];simpa using h
 ·rename_i j want hg;rw [hg];simp only;split at h
  ·rename_i g hj;split at h
   ·rename_i d hd;have Ki:ops[j]?=some g:=by rw [Array.getElem?_toList] at hj;exact hj
    have ht:=hs.2 d
    have key:∀ v:Value,VR w0 μ (s.env d) v->v=a.tmps.getD d undef->(yielded ops a.tmps j==some want)=b:=by
     intro v hv he;unfold yielded;simp only [Ki,bind_some,hd];split at h
     ·rename_i b' hb;rw [hb] at hv;cases h;rw [hv.jO] at he;by_cases eM:d<a.tmps.size
      ·have:a.tmps[d]?=some (.bool b'):=by
        simp [Array.getD,eM] at he;simp [eM,he]
       rw [this];simp
      ·simp [Array.getD,eM,undef] at he
     ·rename_i vs hb;rw [hb] at hv;cases h;obtain ⟨us,rfl,_⟩:=hv.IL;by_cases eM:d<a.tmps.size
      ·have:a.tmps[d]?=some (.tuple us.toArray):=by
        simp [Array.getD,eM] at he;simp [eM,he]
       rw [this];simp
      ·have:a.tmps[d]?=none:=Array.getElem?_eq_none (Nat.le_of_not_lt eM);rw [this];simp
     ·cases h
    exact key _ ht rfl
   ·cases h
  ·cases h
def Fl(w0:World)(μ:Mu)(h:ag)(w:World)(K:Out->ag->Bool):Ending->World->Prop
 |.returned vc,w'=>∃ v h' μ',K (.ret v) h'=true/\VR w0 μ' v vc/\Good w0 μ' h' w'/\Ext μ h w μ' h' w'
 |.panicked chain,w'=>∃ v vc h' μ',K (.panic v) h'=true/\chain = [{ v:=vc,recovered:=false }]/\VR w0 μ' v vc/\Good w0 μ' h' w'/\Ext μ h w μ' h' w'
 |.outgrown,_=>False
def Enters(P:Program)(f:FuncId):Prop:=∃ fn c,P.funcs[f]?=some fn/\fn.body=some c/\fn.name≠ "runtime.NumGoroutine"
theorem Az{f:FuncId}(he:Enters P f)(args:Array Value):(callFunc f args).run P w = .ok (.enter f args) w:=by
 obtain ⟨fn,c,h1,h2,h3⟩:=he;simp [callFunc,h1,h2,h3]
def g9(P:Program)(call:lI):Prop:=
 ∀ f args h K,call f args h K=true->Enters P f/\∀ (w0:World) (μ:Mu) (w:World) (vs:List Value),Good w0 μ h w->fO w0 μ args vs->Calls P f vs.toArray w (Fl w0 μ h w K)
structure IQ (w0:World) (μ:Mu) (s:St) (a:Act) (w:World) (dst:Option Tmp) (K:R->Bool) (next:Act->World->Prop) (Q:Exit->Act->World->Prop):Prop where
 ok:∀ (v:AV) (lJ:List su) (h':ag) (a':Act) (w':World) (μ':Mu),K (.ok v lJ h')=true->SR w0 μ' ⟨oC s.env s.n dst v,s.n,lJ,h'⟩ a' w'->Ext μ s.h w μ' h' w'->next a' w'
 panic:∀ (v:AV) (vc:Value) (h':ag) (w':World) (μ':Mu),K (.panic v h')=true->VR w0 μ' v vc->SR w0 μ' ⟨s.env,s.n,s.defs,h'⟩ a w'->Ext μ s.h w μ' h' w'->Q (.panic [{ v:=vc,recovered:=false }]) a w'
theorem Fm(hs:SR w0 μ s a w){next:Act->World->Prop}{Q:Exit->Act->World->Prop}(hl:IQ w0 μ s a w o.dst K next Q)
  (h:sI o.op P call s.env s.defs s.h K=true):o.wp P a w next Q:=by
 obtain ⟨v,h',vc,w',μ',hK,hr,hv,hg,hx⟩:=aau hs.iP hs.eval h;unfold Oper.wp;rcases hr with hr|⟨rfl,hr⟩
 ·rw [hr];exact hl.ok _ _ _ _ _ _ hK (hs.left o.dst hv hg hx.mono) hx
 ·rw [hr];exact hl.ok _ _ _ _ _ _ hK (hs.left o.dst hv hg hx.mono) hx
theorem WH(hs:SR w0 μ s a w)(hc:g9 P call){c:Call}(ho:o.op = .call c){next:Act->World->Prop}{Q:Exit->Act->World->Prop}(hl:IQ w0 μ s a w o.dst K next Q)
  (h:zy c P call s.env s.defs s.h K=true):o.wp P a w next Q:=by
 obtain ⟨BN,args,ts⟩:=c
 cases BN with
 |builtin b=>exact Fm hs hl (call:=call) (by rw [ho];exact h)
 |invoke r m=>exact Fm hs hl (call:=call) (by rw [ho];exact h)
 |value f=>
  simp only [zy,Ez] at h;split at h
  ·rename_i g first cap hf
   obtain ⟨he,aav⟩:=hc _ _ _ _ h;have hfv:=hs.eval f;rw [hf] at hfv;generalize hfe:a.eval f=fv at hfv;cases hfv;rename_i us vs h1 r1 h2 r2;have CZ:fO w0 μ (args.toList.map (evalArg s.env)) (args.toList.map a.eval):=fO.map _ fun x _=>hs.eval x;have fh:=(fO.mk h1 r1).append (CZ.append (fO.mk h2 r2));have BF:=aav w0 μ w _ hs.iP fh
   have iK:(execOp a.eval o).run P w = .ok (.enter g (us++(args.toList.map a.eval++vs)).toArray) w:=by
    have e:us.toArray++args.map a.eval++vs.toArray=(us++(args.toList.map a.eval++vs)).toArray:=by
     apply Array.ext';simp
    simp only [execOp,ho,resolve,hfe,Deferred.ofValue,Sem.run_bind,Sem.run_pure,Result.andThen_ok,invoke,Az he,e]
   unfold Oper.wp;rw [iK,Oper.upon_enter];refine Calls.mono BF fun e w' hR=>?_
   cases e with
   |returned vc=>
    obtain ⟨v,h',μ',hK,hv,hg,hx⟩:=hR;exact hl.ok _ _ _ _ _ _ hK (hs.left o.dst hv hg hx.mono) hx
   |panicked chain=>
    obtain ⟨v,vc,h',μ',hK,rfl,hv,hg,hx⟩:=hR;exact hl.panic _ _ _ _ _ hK hv (hs.ac5 hg hx.mono) hx
   |outgrown=>exact hR.elim
  ·cases h
theorem T8(hs:SR w0 μ s a w){c:Call}(ho:o.op = .defer c){next:Act->World->Prop}{Q:Exit->Act->World->Prop}(hl:IQ w0 μ s a w o.dst K next Q)
  (h:Ap c P call s.env s.defs s.h K=true):o.wp P a w next Q:=by
 obtain ⟨BN,args,ts⟩:=c
 cases BN with
 |builtin b=>cases h
 |invoke r m=>cases h
 |value f=>
  simp only [Ap] at h;split at h
  ·rename_i g first cap hf
   have hfv:=hs.eval f;rw [hf] at hfv;generalize hfe:a.eval f=fv at hfv;cases hfv;rename_i us vs h1 r1 h2 r2;have CZ:fO w0 μ (args.toList.map (evalArg s.env)) (args.toList.map a.eval):=fO.map _ fun x _=>hs.eval x;have fh:=(fO.mk h1 r1).append CZ
   have iK:(execOp a.eval o).run P w = .ok (.defer { target:=.fn (.func g) vs.toArray,args:=(us++args.toList.map a.eval).toArray }) w:=by
    have e:us.toArray++args.map a.eval=(us++args.toList.map a.eval).toArray:=by
     apply Array.ext';simp
    simp only [execOp,ho,resolve,hfe,Deferred.ofValue,Sem.run_bind,Sem.run_pure,Result.andThen_ok,e]
   unfold Oper.wp;rw [iK,Oper.upon_defer]
   have jc:SR w0 μ (St.mk s.env s.n (⟨g,first++args.toList.map (evalArg s.env),cap⟩ :: s.defs) s.h) { a with defers:={ target:=.fn (.func g) vs.toArray,args:=(us++args.toList.map a.eval).toArray } :: a.defers } w:=
    ⟨hs.env,.cons ⟨vs,_,rfl,fh,⟨h2,r2⟩⟩ hs.defs,hs.iP⟩
   exact hl.ok _ _ _ _ _ _ h (jc.left o.dst VR.bK hs.iP (Mu.le.refl μ)) (Ext.refl _ _ _)
  ·cases h
theorem T9(hs:SR w0 μ s a w){x:Operand}(ho:o.op = .panic x){next:Act->World->Prop}{Q:Exit->Act->World->Prop}(hl:IQ w0 μ s a w o.dst K next Q)
  (h:Aq x P call s.env s.defs s.h K=true):o.wp P a w next Q:=by
 simp only [Aq] at h;split at h
 ·rename_i t v hx;have hv:=hs.eval x;rw [hx] at hv;generalize he:a.eval x=xv at hv;cases hv;rename_i vc hvc
  have iK:(execOp a.eval o).run P w = .halt (.panic (.iface t vc)) w:=by
   simp [execOp,ho,he,Instr.panic]
  unfold Oper.wp;rw [iK,Oper.upon_panic];exact hl.panic _ _ _ _ _ h (.iface t v vc hvc) hs (Ext.refl _ _ _)
 ·cases h
theorem C0{defs:List su}{K:R->Bool}:∀ {L:List (AV×ag)},nX defs K L=true->∀ p ∈ L,K (.ok p.1 defs p.2)=true
 |[],_,p,hp=>by cases hp
 |q :: L,h,p,hp=>by
  simp only [nX,and_eq_true] at h;rcases mem_cons.1 hp with rfl|hp
  ·exact h.1
  ·exact C0 h.2 p hp
theorem WI(hs:SR w0 μ s a w){x:Operand}{b:Bool}(ho:o.op = .next x b){next:Act->World->Prop}{Q:Exit->Act->World->Prop}(hl:IQ w0 μ s a w o.dst K next Q)
  (h:J8 x b P call s.env s.defs s.h K=true):o.wp P a w next Q:=by
 obtain ⟨L,hL,hh⟩:=gH h;obtain ⟨p,vc,w',μ',hp,hr,hv,hg,hx⟩:=T4 (P:=P) hs.iP (hs.eval x) hL o.type;have iK:(execOp a.eval o).run P w = .ok (.value vc) w':=by simp [execOp,ho,hr]
 unfold Oper.wp;rw [iK];exact hl.ok _ _ _ _ _ _ (C0 hh p hp) (hs.left o.dst hv hg hx.mono) hx
theorem EG(hs:SR w0 μ s a w)(hc:g9 P call){next:Act->World->Prop}{Q:Exit->Act->World->Prop}(hl:IQ w0 μ s a w o.dst K next Q)
  (h:kG o.op P call s.env s.defs s.h K=true):o.wp P a w next Q:=by
 cases ho:o.op<;>rw [ho] at h<;>simp only [kG] at h
 case call c=>exact WH hs hc ho hl h
 case defer c=>exact T8 hs ho hl h
 case panic x=>exact T9 hs ho hl h
 case next x b=>exact WI hs ho hl h
 all_goals exact Fm hs hl (call:=call) (by rw [ho];exact h)
structure BR (w0:World) (μ:Mu) (h:ag) (w:World) (K:RS->Bool) (Q:Exit->Act->World->Prop):Prop where
 ok:∀ (s':St) (a':Act) (w':World) (μ':Mu),K (.ok s')=true->SR w0 μ' s' a' w'->Ext μ h w μ' s'.h w'->Q .normal a' w'
 panic:∀ (v:AV) (vc:Value) (s':St) (a':Act) (w':World) (μ':Mu),K (.panic v s')=true->VR w0 μ' v vc->SR w0 μ' s' a' w'->Ext μ h w μ' s'.h w'->Q (.panic [{ v:=vc,recovered:=false }]) a' w'
theorem BR.after{K:RS->Bool}{Q:Exit->Act->World->Prop}(hl:BR w0 μ h w K Q)(hx:Ext μ h w μ' h' w'):BR w0 μ' h' w' K Q:=
 ⟨fun s2 a2 w2 μ2 k2 r2 x2=>hl.ok s2 a2 w2 μ2 k2 r2 (hx.trans x2),fun v vc s2 a2 w2 μ2 k2 v2 r2 x2=>hl.panic v vc s2 a2 w2 μ2 k2 v2 r2 (hx.trans x2)⟩
theorem OD{call:lI}(hc:g9 P call){ops:Array Oper}{K:RS->Bool}{Q:Exit->Act->World->Prop}:∀ (l:List Oper) (i:Nat) (s:St) (a:Act) (w:World) (μ:Mu),(∀ j o,l[j]?=some o->ops[i+j]?=some o) ->
  SR w0 μ s a w->(hl:BR w0 μ s.h w K Q)->pE P call ops.toList l s K=true->wpOps P ops Q (range' i l.length) a w
 |[],i,s,a,w,μ,hi,hs,hl,h=>by
  simp only [length_nil,range'_zero,wpOps];exact hl.ok _ _ _ _ h hs (Ext.refl _ _ _)
 |o :: rest,i,s,a,w,μ,hi,hs,hl,h=>by
  have hio:ops[i]?=some o:=by simpa using hi 0 o rfl
  obtain ⟨env,n,defs,hp⟩:=s;simp only [length_cons,range'_succ,wpOps,hio];simp only [pE] at h
  have tj:∀ j o',rest[j]?=some o'->ops[i+1+j]?=some o':=fun j o' hj=>by
   have:=hi (j+1) o' (by simpa using hj)
   rwa [show i+1+j=i+(j+1) by omega]
  split at h
  ·rename_i hw;rw [nk hs.env hw,if_pos rfl];refine .inl (EG hs hc ⟨fun v lJ h' a' w' μ' hK jc hx=>?_,fun v vc h' w' μ' hK hv jc hx=>?_⟩ h)
   ·exact OD hc rest (i+1) _ a' w' μ' tj jc (hl.after hx) (mZ hK)
   ·exact hl.panic v vc _ a w' μ' hK hv jc hx
  ·rename_i hw;rw [nk hs.env hw];simp only [false_eq_true,if_false];have jc:=hs.left o.dst (h':=hp) VR.bK hs.iP (Mu.le.refl μ);exact OD hc rest (i+1) ⟨oC env n o.dst bK,n,defs,hp⟩ _ w μ tj jc hl (mZ h)
  ·cases h
end
end Go.AM
namespace Go.AM
open List Nat Bool Option
open Go Go.RowKit
variable {op:Op}
section
variable {P:Program} {ρ ρ':Operand->AV}
theorem rG{c:Call}(h:∀ x ∈ c.operands,ρ x = ρ' x):c.args.toList.map ρ=c.args.toList.map ρ':=
 map_congr_left fun x hx=>h x (by simp [Call.operands];exact .inr (by simpa using hx))
theorem C5{ps:Array (Nat×Operand)}(h:∀ x ∈ (ps.toList.map (·.2)).toArray,ρ x = ρ' x):(ps.toList.map fun p=>ρ p.2)=ps.toList.map fun p=>ρ' p.2:=
 map_congr_left fun p hp=>h p.2 (by simp;exact ⟨p.1,by simpa using hp⟩)
theorem IS{o:Option Operand}(h:∀ x ∈ o.toArray,ρ x = ρ' x):o.map ρ=o.map ρ':=by
 cases o with
 |none=>rfl
 |some x=>simp [h x (by simp)]
theorem C6(h:∀ x ∈ op.operands,ρ x = ρ' x):oK P ρ op=oK P ρ' op:=by
 cases op<;>simp only [Op.operands] at h<;>simp only [oK]
 case build t ps=>rw [C5 h]
 case makeFunc fn first cap=>
  have h1:first.toList.map ρ=first.toList.map ρ':=map_congr_left fun x hx=>h x (by simp;exact .inl (by simpa using hx))
  have h2:cap.toList.map ρ=cap.toList.map ρ':=map_congr_left fun x hx=>h x (by simp;exact .inr (by simpa using hx));rw [h1,h2]
 case slice t x lo hi mx=>
  have h0:ρ x = ρ' x:=h x (by simp);have h1:lo.map ρ=lo.map ρ':=IS fun y hy=>h y (by simp only [Array.mem_append];exact .inl (.inl (.inr hy)));have h2:hi.map ρ=hi.map ρ':=IS fun y hy=>h y (by simp only [Array.mem_append];exact .inl (.inr hy));rw [h0,h1,h2]
 case call c=>simp only [rG h]
 all_goals (first|rfl|(simp_all;done))
theorem C7(h:∀ x ∈ op.operands,ρ x = ρ' x)(hp:ag):nY P ρ hp op=nY P ρ' hp op:=by
 cases op<;>simp only [Op.operands] at h<;>simp only [nY]
 case call c=>simp only [rG h]
 all_goals (first|rfl|(simp_all;done))
theorem AA(h:∀ x ∈ op.operands,ρ x = ρ' x):rC P ρ op=rC P ρ' op:=by
 cases op<;>simp only [Op.operands] at h<;>simp only [rC]
 case buildSlice t n ps=>rw [C5 h]
 all_goals (first|rfl|(simp_all;done))
theorem zF(h:∀ x ∈ op.operands,ρ x = ρ' x)(hp:ag)(K:AV->ag->Bool):iW op P ρ hp K=iW op P ρ' hp K:=by
 cases hk:gj op with
 |pure=>rw [ya hk,ya hk,C6 h]
 |read=>rw [tN hk,tN hk,C7 h]
 |alloc=>rw [uC hk,uC hk,AA h]
 |NO=>
  cases op<;>simp only [gj,reduceCtorEq] at hk<;>simp only [Op.operands] at h<;>simp only [iW]
  case call c=>simp only [wz,rG h]
  all_goals (first|rfl|(simp_all;done))
theorem Kj{env fH:Env}(h:∀ x ∈ op.operands,evalArg env x=evalArg fH x)(call:lI)(defs:List su)(hp:ag)(K:R->Bool) :
  kG op P call env defs hp K=kG op P call fH defs hp K:=by
 cases op<;>simp only [kG]
 case call c=>
  obtain ⟨BN,args,ts⟩:=c
  cases BN with
  |value f=>
   simp only [zy,Ez];have h1:=rG (c:=⟨.value f,args,ts⟩) h;have h2:evalArg env f=evalArg fH f:=h f (by simp [Op.operands,Call.operands]);simp only at h1;rw [h2,h1]
  |invoke r m=>simp only [zy,sI];rw [zF h]
  |builtin b=>simp only [zy,sI];rw [zF h]
 case defer c=>
  obtain ⟨BN,args,ts⟩:=c
  cases BN with
  |value f=>
   simp only [Ap];have h1:=rG (c:=⟨.value f,args,ts⟩) h;have h2:evalArg env f=evalArg fH f:=h f (by simp [Op.operands,Call.operands]);simp only at h1;rw [h2,h1]
  |invoke r m=>rfl
  |builtin b=>rfl
 case panic x=>simp only [Aq,h x (by simp [Op.operands])]
 case next x b=>simp only [J8,h x (by simp [Op.operands])]
 all_goals (simp only [sI];rw [zF h])
theorem L7{hp:ag}(hc:∀ b,hp.next<=b->hp.get b=none)(o:mP){v:AV}(h:nY P ρ hp op=some v):nY P ρ (hp.alloc o) op=some v:=by
 have key:∀ b o',hp.get b=some o'->(hp.alloc o).get b=some o':=fun b o' hb=>by
  rw [ag.aW,if_neg (fun e=>by rw [e,hc _ (dK _)] at hb;cases hb)];exact hb
 cases op<;>simp only [nY,reduceCtorEq] at h ⊢
 case load t a=>
  obtain ⟨i,h1,h2⟩:=bind_eq_some_iff.1 h;refine bind_eq_some_iff.2 ⟨i,h1,?_⟩;unfold ah at h2 ⊢;split at h2
  ·rename_i b off hx;split at h2
   ·rename_i cs hb;simp only [key _ _ hb];exact h2
   ·cases h2
  ·rename_i hx;exact h2
  ·cases h2
 case lookup t x i ok=>
  obtain ⟨d,h1,h2⟩:=bind_eq_some_iff.1 h;refine bind_eq_some_iff.2 ⟨d,h1,?_⟩;unfold dc at h2 ⊢
  have he:∀ es,lH (ρ x) hp=some es->lH (ρ x) (hp.alloc o)=some es:=by
   intro es he;unfold lH at he ⊢;split at he
   ·rename_i hx;exact he
   ·rename_i b hx;split at he
    ·rename_i wD ck hb;simp only [key _ _ hb];exact he
    ·cases he
   ·cases he
  split at h2
  ·cases h2
  ·rename_i es Zr;rw [he es Zr];exact h2
 case call c=>
  split at h
  ·split at h
   ·rename_i t l x e1 e2;obtain ⟨i,h1,h2⟩:=bind_eq_some_iff.1 h;refine bind_eq_some_iff.2 ⟨i,h1,?_⟩;unfold b6 at h2 ⊢;split at h2<;>first|exact h2|skip
    ·split at h2
     ·rename_i b _ es ck hb;simp only [key _ _ hb];exact h2
     ·cases h2
   ·cases h
  ·cases h
mutual
theorem AV.beq_eq:∀ (x y:AV),AV.beq x y=true->x=y
 |.undef,y,h=>by cases y<;>simp_all [AV.beq]
 |.bool a,y,h=>by cases y<;>simp_all [AV.beq]
 |.int k a,y,h=>by cases y<;>simp_all [AV.beq]
 |.str a,y,h=>by cases y<;>simp_all [AV.beq]
 |.gC,y,h=>by cases y<;>simp_all [AV.beq]
 |.ptr a i,y,h=>by cases y<;>simp_all [AV.beq]
 |.dI a i,y,h=>by
  cases y<;>simp only [AV.beq,false_eq_true,and_eq_true,beq_iff_eq] at h;rw [AV.qG _ _ h.1,h.2]
 |.au,y,h=>by cases y<;>simp_all [AV.beq]
 |.slice b i l s,y,h=>by cases y<;>simp_all [AV.beq]
 |.ay a i l s,y,h=>by
  cases y<;>simp only [AV.beq,false_eq_true,and_eq_true,beq_iff_eq] at h;rw [AV.qG _ _ h.1.1.1,h.1.1.2,h.1.2,h.2]
 |.kX,y,h=>by cases y<;>simp_all [AV.beq]
 |.map a,y,h=>by cases y<;>simp_all [AV.beq]
 |.qh,y,h=>by cases y<;>simp_all [AV.beq]
 |.func f a b,y,h=>by
  cases y<;>simp only [AV.beq,false_eq_true,and_eq_true,beq_iff_eq] at h;rw [h.1.1,AV.qG _ _ h.1.2,AV.qG _ _ h.2]
 |.tc,y,h=>by cases y<;>simp_all [AV.beq]
 |.iface t v,y,h=>by
  cases y<;>simp only [AV.beq,false_eq_true,and_eq_true,beq_iff_eq] at h;rw [h.1,AV.beq_eq _ _ h.2]
 |.agg a,y,h=>by
  cases y<;>simp only [AV.beq,false_eq_true] at h;rw [AV.qG _ _ h]
 |.tuple a,y,h=>by
  cases y<;>simp only [AV.beq,false_eq_true] at h;rw [AV.qG _ _ h]
theorem AV.qG:∀ (xs ys:List AV),AV.An xs ys=true->xs=ys
 |[],ys,h=>by cases ys<;>simp_all [AV.An]
 |x :: xs,ys,h=>by
  cases ys<;>simp only [AV.An,false_eq_true,and_eq_true] at h;rw [AV.beq_eq _ _ h.1,AV.qG _ _ h.2]
end
theorem L8{env:Env}{v:AV}{hp:ag}(hk:gj op = .read)(h:sameAt P op env v hp=true):nY P (evalArg env) hp op=some v:=by
 unfold sameAt at h;rw [tN hk] at h;obtain ⟨v',h1,h2⟩:=gH h;rw [h1,AV.beq_eq _ _ h2]
end
end Go.AM
namespace Go.AM
open List Nat Bool Option
open Go Go.RowKit
variable {ops:List Oper}
theorem wJ(acc:List Nat)(j:Nat):∀ (es:List Edge),(qi acc es).testBit j=true->∃ e ∈ es,Region.binds .any e=true/\(j=e.on\/(acc.getD e.on 0).testBit j=true)
 |[],h=>by simp [qi] at h
 |e :: es,h=>by
  simp only [qi] at h;split at h
  ·rename_i hb;simp only [testBit_or,or_eq_true,testBit_two_pow,decide_eq_true_eq] at h;rcases h with (h|h)|h
   ·exact ⟨e,by simp,hb,.inl h.symm⟩
   ·exact ⟨e,by simp,hb,.inr h⟩
   ·obtain ⟨e',h1,h2⟩:=wJ acc j es h;exact ⟨e',by simp [h1],h2⟩
  ·obtain ⟨e',h1,h2⟩:=wJ acc j es h;exact ⟨e',by simp [h1],h2⟩
theorem y8:∀ (os:List Oper) (acc:List Nat),∃ r,qj os acc=acc++r
 |[],acc=>⟨[],by simp [qj]⟩
 |o :: os,acc=>by
  obtain ⟨r,h⟩:=y8 os (acc++[qi acc o.after.toList]);exact ⟨qi acc o.after.toList :: r,by simp [qj,h]⟩
theorem Fo:∀ (os:List Oper) (acc:List Nat) (k:Nat) (o:Oper),os[k]?=some o->(qj os acc)[acc.length+k]?=some (qi ((qj os acc).take (acc.length+k)) o.after.toList)
 |[],acc,k,o,h=>by simp at h
 |o' :: os,acc,k,o,h=>by
  simp only [qj]
  cases k with
  |zero=>
   simp at h;subst h;obtain ⟨r,hr⟩:=y8 os (acc++[qi acc o'.after.toList]);rw [hr];simp
  |succ k=>
   have:=Fo os (acc++[qi acc o'.after.toList]) k o (by simpa using h);rw [length_append,length_singleton] at this;rw [show acc.length+(k+1)=acc.length+1+k by omega];exact this
theorem y9:∀ (os:List Oper) (acc:List Nat),(qj os acc).length=acc.length+os.length
 |[],acc=>by simp [qj]
 |o :: os,acc=>by simp only [qj,y9 os];simp;omega
theorem Ua{i j:Nat}(h:EA (pL ops) i j=true):∃ o,ops[i]?=some o/\∃ e ∈ o.after.toList,Region.binds .any e=true/\(j=e.on\/EA (pL ops) e.on j=true):=by
 unfold EA at h;by_cases hi:i<ops.length
 ·have ho:ops[i]?=some ops[i]:=ec hi;have hm:=Fo ops [] i _ ho;simp only [length_nil,Nat.zero_add] at hm
  have hg:(pL ops).getD i 0=qi ((pL ops).take i) ops[i].after.toList:=by
   rw [getD_eq_getElem?_getD];show ((qj ops [])[i]?).getD 0=_;rw [hm];rfl
  rw [hg] at h;obtain ⟨e,h1,h2,h3⟩:=wJ _ _ _ h;refine ⟨_,ho,e,h1,h2,?_⟩;rcases h3 with h3|h3
  ·exact .inl h3
  ·refine .inr ?_;unfold EA;rw [getD_eq_getElem?_getD,getElem?_take] at h3;split at h3
   ·rw [getD_eq_getElem?_getD];exact h3
   ·simp at h3
 ·have:(pL ops).getD i 0=0:=by
   rw [getD_eq_getElem?_getD,getElem?_eq_none (by unfold pL;rw [y9];simp;omega)];rfl
  rw [this] at h;simp at h
def Ub(ms:List Nat)(S:Nat->Bool):Prop:=∀ i j,S i=true->EA ms i j=true->S j=true
def iX(bV:Array Bool)(k:Nat):Bool:=bV.getD k false
theorem RB{ops:Array Oper}{bV:Array Bool}{i j:Nat}(hc:Ub (pL ops.toList) (iX bV))(hr:i ∈ Region.ready .any ops bV)(hb:EA (pL ops.toList) i j=true):iX bV j=true:=by
 obtain ⟨_,o,ho,he⟩:=mem_ready.1 hr;obtain ⟨o',uo,e,h1,h2,h3⟩:=Ua hb;rw [Array.getElem?_toList,ho] at uo;cases uo;have:=he e (by simpa using h1) h2;rcases h3 with rfl|h3
 ·exact this
 ·exact hc _ _ this h3
theorem AB{bV:Array Bool}{i:Nat}(hi:i<bV.size)(k:Nat):iX (bV.setIfInBounds i true) k=(decide (k=i)||iX bV k):=by
 unfold iX;by_cases e:k=i
 ·subst e;simp [Array.getD,hi]
 ·simp [e,getD_set_ne false (fun q=>e q.symm)]
structure Dn where
 i:Nat
 o:Oper
 v:AV
 env:Env
 b:Nat
 al:Bool
noncomputable def gX(mE:Env)(n:Nat)(S:Nat->Bool):List Dn->Env
 |[]=>mE
 |d :: ds=>if S d.i then oC (gX mE n S ds) n d.o.dst d.v else gX mE n S ds
theorem Kk{env:Env}{n:Nat}{dst:Option Tmp}{v:AV}{t:Nat}(h:dst≠some t):oC env n dst v t=env t:=by
 cases dst with
 |none=>rfl
 |some d=>
  have:t≠d:=fun e=>h (by rw [e]);simp only [oC];split
  ·simp [bg,this]
  ·rfl
theorem RC{env:Env}{n:Nat}{x y:Option Tmp}{u v:AV}(h:∀ t,x=some t->y≠some t):oC (oC env n x u) n y v=oC (oC env n y v) n x u:=by
 cases x with
 |none=>rfl
 |some d=>cases y with
  |none=>rfl
  |some e=>
   have lF:d≠e:=fun q=>h d rfl (by rw [q]);simp only [oC];split<;>split<;>try rfl
   funext t;simp only [bg];split<;>split<;>try rfl
   rename_i h1 h2;exact absurd (h2▸h1) (by simpa using lF)
section
variable {mE:Env} {n:Nat} {S S':Nat->Bool}
theorem Fp{t:Nat}:∀ {pre ds:List Dn},(∀ x ∈ pre,S x.i=true->x.o.dst≠some t)->gX mE n S (pre++ds) t=gX mE n S ds t
 |[],ds,h=>rfl
 |x :: pre,ds,h=>by
  simp only [cons_append,gX];have ih:=Fp (pre:=pre) (ds:=ds) (fun y hy=>h y (by simp [hy]));split
  ·rename_i hx;rw [Kk (h x (by simp) hx),ih]
  ·exact ih
theorem sL:∀ {ds:List Dn},(∀ x ∈ ds,S x.i=S' x.i)->gX mE n S ds=gX mE n S' ds
 |[],h=>rfl
 |x :: ds,h=>by
  simp only [gX];rw [h x (by simp),sL (ds:=ds) (fun y hy=>h y (by simp [hy]))]
theorem zG{t:Nat}:∀ {ds:List Dn},(∀ x ∈ ds,x.o.dst=some t->S x.i=true)->gX mE n S ds t=gX mE n (fun _=>true) ds t
 |[],h=>rfl
 |x :: ds,h=>by
  have ih:=zG (ds:=ds) (fun y hy=>h y (by simp [hy]));simp only [gX,if_true];by_cases hd:x.o.dst=some t
  ·rw [if_pos (h x (by simp) hd),hd];simp only [oC];split
   ·simp [bg]
   ·exact ih
  ·rw [Kk hd];split
   ·rw [Kk hd];exact ih
   ·exact ih
theorem IU{d:Dn}(hS:S d.i=false)(hS':∀ k,S' k=(decide (k=d.i)||S k)):∀ {pre ds:List Dn},(∀ x ∈ pre,x.i≠d.i)->(∀ x ∈ ds,x.i≠d.i)->(∀ x ∈ pre,∀ t,d.o.dst=some t->x.o.dst≠some t) ->
  gX mE n S' (pre++d :: ds)=oC (gX mE n S (pre++d :: ds)) n d.o.dst d.v
 |[],ds,h1,h2,h3=>by
  simp only [nil_append,gX];rw [if_pos (by rw [hS'];simp),if_neg (by rw [hS];simp),sL (S:=S') (S':=S) (fun x hx=>by rw [hS'];simp [h2 x hx])]
 |x :: pre,ds,h1,h2,h3=>by
  have ih:=IU hS hS' (pre:=pre) (ds:=ds) (fun y hy=>h1 y (by simp [hy])) h2 (fun y hy=>h3 y (by simp [hy]));simp only [cons_append,gX];have hx:S' x.i=S x.i:=by rw [hS'];simp [h1 x (by simp)]
  rw [hx];split
  ·rw [ih,RC (h3 x (by simp))]
  ·exact ih
end
structure RE (ops:List Oper) (ms:List Nat) (a b:Nat×Oper):Prop where
 ne:a.1≠b.1
 nb:EA ms a.1 b.1=false
 NO:vp a.2=true->EA ms b.1 a.1=true
 dd:∀ d,a.2.dst=some d->b.2.dst≠some d
 lb:∀ d,a.2.dst=some d->d ∈ td ops b.2->EA ms b.1 a.1=true
 la:∀ d,b.2.dst=some d->d ∈ td ops a.2->EA ms b.1 a.1=true
theorem L9{ms:List Nat}{a b:Nat×Oper}(h:Of ops ms a b=true):RE ops ms a b:=by
 unfold Of at h;simp only [and_eq_true,bne_iff_ne,ne_eq,not_eq_true',or_eq_true] at h;obtain ⟨h1,h2,h3,h4,h5⟩:=h;refine ⟨h1,h2,fun he=>h3.resolve_left (by simp [he]),fun d hd e=>?_,fun d hd hl=>?_,fun d hd hl=>?_⟩
 ·rw [hd,e] at h4;simp at h4
 ·rw [hd] at h4;simp only [and_eq_true,or_eq_true,not_eq_true'] at h4;exact h4.2.resolve_left (by simp [hl])
 ·rw [hd] at h5;simp only [or_eq_true,not_eq_true'] at h5;exact h5.resolve_left (by simp [hl])
theorem AD{ops:List Oper}{ms:List Nat}:∀ {L:List (Nat×Oper)},EC ops ms L=true->L.Pairwise (RE ops ms)
 |[],h=>.nil
 |p :: ps,h=>by
  simp only [EC,and_eq_true,List.all_eq_true] at h;exact .cons (fun b hb=>L9 (h.1 b hb)) (AD h.2)
theorem AE{L:List (Nat×Oper)}:∀ {n:Nat},ED L n=true->∀ i,i<n->∃ p ∈ L,p.1=i
 |0,h,i,hi=>by omega
 |n+1,h,i,hi=>by
  simp only [ED,and_eq_true,List.any_eq_true,beq_iff_eq] at h;by_cases e:i=n
  ·subst e;exact h.1
  ·exact AE h.2 i (by omega)
theorem AF:∀ (os:List Oper) (k:Nat) (p:Nat×Oper),p ∈ xW os k->k<=p.1/\os[p.1-k]?=some p.2
 |[],k,p,h=>by cases h
 |o :: os,k,p,h=>by
  simp only [xW,mem_cons] at h;rcases h with rfl|h
  ·simp
  ·obtain ⟨h1,h2⟩:=AF os (k+1) p h;refine ⟨by omega,?_⟩;rw [show p.1-k=(p.1-(k+1))+1 by omega];simpa using h2
theorem C8{ms Hw:List Nat}{L:List (Nat×Oper)}:∀ (n k:Nat) (p:Nat×Oper),p ∈ EB ms Hw L n k->p ∈ L
 |0,k,p,h=>(mem_filter.1 h).1
 |n+1,k,p,h=>by
  simp only [EB,mem_append] at h;rcases h with h|h|h
  ·exact (mem_filter.1 h).1
  ·exact (mem_filter.1 h).1
  ·exact C8 n (k+1) p h
theorem AG:∀ {os:List Oper} {k:Nat},EE os k=true->∀ i o,os[i]?=some o->∀ e ∈ o.after.toList,Region.binds .any e=true->e.on<k+i
 |[],k,h,i,o,ho=>by simp at ho
 |o' :: os,k,h,i,o,ho=>by
  simp only [EE,and_eq_true,List.all_eq_true,or_eq_true,not_eq_true',decide_eq_true_eq] at h;intro e he hb
  cases i with
  |zero=>
   simp at ho;subst ho;have:=(h.1 e he).resolve_left (by simp [hb]);omega
  |succ i=>
   have:=AG h.2 i o (by simpa using ho) e he hb;omega
structure vu (ops:Array Oper) (ms:List Nat) (L:List (Nat×Oper)):Prop where
 pL:ms=pL ops.toList
 wG:L.Pairwise (RE ops.toList ms)
 cover:∀ i,i<ops.size->∃ p ∈ L,p.1=i
 mem:∀ p ∈ L,ops[p.1]?=some p.2
 mA:∀ (i:Nat) (o:Oper),ops[i]?=some o->∀ e ∈ o.after.toList,Region.binds .any e=true->e.on<i
theorem OE{ops:Array Oper}{p:aak}(h:LF ops.toList=some p):vu ops p.ms p.L:=by
 unfold LF at h;split at h
 ·rename_i hc;cases h;simp only [and_eq_true] at hc;obtain ⟨⟨h1,h2⟩,h3⟩:=hc;refine ⟨rfl,AD h2,fun i hi=>AE h3 i (by simpa using hi),fun q hq=>?_,fun i o ho e he hb=>?_⟩
  ·have:=AF _ _ _ (C8 _ _ _ hq);simpa using this.2
  ·have:=AG h1 i o (by simpa using ho) e he hb;omega
 ·cases h
theorem Ma{o:Oper}{env fH:Env}(h:∀ t ∈ td ops o,env t=fH t):∀ x ∈ o.op.operands,evalArg env x=evalArg fH x:=by
 intro x hx
 cases x with
 |tmp t=>
  apply h;simp only [td,mem_append,mem_filterMap];exact .inl ⟨.tmp t,by simpa using hx,rfl⟩
 |const v=>rfl
 |global g=>rfl
 |func f=>rfl
theorem AH{o:Oper}{env fH:Env}(h:∀ t ∈ td ops o,env t=fH t):j9 ops o env=j9 ops o fH:=by
 unfold j9;split
 ·rfl
 ·rename_i j want hg;split
  ·rename_i g hj;split
   ·rename_i d hd;have:env d=fH d:=h d (by simp [td,hg,hj,hd]);rw [this]
   ·rfl
  ·rfl
end Go.AM
namespace Go.AM
open List Nat Bool Option
open Go Go.RowKit
variable {p:Nat×Oper}
structure ac7 (P:Program) (ops:Array Oper) (μ:Mu) (h:ag) (lg:List Read) (d:Dn):Prop where
 ex:∃ wb,j9 ops.toList d.o d.env=some wb/\(wb=false->d.v=bK)/\(wb=true ->
  (gj d.o.op = .pure/\oK P (evalArg d.env) d.o.op=some d.v) \/
  (gj d.o.op = .read/\nY P (evalArg d.env) h d.o.op=some d.v/\(⟨d.i,d.o.op,d.env,d.v⟩:Read) ∈ lg) \/
  (gj d.o.op = .alloc/\d.al=true/\∃ k ob,rC P (evalArg d.env) d.o.op=some (k,ob)/\d.v=k.val d.b/\h.get d.b=some ob/\∀ kk,μ d.b≠some kk))
structure WJ where
 P:Program
 call:lI
 ops:Array Oper
 ms:List Nat
 L:List (Nat×Oper)
 K:St->Bool
 w0:World
 μb:Mu
 hb:ag
 wb:World
 mE:Env
 n:Nat
structure oQ (C:WJ) (bV:Array Bool) (a:Act) (w:World) (μ:Mu) (dn:List Dn) (R:List (Nat×Oper)) (lg:List Read) (s:St):Prop where
 split:C.L=(dn.reverse.map fun d=>(d.i,d.o))++R
 run:gG C.P C.call C.ops.toList C.ms R lg s C.K=true
 IV:s.n=C.n
 OF:s.env=gX C.mE C.n (fun _=>true) dn
 size:bV.size=C.ops.size
 WK:∀ i,iX bV i=true->∃ d ∈ dn,d.i=i
 Hw:∀ d ∈ dn,vp d.o=true->iX bV d.i=true
 closed:Ub C.ms (iX bV)
 env:Fj C.w0 μ (gX C.mE C.n (iX bV) dn) C.n a.tmps
 defs:Ay C.w0 μ s.defs a.defers
 iP:Good C.w0 μ s.h w
 ext:Ext C.μb C.hb C.wb μ s.h w
 WL:∀ pre d ds,dn=pre++d :: ds->d.env=gX C.mE C.n (fun _=>true) ds
 WM:∀ d ∈ dn,iX bV d.i=false->ac7 C.P C.ops μ s.h lg d
 OG:∀ d ∈ dn,d.al=true->C.hb.next<=d.b/\d.b<s.h.next
 sep:∀ d ∈ dn,∀ d' ∈ dn,d.i≠d'.i->d.al=true->d'.al=true->d.b≠d'.b
theorem Ext.TS{μb μ:Mu}{hb h:ag}{wb w:World}(x:Ext μb hb wb μ h w){b n:Nat}(hn:hb.next<=b)(hμ:∀ k,μ b≠some k)(O:Obj):Ext μb hb wb (μ.add b ⟨w.heap.size,0,n⟩) h (w.alloc O):=by
 have qv:(w.alloc O).heap.size=w.heap.size+1:=by show (w.heap.push O).size=_;simp
 refine ⟨x.mono.trans (Mu.BL hμ),fun k hk lF=>?_,fun b' k fY=>?_,by rw [qv];have:=x.size;omega,x.next,x.eW,fun b' k fY=>?_,x.DF⟩
 ·rw [Below.heap_alloc w O k (Nat.lt_of_lt_of_le hk x.size)];exact x.frame k hk lF
 ·rw [Mu.kN] at fY;by_cases e:b'=b
  ·rw [if_pos e] at fY;cases fY;exact .inr (.inl x.size)
  ·rw [if_neg e] at fY;exact x.new b' k fY
 ·rw [Mu.kN] at fY;by_cases e:b'=b
  ·exact .inr (e▸hn)
  ·rw [if_neg e] at fY;exact x.fresh b' k fY
section
variable {C:WJ} {bV:Array Bool} {a:Act} {w:World} {μ:Mu} {dn:List Dn} {R:List (Nat×Oper)} {lg:List Read} {s:St}
theorem oQ.wG(hp:vu C.ops C.ms C.L)(hi:oQ C bV a w μ dn R lg s) :
  dn.Pairwise (fun x y=>RE C.ops.toList C.ms (y.i,y.o) (x.i,x.o))/\R.Pairwise (RE C.ops.toList C.ms)/\∀ d ∈ dn,∀ r ∈ R,RE C.ops.toList C.ms (d.i,d.o) r:=by
 have h:=hp.wG;rw [hi.split,pairwise_append,pairwise_map,pairwise_reverse] at h;exact ⟨h.1,h.2.1,fun d hd r hr=>h.2.2 _ (mem_map.2 ⟨d,by simpa using hd,rfl⟩) r hr⟩
theorem oQ.fresh(hp:vu C.ops C.ms C.L)(hi:oQ C bV a w μ dn R lg s){r:Nat×Oper}(hr:r ∈ R):iX bV r.1=false/\∀ d ∈ dn,d.i≠r.1:=by
 have lF:∀ d ∈ dn,d.i≠r.1:=fun d hd=>((hi.wG hp).2.2 d hd r hr).ne;refine ⟨?_,lF⟩
 cases h:iX bV r.1 with
 |false=>rfl
 |true=>obtain ⟨d,hd,he⟩:=hi.WK _ h;exact absurd he (lF d hd)
theorem oQ.Uc(hp:vu C.ops C.ms C.L)(hi:oQ C bV a w μ dn (p :: R) lg s)(he:vp p.2=false):∃ dn' RF s',oQ C bV a w μ dn' R RF s':=by
 obtain ⟨hf,lF⟩:=hi.fresh hp (r:=p) (by simp);obtain ⟨env,n,defs,Ht⟩:=s;have iK:=hi.run;simp only [gG] at iK
 have step:∀ (v:AV) (b:Nat) (al:Bool) (RF:List Read) (h':ag),gG C.P C.call C.ops.toList C.ms R RF ⟨oC env n p.2.dst v,n,defs,h'⟩ C.K=true ->
   (∀ r ∈ lg,r ∈ RF)->Good C.w0 μ h' w->Ext C.μb C.hb C.wb μ h' w->Ht.next<=h'.next->(∀ b' o,Ht.get b'=some o->h'.get b'=some o)->(∀ op v,nY C.P (evalArg env) Ht op=some v\/True) ->
   (∀ env op v,nY C.P (evalArg env) Ht op=some v->nY C.P (evalArg env) h' op=some v) ->
   ac7 C.P C.ops μ h' RF ⟨p.1,p.2,v,env,b,al⟩->(al=true->b=Ht.next/\Ht.next<h'.next)->∃ dn' RF s',oQ C bV a w μ dn' R RF s':=by
  intro v b al RF h' hr hlg hg hx oA aiX _ hrd hpd yJ;have hb0:C.hb.next<=Ht.next:=hi.ext.next
  refine ⟨⟨p.1,p.2,v,env,b,al⟩ :: dn,RF,⟨oC env n p.2.dst v,n,defs,h'⟩,?_⟩;refine ⟨by rw [hi.split];simp,hr,hi.IV,?_,hi.size,fun i h=>?_,fun d hd h=>?_,hi.closed,?_,hi.defs,hg,hx,fun pre d ds h=>?_,fun d hd h=>?_,fun d hd h=>?_,fun d hd d' ur WN h1 h2=>?_⟩
  ·show oC env n p.2.dst v=_;simp only [gX,if_true];have e1:n=C.n:=hi.IV;have e2:env=gX C.mE C.n (fun _=>true) dn:=hi.OF;rw [e2,e1]
  ·obtain ⟨d,hd,e⟩:=hi.WK i h;exact ⟨d,by simp [hd],e⟩
  ·rcases mem_cons.1 hd with rfl|hd
   ·simp [he] at h
   ·exact hi.Hw d hd h
  ·have:gX C.mE C.n (iX bV) (⟨p.1,p.2,v,env,b,al⟩ :: dn)=gX C.mE C.n (iX bV) dn:=by
    simp only [gX];rw [if_neg (by rw [hf];simp)]
   rw [this];exact hi.env
  ·cases pre with
   |nil=>
    simp only [nil_append,List.cons.injEq] at h;obtain ⟨rfl,rfl⟩:=h;exact hi.OF
   |cons x pre=>
    simp only [cons_append,List.cons.injEq] at h;exact hi.WL pre d ds h.2
  ·rcases mem_cons.1 hd with rfl|hd
   ·exact hpd
   ·obtain ⟨wb,q1,q2,q3⟩:=(hi.WM d hd h).ex;refine ⟨wb,q1,q2,fun hw=>?_⟩;rcases q3 hw with q|⟨k1,k2,k3⟩|⟨k1,k2,k,ob,k3,k4,k5,k6⟩
    ·exact .inl q
    ·exact .inr (.inl ⟨k1,hrd _ _ _ k2,hlg _ k3⟩)
    ·exact .inr (.inr ⟨k1,k2,k,ob,k3,k4,aiX _ _ k5,k6⟩)
  ·rcases mem_cons.1 hd with rfl|hd
   ·obtain ⟨e1,e2⟩:=yJ h;show _<=b/\b<h'.next
    omega
   ·have:=hi.OG d hd h;exact ⟨this.1,Nat.lt_of_lt_of_le this.2 oA⟩
  ·rcases mem_cons.1 hd with rfl|hd
   ·rcases mem_cons.1 ur with rfl|ur
    ·exact absurd rfl WN
    ·have:d'.b<Ht.next:=(hi.OG d' ur h2).2
     obtain ⟨e1,_⟩:=yJ h1;show b≠d'.b;omega
   ·rcases mem_cons.1 ur with rfl|ur
    ·have:d.b<Ht.next:=(hi.OG d hd h1).2
     obtain ⟨e1,_⟩:=yJ h2;show d.b≠b;omega
    ·exact hi.sep d hd d' ur WN h1 h2
 split at iK
 ·rename_i hw;split at iK
  ·rename_i hk;rw [ya hk] at iK;obtain ⟨v,hv,hK⟩:=gH iK;have hK:=mZ hK;exact step v 0 false lg Ht hK (fun r h=>h) hi.iP hi.ext (dK _) (fun _ _ h=>h) (fun _ _=>.inr trivial) (fun _ _ _ h=>h) ⟨true,hw,by simp,fun _=>.inl ⟨hk,hv⟩⟩ (by simp)
  ·rename_i hk;rw [tN hk] at iK;obtain ⟨v,hv,hK⟩:=gH iK;have hK:=mZ hK;exact step v 0 false _ Ht hK (fun r h=>by simp [h]) hi.iP hi.ext (dK _) (fun _ _ h=>h) (fun _ _=>.inr trivial) (fun _ _ _ h=>h) ⟨true,hw,by simp,fun _=>.inr (.inl ⟨hk,hv,by simp⟩)⟩ (by simp)
  ·rename_i hk;rw [uC hk] at iK;obtain ⟨⟨k,ob⟩,hv,hK⟩:=gH iK;have hK:=mZ hK;obtain ⟨g1,g2⟩:=hi.iP.aan ob
   refine step (k.val Ht.next) Ht.next true lg (Ht.alloc ob) hK (fun r h=>h) g1 (hi.ext.trans g2) (le_succ _) (fun b' o h=>?_) (fun _ _=>.inr trivial) (fun _ _ _ h=>L7 hi.iP.clean ob h)
    ⟨true,hw,by simp,fun _=>.inr (.inr ⟨hk,rfl,k,ob,hv,rfl,by rw [ag.aW,if_pos rfl],hi.iP.Av⟩)⟩ (fun _=>⟨rfl,lt_succ_self _⟩)
   rw [ag.aW,if_neg (fun e=>by rw [e,hi.iP.clean _ (dK _)] at h;cases h)];exact h
  ·rename_i hk;simp [vp,hk] at he
 ·rename_i hw;exact step bK 0 false lg Ht (mZ iK) (fun r h=>h) hi.iP hi.ext (dK _) (fun _ _ h=>h) (fun _ _=>.inr trivial) (fun _ _ _ h=>h) ⟨false,hw,by simp,by simp⟩ (by simp)
 ·cases iK
theorem oQ.advance(hp:vu C.ops C.ms C.L):∀ (R:List (Nat×Oper)) (dn:List Dn) (lg:List Read) (s:St),oQ C bV a w μ dn R lg s ->
  ∃ dn' R' RF s',oQ C bV a w μ dn' R' RF s'/\(∀ p rest,R'=p :: rest->vp p.2=true)
 |[],dn,lg,s,hi=>⟨dn,[],lg,s,hi,by simp⟩
 |p :: R,dn,lg,s,hi=>by
  cases he:vp p.2 with
  |true=>exact ⟨dn,p :: R,lg,s,hi,fun q rest h=>by cases h;exact he⟩
  |false=>
   obtain ⟨dn',RF,s',h'⟩:=hi.Uc hp he;exact oQ.advance hp R dn' RF s' h'
theorem oQ.agree(hp:vu C.ops C.ms C.L)(hi:oQ C bV a w μ dn R lg s){d:Dn}(hd:d ∈ dn)(hS:iX bV d.i=false)(hr:∀ j,EA C.ms d.i j=true->iX bV j=true) :
  ∀ t ∈ td C.ops.toList d.o,gX C.mE C.n (iX bV) dn t=d.env t:=by
 intro t ht;obtain ⟨pre,ds,rfl⟩:=append_of_mem hd;rw [hi.WL pre d ds rfl];have Kl:=(hi.wG hp).1;rw [pairwise_append] at Kl;obtain ⟨_,Ud,WO⟩:=Kl;rw [pairwise_cons] at Ud;rw [Fp (fun x hx hSx hdx=>?_)]
 ·simp only [gX];rw [if_neg (by rw [hS];simp)];refine zG fun x hx hdx=>hr _ ?_;exact (Ud.1 x hx).lb t hdx ht
 ·have:=(WO x hx d (by simp)).la t hdx ht;have:=hi.closed _ _ hSx this;rw [hS] at this;cases this
theorem oQ.RG(hp:vu C.ops C.ms C.L)(hi:oQ C bV a w μ dn (p :: R) lg s)(hr:∀ j,EA C.ms p.1 j=true->iX bV j=true) :
  ∀ t ∈ td C.ops.toList p.2,gX C.mE C.n (iX bV) dn t=s.env t:=by
 intro t ht;rw [hi.OF];exact zG fun x hx hdx=>hr _ (((hi.wG hp).2.2 x hx p (by simp)).lb t hdx ht)
theorem oQ.ran(hp:vu C.ops C.ms C.L)(hi:oQ C bV a w μ dn R lg s){d:Dn}(hd:d ∈ dn)(hS:iX bV d.i=false)(eM:d.i<bV.size)(hr:∀ j,EA C.ms d.i j=true->iX bV j=true)
  {w':World} {μ':Mu} {vc:Value} (hm:μ.le μ') (hv:VR C.w0 μ' d.v vc) (hg:Good C.w0 μ' s.h w') (hx:Ext C.μb C.hb C.wb μ' s.h w')
  (tJ:∀ d' ∈ dn,iX bV d'.i=false->d'.i≠d.i->d'.al=true->(∀ kk,μ d'.b≠some kk)->∀ kk,μ' d'.b≠some kk) :
  oQ C (bV.setIfInBounds d.i true) (a.put d.o.dst vc) w' μ' dn R lg s:=by
 have nT:=AB eM;refine ⟨hi.split,hi.run,hi.IV,hi.OF,by simpa using hi.size,fun i h=>?_,fun d' ur h=>?_,fun i j h hb=>?_,?_,?_,hg,hx,hi.WL,fun d' ur h=>?_,hi.OG,hi.sep⟩
 ·rw [nT] at h;simp only [or_eq_true,decide_eq_true_eq] at h;rcases h with rfl|h
  ·exact ⟨d,hd,rfl⟩
  ·exact hi.WK i h
 ·rw [nT,hi.Hw d' ur h];simp
 ·rw [nT] at h ⊢;simp only [or_eq_true,decide_eq_true_eq] at h ⊢;rcases h with rfl|h
  ·exact .inr (hr j hb)
  ·exact .inr (hi.closed i j h hb)
 ·obtain ⟨pre,ds,rfl⟩:=append_of_mem hd;have Kl:=(hi.wG hp).1;rw [pairwise_append] at Kl;obtain ⟨_,Ud,WO⟩:=Kl;rw [pairwise_cons] at Ud;rw [IU (S:=iX bV) (d:=d) hS (fun k=>nT k) (fun x hx=>((WO x hx d (by simp)).ne).symm) (fun x hx=>(Ud.1 x hx).ne) (fun x hx t ht=>(WO x hx d (by simp)).dd t ht),Act.LZ];exact (hi.env.mono hm).put d.o.dst hv
 ·rw [Act.CY];exact hi.defs.mono hm
 ·rw [nT] at h;simp only [or_eq_false_iff,decide_eq_false_iff_not] at h;obtain ⟨wb,q1,q2,q3⟩:=(hi.WM d' ur h.2).ex;refine ⟨wb,q1,q2,fun hw=>?_⟩;rcases q3 hw with q|q|⟨k1,k2,k,ob,k3,k4,k5,k6⟩
  ·exact .inl q
  ·exact .inr (.inl q)
  ·exact .inr (.inr ⟨k1,k2,k,ob,k3,k4,k5,tJ d' ur h.2 h.1 k2 k6⟩)
theorem tq{P:Program}{ms:List Nat}{i:Nat}{h:ag}:∀ {lg:List Read},kT P ms i h lg=true->∀ r ∈ lg,EA ms i r.i=false->sameAt P r.op r.env r.v h=true
 |[],hh,r,hr,hb=>by cases hr
 |r' :: lg,hh,r,hr,hb=>by
  simp only [kT] at hh;rcases mem_cons.1 hr with rfl|hr
  ·rw [if_neg (by rw [hb];simp)] at hh;simp only [and_eq_true] at hh;exact hh.1
  ·split at hh
   ·exact tq hh r hr hb
   ·simp only [and_eq_true] at hh;exact tq hh.2 r hr hb
theorem oQ.Zx(hp:vu C.ops C.ms C.L)(hi:oQ C bV a w μ dn (p :: R) lg s)(eM:p.1<bV.size)(hr:∀ j,EA C.ms p.1 j=true->iX bV j=true)
  {a':Act} {w':World} {μ':Mu} {v:AV} {lJ:List su} {h':ag} (iK:gG C.P C.call C.ops.toList C.ms R lg ⟨oC s.env s.n p.2.dst v,s.n,lJ,h'⟩ C.K=true)
  (hs:SR C.w0 μ' ⟨oC (gX C.mE C.n (iX bV) dn) C.n p.2.dst v,C.n,lJ,h'⟩ a' w') (hx:Ext μ s.h w μ' h' w')
  (hrd:∀ r ∈ lg,gj r.op = .read->EA C.ms p.1 r.i=false->nY C.P (evalArg r.env) s.h r.op=some r.v->nY C.P (evalArg r.env) h' r.op=some r.v) :
  oQ C (bV.setIfInBounds p.1 true) a' w' μ' (⟨p.1,p.2,v,s.env,0,false⟩ :: dn) R lg ⟨oC s.env s.n p.2.dst v,s.n,lJ,h'⟩:=by
 have nT:=AB eM;obtain ⟨hf,lF⟩:=hi.fresh hp (r:=p) (by simp);refine ⟨by rw [hi.split];simp,iK,hi.IV,?_,by simpa using hi.size,fun i h=>?_,fun d' ur h=>?_,fun i j h hb=>?_,?_,hs.defs,hs.iP,hi.ext.trans hx,fun pre d ds h=>?_,fun d' ur h=>?_,fun d' ur h=>?_,fun d1 h1 d2 h2 WN a1 a2=>?_⟩
 ·show oC s.env s.n p.2.dst v=_;simp only [gX,if_true];rw [hi.IV,hi.OF]
 ·rw [nT] at h;simp only [or_eq_true,decide_eq_true_eq] at h;rcases h with rfl|h
  ·exact ⟨⟨p.1,p.2,v,s.env,0,false⟩,by simp,rfl⟩
  ·obtain ⟨d,hd,e⟩:=hi.WK i h;exact ⟨d,by simp [hd],e⟩
 ·rw [nT];rcases mem_cons.1 ur with rfl|ur
  ·simp
  ·rw [hi.Hw d' ur h];simp
 ·rw [nT] at h ⊢;simp only [or_eq_true,decide_eq_true_eq] at h ⊢;rcases h with rfl|h
  ·exact .inr (hr j hb)
  ·exact .inr (hi.closed i j h hb)
 ·have:gX C.mE C.n (iX (bV.setIfInBounds p.1 true)) (⟨p.1,p.2,v,s.env,0,false⟩ :: dn)=oC (gX C.mE C.n (iX bV) dn) C.n p.2.dst v:=by
   simp only [gX];rw [if_pos (by rw [nT];simp),sL (S':=iX bV) (fun x hx=>by rw [nT];simp [lF x hx])]
  rw [this];exact hs.env
 ·cases pre with
  |nil=>
   simp only [nil_append,List.cons.injEq] at h;obtain ⟨rfl,rfl⟩:=h;exact hi.OF
  |cons x pre=>
   simp only [cons_append,List.cons.injEq] at h;exact hi.WL pre d ds h.2
 ·rw [nT] at h;simp only [or_eq_false_iff,decide_eq_false_iff_not] at h;rcases mem_cons.1 ur with rfl|ur
  ·exact absurd rfl h.1
  ·obtain ⟨wb,q1,q2,q3⟩:=(hi.WM d' ur h.2).ex;refine ⟨wb,q1,q2,fun hw=>?_⟩;rcases q3 hw with q|⟨k1,k2,k3⟩|⟨k1,k2,k,ob,k3,k4,k5,k6⟩
   ·exact .inl q
   ·refine .inr (.inl ⟨k1,hrd _ k3 k1 ?_ k2,k3⟩)
    cases hb:EA C.ms p.1 d'.i with
    |false=>rfl
    |true=>have:=hr _ hb;rw [h.2] at this;cases this
   ·have hb:=hi.OG d' ur k2;refine .inr (.inr ⟨k1,k2,k,ob,k3,k4,?_,fun kk hk=>?_⟩)
    ·show h'.get d'.b=some ob;rw [hx.eW _ hb.2 k6];exact k5
    ·rcases hx.fresh _ kk hk with e|e
     ·exact k6 kk e
     ·omega
 ·rcases mem_cons.1 ur with rfl|ur
  ·cases h
  ·have:=hi.OG d' ur h;exact ⟨this.1,Nat.lt_of_lt_of_le this.2 hx.next⟩
 ·rcases mem_cons.1 h1 with rfl|h1
  ·cases a1
  ·rcases mem_cons.1 h2 with rfl|h2
   ·cases a2
   ·exact hi.sep d1 h1 d2 h2 WN a1 a2
end
end Go.AM
namespace Go.AM
open List Nat Bool Option
open Go Go.RowKit
variable {bV:Array Bool}
def C9(bV:Array Bool):Nat:=((List.range bV.size).filter fun i=>!iX bV i).length
theorem filter_lt{α:Type}(p q:α->Bool)(hpq:∀ x,q x=true->p x=true):∀ (l:List α) (x:α),x ∈ l->p x=true->q x=false->(l.filter q).length<(l.filter p).length
 |[],x,h,_,_=>by cases h
 |y :: l,x,h,h1,h2=>by
  have le:∀ l:List α,(l.filter q).length<=(l.filter p).length:=by
   intro l
   induction l with
   |nil=>simp
   |cons z l ih=>
    simp only [filter_cons];by_cases hq:q z=true
    ·rw [if_pos hq,if_pos (hpq z hq)];simp;exact ih
    ·rw [if_neg hq];split
     ·simp;omega
     ·exact ih
  simp only [filter_cons];rcases mem_cons.1 h with rfl|h
  ·rw [if_pos h1,if_neg (by rw [h2];simp)];have:=le l;simp;omega
  ·have ih:=filter_lt p q hpq l x h h1 h2;by_cases hq:q y=true
   ·rw [if_pos hq,if_pos (hpq y hq)];simp;exact ih
   ·rw [if_neg hq];split
    ·simp;omega
    ·exact ih
theorem RH{i:Nat}(hi:i<bV.size)(h:iX bV i=false):C9 (bV.setIfInBounds i true)<C9 bV:=by
 unfold C9;rw [Array.size_setIfInBounds];refine filter_lt _ _ (fun x hx=>?_) _ i (by simpa using hi) (by simp [h]) (by rw [AB hi];simp);rw [AB hi] at hx;simp only [not_eq_true',or_eq_false_iff] at hx;simp [hx.2]
theorem OH(h:C9 bV=0):∀ i,i<bV.size->iX bV i=true:=by
 intro i hi;unfold C9 at h;have:=eq_nil_of_length_eq_zero h;rw [filter_eq_nil_iff] at this;simpa using this i (by simpa using hi)
theorem RI{ops:Array Oper}(hs:bV.size=ops.size)(he:∀ (i:Nat) (o:Oper),ops[i]?=some o->∀ e ∈ o.after.toList,Region.binds .any e=true->e.on<i)(h:Region.ready .any ops bV = []) :
  ∀ i,i<ops.size->iX bV i=true:=by
 intro i
 induction i using Nat.strongRecOn with
 |ind i ih=>
  intro hi
  cases hl:iX bV i with
  |true=>rfl
  |false=>
   exfalso;have ho:ops[i]?=some ops[i]:=by simp [hi]
   have:i ∈ Region.ready .any ops bV:=by
    refine mem_ready.2 ⟨?_,_,ho,fun e Km hb=>?_⟩
    ·have:=hl;unfold iX at this;simp only [Array.getD_eq_getD_getElem?] at this ⊢;rw [Array.getElem?_eq_getElem (by omega)] at this ⊢;simpa using this
    ·have:=he i _ ho e (by simpa using Km) hb;exact ih e.on this (by omega)
   rw [h] at this;cases this
section
variable {C:WJ} {bV:Array Bool} {a:Act} {w:World} {μ:Mu} {dn:List Dn} {R:List (Nat×Oper)} {lg:List Read} {s:St}
theorem oQ.done(hp:vu C.ops C.ms C.L)(hi:oQ C bV a w μ dn R lg s)(fh:∀ i,i<C.ops.size->iX bV i=true):C.K s=true/\SR C.w0 μ s a w/\Ext C.μb C.hb C.wb μ s.h w:=by
 have hR:R = []:=by
  cases R with
  |nil=>rfl
  |cons p R=>
   have hm:p ∈ C.L:=by rw [hi.split];simp
   have eM:=(Array.getElem?_eq_some_iff.1 (hp.mem p hm)).1;have:=(hi.fresh hp (r:=p) (by simp)).1;rw [fh _ eM] at this;cases this
 subst hR;have iK:=hi.run;simp only [gG] at iK;refine ⟨iK,⟨?_,hi.defs,hi.iP⟩,hi.ext⟩
 have:gX C.mE C.n (iX bV) dn=s.env:=by
  rw [hi.OF];refine sL fun x hx=>?_;have hm:(x.i,x.o) ∈ C.L:=by rw [hi.split];simp;exact ⟨x,hx,rfl,rfl⟩
  exact fh _ (Array.getElem?_eq_some_iff.1 (hp.mem _ hm)).1
 have he:=hi.env;rw [this] at he;rw [hi.IV];exact he
theorem OI(hp:vu C.ops C.ms C.L)(hc:g9 C.P C.call){Q:Exit->Act->World->Prop}(hQ:∀ s' a' w' μ',C.K s'=true->SR C.w0 μ' s' a' w'->Ext C.μb C.hb C.wb μ' s'.h w'->Q .normal a' w') :
  ∀ (fuel:Nat) (bV:Array Bool) (a:Act) (w:World) (μ:Mu) (dn:List Dn) (R:List (Nat×Oper)) (lg:List Read) (s:St),oQ C bV a w μ dn R lg s->C9 bV<=fuel->wpAny C.P .any C.ops Q fuel bV a w:=by
 have fin:∀ (bV:Array Bool) (a:Act) (w:World) (μ:Mu) (dn:List Dn) (R:List (Nat×Oper)) (lg:List Read) (s:St),oQ C bV a w μ dn R lg s->Region.ready .any C.ops bV = []->Q .normal a w:=by
  intro bV a w μ dn R lg s hi hr;obtain ⟨h1,h2,h3⟩:=hi.done hp (RI hi.size hp.mA hr);exact hQ _ _ _ _ h1 h2 h3
 intro fuel
 induction fuel with
 |zero=>
  intro bV a w μ dn R lg s hi hl;have fh:=OH (le_zero.1 hl)
  have hr:Region.ready .any C.ops bV = []:=by
   cases h:Region.ready .any C.ops bV with
   |nil=>rfl
   |cons i l=>
    have hm:i ∈ Region.ready .any C.ops bV:=(by rw [h];simp);obtain ⟨h1,o,ho,_⟩:=mem_ready.1 hm;have eM:=(Array.getElem?_eq_some_iff.1 ho).1;have:=fh i (by rw [hi.size];exact eM);unfold iX at this;simp only [Array.getD_eq_getD_getElem?] at this h1;rw [Array.getElem?_eq_getElem (by rw [hi.size];exact eM)] at this h1;simp at this h1;rw [this] at h1;cases h1
  exact ⟨hr,fin _ _ _ _ _ _ _ _ hi hr⟩
 |succ fuel ih=>
  intro bV a w μ dn R lg s We hl;refine ⟨fin _ _ _ _ _ _ _ _ We,fun i Km=>?_⟩;obtain ⟨dn,R,lg,s,hi,Zy⟩:=We.advance hp;obtain ⟨h1,o,ho,_⟩:=mem_ready.1 Km;have eM:i<C.ops.size:=(Array.getElem?_eq_some_iff.1 ho).1;have Mb:i<bV.size:=by rw [hi.size];exact eM
  have hS:iX bV i=false:=by
   unfold iX;simp only [Array.getD_eq_getD_getElem?] at h1 ⊢;rw [Array.getElem?_eq_getElem Mb] at h1 ⊢;simpa using h1
  have hr:∀ j,EA C.ms i j=true->iX bV j=true:=fun j hb=>by
   rw [hp.pL] at hb;exact RB (by rw [<- hp.pL];exact hi.closed) Km hb
  have DG:C9 (bV.setIfInBounds i true)<=fuel:=by have:=RH Mb hS;omega
  obtain ⟨p,hpL,hpi⟩:=hp.cover i eM;have zH:=hp.mem p hpL;rw [hpi,ho] at zH;obtain ⟨pi,po⟩:=p;simp only at hpi zH;obtain rfl:=hpi;obtain rfl:=Option.some.inj zH;have hρ:∀ x,VR C.w0 μ (evalArg (gX C.mE C.n (iX bV) dn) x) (a.eval x):=SR.eval (s:=⟨gX C.mE C.n (iX bV) dn,C.n,s.defs,s.h⟩) ⟨hi.env,hi.defs,hi.iP⟩;have Ue:∀ b,j9 C.ops.toList o (gX C.mE C.n (iX bV) dn)=some b->Region.wanted o (yielded C.ops a.tmps)=b:=fun b hb=>nk (s:=⟨gX C.mE C.n (iX bV) dn,C.n,s.defs,s.h⟩) hi.env hb;unfold wpOp;simp only [ho];rw [hi.split,mem_append,mem_map] at hpL;rcases hpL with ⟨d,hd,OJ⟩|hpR
  ·
   rw [mem_reverse] at hd;simp only [Prod.mk.injEq] at OJ;obtain ⟨rfl,rfl⟩:=OJ;have wk:=hi.agree hp hd hS hr;have Uf:∀ x ∈ d.o.op.operands,evalArg (gX C.mE C.n (iX bV) dn) x=evalArg d.env x:=Ma wk;obtain ⟨wb,q1,q2,q3⟩:=(hi.WM d hd hS).ex;rw [<- AH wk] at q1;rw [Ue wb q1]
   cases wb with
   |false=>
    simp only [false_eq_true,if_false];have tj:=hi.ran hp hd hS Mb hr (Mu.le.refl μ) (vc:=undef) (by rw [q2 rfl];exact VR.bK) hi.iP hi.ext (fun _ _ _ _ _ h=>h);exact ih _ _ _ _ _ _ _ _ tj DG
   |true=>
    rw [if_pos rfl];refine .inl ?_;rcases q3 rfl with ⟨k1,k2⟩|⟨k1,k2,k3⟩|⟨k1,k2,k,ob,k3,k4,k5,k6⟩
    ·rw [<- C6 Uf] at k2;obtain ⟨vc,e1,e2⟩:=LP hρ k1 k2;unfold Oper.wp;rw [e1 w,Oper.upon_value];exact ih _ _ _ _ _ _ _ _ (hi.ran hp hd hS Mb hr (Mu.le.refl μ) e2 hi.iP hi.ext (fun _ _ _ _ _ h=>h)) DG
    ·rw [<- C7 Uf] at k2;obtain ⟨vc,e1,e2⟩:=LS hi.iP hρ k1 k2;unfold Oper.wp;rw [e1,Oper.upon_value];exact ih _ _ _ _ _ _ _ _ (hi.ran hp hd hS Mb hr (Mu.le.refl μ) e2 hi.iP hi.ext (fun _ _ _ _ _ h=>h)) DG
    ·rw [<- AA Uf] at k3;obtain ⟨O,n,f,hm⟩:=IN (w0:=C.w0) (μ:=μ) hρ k1 k3;have hb:=hi.OG d hd k2;have Qr:=hi.iP.TS hb.2 k6 k5 O n (hm.obj _);have iY:=hi.ext.TS (n:=n) hb.1 k6 O;unfold Oper.wp;rw [hm.run w,Oper.upon_value];refine ih _ _ _ _ _ _ _ _ (hi.ran hp hd hS Mb hr (Mu.BL k6) (by rw [k4];exact hm.val _ _ _ (Mu.add_same _ _ _)) Qr iY (fun d' ur _ lF yJ WQ kk hk=>?_)) DG;rw [Mu.kN] at hk;have:d'.b≠d.b:=hi.sep d' ur d hd lF yJ k2;rw [if_neg this] at hk;exact WQ kk hk
  ·
   have hRp:∃ rest,R=(pi,o) :: rest:=by
    cases R with
    |nil=>cases hpR
    |cons q rest=>
     rcases mem_cons.1 hpR with e|hq
     ·exact ⟨rest,by rw [e]⟩
     ·exfalso;have oS:=(hi.wG hp).2.1;rw [pairwise_cons] at oS;have hb:=(oS.1 _ hq).NO (Zy q rest rfl);have h2:=hr _ hb;have:=(hi.fresh hp (r:=q) (by simp)).1;rw [h2] at this;cases this
   obtain ⟨rest,rfl⟩:=hRp;have aay:=Zy _ _ rfl
   have hk:gj o.op = .NO:=by
    unfold vp at aay;simp only at aay;cases hk:gj o.op<;>simp [hk] at aay;rfl
   have wk:=hi.RG hp hr;have Uf:∀ x ∈ o.op.operands,evalArg (gX C.mE C.n (iX bV) dn) x=evalArg s.env x:=Ma (ops:=C.ops.toList) wk;obtain ⟨anE,ns,Zz,hs0⟩:=s;have iK:=hi.run;simp only [gG] at iK;rw [<- AH (ops:=C.ops.toList) wk] at iK;split at iK
   ·rename_i hw;rw [Ue _ hw,if_pos rfl];simp only [hk] at iK;rw [<- Kj Uf] at iK;refine .inl ?_;have qX:SR C.w0 μ ⟨gX C.mE C.n (iX bV) dn,C.n,Zz,hs0⟩ a w:=⟨hi.env,hi.defs,hi.iP⟩
    refine EG qX hc ⟨fun v lJ h' a' w' μ' hK jc hx=>?_,fun v vc h' w' μ' hK _ _ _=>by cases hK⟩ iK;simp only at hK;split at hK
    ·rename_i hsr;refine ih _ _ _ _ _ _ _ _ (hi.Zx hp Mb hr (mZ hK) jc hx (fun r vL hk2 hb hv=>?_)) DG;exact L8 hk2 (tq hsr r vL hb)
    ·cases hK
   ·rename_i hw;rw [Ue _ hw];simp only [false_eq_true,if_false];have qX:SR C.w0 μ ⟨gX C.mE C.n (iX bV) dn,C.n,Zz,hs0⟩ a w:=⟨hi.env,hi.defs,hi.iP⟩
    have hs3:=qX.left o.dst (h':=hs0) VR.bK hi.iP (Mu.le.refl μ);exact ih _ _ _ _ _ _ _ _ (hi.Zx hp Mb hr (v:=bK) (mZ iK) hs3 (Ext.refl _ _ _) (fun r _ _ _ hv=>hv)) DG
   ·cases iK
end
theorem Qs{P:Program}{w0 w:World}{μ:Mu}{s:St}{a:Act}(hm:P.follows .mixedOrders=true){call:lI}(hc:g9 P call){id:Nat}{ops:Array Oper}{Mc:aak}(hp:LF ops.toList=some Mc){K:St->Bool}
  {Q:Exit->Act->World->Prop} (hs:SR w0 μ s a w) (hQ:∀ s' a' w' μ',K s'=true->SR w0 μ' s' a' w'->Ext μ s.h w μ' s'.h w'->Q .normal a' w')
  (h:gG P call ops.toList Mc.ms Mc.L [] s K=true):(Code.region id ops true).wp P Q a w:=by
 refine wp_region_any hm ?_
 let C:WJ:=⟨P,call,ops,Mc.ms,Mc.L,K,w0,μ,s.h,w,s.env,s.n⟩
 have mM:vu C.ops C.ms C.L:=OE hp
 have mN:∀ k,iX (Array.replicate ops.size false) k=false:=fun k=>by
  unfold iX;simp only [Array.getD_eq_getD_getElem?,Array.getElem?_replicate];split<;>rfl
 have hi:oQ C (Array.replicate ops.size false) a { w with drawn:=w.drawn+1 } μ [] Mc.L [] s:=by
  refine ⟨rfl,h,rfl,rfl,by simp [C],fun i hh=>?_,by simp,fun i j hh=>?_,hs.env,hs.defs,hs.iP.same rfl rfl rfl rfl,?_,by simp,by simp,by simp,by simp⟩
  ·rw [mN] at hh;cases hh
  ·rw [mN] at hh;cases hh
  ·exact ⟨Mu.le.refl μ,fun _ _ _=>rfl,fun _ _ h=>.inl h,dK _,dK _,fun _ _ _=>rfl,fun _ _ h=>.inl h,fun _ _ h=>.inl h⟩
 refine OI mM hc hQ _ _ _ _ _ _ _ _ _ hi ?_;unfold C9;refine Nat.le_trans (length_filter_le _ _) ?_;simp [C]
end Go.AM