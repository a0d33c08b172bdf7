/- Parts of the proof. Conditions: none. -/
import Derived.Test.YtfdanacohcffmaaGreatKu7
import Derived.Defers
import Derived.Orders
set_option linter.unusedSimpArgs false
set_option linter.unusedVariables false
namespace Go.AM
open List Nat Bool Option
open Go Go.RowKit
variable {K:R->Bool} {call:jI} {o:Oper} {w':World} {v:AV}
structure adE (w0:World) (μ:Mu) (d:oV) (D:Deferred):Prop where
 ex:∃ cap args:List Value,D = { target:=.fn (.func d.f) cap.toArray,args:=args.toArray }/\dY w0 μ d.args args/\dY w0 μ d.cap cap
inductive xE (w0:World) (μ:Mu):List oV->List Deferred->Prop where
 |nil:xE w0 μ [] []
 |cons {d:oV} {D:Deferred} {ds:List oV} {Ds:List Deferred} (h:adE w0 μ d D) (t:xE w0 μ ds Ds):xE w0 μ (d :: ds) (D :: Ds)
def Cf(w0:World)(μ:Mu)(env:Env)(n:Nat)(tmps:Array Value):Prop:=tmps.size=n/\∀ t,VR w0 μ (env t) (tmps.getD t undef)
structure SR (w0:World) (μ:Mu) (s:St) (a:Act) (w:World):Prop where
 env:Cf w0 μ s.env s.n a.tmps
 defs:xE w0 μ s.defs a.defers
 gC:Good w0 μ s.h w
section
variable {P:Program} {w0 w:World} {μ μ':Mu} {h h':Heap} {s:St} {a:Act}
theorem xE.mono(hm:μ.le μ'){ds:List oV}{Ds:List Deferred}(h:xE w0 μ ds Ds):xE w0 μ' ds Ds:=by
 induction h with
 |nil=>exact .nil
 |cons h t ih=>obtain ⟨c,x,e,a,b⟩:=h;exact .cons ⟨c,x,e,a.mono hm,b.mono hm⟩ ih
theorem Cf.mono(hm:μ.le μ'){env:Env}{n:Nat}{tmps:Array Value}(h:Cf w0 μ env n tmps):Cf w0 μ' env n tmps:=⟨h.1,fun t=>(h.2 t).mono hm⟩
theorem bK(env:Env)(d:Nat)(v:AV)(t:Nat):aa env d v t=if t=d then v else env t:=by
 unfold aa
 cases h:Nat.beq t d with
 |true=>rw [if_pos (eq_of_beq_eq_true h)]
 |false=>rw [if_neg (ne_of_beq_eq_false h)]
theorem kT{env:Env}{n:Nat}{dst:Option Tmp}{k:Env->Bool}(h:ir env n dst v k=true):k (l8 env n dst v)=true:=by
 cases dst with
 |none=>exact h
 |some d=>
  simp only [ir] at h;simp only [l8]
  cases hb:ble (d+1) n with
  |false=>rw [hb] at h;cases h
  |true=>
   rw [hb] at h;have:d<n:=le_of_ble_eq_true hb;rw [if_pos this];exact h
theorem Cf.put{env:Env}{n:Nat}{tmps:Array Value}(h:Cf w0 μ env n tmps)(dst:Option Tmp){vc:Value}(hv:VR w0 μ v vc):Cf w0 μ (l8 env n dst v) n (match dst with|some d=>tmps.setIfInBounds d vc|none=>tmps):=by
 cases dst with
 |none=>exact h
 |some d=>
  refine ⟨by simpa using h.1,fun t=>?_⟩;have ht:=h.2 t;simp only [l8];by_cases hd:d<n
  ·rw [if_pos hd];rw [bK];by_cases e:t=d
   ·subst e;rw [if_pos rfl];have:(tmps.setIfInBounds t vc).getD t undef=vc:=by simp [Array.getD,show t<tmps.size by rw [h.1];exact hd]
    rw [this];exact hv
   ·rw [if_neg e]
    have:(tmps.setIfInBounds d vc).getD t undef=tmps.getD t undef:=by
     simp only [Array.getD_eq_getD_getElem?];rw [Array.getElem?_setIfInBounds_ne (fun q=>e q.symm)]
    rw [this];exact ht
  ·rw [if_neg hd];have:(tmps.setIfInBounds d vc)=tmps:=Array.setIfInBounds_eq_of_size_le (h.1▸Nat.le_of_not_lt hd);rw [this];exact ht
theorem Act.HU(a:Act)(dst:Option Tmp)(v:Value):(a.put dst v).tmps=(match dst with|some d=>a.tmps.setIfInBounds d v|none=>a.tmps):=by cases dst<;>rfl
theorem Act.z8(a:Act)(dst:Option Tmp)(v:Value):(a.put dst v).defers=a.defers:=by cases dst<;>rfl
theorem SR.left(hs:SR w0 μ s a w)(dst:Option Tmp){vc:Value}(hv:VR w0 μ' v vc)(hg:Good w0 μ' h' w')(hm:μ.le μ'):SR w0 μ' (s.Vk h' dst v) (a.put dst vc) w':=
 ⟨by rw [Act.HU];exact (hs.env.mono hm).put dst hv,by rw [Act.z8];exact hs.defs.mono hm,hg⟩
theorem SR.X7(hs:SR w0 μ s a w)(hg:Good w0 μ' h' w')(hm:μ.le μ'):SR w0 μ' ⟨s.env,s.n,s.defs,h'⟩ a w':=
 ⟨hs.env.mono hm,hs.defs.mono hm,hg⟩
theorem SR.eval(hs:SR w0 μ s a w):∀ x,VR w0 μ (evalArg s.env x) (a.eval x):=by
 intro x
 cases x with
 |tmp t=>exact hs.env.2 t
 |const v=>exact VR.ofConst v
 |global g=>exact .undef _
 |func f=>exact .func f [] [] [] [] rfl rfl (by simp) (by simp)
theorem kZ(hs:Cf w0 μ s.env s.n a.tmps){ops:Array Oper}{b:Bool}(h:iQ ops.toList o s.env=some b):Region.wanted o (yielded ops a.tmps)=b:=by
 unfold iQ at h;unfold Region.wanted;split at h
 ·rename_i hg;rw [hg];simpa using h
 ·rename_i j want hg;rw [hg];simp only;split at h
  ·rename_i g hj;split at h
   ·rename_i d hd;have Gz:ops[j]?=some g:=by rw [Array.getElem?_toList] at hj;exact hj
    have ht:=hs.2 d
    have key:∀ v:Value,VR w0 μ (s.env d) v->v=a.tmps.getD d undef->(yielded ops a.tmps j==some want)=b:=by
     intro v hv he;unfold yielded;simp only [Gz,bind_some,hd];split at h
     ·rename_i b' hb;rw [hb] at hv;cases h;rw [hv.iz] at he;by_cases hlt:d<a.tmps.size
      ·have:a.tmps[d]?=some (.bool b'):=by
        simp [Array.getD,hlt] at he;simp [hlt,he]
       rw [this];simp
      ·simp [Array.getD,hlt,undef] at he
     ·rename_i vs hb;rw [hb] at hv;cases h;obtain ⟨us,rfl,_⟩:=hv.E8;by_cases hlt:d<a.tmps.size
      ·have:a.tmps[d]?=some (.tuple us.toArray):=by
        simp [Array.getD,hlt] at he;simp [hlt,he]
       rw [this];simp
      ·have:a.tmps[d]?=none:=Array.getElem?_eq_none (Nat.le_of_not_lt hlt);rw [this];simp
     ·cases h
    exact key _ ht rfl
   ·cases h
  ·cases h
def yX(w0:World)(μ:Mu)(h:Heap)(w:World)(K:Out->Heap->Bool):Ending->World->Prop
 |.returned vc,w'=>∃ v h' μ',K (.ret v) h'=true/\VR w0 μ' v vc/\Good w0 μ' h' w'/\Ext μ h w μ' h' w'
 |.panicked chain,w'=>∃ v vc h' μ',K (.panic v) h'=true/\chain = [{ v:=vc,recovered:=false }]/\VR w0 μ' v vc/\Good w0 μ' h' w'/\Ext μ h w μ' h' w'
 |.outgrown,_=>False
def Enters(P:Program)(f:FuncId):Prop:=∃ fn c,P.funcs[f]?=some fn/\fn.body=some c/\fn.name≠ "runtime.NumGoroutine"
theorem xF{f:FuncId}(he:Enters P f)(args:Array Value):(callFunc f args).run P w = .ok (.enter f args) w:=by
 obtain ⟨fn,c,h1,h2,h3⟩:=he;simp [callFunc,h1,h2,h3]
def fR(P:Program)(call:jI):Prop:=
 ∀ f args h K,call f args h K=true->Enters P f/\∀ (w0:World) (μ:Mu) (w:World) (vs:List Value),Good w0 μ h w->dY w0 μ args vs->Calls P f vs.toArray w (yX w0 μ h w K)
structure Fe (w0:World) (μ:Mu) (s:St) (a:Act) (w:World) (dst:Option Tmp) (K:R->Bool) (next:Act->World->Prop) (Q:Exit->Act->World->Prop):Prop where
 ok:∀ (v:AV) (jJ:List oV) (h':Heap) (a':Act) (w':World) (μ':Mu),K (.ok v jJ h')=true->SR w0 μ' ⟨l8 s.env s.n dst v,s.n,jJ,h'⟩ a' w'->Ext μ s.h w μ' h' w'->next a' w'
 panic:∀ (v:AV) (vc:Value) (h':Heap) (w':World) (μ':Mu),K (.panic v h')=true->VR w0 μ' v vc->SR w0 μ' ⟨s.env,s.n,s.defs,h'⟩ a w'->Ext μ s.h w μ' h' w'->Q (.panic [{ v:=vc,recovered:=false }]) a w'
theorem Cg(hs:SR w0 μ s a w){next:Act->World->Prop}{Q:Exit->Act->World->Prop}(hl:Fe w0 μ s a w o.dst K next Q)
  (h:oW o.op P call s.env s.defs s.h K=true):o.wp P a w next Q:=by
 obtain ⟨v,h',vc,w',μ',hK,hr,hv,hg,hx⟩:=Vy hs.gC hs.eval h;unfold Oper.wp;rcases hr with hr|⟨rfl,hr⟩
 ·rw [hr];exact hl.ok _ _ _ _ _ _ hK (hs.left o.dst hv hg hx.mono) hx
 ·rw [hr];exact hl.ok _ _ _ _ _ _ hK (hs.left o.dst hv hg hx.mono) hx
theorem RG(hs:SR w0 μ s a w)(hc:fR P call){c:Call}(ho:o.op = .call c){next:Act->World->Prop}{Q:Exit->Act->World->Prop}(hl:Fe w0 μ s a w o.dst K next Q)
  (h:v7 c P call s.env s.defs s.h K=true):o.wp P a w next Q:=by
 obtain ⟨yS,args,ts⟩:=c
 cases yS with
 |builtin b=>exact Cg hs hl (call:=call) (by rw [ho];exact h)
 |invoke r m=>exact Cg hs hl (call:=call) (by rw [ho];exact h)
 |value f=>
  simp only [v7,Bp] at h;split at h
  ·rename_i g first cap hf
   obtain ⟨he,Vz⟩:=hc _ _ _ _ h;have hfv:=hs.eval f;rw [hf] at hfv;generalize hfe:a.eval f=fv at hfv;cases hfv;rename_i us vs h1 r1 h2 r2;have Aa:dY w0 μ (args.toList.map (evalArg s.env)) (args.toList.map a.eval):=dY.map _ fun x _=>hs.eval x;have lI:=(dY.mk h1 r1).append (Aa.append (dY.mk h2 r2));have hcl:=Vz w0 μ w _ hs.gC lI
   have hrun:(execOp a.eval o).run P w = .ok (.enter g (us++(args.toList.map a.eval++vs)).toArray) w:=by
    have e:us.toArray++args.map a.eval++vs.toArray=(us++(args.toList.map a.eval++vs)).toArray:=by
     apply Array.ext';simp
    simp only [execOp,ho,resolve,hfe,Deferred.ofValue,Sem.run_bind,Sem.run_pure,Result.andThen_ok,invoke,xF he,e]
   unfold Oper.wp;rw [hrun,Oper.upon_enter];refine Calls.mono hcl fun e w' hR=>?_
   cases e with
   |returned vc=>
    obtain ⟨v,h',μ',hK,hv,hg,hx⟩:=hR;exact hl.ok _ _ _ _ _ _ hK (hs.left o.dst hv hg hx.mono) hx
   |panicked chain=>
    obtain ⟨v,vc,h',μ',hK,rfl,hv,hg,hx⟩:=hR;exact hl.panic _ _ _ _ _ hK hv (hs.X7 hg hx.mono) hx
   |outgrown=>exact hR.elim
  ·cases h
theorem O1(hs:SR w0 μ s a w){c:Call}(ho:o.op = .defer c){next:Act->World->Prop}{Q:Exit->Act->World->Prop}(hl:Fe w0 μ s a w o.dst K next Q)
  (h:xo c P call s.env s.defs s.h K=true):o.wp P a w next Q:=by
 obtain ⟨yS,args,ts⟩:=c
 cases yS with
 |builtin b=>cases h
 |invoke r m=>cases h
 |value f=>
  simp only [xo] at h;split at h
  ·rename_i g first cap hf
   have hfv:=hs.eval f;rw [hf] at hfv;generalize hfe:a.eval f=fv at hfv;cases hfv;rename_i us vs h1 r1 h2 r2;have Aa:dY w0 μ (args.toList.map (evalArg s.env)) (args.toList.map a.eval):=dY.map _ fun x _=>hs.eval x;have lI:=(dY.mk h1 r1).append Aa
   have hrun:(execOp a.eval o).run P w = .ok (.defer { target:=.fn (.func g) vs.toArray,args:=(us++args.toList.map a.eval).toArray }) w:=by
    have e:us.toArray++args.map a.eval=(us++args.toList.map a.eval).toArray:=by
     apply Array.ext';simp
    simp only [execOp,ho,resolve,hfe,Deferred.ofValue,Sem.run_bind,Sem.run_pure,Result.andThen_ok,e]
   unfold Oper.wp;rw [hrun,Oper.upon_defer]
   have gu:SR w0 μ (St.mk s.env s.n (⟨g,first++args.toList.map (evalArg s.env),cap⟩ :: s.defs) s.h) { a with defers:={ target:=.fn (.func g) vs.toArray,args:=(us++args.toList.map a.eval).toArray } :: a.defers } w:=
    ⟨hs.env,.cons ⟨vs,_,rfl,lI,⟨h2,r2⟩⟩ hs.defs,hs.gC⟩
   exact hl.ok _ _ _ _ _ _ h (gu.left o.dst VR.bI hs.gC (Mu.le.refl μ)) (Ext.refl _ _ _)
  ·cases h
theorem O2(hs:SR w0 μ s a w){x:Operand}(ho:o.op = .panic x){next:Act->World->Prop}{Q:Exit->Act->World->Prop}(hl:Fe w0 μ s a w o.dst K next Q)
  (h:xp x P call s.env s.defs s.h K=true):o.wp P a w next Q:=by
 simp only [xp] at h;split at h
 ·rename_i t v hx;have hv:=hs.eval x;rw [hx] at hv;generalize he:a.eval x=xv at hv;cases hv;rename_i vc hvc
  have hrun:(execOp a.eval o).run P w = .halt (.panic (.iface t vc)) w:=by
   simp [execOp,ho,he,Instr.panic]
  unfold Oper.wp;rw [hrun,Oper.upon_panic];exact hl.panic _ _ _ _ _ h (.iface t v vc hvc) hs (Ext.refl _ _ _)
 ·cases h
theorem Ab{defs:List oV}{K:R->Bool}:∀ {L:List (AV×Heap)},lK defs K L=true->∀ p ∈ L,K (.ok p.1 defs p.2)=true
 |[],_,p,hp=>by cases hp
 |q :: L,h,p,hp=>by
  simp only [lK,and_eq_true] at h;rcases mem_cons.1 hp with rfl|hp
  ·exact h.1
  ·exact Ab h.2 p hp
theorem RH(hs:SR w0 μ s a w){x:Operand}{b:Bool}(ho:o.op = .next x b){next:Act->World->Prop}{Q:Exit->Act->World->Prop}(hl:Fe w0 μ s a w o.dst K next Q)
  (h:Gr x b P call s.env s.defs s.h K=true):o.wp P a w next Q:=by
 obtain ⟨L,hL,hh⟩:=fF h;obtain ⟨p,vc,w',μ',hp,hr,hv,hg,hx⟩:=OX (P:=P) hs.gC (hs.eval x) hL o.type;have hrun:(execOp a.eval o).run P w = .ok (.value vc) w':=by simp [execOp,ho,hr]
 unfold Oper.wp;rw [hrun];exact hl.ok _ _ _ _ _ _ (Ab hh p hp) (hs.left o.dst hv hg hx.mono) hx
theorem Bx(hs:SR w0 μ s a w)(hc:fR P call){next:Act->World->Prop}{Q:Exit->Act->World->Prop}(hl:Fe w0 μ s a w o.dst K next Q)
  (h:jb o.op P call s.env s.defs s.h K=true):o.wp P a w next Q:=by
 cases ho:o.op<;>rw [ho] at h<;>simp only [jb] at h
 case call c=>exact RG hs hc ho hl h
 case defer c=>exact O1 hs ho hl h
 case panic x=>exact O2 hs ho hl h
 case next x b=>exact RH hs ho hl h
 all_goals exact Cg hs hl (call:=call) (by rw [ho];exact h)
structure yY (w0:World) (μ:Mu) (h:Heap) (w:World) (K:RS->Bool) (Q:Exit->Act->World->Prop):Prop where
 ok:∀ (s':St) (a':Act) (w':World) (μ':Mu),K (.ok s')=true->SR w0 μ' s' a' w'->Ext μ h w μ' s'.h w'->Q .normal a' w'
 panic:∀ (v:AV) (vc:Value) (s':St) (a':Act) (w':World) (μ':Mu),K (.panic v s')=true->VR w0 μ' v vc->SR w0 μ' s' a' w'->Ext μ h w μ' s'.h w'->Q (.panic [{ v:=vc,recovered:=false }]) a' w'
theorem yY.after{K:RS->Bool}{Q:Exit->Act->World->Prop}(hl:yY w0 μ h w K Q)(hx:Ext μ h w μ' h' w'):yY w0 μ' h' w' K Q:=
 ⟨fun s2 a2 w2 μ2 k2 r2 x2=>hl.ok s2 a2 w2 μ2 k2 r2 (hx.trans x2),fun v vc s2 a2 w2 μ2 k2 v2 r2 x2=>hl.panic v vc s2 a2 w2 μ2 k2 v2 r2 (hx.trans x2)⟩
theorem Kn{call:jI}(hc:fR P call){ops:Array Oper}{K:RS->Bool}{Q:Exit->Act->World->Prop}:∀ (l:List Oper) (i:Nat) (s:St) (a:Act) (w:World) (μ:Mu),(∀ j o,l[j]?=some o->ops[i+j]?=some o) ->
  SR w0 μ s a w->(hl:yY w0 μ s.h w K Q)->mM P call ops.toList l s K=true->wpOps P ops Q (range' i l.length) a w
 |[],i,s,a,w,μ,hi,hs,hl,h=>by
  simp only [length_nil,range'_zero,wpOps];exact hl.ok _ _ _ _ h hs (Ext.refl _ _ _)
 |o :: rest,i,s,a,w,μ,hi,hs,hl,h=>by
  have Ot:ops[i]?=some o:=by simpa using hi 0 o rfl
  obtain ⟨env,n,defs,hp⟩:=s;simp only [length_cons,range'_succ,wpOps,Ot];simp only [mM] at h
  have uX:∀ j o',rest[j]?=some o'->ops[i+1+j]?=some o':=fun j o' hj=>by
   have:=hi (j+1) o' (by simpa using hj)
   rwa [show i+1+j=i+(j+1) by omega]
  split at h
  ·rename_i hw;rw [kZ hs.env hw,if_pos rfl];refine .inl (Bx hs hc ⟨fun v jJ h' a' w' μ' hK gu hx=>?_,fun v vc h' w' μ' hK hv gu hx=>?_⟩ h)
   ·exact Kn hc rest (i+1) _ a' w' μ' uX gu (hl.after hx) (kT hK)
   ·exact hl.panic v vc _ a w' μ' hK hv gu hx
  ·rename_i hw;rw [kZ hs.env hw];simp only [false_eq_true,if_false];have gu:=hs.left o.dst (h':=hp) VR.bI hs.gC (Mu.le.refl μ);exact Kn hc rest (i+1) ⟨l8 env n o.dst bI,n,defs,hp⟩ _ w μ uX gu hl (kT h)
  ·cases h
end
end Go.AM
namespace Go.AM
open List Nat Bool Option
open Go Go.RowKit
variable {op:Op}
section
variable {P:Program} {ρ ρ':Operand->AV}
theorem oy{c:Call}(h:∀ x ∈ c.operands,ρ x = ρ' x):c.args.toList.map ρ=c.args.toList.map ρ':=
 map_congr_left fun x hx=>h x (by simp [Call.operands];exact .inr (by simpa using hx))
theorem Ac{ps:Array (Nat×Operand)}(h:∀ x ∈ (ps.toList.map (·.2)).toArray,ρ x = ρ' x):(ps.toList.map fun p=>ρ p.2)=ps.toList.map fun p=>ρ' p.2:=
 map_congr_left fun p hp=>h p.2 (by simp;exact ⟨p.1,by simpa using hp⟩)
theorem Ff{o:Option Operand}(h:∀ x ∈ o.toArray,ρ x = ρ' x):o.map ρ=o.map ρ':=by
 cases o with
 |none=>rfl
 |some x=>simp [h x (by simp)]
theorem Ad(h:∀ x ∈ op.operands,ρ x = ρ' x):me P ρ op=me P ρ' op:=by
 cases op<;>simp only [Op.operands] at h<;>simp only [me]
 case build t ps=>rw [Ac h]
 case makeFunc fn first cap=>
  have h1:first.toList.map ρ=first.toList.map ρ':=map_congr_left fun x hx=>h x (by simp;exact .inl (by simpa using hx))
  have h2:cap.toList.map ρ=cap.toList.map ρ':=map_congr_left fun x hx=>h x (by simp;exact .inr (by simpa using hx));rw [h1,h2]
 case slice t x lo hi mx=>
  have h0:ρ x = ρ' x:=h x (by simp);have h1:lo.map ρ=lo.map ρ':=Ff fun y hy=>h y (by simp only [Array.mem_append];exact .inl (.inl (.inr hy)));have h2:hi.map ρ=hi.map ρ':=Ff fun y hy=>h y (by simp only [Array.mem_append];exact .inl (.inr hy));rw [h0,h1,h2]
 case call c=>simp only [oy h]
 all_goals (first|rfl|(simp_all;done))
theorem Ae(h:∀ x ∈ op.operands,ρ x = ρ' x)(hp:Heap):lM P ρ hp op=lM P ρ' hp op:=by
 cases op<;>simp only [Op.operands] at h<;>simp only [lM]
 case call c=>simp only [oy h]
 all_goals (first|rfl|(simp_all;done))
theorem xG(h:∀ x ∈ op.operands,ρ x = ρ' x):om P ρ op=om P ρ' op:=by
 cases op<;>simp only [Op.operands] at h<;>simp only [om]
 case buildSlice t n ps=>rw [Ac h]
 all_goals (first|rfl|(simp_all;done))
theorem wm(h:∀ x ∈ op.operands,ρ x = ρ' x)(hp:Heap)(K:AV->Heap->Bool):gI op P ρ hp K=gI op P ρ' hp K:=by
 cases hk:fc op with
 |pure=>rw [ur hk,ur hk,Ad h]
 |read=>rw [p9 hk,p9 hk,Ae h]
 |alloc=>rw [qO hk,qO hk,xG h]
 |JO=>
  cases op<;>simp only [fc,reduceCtorEq] at hk<;>simp only [Op.operands] at h<;>simp only [gI]
  case call c=>simp only [sE,oy h]
  all_goals (first|rfl|(simp_all;done))
theorem GA{env eC:Env}(h:∀ x ∈ op.operands,evalArg env x=evalArg eC x)(call:jI)(defs:List oV)(hp:Heap)(K:R->Bool) :
  jb op P call env defs hp K=jb op P call eC defs hp K:=by
 cases op<;>simp only [jb]
 case call c=>
  obtain ⟨yS,args,ts⟩:=c
  cases yS with
  |value f=>
   simp only [v7,Bp];have h1:=oy (c:=⟨.value f,args,ts⟩) h;have h2:evalArg env f=evalArg eC f:=h f (by simp [Op.operands,Call.operands]);simp only at h1;rw [h2,h1]
  |invoke r m=>simp only [v7,oW];rw [wm h]
  |builtin b=>simp only [v7,oW];rw [wm h]
 case defer c=>
  obtain ⟨yS,args,ts⟩:=c
  cases yS with
  |value f=>
   simp only [xo];have h1:=oy (c:=⟨.value f,args,ts⟩) h;have h2:evalArg env f=evalArg eC f:=h f (by simp [Op.operands,Call.operands]);simp only at h1;rw [h2,h1]
  |invoke r m=>rfl
  |builtin b=>rfl
 case panic x=>simp only [xp,h x (by simp [Op.operands])]
 case next x b=>simp only [Gr,h x (by simp [Op.operands])]
 all_goals (simp only [oW];rw [wm h])
theorem HV{hp:Heap}(hc:∀ b,hp.next<=b->hp.get b=none)(o:jV){v:AV}(h:lM P ρ hp op=some v):lM P ρ (hp.alloc o) op=some v:=by
 have key:∀ b o',hp.get b=some o'->(hp.alloc o).get b=some o':=fun b o' hb=>by
  rw [Heap.aU,if_neg (fun e=>by rw [e,hc _ (dM _)] at hb;cases hb)];exact hb
 cases op<;>simp only [lM,reduceCtorEq] at h ⊢
 case load t a=>
  obtain ⟨i,h1,h2⟩:=bind_eq_some_iff.1 h;refine bind_eq_some_iff.2 ⟨i,h1,?_⟩;unfold ag at h2 ⊢;split at h2
  ·rename_i b off hx;split at h2
   ·rename_i cs hb;simp only [key _ _ hb];exact h2
   ·cases h2
  ·rename_i hx;exact h2
  ·cases h2
 case lookup t x i ok=>
  obtain ⟨d,h1,h2⟩:=bind_eq_some_iff.1 h;refine bind_eq_some_iff.2 ⟨d,h1,?_⟩;unfold dU at h2 ⊢
  have he:∀ es,lJ (ρ x) hp=some es->lJ (ρ x) (hp.alloc o)=some es:=by
   intro es he;unfold lJ at he ⊢;split at he
   ·rename_i hx;exact he
   ·rename_i b hx;split at he
    ·rename_i xA ck hb;simp only [key _ _ hb];exact he
    ·cases he
   ·cases he
  split at h2
  ·cases h2
  ·rename_i es Us;rw [he es Us];exact h2
 case call c=>
  split at h
  ·split at h
   ·rename_i t l x e1 e2;obtain ⟨i,h1,h2⟩:=bind_eq_some_iff.1 h;refine bind_eq_some_iff.2 ⟨i,h1,?_⟩;unfold bU at h2 ⊢;split at h2<;>first|exact h2|skip
    ·split at h2
     ·rename_i b _ es ck hb;simp only [key _ _ hb];exact h2
     ·cases h2
   ·cases h
  ·cases h
mutual
theorem AV.beq_eq:∀ (x y:AV),AV.beq x y=true->x=y
 |.undef,y,h=>by cases y<;>simp_all [AV.beq]
 |.bool a,y,h=>by cases y<;>simp_all [AV.beq]
 |.int k a,y,h=>by cases y<;>simp_all [AV.beq]
 |.str a,y,h=>by cases y<;>simp_all [AV.beq]
 |.ey,y,h=>by cases y<;>simp_all [AV.beq]
 |.ptr a i,y,h=>by cases y<;>simp_all [AV.beq]
 |.dO a i,y,h=>by
  cases y<;>simp only [AV.beq,false_eq_true,and_eq_true,beq_iff_eq] at h;rw [AV.nD _ _ h.1,h.2]
 |.ax,y,h=>by cases y<;>simp_all [AV.beq]
 |.slice b i l s,y,h=>by cases y<;>simp_all [AV.beq]
 |.au a i l s,y,h=>by
  cases y<;>simp only [AV.beq,false_eq_true,and_eq_true,beq_iff_eq] at h;rw [AV.nD _ _ h.1.1.1,h.1.1.2,h.1.2,h.2]
 |.jH,y,h=>by cases y<;>simp_all [AV.beq]
 |.map a,y,h=>by cases y<;>simp_all [AV.beq]
 |.mY,y,h=>by cases y<;>simp_all [AV.beq]
 |.func f a b,y,h=>by
  cases y<;>simp only [AV.beq,false_eq_true,and_eq_true,beq_iff_eq] at h;rw [h.1.1,AV.nD _ _ h.1.2,AV.nD _ _ h.2]
 |.pJ,y,h=>by cases y<;>simp_all [AV.beq]
 |.iface t v,y,h=>by
  cases y<;>simp only [AV.beq,false_eq_true,and_eq_true,beq_iff_eq] at h;rw [h.1,AV.beq_eq _ _ h.2]
 |.agg a,y,h=>by
  cases y<;>simp only [AV.beq,false_eq_true] at h;rw [AV.nD _ _ h]
 |.tuple a,y,h=>by
  cases y<;>simp only [AV.beq,false_eq_true] at h;rw [AV.nD _ _ h]
theorem AV.nD:∀ (xs ys:List AV),AV.xk xs ys=true->xs=ys
 |[],ys,h=>by cases ys<;>simp_all [AV.xk]
 |x :: xs,ys,h=>by
  cases ys<;>simp only [AV.xk,false_eq_true,and_eq_true] at h;rw [AV.beq_eq _ _ h.1,AV.nD _ _ h.2]
end
theorem HW{env:Env}{v:AV}{hp:Heap}(hk:fc op = .read)(h:sameAt P op env v hp=true):lM P (evalArg env) hp op=some v:=by
 unfold sameAt at h;rw [p9 hk] at h;obtain ⟨v',h1,h2⟩:=fF h;rw [h1,AV.beq_eq _ _ h2]
end
end Go.AM
namespace Go.AM
open List Nat Bool Option
open Go Go.RowKit
variable {ops:List Oper}
theorem sQ(acc:List Nat)(j:Nat):∀ (es:List Edge),(mZ acc es).testBit j=true->∃ e ∈ es,Region.binds .any e=true/\(j=e.on\/(acc.getD e.on 0).testBit j=true)
 |[],h=>by simp [mZ] at h
 |e :: es,h=>by
  simp only [mZ] at h;split at h
  ·rename_i hb;simp only [testBit_or,or_eq_true,testBit_two_pow,decide_eq_true_eq] at h;rcases h with (h|h)|h
   ·exact ⟨e,by simp,hb,.inl h.symm⟩
   ·exact ⟨e,by simp,hb,.inr h⟩
   ·obtain ⟨e',h1,h2⟩:=sQ acc j es h;exact ⟨e',by simp [h1],h2⟩
  ·obtain ⟨e',h1,h2⟩:=sQ acc j es h;exact ⟨e',by simp [h1],h2⟩
theorem vH:∀ (os:List Oper) (acc:List Nat),∃ r,m4 os acc=acc++r
 |[],acc=>⟨[],by simp [m4]⟩
 |o :: os,acc=>by
  obtain ⟨r,h⟩:=vH os (acc++[mZ acc o.after.toList]);exact ⟨mZ acc o.after.toList :: r,by simp [m4,h]⟩
theorem Ch:∀ (os:List Oper) (acc:List Nat) (k:Nat) (o:Oper),os[k]?=some o->(m4 os acc)[acc.length+k]?=some (mZ ((m4 os acc).take (acc.length+k)) o.after.toList)
 |[],acc,k,o,h=>by simp at h
 |o' :: os,acc,k,o,h=>by
  simp only [m4]
  cases k with
  |zero=>
   simp at h;subst h;obtain ⟨r,hr⟩:=vH os (acc++[mZ acc o'.after.toList]);rw [hr];simp
  |succ k=>
   have:=Ch os (acc++[mZ acc o'.after.toList]) k o (by simpa using h);rw [length_append,length_singleton] at this;rw [show acc.length+(k+1)=acc.length+1+k by omega];exact this
theorem vI:∀ (os:List Oper) (acc:List Nat),(m4 os acc).length=acc.length+os.length
 |[],acc=>by simp [m4]
 |o :: os,acc=>by simp only [m4,vI os];simp;omega
theorem O3{i j:Nat}(h:Bq (mR ops) i j=true):∃ o,ops[i]?=some o/\∃ e ∈ o.after.toList,Region.binds .any e=true/\(j=e.on\/Bq (mR ops) e.on j=true):=by
 unfold Bq at h;by_cases hi:i<ops.length
 ·have ho:ops[i]?=some ops[i]:=eA hi;have hm:=Ch ops [] i _ ho;simp only [length_nil,Nat.zero_add] at hm
  have hg:(mR ops).getD i 0=mZ ((mR ops).take i) ops[i].after.toList:=by
   rw [getD_eq_getElem?_getD];show ((m4 ops [])[i]?).getD 0=_;rw [hm];rfl
  rw [hg] at h;obtain ⟨e,h1,h2,h3⟩:=sQ _ _ _ h;refine ⟨_,ho,e,h1,h2,?_⟩;rcases h3 with h3|h3
  ·exact .inl h3
  ·refine .inr ?_;unfold Bq;rw [getD_eq_getElem?_getD,getElem?_take] at h3;split at h3
   ·rw [getD_eq_getElem?_getD];exact h3
   ·simp at h3
 ·have:(mR ops).getD i 0=0:=by
   rw [getD_eq_getElem?_getD,getElem?_eq_none (by unfold mR;rw [vI];simp;omega)];rfl
  rw [this] at h;simp at h
def O4(ms:List Nat)(S:Nat->Bool):Prop:=∀ i j,S i=true->Bq ms i j=true->S j=true
def gJ(bG:Array Bool)(k:Nat):Bool:=bG.getD k false
theorem M1{ops:Array Oper}{bG:Array Bool}{i j:Nat}(hc:O4 (mR ops.toList) (gJ bG))(hr:i ∈ Region.ready .any ops bG)(hb:Bq (mR ops.toList) i j=true):gJ bG j=true:=by
 obtain ⟨_,o,ho,he⟩:=mem_ready.1 hr;obtain ⟨o',oh,e,h1,h2,h3⟩:=O3 hb;rw [Array.getElem?_toList,ho] at oh;cases oh;have:=he e (by simpa using h1) h2;rcases h3 with rfl|h3
 ·exact this
 ·exact hc _ _ this h3
theorem xI{bG:Array Bool}{i:Nat}(hi:i<bG.size)(k:Nat):gJ (bG.setIfInBounds i true) k=(decide (k=i)||gJ bG k):=by
 unfold gJ;by_cases e:k=i
 ·subst e;simp [Array.getD,hi]
 ·simp [e,getD_set_ne false (fun q=>e q.symm)]
structure Dn where
 i:Nat
 o:Oper
 v:AV
 env:Env
 b:Nat
 al:Bool
noncomputable def fL(kC:Env)(n:Nat)(S:Nat->Bool):List Dn->Env
 |[]=>kC
 |d :: ds=>if S d.i then l8 (fL kC n S ds) n d.o.dst d.v else fL kC n S ds
theorem GB{env:Env}{n:Nat}{dst:Option Tmp}{v:AV}{t:Nat}(h:dst≠some t):l8 env n dst v t=env t:=by
 cases dst with
 |none=>rfl
 |some d=>
  have:t≠d:=fun e=>h (by rw [e]);simp only [l8];split
  ·simp [bK,this]
  ·rfl
theorem M3{env:Env}{n:Nat}{x y:Option Tmp}{u v:AV}(h:∀ t,x=some t->y≠some t):l8 (l8 env n x u) n y v=l8 (l8 env n y v) n x u:=by
 cases x with
 |none=>rfl
 |some d=>cases y with
  |none=>rfl
  |some e=>
   have hne:d≠e:=fun q=>h d rfl (by rw [q]);simp only [l8];split<;>split<;>try rfl
   funext t;simp only [bK];split<;>split<;>try rfl
   rename_i h1 h2;exact absurd (h2▸h1) (by simpa using hne)
section
variable {kC:Env} {n:Nat} {S S':Nat->Bool}
theorem Ci{t:Nat}:∀ {pre ds:List Dn},(∀ x ∈ pre,S x.i=true->x.o.dst≠some t)->fL kC n S (pre++ds) t=fL kC n S ds t
 |[],ds,h=>rfl
 |x :: pre,ds,h=>by
  simp only [cons_append,fL];have ih:=Ci (pre:=pre) (ds:=ds) (fun y hy=>h y (by simp [hy]));split
  ·rename_i hx;rw [GB (h x (by simp) hx),ih]
  ·exact ih
theorem oY:∀ {ds:List Dn},(∀ x ∈ ds,S x.i=S' x.i)->fL kC n S ds=fL kC n S' ds
 |[],h=>rfl
 |x :: ds,h=>by
  simp only [fL];rw [h x (by simp),oY (ds:=ds) (fun y hy=>h y (by simp [hy]))]
theorem wo{t:Nat}:∀ {ds:List Dn},(∀ x ∈ ds,x.o.dst=some t->S x.i=true)->fL kC n S ds t=fL kC n (fun _=>true) ds t
 |[],h=>rfl
 |x :: ds,h=>by
  have ih:=wo (ds:=ds) (fun y hy=>h y (by simp [hy]));simp only [fL,if_true];by_cases hd:x.o.dst=some t
  ·rw [if_pos (h x (by simp) hd),hd];simp only [l8];split
   ·simp [bK]
   ·exact ih
  ·rw [GB hd];split
   ·rw [GB hd];exact ih
   ·exact ih
theorem Fg{d:Dn}(hS:S d.i=false)(hS':∀ k,S' k=(decide (k=d.i)||S k)):∀ {pre ds:List Dn},(∀ x ∈ pre,x.i≠d.i)->(∀ x ∈ ds,x.i≠d.i)->(∀ x ∈ pre,∀ t,d.o.dst=some t->x.o.dst≠some t) ->
  fL kC n S' (pre++d :: ds)=l8 (fL kC n S (pre++d :: ds)) n d.o.dst d.v
 |[],ds,h1,h2,h3=>by
  simp only [nil_append,fL];rw [if_pos (by rw [hS'];simp),if_neg (by rw [hS];simp),oY (S:=S') (S':=S) (fun x hx=>by rw [hS'];simp [h2 x hx])]
 |x :: pre,ds,h1,h2,h3=>by
  have ih:=Fg hS hS' (pre:=pre) (ds:=ds) (fun y hy=>h1 y (by simp [hy])) h2 (fun y hy=>h3 y (by simp [hy]));simp only [cons_append,fL];have hx:S' x.i=S x.i:=by rw [hS'];simp [h1 x (by simp)]
  rw [hx];split
  ·rw [ih,M3 (h3 x (by simp))]
  ·exact ih
end
structure M4 (ops:List Oper) (ms:List Nat) (a b:Nat×Oper):Prop where
 ne:a.1≠b.1
 nb:Bq ms a.1 b.1=false
 JO:rL a.2=true->Bq ms b.1 a.1=true
 dd:∀ d,a.2.dst=some d->b.2.dst≠some d
 lb:∀ d,a.2.dst=some d->d ∈ pK ops b.2->Bq ms b.1 a.1=true
 la:∀ d,b.2.dst=some d->d ∈ pK ops a.2->Bq ms b.1 a.1=true
theorem HX{ms:List Nat}{a b:Nat×Oper}(h:J7 ops ms a b=true):M4 ops ms a b:=by
 unfold J7 at h;simp only [and_eq_true,bne_iff_ne,ne_eq,not_eq_true',or_eq_true] at h;obtain ⟨h1,h2,h3,h4,h5⟩:=h;refine ⟨h1,h2,fun he=>h3.resolve_left (by simp [he]),fun d hd e=>?_,fun d hd hl=>?_,fun d hd hl=>?_⟩
 ·rw [hd,e] at h4;simp at h4
 ·rw [hd] at h4;simp only [and_eq_true,or_eq_true,not_eq_true'] at h4;exact h4.2.resolve_left (by simp [hl])
 ·rw [hd] at h5;simp only [or_eq_true,not_eq_true'] at h5;exact h5.resolve_left (by simp [hl])
theorem xJ{ops:List Oper}{ms:List Nat}:∀ {L:List (Nat×Oper)},Bt ops ms L=true->L.Pairwise (M4 ops ms)
 |[],h=>.nil
 |p :: ps,h=>by
  simp only [Bt,and_eq_true,List.all_eq_true] at h;exact .cons (fun b hb=>HX (h.1 b hb)) (xJ h.2)
theorem xK{L:List (Nat×Oper)}:∀ {n:Nat},Bu L n=true->∀ i,i<n->∃ p ∈ L,p.1=i
 |0,h,i,hi=>by omega
 |n+1,h,i,hi=>by
  simp only [Bu,and_eq_true,List.any_eq_true,beq_iff_eq] at h;by_cases e:i=n
  ·subst e;exact h.1
  ·exact xK h.2 i (by omega)
theorem xL:∀ (os:List Oper) (k:Nat) (p:Nat×Oper),p ∈ uk os k->k<=p.1/\os[p.1-k]?=some p.2
 |[],k,p,h=>by cases h
 |o :: os,k,p,h=>by
  simp only [uk,mem_cons] at h;rcases h with rfl|h
  ·simp
  ·obtain ⟨h1,h2⟩:=xL os (k+1) p h;refine ⟨by omega,?_⟩;rw [show p.1-k=(p.1-(k+1))+1 by omega];simpa using h2
theorem Af{ms D8:List Nat}{L:List (Nat×Oper)}:∀ (n k:Nat) (p:Nat×Oper),p ∈ Br ms D8 L n k->p ∈ L
 |0,k,p,h=>(mem_filter.1 h).1
 |n+1,k,p,h=>by
  simp only [Br,mem_append] at h;rcases h with h|h|h
  ·exact (mem_filter.1 h).1
  ·exact (mem_filter.1 h).1
  ·exact Af n (k+1) p h
theorem xM:∀ {os:List Oper} {k:Nat},Bv os k=true->∀ i o,os[i]?=some o->∀ e ∈ o.after.toList,Region.binds .any e=true->e.on<k+i
 |[],k,h,i,o,ho=>by simp at ho
 |o' :: os,k,h,i,o,ho=>by
  simp only [Bv,and_eq_true,List.all_eq_true,or_eq_true,not_eq_true',decide_eq_true_eq] at h;intro e he hb
  cases i with
  |zero=>
   simp at ho;subst ho;have:=(h.1 e he).resolve_left (by simp [hb]);omega
  |succ i=>
   have:=xM h.2 i o (by simpa using ho) e he hb;omega
structure rP (ops:Array Oper) (ms:List Nat) (L:List (Nat×Oper)):Prop where
 mR:ms=mR ops.toList
 sL:L.Pairwise (M4 ops.toList ms)
 cover:∀ i,i<ops.size->∃ p ∈ L,p.1=i
 mem:∀ p ∈ L,ops[p.1]?=some p.2
 jj:∀ (i:Nat) (o:Oper),ops[i]?=some o->∀ e ∈ o.after.toList,Region.binds .any e=true->e.on<i
theorem Ko{ops:Array Oper}{p:Vm}(h:HD ops.toList=some p):rP ops p.ms p.L:=by
 unfold HD at h;split at h
 ·rename_i hc;cases h;simp only [and_eq_true] at hc;obtain ⟨⟨h1,h2⟩,h3⟩:=hc;refine ⟨rfl,xJ h2,fun i hi=>xK h3 i (by simpa using hi),fun q hq=>?_,fun i o ho e he hb=>?_⟩
  ·have:=xL _ _ _ (Af _ _ _ hq);simpa using this.2
  ·have:=xM h1 i o (by simpa using ho) e he hb;omega
 ·cases h
theorem HY{o:Oper}{env eC:Env}(h:∀ t ∈ pK ops o,env t=eC t):∀ x ∈ o.op.operands,evalArg env x=evalArg eC x:=by
 intro x hx
 cases x with
 |tmp t=>
  apply h;simp only [pK,mem_append,mem_filterMap];exact .inl ⟨.tmp t,by simpa using hx,rfl⟩
 |const v=>rfl
 |global g=>rfl
 |func f=>rfl
theorem xN{o:Oper}{env eC:Env}(h:∀ t ∈ pK ops o,env t=eC t):iQ ops o env=iQ ops o eC:=by
 unfold iQ;split
 ·rfl
 ·rename_i j want hg;split
  ·rename_i g hj;split
   ·rename_i d hd;have:env d=eC d:=h d (by simp [pK,hg,hj,hd]);rw [this]
   ·rfl
  ·rfl
end Go.AM
namespace Go.AM
open List Nat Bool Option
open Go Go.RowKit
variable {p:Nat×Oper}
structure X8 (P:Program) (ops:Array Oper) (μ:Mu) (h:Heap) (lg:List Read) (d:Dn):Prop where
 ex:∃ wb,iQ ops.toList d.o d.env=some wb/\(wb=false->d.v=bI)/\(wb=true ->
  (fc d.o.op = .pure/\me P (evalArg d.env) d.o.op=some d.v) \/
  (fc d.o.op = .read/\lM P (evalArg d.env) h d.o.op=some d.v/\(⟨d.i,d.o.op,d.env,d.v⟩:Read) ∈ lg) \/
  (fc d.o.op = .alloc/\d.al=true/\∃ k ob,om P (evalArg d.env) d.o.op=some (k,ob)/\d.v=k.val d.b/\h.get d.b=some ob/\∀ kk,μ d.b≠some kk))
structure RI where
 P:Program
 call:jI
 ops:Array Oper
 ms:List Nat
 L:List (Nat×Oper)
 K:St->Bool
 w0:World
 μb:Mu
 hb:Heap
 wb:World
 kC:Env
 n:Nat
structure mA (C:RI) (bG:Array Bool) (a:Act) (w:World) (μ:Mu) (dn:List Dn) (R:List (Nat×Oper)) (lg:List Read) (s:St):Prop where
 split:C.L=(dn.reverse.map fun d=>(d.i,d.o))++R
 run:fE C.P C.call C.ops.toList C.ms R lg s C.K=true
 Fh:s.n=C.n
 Kp:s.env=fL C.kC C.n (fun _=>true) dn
 size:bG.size=C.ops.size
 RJ:∀ i,gJ bG i=true->∃ d ∈ dn,d.i=i
 D8:∀ d ∈ dn,rL d.o=true->gJ bG d.i=true
 closed:O4 C.ms (gJ bG)
 env:Cf C.w0 μ (fL C.kC C.n (gJ bG) dn) C.n a.tmps
 defs:xE C.w0 μ s.defs a.defers
 gC:Good C.w0 μ s.h w
 ext:Ext C.μb C.hb C.wb μ s.h w
 RK:∀ pre d ds,dn=pre++d :: ds->d.env=fL C.kC C.n (fun _=>true) ds
 RM:∀ d ∈ dn,gJ bG d.i=false->X8 C.P C.ops μ s.h lg d
 Kq:∀ d ∈ dn,d.al=true->C.hb.next<=d.b/\d.b<s.h.next
 sep:∀ d ∈ dn,∀ d' ∈ dn,d.i≠d'.i->d.al=true->d'.al=true->d.b≠d'.b
theorem Ext.OL{μb μ:Mu}{hb h:Heap}{wb w:World}(x:Ext μb hb wb μ h w){b n:Nat}(hn:hb.next<=b)(hμ:∀ k,μ b≠some k)(O:Obj):Ext μb hb wb (μ.add b ⟨w.heap.size,0,n⟩) h (w.alloc O):=by
 have hsz:(w.alloc O).heap.size=w.heap.size+1:=by show (w.heap.push O).size=_;simp
 refine ⟨x.mono.trans (Mu.yR hμ),fun k hk hne=>?_,fun b' k eW=>?_,by rw [hsz];have:=x.size;omega,x.next,x.gj,fun b' k eW=>?_,x.xy⟩
 ·rw [Below.heap_alloc w O k (Nat.lt_of_lt_of_le hk x.size)];exact x.frame k hk hne
 ·rw [Mu.ji] at eW;by_cases e:b'=b
  ·rw [if_pos e] at eW;cases eW;exact .inr (.inl x.size)
  ·rw [if_neg e] at eW;exact x.new b' k eW
 ·rw [Mu.ji] at eW;by_cases e:b'=b
  ·exact .inr (e▸hn)
  ·rw [if_neg e] at eW;exact x.fresh b' k eW
section
variable {C:RI} {bG:Array Bool} {a:Act} {w:World} {μ:Mu} {dn:List Dn} {R:List (Nat×Oper)} {lg:List Read} {s:St}
theorem mA.sL(hp:rP C.ops C.ms C.L)(hi:mA C bG a w μ dn R lg s) :
  dn.Pairwise (fun x y=>M4 C.ops.toList C.ms (y.i,y.o) (x.i,x.o))/\R.Pairwise (M4 C.ops.toList C.ms)/\∀ d ∈ dn,∀ r ∈ R,M4 C.ops.toList C.ms (d.i,d.o) r:=by
 have h:=hp.sL;rw [hi.split,pairwise_append,pairwise_map,pairwise_reverse] at h;exact ⟨h.1,h.2.1,fun d hd r hr=>h.2.2 _ (mem_map.2 ⟨d,by simpa using hd,rfl⟩) r hr⟩
theorem mA.fresh(hp:rP C.ops C.ms C.L)(hi:mA C bG a w μ dn R lg s){r:Nat×Oper}(hr:r ∈ R):gJ bG r.1=false/\∀ d ∈ dn,d.i≠r.1:=by
 have hne:∀ d ∈ dn,d.i≠r.1:=fun d hd=>((hi.sL hp).2.2 d hd r hr).ne;refine ⟨?_,hne⟩
 cases h:gJ bG r.1 with
 |false=>rfl
 |true=>obtain ⟨d,hd,he⟩:=hi.RJ _ h;exact absurd he (hne d hd)
theorem mA.O5(hp:rP C.ops C.ms C.L)(hi:mA C bG a w μ dn (p :: R) lg s)(he:rL p.2=false):∃ HZ M5 s',mA C bG a w μ HZ R M5 s':=by
 obtain ⟨hf,hne⟩:=hi.fresh hp (r:=p) (by simp);obtain ⟨env,n,defs,By⟩:=s;have hrun:=hi.run;simp only [fE] at hrun
 have step:∀ (v:AV) (b:Nat) (al:Bool) (M5:List Read) (h':Heap),fE C.P C.call C.ops.toList C.ms R M5 ⟨l8 env n p.2.dst v,n,defs,h'⟩ C.K=true ->
   (∀ r ∈ lg,r ∈ M5)->Good C.w0 μ h' w->Ext C.μb C.hb C.wb μ h' w->By.next<=h'.next->(∀ b' o,By.get b'=some o->h'.get b'=some o)->(∀ op v,lM C.P (evalArg env) By op=some v\/True) ->
   (∀ env op v,lM C.P (evalArg env) By op=some v->lM C.P (evalArg env) h' op=some v) ->
   X8 C.P C.ops μ h' M5 ⟨p.1,p.2,v,env,b,al⟩->(al=true->b=By.next/\By.next<h'.next)->∃ HZ M5 s',mA C bG a w μ HZ R M5 s':=by
  intro v b al M5 h' hr hlg hg hx oZ hget _ hrd X9 hal;have Vu:C.hb.next<=By.next:=hi.ext.next
  refine ⟨⟨p.1,p.2,v,env,b,al⟩ :: dn,M5,⟨l8 env n p.2.dst v,n,defs,h'⟩,?_⟩;refine ⟨by rw [hi.split];simp,hr,hi.Fh,?_,hi.size,fun i h=>?_,fun d hd h=>?_,hi.closed,?_,hi.defs,hg,hx,fun pre d ds h=>?_,fun d hd h=>?_,fun d hd h=>?_,fun d hd d' rQ RN h1 h2=>?_⟩
  ·show l8 env n p.2.dst v=_;simp only [fL,if_true];have e1:n=C.n:=hi.Fh;have e2:env=fL C.kC C.n (fun _=>true) dn:=hi.Kp;rw [e2,e1]
  ·obtain ⟨d,hd,e⟩:=hi.RJ i h;exact ⟨d,by simp [hd],e⟩
  ·rcases mem_cons.1 hd with rfl|hd
   ·simp [he] at h
   ·exact hi.D8 d hd h
  ·have:fL C.kC C.n (gJ bG) (⟨p.1,p.2,v,env,b,al⟩ :: dn)=fL C.kC C.n (gJ bG) dn:=by
    simp only [fL];rw [if_neg (by rw [hf];simp)]
   rw [this];exact hi.env
  ·cases pre with
   |nil=>
    simp only [nil_append,List.cons.injEq] at h;obtain ⟨rfl,rfl⟩:=h;exact hi.Kp
   |cons x pre=>
    simp only [cons_append,List.cons.injEq] at h;exact hi.RK pre d ds h.2
  ·rcases mem_cons.1 hd with rfl|hd
   ·exact X9
   ·obtain ⟨wb,q1,q2,q3⟩:=(hi.RM d hd h).ex;refine ⟨wb,q1,q2,fun hw=>?_⟩;rcases q3 hw with q|⟨k1,k2,k3⟩|⟨k1,k2,k,ob,k3,k4,k5,k6⟩
    ·exact .inl q
    ·exact .inr (.inl ⟨k1,hrd _ _ _ k2,hlg _ k3⟩)
    ·exact .inr (.inr ⟨k1,k2,k,ob,k3,k4,hget _ _ k5,k6⟩)
  ·rcases mem_cons.1 hd with rfl|hd
   ·obtain ⟨e1,e2⟩:=hal h;show _<=b/\b<h'.next
    omega
   ·have:=hi.Kq d hd h;exact ⟨this.1,Nat.lt_of_lt_of_le this.2 oZ⟩
  ·rcases mem_cons.1 hd with rfl|hd
   ·rcases mem_cons.1 rQ with rfl|rQ
    ·exact absurd rfl RN
    ·have:d'.b<By.next:=(hi.Kq d' rQ h2).2
     obtain ⟨e1,_⟩:=hal h1;show b≠d'.b;omega
   ·rcases mem_cons.1 rQ with rfl|rQ
    ·have:d.b<By.next:=(hi.Kq d hd h1).2
     obtain ⟨e1,_⟩:=hal h2;show d.b≠b;omega
    ·exact hi.sep d hd d' rQ RN h1 h2
 split at hrun
 ·rename_i hw;split at hrun
  ·rename_i hk;rw [ur hk] at hrun;obtain ⟨v,hv,hK⟩:=fF hrun;have hK:=kT hK;exact step v 0 false lg By hK (fun r h=>h) hi.gC hi.ext (dM _) (fun _ _ h=>h) (fun _ _=>.inr trivial) (fun _ _ _ h=>h) ⟨true,hw,by simp,fun _=>.inl ⟨hk,hv⟩⟩ (by simp)
  ·rename_i hk;rw [p9 hk] at hrun;obtain ⟨v,hv,hK⟩:=fF hrun;have hK:=kT hK;exact step v 0 false _ By hK (fun r h=>by simp [h]) hi.gC hi.ext (dM _) (fun _ _ h=>h) (fun _ _=>.inr trivial) (fun _ _ _ h=>h) ⟨true,hw,by simp,fun _=>.inr (.inl ⟨hk,hv,by simp⟩)⟩ (by simp)
  ·rename_i hk;rw [qO hk] at hrun;obtain ⟨⟨k,ob⟩,hv,hK⟩:=fF hrun;have hK:=kT hK;obtain ⟨g1,g2⟩:=hi.gC.Vp ob
   refine step (k.val By.next) By.next true lg (By.alloc ob) hK (fun r h=>h) g1 (hi.ext.trans g2) (le_succ _) (fun b' o h=>?_) (fun _ _=>.inr trivial) (fun _ _ _ h=>HV hi.gC.clean ob h)
    ⟨true,hw,by simp,fun _=>.inr (.inr ⟨hk,rfl,k,ob,hv,rfl,by rw [Heap.aU,if_pos rfl],hi.gC.xz⟩)⟩ (fun _=>⟨rfl,lt_succ_self _⟩)
   rw [Heap.aU,if_neg (fun e=>by rw [e,hi.gC.clean _ (dM _)] at h;cases h)];exact h
  ·rename_i hk;simp [rL,hk] at he
 ·rename_i hw;exact step bI 0 false lg By (kT hrun) (fun r h=>h) hi.gC hi.ext (dM _) (fun _ _ h=>h) (fun _ _=>.inr trivial) (fun _ _ _ h=>h) ⟨false,hw,by simp,by simp⟩ (by simp)
 ·cases hrun
theorem mA.advance(hp:rP C.ops C.ms C.L):∀ (R:List (Nat×Oper)) (dn:List Dn) (lg:List Read) (s:St),mA C bG a w μ dn R lg s ->
  ∃ HZ R' M5 s',mA C bG a w μ HZ R' M5 s'/\(∀ p rest,R'=p :: rest->rL p.2=true)
 |[],dn,lg,s,hi=>⟨dn,[],lg,s,hi,by simp⟩
 |p :: R,dn,lg,s,hi=>by
  cases he:rL p.2 with
  |true=>exact ⟨dn,p :: R,lg,s,hi,fun q rest h=>by cases h;exact he⟩
  |false=>
   obtain ⟨HZ,M5,s',h'⟩:=hi.O5 hp he;exact mA.advance hp R HZ M5 s' h'
theorem mA.agree(hp:rP C.ops C.ms C.L)(hi:mA C bG a w μ dn R lg s){d:Dn}(hd:d ∈ dn)(hS:gJ bG d.i=false)(hr:∀ j,Bq C.ms d.i j=true->gJ bG j=true) :
  ∀ t ∈ pK C.ops.toList d.o,fL C.kC C.n (gJ bG) dn t=d.env t:=by
 intro t ht;obtain ⟨pre,ds,rfl⟩:=append_of_mem hd;rw [hi.RK pre d ds rfl];have VA:=(hi.sL hp).1;rw [pairwise_append] at VA;obtain ⟨_,O6,RO⟩:=VA;rw [pairwise_cons] at O6;rw [Ci (fun x hx hSx Ya=>?_)]
 ·simp only [fL];rw [if_neg (by rw [hS];simp)];refine wo fun x hx Ya=>hr _ ?_;exact (O6.1 x hx).lb t Ya ht
 ·have:=(RO x hx d (by simp)).la t Ya ht;have:=hi.closed _ _ hSx this;rw [hS] at this;cases this
theorem mA.M6(hp:rP C.ops C.ms C.L)(hi:mA C bG a w μ dn (p :: R) lg s)(hr:∀ j,Bq C.ms p.1 j=true->gJ bG j=true) :
  ∀ t ∈ pK C.ops.toList p.2,fL C.kC C.n (gJ bG) dn t=s.env t:=by
 intro t ht;rw [hi.Kp];exact wo fun x hx Ya=>hr _ (((hi.sL hp).2.2 x hx p (by simp)).lb t Ya ht)
theorem mA.ran(hp:rP C.ops C.ms C.L)(hi:mA C bG a w μ dn R lg s){d:Dn}(hd:d ∈ dn)(hS:gJ bG d.i=false)(hlt:d.i<bG.size)(hr:∀ j,Bq C.ms d.i j=true->gJ bG j=true)
  {w':World} {μ':Mu} {vc:Value} (hm:μ.le μ') (hv:VR C.w0 μ' d.v vc) (hg:Good C.w0 μ' s.h w') (hx:Ext C.μb C.hb C.wb μ' s.h w')
  (oU:∀ d' ∈ dn,gJ bG d'.i=false->d'.i≠d.i->d'.al=true->(∀ kk,μ d'.b≠some kk)->∀ kk,μ' d'.b≠some kk) :
  mA C (bG.setIfInBounds d.i true) (a.put d.o.dst vc) w' μ' dn R lg s:=by
 have lN:=xI hlt;refine ⟨hi.split,hi.run,hi.Fh,hi.Kp,by simpa using hi.size,fun i h=>?_,fun d' rQ h=>?_,fun i j h hb=>?_,?_,?_,hg,hx,hi.RK,fun d' rQ h=>?_,hi.Kq,hi.sep⟩
 ·rw [lN] at h;simp only [or_eq_true,decide_eq_true_eq] at h;rcases h with rfl|h
  ·exact ⟨d,hd,rfl⟩
  ·exact hi.RJ i h
 ·rw [lN,hi.D8 d' rQ h];simp
 ·rw [lN] at h ⊢;simp only [or_eq_true,decide_eq_true_eq] at h ⊢;rcases h with rfl|h
  ·exact .inr (hr j hb)
  ·exact .inr (hi.closed i j h hb)
 ·obtain ⟨pre,ds,rfl⟩:=append_of_mem hd;have VA:=(hi.sL hp).1;rw [pairwise_append] at VA;obtain ⟨_,O6,RO⟩:=VA;rw [pairwise_cons] at O6;rw [Fg (S:=gJ bG) (d:=d) hS (fun k=>lN k) (fun x hx=>((RO x hx d (by simp)).ne).symm) (fun x hx=>(O6.1 x hx).ne) (fun x hx t ht=>(RO x hx d (by simp)).dd t ht),Act.HU];exact (hi.env.mono hm).put d.o.dst hv
 ·rw [Act.z8];exact hi.defs.mono hm
 ·rw [lN] at h;simp only [or_eq_false_iff,decide_eq_false_iff_not] at h;obtain ⟨wb,q1,q2,q3⟩:=(hi.RM d' rQ h.2).ex;refine ⟨wb,q1,q2,fun hw=>?_⟩;rcases q3 hw with q|q|⟨k1,k2,k,ob,k3,k4,k5,k6⟩
  ·exact .inl q
  ·exact .inr (.inl q)
  ·exact .inr (.inr ⟨k1,k2,k,ob,k3,k4,k5,oU d' rQ h.2 h.1 k2 k6⟩)
theorem pN{P:Program}{ms:List Nat}{i:Nat}{h:Heap}:∀ {lg:List Read},jt P ms i h lg=true->∀ r ∈ lg,Bq ms i r.i=false->sameAt P r.op r.env r.v h=true
 |[],hh,r,hr,hb=>by cases hr
 |r' :: lg,hh,r,hr,hb=>by
  simp only [jt] at hh;rcases mem_cons.1 hr with rfl|hr
  ·rw [if_neg (by rw [hb];simp)] at hh;simp only [and_eq_true] at hh;exact hh.1
  ·split at hh
   ·exact pN hh r hr hb
   ·simp only [and_eq_true] at hh;exact pN hh.2 r hr hb
theorem mA.Uy(hp:rP C.ops C.ms C.L)(hi:mA C bG a w μ dn (p :: R) lg s)(hlt:p.1<bG.size)(hr:∀ j,Bq C.ms p.1 j=true->gJ bG j=true)
  {a':Act} {w':World} {μ':Mu} {v:AV} {jJ:List oV} {h':Heap} (hrun:fE C.P C.call C.ops.toList C.ms R lg ⟨l8 s.env s.n p.2.dst v,s.n,jJ,h'⟩ C.K=true)
  (hs:SR C.w0 μ' ⟨l8 (fL C.kC C.n (gJ bG) dn) C.n p.2.dst v,C.n,jJ,h'⟩ a' w') (hx:Ext μ s.h w μ' h' w')
  (hrd:∀ r ∈ lg,fc r.op = .read->Bq C.ms p.1 r.i=false->lM C.P (evalArg r.env) s.h r.op=some r.v->lM C.P (evalArg r.env) h' r.op=some r.v) :
  mA C (bG.setIfInBounds p.1 true) a' w' μ' (⟨p.1,p.2,v,s.env,0,false⟩ :: dn) R lg ⟨l8 s.env s.n p.2.dst v,s.n,jJ,h'⟩:=by
 have lN:=xI hlt;obtain ⟨hf,hne⟩:=hi.fresh hp (r:=p) (by simp);refine ⟨by rw [hi.split];simp,hrun,hi.Fh,?_,by simpa using hi.size,fun i h=>?_,fun d' rQ h=>?_,fun i j h hb=>?_,?_,hs.defs,hs.gC,hi.ext.trans hx,fun pre d ds h=>?_,fun d' rQ h=>?_,fun d' rQ h=>?_,fun d1 h1 d2 h2 RN a1 a2=>?_⟩
 ·show l8 s.env s.n p.2.dst v=_;simp only [fL,if_true];rw [hi.Fh,hi.Kp]
 ·rw [lN] at h;simp only [or_eq_true,decide_eq_true_eq] at h;rcases h with rfl|h
  ·exact ⟨⟨p.1,p.2,v,s.env,0,false⟩,by simp,rfl⟩
  ·obtain ⟨d,hd,e⟩:=hi.RJ i h;exact ⟨d,by simp [hd],e⟩
 ·rw [lN];rcases mem_cons.1 rQ with rfl|rQ
  ·simp
  ·rw [hi.D8 d' rQ h];simp
 ·rw [lN] at h ⊢;simp only [or_eq_true,decide_eq_true_eq] at h ⊢;rcases h with rfl|h
  ·exact .inr (hr j hb)
  ·exact .inr (hi.closed i j h hb)
 ·have:fL C.kC C.n (gJ (bG.setIfInBounds p.1 true)) (⟨p.1,p.2,v,s.env,0,false⟩ :: dn)=l8 (fL C.kC C.n (gJ bG) dn) C.n p.2.dst v:=by
   simp only [fL];rw [if_pos (by rw [lN];simp),oY (S':=gJ bG) (fun x hx=>by rw [lN];simp [hne x hx])]
  rw [this];exact hs.env
 ·cases pre with
  |nil=>
   simp only [nil_append,List.cons.injEq] at h;obtain ⟨rfl,rfl⟩:=h;exact hi.Kp
  |cons x pre=>
   simp only [cons_append,List.cons.injEq] at h;exact hi.RK pre d ds h.2
 ·rw [lN] at h;simp only [or_eq_false_iff,decide_eq_false_iff_not] at h;rcases mem_cons.1 rQ with rfl|rQ
  ·exact absurd rfl h.1
  ·obtain ⟨wb,q1,q2,q3⟩:=(hi.RM d' rQ h.2).ex;refine ⟨wb,q1,q2,fun hw=>?_⟩;rcases q3 hw with q|⟨k1,k2,k3⟩|⟨k1,k2,k,ob,k3,k4,k5,k6⟩
   ·exact .inl q
   ·refine .inr (.inl ⟨k1,hrd _ k3 k1 ?_ k2,k3⟩)
    cases hb:Bq C.ms p.1 d'.i with
    |false=>rfl
    |true=>have:=hr _ hb;rw [h.2] at this;cases this
   ·have hb:=hi.Kq d' rQ k2;refine .inr (.inr ⟨k1,k2,k,ob,k3,k4,?_,fun kk hk=>?_⟩)
    ·show h'.get d'.b=some ob;rw [hx.gj _ hb.2 k6];exact k5
    ·rcases hx.fresh _ kk hk with e|e
     ·exact k6 kk e
     ·omega
 ·rcases mem_cons.1 rQ with rfl|rQ
  ·cases h
  ·have:=hi.Kq d' rQ h;exact ⟨this.1,Nat.lt_of_lt_of_le this.2 hx.next⟩
 ·rcases mem_cons.1 h1 with rfl|h1
  ·cases a1
  ·rcases mem_cons.1 h2 with rfl|h2
   ·cases a2
   ·exact hi.sep d1 h1 d2 h2 RN a1 a2
end
end Go.AM
namespace Go.AM
open List Nat Bool Option
open Go Go.RowKit
variable {bG:Array Bool}
def Ag(bG:Array Bool):Nat:=((List.range bG.size).filter fun i=>!gJ bG i).length
theorem filter_lt{α:Type}(p q:α->Bool)(hpq:∀ x,q x=true->p x=true):∀ (l:List α) (x:α),x ∈ l->p x=true->q x=false->(l.filter q).length<(l.filter p).length
 |[],x,h,_,_=>by cases h
 |y :: l,x,h,h1,h2=>by
  have le:∀ l:List α,(l.filter q).length<=(l.filter p).length:=by
   intro l
   induction l with
   |nil=>simp
   |cons z l ih=>
    simp only [filter_cons];by_cases hq:q z=true
    ·rw [if_pos hq,if_pos (hpq z hq)];simp;exact ih
    ·rw [if_neg hq];split
     ·simp;omega
     ·exact ih
  simp only [filter_cons];rcases mem_cons.1 h with rfl|h
  ·rw [if_pos h1,if_neg (by rw [h2];simp)];have:=le l;simp;omega
  ·have ih:=filter_lt p q hpq l x h h1 h2;by_cases hq:q y=true
   ·rw [if_pos hq,if_pos (hpq y hq)];simp;exact ih
   ·rw [if_neg hq];split
    ·simp;omega
    ·exact ih
theorem M7{i:Nat}(hi:i<bG.size)(h:gJ bG i=false):Ag (bG.setIfInBounds i true)<Ag bG:=by
 unfold Ag;rw [Array.size_setIfInBounds];refine filter_lt _ _ (fun x hx=>?_) _ i (by simpa using hi) (by simp [h]) (by rw [xI hi];simp);rw [xI hi] at hx;simp only [not_eq_true',or_eq_false_iff] at hx;simp [hx.2]
theorem Kr(h:Ag bG=0):∀ i,i<bG.size->gJ bG i=true:=by
 intro i hi;unfold Ag at h;have:=eq_nil_of_length_eq_zero h;rw [filter_eq_nil_iff] at this;simpa using this i (by simpa using hi)
theorem M8{ops:Array Oper}(hs:bG.size=ops.size)(he:∀ (i:Nat) (o:Oper),ops[i]?=some o->∀ e ∈ o.after.toList,Region.binds .any e=true->e.on<i)(h:Region.ready .any ops bG = []) :
  ∀ i,i<ops.size->gJ bG i=true:=by
 intro i
 induction i using Nat.strongRecOn with
 |ind i ih=>
  intro hi
  cases hl:gJ bG i with
  |true=>rfl
  |false=>
   exfalso;have ho:ops[i]?=some ops[i]:=by simp [hi]
   have:i ∈ Region.ready .any ops bG:=by
    refine mem_ready.2 ⟨?_,_,ho,fun e M9 hb=>?_⟩
    ·have:=hl;unfold gJ at this;simp only [Array.getD_eq_getD_getElem?] at this ⊢;rw [Array.getElem?_eq_getElem (by omega)] at this ⊢;simpa using this
    ·have:=he i _ ho e (by simpa using M9) hb;exact ih e.on this (by omega)
   rw [h] at this;cases this
section
variable {C:RI} {bG:Array Bool} {a:Act} {w:World} {μ:Mu} {dn:List Dn} {R:List (Nat×Oper)} {lg:List Read} {s:St}
theorem mA.done(hp:rP C.ops C.ms C.L)(hi:mA C bG a w μ dn R lg s)(lI:∀ i,i<C.ops.size->gJ bG i=true):C.K s=true/\SR C.w0 μ s a w/\Ext C.μb C.hb C.wb μ s.h w:=by
 have hR:R = []:=by
  cases R with
  |nil=>rfl
  |cons p R=>
   have hm:p ∈ C.L:=by rw [hi.split];simp
   have hlt:=(Array.getElem?_eq_some_iff.1 (hp.mem p hm)).1;have:=(hi.fresh hp (r:=p) (by simp)).1;rw [lI _ hlt] at this;cases this
 subst hR;have hrun:=hi.run;simp only [fE] at hrun;refine ⟨hrun,⟨?_,hi.defs,hi.gC⟩,hi.ext⟩
 have:fL C.kC C.n (gJ bG) dn=s.env:=by
  rw [hi.Kp];refine oY fun x hx=>?_;have hm:(x.i,x.o) ∈ C.L:=by rw [hi.split];simp;exact ⟨x,hx,rfl,rfl⟩
  exact lI _ (Array.getElem?_eq_some_iff.1 (hp.mem _ hm)).1
 have he:=hi.env;rw [this] at he;rw [hi.Fh];exact he
theorem Ks(hp:rP C.ops C.ms C.L)(hc:fR C.P C.call){Q:Exit->Act->World->Prop}(hQ:∀ s' a' w' μ',C.K s'=true->SR C.w0 μ' s' a' w'->Ext C.μb C.hb C.wb μ' s'.h w'->Q .normal a' w') :
  ∀ (fuel:Nat) (bG:Array Bool) (a:Act) (w:World) (μ:Mu) (dn:List Dn) (R:List (Nat×Oper)) (lg:List Read) (s:St),mA C bG a w μ dn R lg s->Ag bG<=fuel->wpAny C.P .any C.ops Q fuel bG a w:=by
 have fin:∀ (bG:Array Bool) (a:Act) (w:World) (μ:Mu) (dn:List Dn) (R:List (Nat×Oper)) (lg:List Read) (s:St),mA C bG a w μ dn R lg s->Region.ready .any C.ops bG = []->Q .normal a w:=by
  intro bG a w μ dn R lg s hi hr;obtain ⟨h1,h2,h3⟩:=hi.done hp (M8 hi.size hp.jj hr);exact hQ _ _ _ _ h1 h2 h3
 intro fuel
 induction fuel with
 |zero=>
  intro bG a w μ dn R lg s hi hl;have lI:=Kr (le_zero.1 hl)
  have hr:Region.ready .any C.ops bG = []:=by
   cases h:Region.ready .any C.ops bG with
   |nil=>rfl
   |cons i l=>
    have hm:i ∈ Region.ready .any C.ops bG:=(by rw [h];simp);obtain ⟨h1,o,ho,_⟩:=mem_ready.1 hm;have hlt:=(Array.getElem?_eq_some_iff.1 ho).1;have:=lI i (by rw [hi.size];exact hlt);unfold gJ at this;simp only [Array.getD_eq_getD_getElem?] at this h1;rw [Array.getElem?_eq_getElem (by rw [hi.size];exact hlt)] at this h1;simp at this h1;rw [this] at h1;cases h1
  exact ⟨hr,fin _ _ _ _ _ _ _ _ hi hr⟩
 |succ fuel ih=>
  intro bG a w μ dn R lg s hi0 hl;refine ⟨fin _ _ _ _ _ _ _ _ hi0,fun i M9=>?_⟩;obtain ⟨dn,R,lg,s,hi,Uz⟩:=hi0.advance hp;obtain ⟨h1,o,ho,_⟩:=mem_ready.1 M9;have hlt:i<C.ops.size:=(Array.getElem?_eq_some_iff.1 ho).1;have H7:i<bG.size:=by rw [hi.size];exact hlt
  have hS:gJ bG i=false:=by
   unfold gJ;simp only [Array.getD_eq_getD_getElem?] at h1 ⊢;rw [Array.getElem?_eq_getElem H7] at h1 ⊢;simpa using h1
  have hr:∀ j,Bq C.ms i j=true->gJ bG j=true:=fun j hb=>by
   rw [hp.mR] at hb;exact M1 (by rw [<- hp.mR];exact hi.closed) M9 hb
  have Ca:Ag (bG.setIfInBounds i true)<=fuel:=by have:=M7 H7 hS;omega
  obtain ⟨p,hpL,RP⟩:=hp.cover i hlt;have VB:=hp.mem p hpL;rw [RP,ho] at VB;obtain ⟨pi,po⟩:=p;simp only at RP VB;obtain rfl:=RP;obtain rfl:=Option.some.inj VB;have hρ:∀ x,VR C.w0 μ (evalArg (fL C.kC C.n (gJ bG) dn) x) (a.eval x):=SR.eval (s:=⟨fL C.kC C.n (gJ bG) dn,C.n,s.defs,s.h⟩) ⟨hi.env,hi.defs,hi.gC⟩;have O7:∀ b,iQ C.ops.toList o (fL C.kC C.n (gJ bG) dn)=some b->Region.wanted o (yielded C.ops a.tmps)=b:=fun b hb=>kZ (s:=⟨fL C.kC C.n (gJ bG) dn,C.n,s.defs,s.h⟩) hi.env hb;unfold wpOp;simp only [ho];rw [hi.split,mem_append,mem_map] at hpL;rcases hpL with ⟨d,hd,Re⟩|hpR
  ·
   rw [mem_reverse] at hd;simp only [Prod.mk.injEq] at Re;obtain ⟨rfl,rfl⟩:=Re;have xg:=hi.agree hp hd hS hr;have O8:∀ x ∈ d.o.op.operands,evalArg (fL C.kC C.n (gJ bG) dn) x=evalArg d.env x:=HY xg;obtain ⟨wb,q1,q2,q3⟩:=(hi.RM d hd hS).ex;rw [<- xN xg] at q1;rw [O7 wb q1]
   cases wb with
   |false=>
    simp only [false_eq_true,if_false];have uX:=hi.ran hp hd hS H7 hr (Mu.le.refl μ) (vc:=undef) (by rw [q2 rfl];exact VR.bI) hi.gC hi.ext (fun _ _ _ _ _ h=>h);exact ih _ _ _ _ _ _ _ _ uX Ca
   |true=>
    rw [if_pos rfl];refine .inl ?_;rcases q3 rfl with ⟨k1,k2⟩|⟨k1,k2,k3⟩|⟨k1,k2,k,ob,k3,k4,k5,k6⟩
    ·rw [<- Ad O8] at k2;obtain ⟨vc,e1,e2⟩:=HM hρ k1 k2;unfold Oper.wp;rw [e1 w,Oper.upon_value];exact ih _ _ _ _ _ _ _ _ (hi.ran hp hd hS H7 hr (Mu.le.refl μ) e2 hi.gC hi.ext (fun _ _ _ _ _ h=>h)) Ca
    ·rw [<- Ae O8] at k2;obtain ⟨vc,e1,e2⟩:=HP hi.gC hρ k1 k2;unfold Oper.wp;rw [e1,Oper.upon_value];exact ih _ _ _ _ _ _ _ _ (hi.ran hp hd hS H7 hr (Mu.le.refl μ) e2 hi.gC hi.ext (fun _ _ _ _ _ h=>h)) Ca
    ·rw [<- xG O8] at k3;obtain ⟨O,n,f,hm⟩:=Fb (w0:=C.w0) (μ:=μ) hρ k1 k3;have hb:=hi.Kq d hd k2;have LU:=hi.gC.OL hb.2 k6 k5 O n (hm.obj _);have fW:=hi.ext.OL (n:=n) hb.1 k6 O;unfold Oper.wp;rw [hm.run w,Oper.upon_value];refine ih _ _ _ _ _ _ _ _ (hi.ran hp hd hS H7 hr (Mu.yR k6) (by rw [k4];exact hm.val _ _ _ (Mu.add_same _ _ _)) LU fW (fun d' rQ _ hne hal hun kk hk=>?_)) Ca;rw [Mu.ji] at hk;have:d'.b≠d.b:=hi.sep d' rQ d hd hne hal k2;rw [if_neg this] at hk;exact hun kk hk
  ·
   have hRp:∃ rest,R=(pi,o) :: rest:=by
    cases R with
    |nil=>cases hpR
    |cons q rest=>
     rcases mem_cons.1 hpR with e|hq
     ·exact ⟨rest,by rw [e]⟩
     ·exfalso;have pe:=(hi.sL hp).2.1;rw [pairwise_cons] at pe;have hb:=(pe.1 _ hq).JO (Uz q rest rfl);have h2:=hr _ hb;have:=(hi.fresh hp (r:=q) (by simp)).1;rw [h2] at this;cases this
   obtain ⟨rest,rfl⟩:=hRp;have VC:=Uz _ _ rfl
   have hk:fc o.op = .JO:=by
    unfold rL at VC;simp only at VC;cases hk:fc o.op<;>simp [hk] at VC;rfl
   have xg:=hi.M6 hp hr;have O8:∀ x ∈ o.op.operands,evalArg (fL C.kC C.n (gJ bG) dn) x=evalArg s.env x:=HY (ops:=C.ops.toList) xg;obtain ⟨ah5,ns,UA,Xh⟩:=s;have hrun:=hi.run;simp only [fE] at hrun;rw [<- xN (ops:=C.ops.toList) xg] at hrun;split at hrun
   ·rename_i hw;rw [O7 _ hw,if_pos rfl];simp only [hk] at hrun;rw [<- GA O8] at hrun;refine .inl ?_;have qH:SR C.w0 μ ⟨fL C.kC C.n (gJ bG) dn,C.n,UA,Xh⟩ a w:=⟨hi.env,hi.defs,hi.gC⟩
    refine Bx qH hc ⟨fun v jJ h' a' w' μ' hK gu hx=>?_,fun v vc h' w' μ' hK _ _ _=>by cases hK⟩ hrun;simp only at hK;split at hK
    ·rename_i hsr;refine ih _ _ _ _ _ _ _ _ (hi.Uy hp H7 hr (kT hK) gu hx (fun r rN VD hb hv=>?_)) Ca;exact HW VD (pN hsr r rN hb)
    ·cases hK
   ·rename_i hw;rw [O7 _ hw];simp only [false_eq_true,if_false];have qH:SR C.w0 μ ⟨fL C.kC C.n (gJ bG) dn,C.n,UA,Xh⟩ a w:=⟨hi.env,hi.defs,hi.gC⟩
    have LV:=qH.left o.dst (h':=Xh) VR.bI hi.gC (Mu.le.refl μ);exact ih _ _ _ _ _ _ _ _ (hi.Uy hp H7 hr (v:=bI) (kT hrun) LV (Ext.refl _ _ _) (fun r _ _ _ hv=>hv)) Ca
   ·cases hrun
end
theorem LW{P:Program}{w0 w:World}{μ:Mu}{s:St}{a:Act}(hm:P.follows .mixedOrders=true){call:jI}(hc:fR P call){id:Nat}{ops:Array Oper}{H9:Vm}(hp:HD ops.toList=some H9){K:St->Bool}
  {Q:Exit->Act->World->Prop} (hs:SR w0 μ s a w) (hQ:∀ s' a' w' μ',K s'=true->SR w0 μ' s' a' w'->Ext μ s.h w μ' s'.h w'->Q .normal a' w')
  (h:fE P call ops.toList H9.ms H9.L [] s K=true):(Code.region id ops true).wp P Q a w:=by
 refine wp_region_any hm ?_
 let C:RI:=⟨P,call,ops,H9.ms,H9.L,K,w0,μ,s.h,w,s.env,s.n⟩
 have sI:rP C.ops C.ms C.L:=Ko hp
 have hin:∀ k,gJ (Array.replicate ops.size false) k=false:=fun k=>by
  unfold gJ;simp only [Array.getD_eq_getD_getElem?,Array.getElem?_replicate];split<;>rfl
 have hi:mA C (Array.replicate ops.size false) a { w with drawn:=w.drawn+1 } μ [] H9.L [] s:=by
  refine ⟨rfl,h,rfl,rfl,by simp [C],fun i hh=>?_,by simp,fun i j hh=>?_,hs.env,hs.defs,hs.gC.same rfl rfl rfl rfl,?_,by simp,by simp,by simp,by simp⟩
  ·rw [hin] at hh;cases hh
  ·rw [hin] at hh;cases hh
  ·exact ⟨Mu.le.refl μ,fun _ _ _=>rfl,fun _ _ h=>.inl h,dM _,dM _,fun _ _ _=>rfl,fun _ _ h=>.inl h,fun _ _ h=>.inl h⟩
 refine Ks sI hc hQ _ _ _ _ _ _ _ _ _ hi ?_;unfold Ag;refine Nat.le_trans (length_filter_le _ _) ?_;simp [C]
end Go.AM