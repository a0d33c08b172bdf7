/- Parts of the proof. Conditions: none. -/
import Derived.Test.YtfdanacohcffmaaGreatKo7
import Derived.Defers
import Derived.Orders
set_option linter.unusedSimpArgs false
set_option linter.unusedVariables false
namespace Go.AM
open List Nat Bool Option
open Go Go.RowKit
variable {K:R->Bool} {call:jK} {o:Oper} {w':World} {v:AV}
structure acJ (w0:World) (μ:Mu) (d:oV) (D:Deferred):Prop where
 ex:∃ cap args:List Value,D = { target:=.fn (.func d.f) cap.toArray,args:=args.toArray }/\dZ w0 μ d.args args/\dZ w0 μ d.cap cap
inductive xE (w0:World) (μ:Mu):List oV->List Deferred->Prop where
 |nil:xE w0 μ [] []
 |cons {d:oV} {D:Deferred} {ds:List oV} {Ds:List Deferred} (h:acJ w0 μ d D) (t:xE w0 μ ds Ds):xE w0 μ (d :: ds) (D :: Ds)
def Cb(w0:World)(μ:Mu)(env:Env)(n:Nat)(tmps:Array Value):Prop:=tmps.size=n/\∀ t,VR w0 μ (env t) (tmps.getD t undef)
structure SR (w0:World) (μ:Mu) (s:St) (a:Act) (w:World):Prop where
 env:Cb w0 μ s.env s.n a.tmps
 defs:xE w0 μ s.defs a.defers
 gh:Good w0 μ s.h w
section
variable {P:Program} {w0 w:World} {μ μ':Mu} {h h':Heap} {s:St} {a:Act}
theorem xE.mono(hm:μ.le μ'){ds:List oV}{Ds:List Deferred}(h:xE w0 μ ds Ds):xE w0 μ' ds Ds:=by
 induction h with
 |nil=>exact .nil
 |cons h t ih=>obtain ⟨c,x,e,a,b⟩:=h;exact .cons ⟨c,x,e,a.mono hm,b.mono hm⟩ ih
theorem Cb.mono(hm:μ.le μ'){env:Env}{n:Nat}{tmps:Array Value}(h:Cb w0 μ env n tmps):Cb w0 μ' env n tmps:=⟨h.1,fun t=>(h.2 t).mono hm⟩
theorem bP(env:Env)(d:Nat)(v:AV)(t:Nat):af env d v t=if t=d then v else env t:=by
 unfold af
 cases h:Nat.beq t d with
 |true=>rw [if_pos (eq_of_beq_eq_true h)]
 |false=>rw [if_neg (ne_of_beq_eq_false h)]
theorem kV{env:Env}{n:Nat}{dst:Option Tmp}{k:Env->Bool}(h:iw env n dst v k=true):k (mo env n dst v)=true:=by
 cases dst with
 |none=>exact h
 |some d=>
  simp only [iw] at h;simp only [mo]
  cases hb:ble (d+1) n with
  |false=>rw [hb] at h;cases h
  |true=>
   rw [hb] at h;have:d<n:=le_of_ble_eq_true hb;rw [if_pos this];exact h
theorem Cb.put{env:Env}{n:Nat}{tmps:Array Value}(h:Cb w0 μ env n tmps)(dst:Option Tmp){vc:Value}(hv:VR w0 μ v vc):Cb w0 μ (mo env n dst v) n (match dst with|some d=>tmps.setIfInBounds d vc|none=>tmps):=by
 cases dst with
 |none=>exact h
 |some d=>
  refine ⟨by simpa using h.1,fun t=>?_⟩;have ht:=h.2 t;simp only [mo];by_cases hd:d<n
  ·rw [if_pos hd];rw [bP];by_cases e:t=d
   ·subst e;rw [if_pos rfl];have:(tmps.setIfInBounds t vc).getD t undef=vc:=by simp [Array.getD,show t<tmps.size by rw [h.1];exact hd]
    rw [this];exact hv
   ·rw [if_neg e]
    have:(tmps.setIfInBounds d vc).getD t undef=tmps.getD t undef:=by
     simp only [Array.getD_eq_getD_getElem?];rw [Array.getElem?_setIfInBounds_ne (fun q=>e q.symm)]
    rw [this];exact ht
  ·rw [if_neg hd];have:(tmps.setIfInBounds d vc)=tmps:=Array.setIfInBounds_eq_of_size_le (h.1▸Nat.le_of_not_lt hd);rw [this];exact ht
theorem Act.HN(a:Act)(dst:Option Tmp)(v:Value):(a.put dst v).tmps=(match dst with|some d=>a.tmps.setIfInBounds d v|none=>a.tmps):=by cases dst<;>rfl
theorem Act.zW(a:Act)(dst:Option Tmp)(v:Value):(a.put dst v).defers=a.defers:=by cases dst<;>rfl
theorem SR.left(hs:SR w0 μ s a w)(dst:Option Tmp){vc:Value}(hv:VR w0 μ' v vc)(hg:Good w0 μ' h' w')(hm:μ.le μ'):SR w0 μ' (s.UX h' dst v) (a.put dst vc) w':=
 ⟨by rw [Act.HN];exact (hs.env.mono hm).put dst hv,by rw [Act.zW];exact hs.defs.mono hm,hg⟩
theorem SR.XA(hs:SR w0 μ s a w)(hg:Good w0 μ' h' w')(hm:μ.le μ'):SR w0 μ' ⟨s.env,s.n,s.defs,h'⟩ a w':=
 ⟨hs.env.mono hm,hs.defs.mono hm,hg⟩
theorem SR.eval(hs:SR w0 μ s a w):∀ x,VR w0 μ (evalArg s.env x) (a.eval x):=by
 intro x
 cases x with
 |tmp t=>exact hs.env.2 t
 |const v=>exact VR.ofConst v
 |global g=>exact .undef _
 |func f=>exact .func f [] [] [] [] rfl rfl (by simp) (by simp)
theorem kZ(hs:Cb w0 μ s.env s.n a.tmps){ops:Array Oper}{b:Bool}(h:iQ ops.toList o s.env=some b):Region.wanted o (yielded ops a.tmps)=b:=by
 unfold iQ at h;unfold Region.wanted;split at h
 ·rename_i hg;rw [hg];simpa using h
 ·rename_i j want hg;rw [hg];simp only;split at h
  ·rename_i g hj;split at h
   ·rename_i d hd;have Gl:ops[j]?=some g:=by rw [Array.getElem?_toList] at hj;exact hj
    have ht:=hs.2 d
    have key:∀ v:Value,VR w0 μ (s.env d) v->v=a.tmps.getD d undef->(yielded ops a.tmps j==some want)=b:=by
     intro v hv he;unfold yielded;simp only [Gl,bind_some,hd];split at h
     ·rename_i b' hb;rw [hb] at hv;cases h;rw [hv.iB] at he;by_cases hlt:d<a.tmps.size
      ·have:a.tmps[d]?=some (.bool b'):=by
        simp [Array.getD,hlt] at he;simp [hlt,he]
       rw [this];simp
      ·simp [Array.getD,hlt,undef] at he
     ·rename_i vs hb;rw [hb] at hv;cases h;obtain ⟨us,rfl,_⟩:=hv.EY;by_cases hlt:d<a.tmps.size
      ·have:a.tmps[d]?=some (.tuple us.toArray):=by
        simp [Array.getD,hlt] at he;simp [hlt,he]
       rw [this];simp
      ·have:a.tmps[d]?=none:=Array.getElem?_eq_none (Nat.le_of_not_lt hlt);rw [this];simp
     ·cases h
    exact key _ ht rfl
   ·cases h
  ·cases h
def yT(w0:World)(μ:Mu)(h:Heap)(w:World)(K:Out->Heap->Bool):Ending->World->Prop
 |.returned vc,w'=>∃ v h' μ',K (.ret v) h'=true/\VR w0 μ' v vc/\Good w0 μ' h' w'/\Ext μ h w μ' h' w'
 |.panicked chain,w'=>∃ v vc h' μ',K (.panic v) h'=true/\chain = [{ v:=vc,recovered:=false }]/\VR w0 μ' v vc/\Good w0 μ' h' w'/\Ext μ h w μ' h' w'
 |.outgrown,_=>False
def Enters(P:Program)(f:FuncId):Prop:=∃ fn c,P.funcs[f]?=some fn/\fn.body=some c/\fn.name≠ "runtime.NumGoroutine"
theorem xF{f:FuncId}(he:Enters P f)(args:Array Value):(callFunc f args).run P w = .ok (.enter f args) w:=by
 obtain ⟨fn,c,h1,h2,h3⟩:=he;simp [callFunc,h1,h2,h3]
def fS(P:Program)(call:jK):Prop:=
 ∀ f args h K,call f args h K=true->Enters P f/\∀ (w0:World) (μ:Mu) (w:World) (vs:List Value),Good w0 μ h w->dZ w0 μ args vs->Calls P f vs.toArray w (yT w0 μ h w K)
structure E4 (w0:World) (μ:Mu) (s:St) (a:Act) (w:World) (dst:Option Tmp) (K:R->Bool) (next:Act->World->Prop) (Q:Exit->Act->World->Prop):Prop where
 ok:∀ (v:AV) (jL:List oV) (h':Heap) (a':Act) (w':World) (μ':Mu),K (.ok v jL h')=true->SR w0 μ' ⟨mo s.env s.n dst v,s.n,jL,h'⟩ a' w'->Ext μ s.h w μ' h' w'->next a' w'
 panic:∀ (v:AV) (vc:Value) (h':Heap) (w':World) (μ':Mu),K (.panic v h')=true->VR w0 μ' v vc->SR w0 μ' ⟨s.env,s.n,s.defs,h'⟩ a w'->Ext μ s.h w μ' h' w'->Q (.panic [{ v:=vc,recovered:=false }]) a w'
theorem Cc(hs:SR w0 μ s a w){next:Act->World->Prop}{Q:Exit->Act->World->Prop}(hl:E4 w0 μ s a w o.dst K next Q)
  (h:oY o.op P call s.env s.defs s.h K=true):o.wp P a w next Q:=by
 obtain ⟨v,h',vc,w',μ',hK,hr,hv,hg,hx⟩:=Va hs.gh hs.eval h;unfold Oper.wp;rcases hr with hr|⟨rfl,hr⟩
 ·rw [hr];exact hl.ok _ _ _ _ _ _ hK (hs.left o.dst hv hg hx.mono) hx
 ·rw [hr];exact hl.ok _ _ _ _ _ _ hK (hs.left o.dst hv hg hx.mono) hx
theorem Rp(hs:SR w0 μ s a w)(hc:fS P call){c:Call}(ho:o.op = .call c){next:Act->World->Prop}{Q:Exit->Act->World->Prop}(hl:E4 w0 μ s a w o.dst K next Q)
  (h:vY c P call s.env s.defs s.h K=true):o.wp P a w next Q:=by
 obtain ⟨yO,args,ts⟩:=c
 cases yO with
 |builtin b=>exact Cc hs hl (call:=call) (by rw [ho];exact h)
 |invoke r m=>exact Cc hs hl (call:=call) (by rw [ho];exact h)
 |value f=>
  simp only [vY,Bk] at h;split at h
  ·rename_i g first cap hf
   obtain ⟨he,Vb⟩:=hc _ _ _ _ h;have hfv:=hs.eval f;rw [hf] at hfv;generalize hfe:a.eval f=fv at hfv;cases hfv;rename_i us vs h1 r1 h2 r2;have zX:dZ w0 μ (args.toList.map (evalArg s.env)) (args.toList.map a.eval):=dZ.map _ fun x _=>hs.eval x;have lM:=(dZ.mk h1 r1).append (zX.append (dZ.mk h2 r2));have hcl:=Vb w0 μ w _ hs.gh lM
   have hrun:(execOp a.eval o).run P w = .ok (.enter g (us++(args.toList.map a.eval++vs)).toArray) w:=by
    have e:us.toArray++args.map a.eval++vs.toArray=(us++(args.toList.map a.eval++vs)).toArray:=by
     apply Array.ext';simp
    simp only [execOp,ho,resolve,hfe,Deferred.ofValue,Sem.run_bind,Sem.run_pure,Result.andThen_ok,invoke,xF he,e]
   unfold Oper.wp;rw [hrun,Oper.upon_enter];refine Calls.mono hcl fun e w' hR=>?_
   cases e with
   |returned vc=>
    obtain ⟨v,h',μ',hK,hv,hg,hx⟩:=hR;exact hl.ok _ _ _ _ _ _ hK (hs.left o.dst hv hg hx.mono) hx
   |panicked chain=>
    obtain ⟨v,vc,h',μ',hK,rfl,hv,hg,hx⟩:=hR;exact hl.panic _ _ _ _ _ hK hv (hs.XA hg hx.mono) hx
   |outgrown=>exact hR.elim
  ·cases h
theorem OP(hs:SR w0 μ s a w){c:Call}(ho:o.op = .defer c){next:Act->World->Prop}{Q:Exit->Act->World->Prop}(hl:E4 w0 μ s a w o.dst K next Q)
  (h:xo c P call s.env s.defs s.h K=true):o.wp P a w next Q:=by
 obtain ⟨yO,args,ts⟩:=c
 cases yO with
 |builtin b=>cases h
 |invoke r m=>cases h
 |value f=>
  simp only [xo] at h;split at h
  ·rename_i g first cap hf
   have hfv:=hs.eval f;rw [hf] at hfv;generalize hfe:a.eval f=fv at hfv;cases hfv;rename_i us vs h1 r1 h2 r2;have zX:dZ w0 μ (args.toList.map (evalArg s.env)) (args.toList.map a.eval):=dZ.map _ fun x _=>hs.eval x;have lM:=(dZ.mk h1 r1).append zX
   have hrun:(execOp a.eval o).run P w = .ok (.defer { target:=.fn (.func g) vs.toArray,args:=(us++args.toList.map a.eval).toArray }) w:=by
    have e:us.toArray++args.map a.eval=(us++args.toList.map a.eval).toArray:=by
     apply Array.ext';simp
    simp only [execOp,ho,resolve,hfe,Deferred.ofValue,Sem.run_bind,Sem.run_pure,Result.andThen_ok,e]
   unfold Oper.wp;rw [hrun,Oper.upon_defer]
   have gv:SR w0 μ (St.mk s.env s.n (⟨g,first++args.toList.map (evalArg s.env),cap⟩ :: s.defs) s.h) { a with defers:={ target:=.fn (.func g) vs.toArray,args:=(us++args.toList.map a.eval).toArray } :: a.defers } w:=
    ⟨hs.env,.cons ⟨vs,_,rfl,lM,⟨h2,r2⟩⟩ hs.defs,hs.gh⟩
   exact hl.ok _ _ _ _ _ _ h (gv.left o.dst VR.bJ hs.gh (Mu.le.refl μ)) (Ext.refl _ _ _)
  ·cases h
theorem OQ(hs:SR w0 μ s a w){x:Operand}(ho:o.op = .panic x){next:Act->World->Prop}{Q:Exit->Act->World->Prop}(hl:E4 w0 μ s a w o.dst K next Q)
  (h:xp x P call s.env s.defs s.h K=true):o.wp P a w next Q:=by
 simp only [xp] at h;split at h
 ·rename_i t v hx;have hv:=hs.eval x;rw [hx] at hv;generalize he:a.eval x=xv at hv;cases hv;rename_i vc hvc
  have hrun:(execOp a.eval o).run P w = .halt (.panic (.iface t vc)) w:=by
   simp [execOp,ho,he,Instr.panic]
  unfold Oper.wp;rw [hrun,Oper.upon_panic];exact hl.panic _ _ _ _ _ h (.iface t v vc hvc) hs (Ext.refl _ _ _)
 ·cases h
theorem zY{defs:List oV}{K:R->Bool}:∀ {L:List (AV×Heap)},lP defs K L=true->∀ p ∈ L,K (.ok p.1 defs p.2)=true
 |[],_,p,hp=>by cases hp
 |q :: L,h,p,hp=>by
  simp only [lP,and_eq_true] at h;rcases mem_cons.1 hp with rfl|hp
  ·exact h.1
  ·exact zY h.2 p hp
theorem Rq(hs:SR w0 μ s a w){x:Operand}{b:Bool}(ho:o.op = .next x b){next:Act->World->Prop}{Q:Exit->Act->World->Prop}(hl:E4 w0 μ s a w o.dst K next Q)
  (h:Gd x b P call s.env s.defs s.h K=true):o.wp P a w next Q:=by
 obtain ⟨L,hL,hh⟩:=fF h;obtain ⟨p,vc,w',μ',hp,hr,hv,hg,hx⟩:=OL (P:=P) hs.gh (hs.eval x) hL o.type;have hrun:(execOp a.eval o).run P w = .ok (.value vc) w':=by simp [execOp,ho,hr]
 unfold Oper.wp;rw [hrun];exact hl.ok _ _ _ _ _ _ (zY hh p hp) (hs.left o.dst hv hg hx.mono) hx
theorem Bt(hs:SR w0 μ s a w)(hc:fS P call){next:Act->World->Prop}{Q:Exit->Act->World->Prop}(hl:E4 w0 μ s a w o.dst K next Q)
  (h:jc o.op P call s.env s.defs s.h K=true):o.wp P a w next Q:=by
 cases ho:o.op<;>rw [ho] at h<;>simp only [jc] at h
 case call c=>exact Rp hs hc ho hl h
 case defer c=>exact OP hs ho hl h
 case panic x=>exact OQ hs ho hl h
 case next x b=>exact Rq hs ho hl h
 all_goals exact Cc hs hl (call:=call) (by rw [ho];exact h)
structure yU (w0:World) (μ:Mu) (h:Heap) (w:World) (K:RS->Bool) (Q:Exit->Act->World->Prop):Prop where
 ok:∀ (s':St) (a':Act) (w':World) (μ':Mu),K (.ok s')=true->SR w0 μ' s' a' w'->Ext μ h w μ' s'.h w'->Q .normal a' w'
 panic:∀ (v:AV) (vc:Value) (s':St) (a':Act) (w':World) (μ':Mu),K (.panic v s')=true->VR w0 μ' v vc->SR w0 μ' s' a' w'->Ext μ h w μ' s'.h w'->Q (.panic [{ v:=vc,recovered:=false }]) a' w'
theorem yU.after{K:RS->Bool}{Q:Exit->Act->World->Prop}(hl:yU w0 μ h w K Q)(hx:Ext μ h w μ' h' w'):yU w0 μ' h' w' K Q:=
 ⟨fun s2 a2 w2 μ2 k2 r2 x2=>hl.ok s2 a2 w2 μ2 k2 r2 (hx.trans x2),fun v vc s2 a2 w2 μ2 k2 v2 r2 x2=>hl.panic v vc s2 a2 w2 μ2 k2 v2 r2 (hx.trans x2)⟩
theorem Kf{call:jK}(hc:fS P call){ops:Array Oper}{K:RS->Bool}{Q:Exit->Act->World->Prop}:∀ (l:List Oper) (i:Nat) (s:St) (a:Act) (w:World) (μ:Mu),(∀ j o,l[j]?=some o->ops[i+j]?=some o) ->
  SR w0 μ s a w->(hl:yU w0 μ s.h w K Q)->mQ P call ops.toList l s K=true->wpOps P ops Q (range' i l.length) a w
 |[],i,s,a,w,μ,hi,hs,hl,h=>by
  simp only [length_nil,range'_zero,wpOps];exact hl.ok _ _ _ _ h hs (Ext.refl _ _ _)
 |o :: rest,i,s,a,w,μ,hi,hs,hl,h=>by
  have Oe:ops[i]?=some o:=by simpa using hi 0 o rfl
  obtain ⟨env,n,defs,hp⟩:=s;simp only [length_cons,range'_succ,wpOps,Oe];simp only [mQ] at h
  have uU:∀ j o',rest[j]?=some o'->ops[i+1+j]?=some o':=fun j o' hj=>by
   have:=hi (j+1) o' (by simpa using hj)
   rwa [show i+1+j=i+(j+1) by omega]
  split at h
  ·rename_i hw;rw [kZ hs.env hw,if_pos rfl];refine .inl (Bt hs hc ⟨fun v jL h' a' w' μ' hK gv hx=>?_,fun v vc h' w' μ' hK hv gv hx=>?_⟩ h)
   ·exact Kf hc rest (i+1) _ a' w' μ' uU gv (hl.after hx) (kV hK)
   ·exact hl.panic v vc _ a w' μ' hK hv gv hx
  ·rename_i hw;rw [kZ hs.env hw];simp only [false_eq_true,if_false];have gv:=hs.left o.dst (h':=hp) VR.bJ hs.gh (Mu.le.refl μ);exact Kf hc rest (i+1) ⟨mo env n o.dst bJ,n,defs,hp⟩ _ w μ uU gv hl (kV h)
  ·cases h
end
end Go.AM
namespace Go.AM
open List Nat Bool Option
open Go Go.RowKit
variable {op:Op}
section
variable {P:Program} {ρ ρ':Operand->AV}
theorem oy{c:Call}(h:∀ x ∈ c.operands,ρ x = ρ' x):c.args.toList.map ρ=c.args.toList.map ρ':=
 map_congr_left fun x hx=>h x (by simp [Call.operands];exact .inr (by simpa using hx))
theorem zZ{ps:Array (Nat×Operand)}(h:∀ x ∈ (ps.toList.map (·.2)).toArray,ρ x = ρ' x):(ps.toList.map fun p=>ρ p.2)=ps.toList.map fun p=>ρ' p.2:=
 map_congr_left fun p hp=>h p.2 (by simp;exact ⟨p.1,by simpa using hp⟩)
theorem E5{o:Option Operand}(h:∀ x ∈ o.toArray,ρ x = ρ' x):o.map ρ=o.map ρ':=by
 cases o with
 |none=>rfl
 |some x=>simp [h x (by simp)]
theorem z6(h:∀ x ∈ op.operands,ρ x = ρ' x):mu P ρ op=mu P ρ' op:=by
 cases op<;>simp only [Op.operands] at h<;>simp only [mu]
 case build t ps=>rw [zZ h]
 case makeFunc fn first cap=>
  have h1:first.toList.map ρ=first.toList.map ρ':=map_congr_left fun x hx=>h x (by simp;exact .inl (by simpa using hx))
  have h2:cap.toList.map ρ=cap.toList.map ρ':=map_congr_left fun x hx=>h x (by simp;exact .inr (by simpa using hx));rw [h1,h2]
 case slice t x lo hi mx=>
  have h0:ρ x = ρ' x:=h x (by simp);have h1:lo.map ρ=lo.map ρ':=E5 fun y hy=>h y (by simp only [Array.mem_append];exact .inl (.inl (.inr hy)));have h2:hi.map ρ=hi.map ρ':=E5 fun y hy=>h y (by simp only [Array.mem_append];exact .inl (.inr hy));rw [h0,h1,h2]
 case call c=>simp only [oy h]
 all_goals (first|rfl|(simp_all;done))
theorem z7(h:∀ x ∈ op.operands,ρ x = ρ' x)(hp:Heap):lQ P ρ hp op=lQ P ρ' hp op:=by
 cases op<;>simp only [Op.operands] at h<;>simp only [lQ]
 case call c=>simp only [oy h]
 all_goals (first|rfl|(simp_all;done))
theorem xG(h:∀ x ∈ op.operands,ρ x = ρ' x):om P ρ op=om P ρ' op:=by
 cases op<;>simp only [Op.operands] at h<;>simp only [om]
 case buildSlice t n ps=>rw [zZ h]
 all_goals (first|rfl|(simp_all;done))
theorem wj(h:∀ x ∈ op.operands,ρ x = ρ' x)(hp:Heap)(K:AV->Heap->Bool):gJ op P ρ hp K=gJ op P ρ' hp K:=by
 cases hk:fe op with
 |pure=>rw [uh hk,uh hk,z6 h]
 |read=>rw [qd hk,qd hk,z7 h]
 |alloc=>rw [qQ hk,qQ hk,xG h]
 |JF=>
  cases op<;>simp only [fe,reduceCtorEq] at hk<;>simp only [Op.operands] at h<;>simp only [gJ]
  case call c=>simp only [su,oy h]
  all_goals (first|rfl|(simp_all;done))
theorem Gm{env eD:Env}(h:∀ x ∈ op.operands,evalArg env x=evalArg eD x)(call:jK)(defs:List oV)(hp:Heap)(K:R->Bool) :
  jc op P call env defs hp K=jc op P call eD defs hp K:=by
 cases op<;>simp only [jc]
 case call c=>
  obtain ⟨yO,args,ts⟩:=c
  cases yO with
  |value f=>
   simp only [vY,Bk];have h1:=oy (c:=⟨.value f,args,ts⟩) h;have h2:evalArg env f=evalArg eD f:=h f (by simp [Op.operands,Call.operands]);simp only at h1;rw [h2,h1]
  |invoke r m=>simp only [vY,oY];rw [wj h]
  |builtin b=>simp only [vY,oY];rw [wj h]
 case defer c=>
  obtain ⟨yO,args,ts⟩:=c
  cases yO with
  |value f=>
   simp only [xo];have h1:=oy (c:=⟨.value f,args,ts⟩) h;have h2:evalArg env f=evalArg eD f:=h f (by simp [Op.operands,Call.operands]);simp only at h1;rw [h2,h1]
  |invoke r m=>rfl
  |builtin b=>rfl
 case panic x=>simp only [xp,h x (by simp [Op.operands])]
 case next x b=>simp only [Gd,h x (by simp [Op.operands])]
 all_goals (simp only [oY];rw [wj h])
theorem HO{hp:Heap}(hc:∀ b,hp.next<=b->hp.get b=none)(o:jX){v:AV}(h:lQ P ρ hp op=some v):lQ P ρ (hp.alloc o) op=some v:=by
 have key:∀ b o',hp.get b=some o'->(hp.alloc o).get b=some o':=fun b o' hb=>by
  rw [Heap.aW,if_neg (fun e=>by rw [e,hc _ (dN _)] at hb;cases hb)];exact hb
 cases op<;>simp only [lQ,reduceCtorEq] at h ⊢
 case load t a=>
  obtain ⟨i,h1,h2⟩:=bind_eq_some_iff.1 h;refine bind_eq_some_iff.2 ⟨i,h1,?_⟩;unfold ah at h2 ⊢;split at h2
  ·rename_i b off hx;split at h2
   ·rename_i cs hb;simp only [key _ _ hb];exact h2
   ·cases h2
  ·rename_i hx;exact h2
  ·cases h2
 case lookup t x i ok=>
  obtain ⟨d,h1,h2⟩:=bind_eq_some_iff.1 h;refine bind_eq_some_iff.2 ⟨d,h1,?_⟩;unfold dV at h2 ⊢
  have he:∀ es,lN (ρ x) hp=some es->lN (ρ x) (hp.alloc o)=some es:=by
   intro es he;unfold lN at he ⊢;split at he
   ·rename_i hx;exact he
   ·rename_i b hx;split at he
    ·rename_i xA ck hb;simp only [key _ _ hb];exact he
    ·cases he
   ·cases he
  split at h2
  ·cases h2
  ·rename_i es T8;rw [he es T8];exact h2
 case call c=>
  split at h
  ·split at h
   ·rename_i t l x e1 e2;obtain ⟨i,h1,h2⟩:=bind_eq_some_iff.1 h;refine bind_eq_some_iff.2 ⟨i,h1,?_⟩;unfold bX at h2 ⊢;split at h2<;>first|exact h2|skip
    ·split at h2
     ·rename_i b _ es ck hb;simp only [key _ _ hb];exact h2
     ·cases h2
   ·cases h
  ·cases h
mutual
theorem AV.beq_eq:∀ (x y:AV),AV.beq x y=true->x=y
 |.undef,y,h=>by cases y<;>simp_all [AV.beq]
 |.bool a,y,h=>by cases y<;>simp_all [AV.beq]
 |.int k a,y,h=>by cases y<;>simp_all [AV.beq]
 |.str a,y,h=>by cases y<;>simp_all [AV.beq]
 |.ey,y,h=>by cases y<;>simp_all [AV.beq]
 |.ptr a i,y,h=>by cases y<;>simp_all [AV.beq]
 |.dQ a i,y,h=>by
  cases y<;>simp only [AV.beq,false_eq_true,and_eq_true,beq_iff_eq] at h;rw [AV.nB _ _ h.1,h.2]
 |.ay,y,h=>by cases y<;>simp_all [AV.beq]
 |.slice b i l s,y,h=>by cases y<;>simp_all [AV.beq]
 |.ax a i l s,y,h=>by
  cases y<;>simp only [AV.beq,false_eq_true,and_eq_true,beq_iff_eq] at h;rw [AV.nB _ _ h.1.1.1,h.1.1.2,h.1.2,h.2]
 |.jJ,y,h=>by cases y<;>simp_all [AV.beq]
 |.map a,y,h=>by cases y<;>simp_all [AV.beq]
 |.m8,y,h=>by cases y<;>simp_all [AV.beq]
 |.func f a b,y,h=>by
  cases y<;>simp only [AV.beq,false_eq_true,and_eq_true,beq_iff_eq] at h;rw [h.1.1,AV.nB _ _ h.1.2,AV.nB _ _ h.2]
 |.pL,y,h=>by cases y<;>simp_all [AV.beq]
 |.iface t v,y,h=>by
  cases y<;>simp only [AV.beq,false_eq_true,and_eq_true,beq_iff_eq] at h;rw [h.1,AV.beq_eq _ _ h.2]
 |.agg a,y,h=>by
  cases y<;>simp only [AV.beq,false_eq_true] at h;rw [AV.nB _ _ h]
 |.tuple a,y,h=>by
  cases y<;>simp only [AV.beq,false_eq_true] at h;rw [AV.nB _ _ h]
theorem AV.nB:∀ (xs ys:List AV),AV.xk xs ys=true->xs=ys
 |[],ys,h=>by cases ys<;>simp_all [AV.xk]
 |x :: xs,ys,h=>by
  cases ys<;>simp only [AV.xk,false_eq_true,and_eq_true] at h;rw [AV.beq_eq _ _ h.1,AV.nB _ _ h.2]
end
theorem HP{env:Env}{v:AV}{hp:Heap}(hk:fe op = .read)(h:sameAt P op env v hp=true):lQ P (evalArg env) hp op=some v:=by
 unfold sameAt at h;rw [qd hk] at h;obtain ⟨v',h1,h2⟩:=fF h;rw [h1,AV.beq_eq _ _ h2]
end
end Go.AM
namespace Go.AM
open List Nat Bool Option
open Go Go.RowKit
variable {ops:List Oper}
theorem sK(acc:List Nat)(j:Nat):∀ (es:List Edge),(m9 acc es).testBit j=true->∃ e ∈ es,Region.binds .any e=true/\(j=e.on\/(acc.getD e.on 0).testBit j=true)
 |[],h=>by simp [m9] at h
 |e :: es,h=>by
  simp only [m9] at h;split at h
  ·rename_i hb;simp only [testBit_or,or_eq_true,testBit_two_pow,decide_eq_true_eq] at h;rcases h with (h|h)|h
   ·exact ⟨e,by simp,hb,.inl h.symm⟩
   ·exact ⟨e,by simp,hb,.inr h⟩
   ·obtain ⟨e',h1,h2⟩:=sK acc j es h;exact ⟨e',by simp [h1],h2⟩
  ·obtain ⟨e',h1,h2⟩:=sK acc j es h;exact ⟨e',by simp [h1],h2⟩
theorem vF:∀ (os:List Oper) (acc:List Nat),∃ r,nc os acc=acc++r
 |[],acc=>⟨[],by simp [nc]⟩
 |o :: os,acc=>by
  obtain ⟨r,h⟩:=vF os (acc++[m9 acc o.after.toList]);exact ⟨m9 acc o.after.toList :: r,by simp [nc,h]⟩
theorem Cd:∀ (os:List Oper) (acc:List Nat) (k:Nat) (o:Oper),os[k]?=some o->(nc os acc)[acc.length+k]?=some (m9 ((nc os acc).take (acc.length+k)) o.after.toList)
 |[],acc,k,o,h=>by simp at h
 |o' :: os,acc,k,o,h=>by
  simp only [nc]
  cases k with
  |zero=>
   simp at h;subst h;obtain ⟨r,hr⟩:=vF os (acc++[m9 acc o'.after.toList]);rw [hr];simp
  |succ k=>
   have:=Cd os (acc++[m9 acc o'.after.toList]) k o (by simpa using h);rw [length_append,length_singleton] at this;rw [show acc.length+(k+1)=acc.length+1+k by omega];exact this
theorem vG:∀ (os:List Oper) (acc:List Nat),(nc os acc).length=acc.length+os.length
 |[],acc=>by simp [nc]
 |o :: os,acc=>by simp only [nc,vG os];simp;omega
theorem OR{i j:Nat}(h:Bl (mV ops) i j=true):∃ o,ops[i]?=some o/\∃ e ∈ o.after.toList,Region.binds .any e=true/\(j=e.on\/Bl (mV ops) e.on j=true):=by
 unfold Bl at h;by_cases hi:i<ops.length
 ·have ho:ops[i]?=some ops[i]:=ew hi;have hm:=Cd ops [] i _ ho;simp only [length_nil,Nat.zero_add] at hm
  have hg:(mV ops).getD i 0=m9 ((mV ops).take i) ops[i].after.toList:=by
   rw [getD_eq_getElem?_getD];show ((nc ops [])[i]?).getD 0=_;rw [hm];rfl
  rw [hg] at h;obtain ⟨e,h1,h2,h3⟩:=sK _ _ _ h;refine ⟨_,ho,e,h1,h2,?_⟩;rcases h3 with h3|h3
  ·exact .inl h3
  ·refine .inr ?_;unfold Bl;rw [getD_eq_getElem?_getD,getElem?_take] at h3;split at h3
   ·rw [getD_eq_getElem?_getD];exact h3
   ·simp at h3
 ·have:(mV ops).getD i 0=0:=by
   rw [getD_eq_getElem?_getD,getElem?_eq_none (by unfold mV;rw [vG];simp;omega)];rfl
  rw [this] at h;simp at h
def OS(ms:List Nat)(S:Nat->Bool):Prop:=∀ i j,S i=true->Bl ms i j=true->S j=true
def gK(bG:Array Bool)(k:Nat):Bool:=bG.getD k false
theorem MP{ops:Array Oper}{bG:Array Bool}{i j:Nat}(hc:OS (mV ops.toList) (gK bG))(hr:i ∈ Region.ready .any ops bG)(hb:Bl (mV ops.toList) i j=true):gK bG j=true:=by
 obtain ⟨_,o,ho,he⟩:=mem_ready.1 hr;obtain ⟨o',oh,e,h1,h2,h3⟩:=OR hb;rw [Array.getElem?_toList,ho] at oh;cases oh;have:=he e (by simpa using h1) h2;rcases h3 with rfl|h3
 ·exact this
 ·exact hc _ _ this h3
theorem xI{bG:Array Bool}{i:Nat}(hi:i<bG.size)(k:Nat):gK (bG.setIfInBounds i true) k=(decide (k=i)||gK bG k):=by
 unfold gK;by_cases e:k=i
 ·subst e;simp [Array.getD,hi]
 ·simp [e,getD_set_ne false (fun q=>e q.symm)]
structure Dn where
 i:Nat
 o:Oper
 v:AV
 env:Env
 b:Nat
 al:Bool
noncomputable def fK(kC:Env)(n:Nat)(S:Nat->Bool):List Dn->Env
 |[]=>kC
 |d :: ds=>if S d.i then mo (fK kC n S ds) n d.o.dst d.v else fK kC n S ds
theorem Gn{env:Env}{n:Nat}{dst:Option Tmp}{v:AV}{t:Nat}(h:dst≠some t):mo env n dst v t=env t:=by
 cases dst with
 |none=>rfl
 |some d=>
  have:t≠d:=fun e=>h (by rw [e]);simp only [mo];split
  ·simp [bP,this]
  ·rfl
theorem MQ{env:Env}{n:Nat}{x y:Option Tmp}{u v:AV}(h:∀ t,x=some t->y≠some t):mo (mo env n x u) n y v=mo (mo env n y v) n x u:=by
 cases x with
 |none=>rfl
 |some d=>cases y with
  |none=>rfl
  |some e=>
   have hne:d≠e:=fun q=>h d rfl (by rw [q]);simp only [mo];split<;>split<;>try rfl
   funext t;simp only [bP];split<;>split<;>try rfl
   rename_i h1 h2;exact absurd (h2▸h1) (by simpa using hne)
section
variable {kC:Env} {n:Nat} {S S':Nat->Bool}
theorem Ce{t:Nat}:∀ {pre ds:List Dn},(∀ x ∈ pre,S x.i=true->x.o.dst≠some t)->fK kC n S (pre++ds) t=fK kC n S ds t
 |[],ds,h=>rfl
 |x :: pre,ds,h=>by
  simp only [cons_append,fK];have ih:=Ce (pre:=pre) (ds:=ds) (fun y hy=>h y (by simp [hy]));split
  ·rename_i hx;rw [Gn (h x (by simp) hx),ih]
  ·exact ih
theorem pe:∀ {ds:List Dn},(∀ x ∈ ds,S x.i=S' x.i)->fK kC n S ds=fK kC n S' ds
 |[],h=>rfl
 |x :: ds,h=>by
  simp only [fK];rw [h x (by simp),pe (ds:=ds) (fun y hy=>h y (by simp [hy]))]
theorem wk{t:Nat}:∀ {ds:List Dn},(∀ x ∈ ds,x.o.dst=some t->S x.i=true)->fK kC n S ds t=fK kC n (fun _=>true) ds t
 |[],h=>rfl
 |x :: ds,h=>by
  have ih:=wk (ds:=ds) (fun y hy=>h y (by simp [hy]));simp only [fK,if_true];by_cases hd:x.o.dst=some t
  ·rw [if_pos (h x (by simp) hd),hd];simp only [mo];split
   ·simp [bP]
   ·exact ih
  ·rw [Gn hd];split
   ·rw [Gn hd];exact ih
   ·exact ih
theorem E6{d:Dn}(hS:S d.i=false)(hS':∀ k,S' k=(decide (k=d.i)||S k)):∀ {pre ds:List Dn},(∀ x ∈ pre,x.i≠d.i)->(∀ x ∈ ds,x.i≠d.i)->(∀ x ∈ pre,∀ t,d.o.dst=some t->x.o.dst≠some t) ->
  fK kC n S' (pre++d :: ds)=mo (fK kC n S (pre++d :: ds)) n d.o.dst d.v
 |[],ds,h1,h2,h3=>by
  simp only [nil_append,fK];rw [if_pos (by rw [hS'];simp),if_neg (by rw [hS];simp),pe (S:=S') (S':=S) (fun x hx=>by rw [hS'];simp [h2 x hx])]
 |x :: pre,ds,h1,h2,h3=>by
  have ih:=E6 hS hS' (pre:=pre) (ds:=ds) (fun y hy=>h1 y (by simp [hy])) h2 (fun y hy=>h3 y (by simp [hy]));simp only [cons_append,fK];have hx:S' x.i=S x.i:=by rw [hS'];simp [h1 x (by simp)]
  rw [hx];split
  ·rw [ih,MQ (h3 x (by simp))]
  ·exact ih
end
structure MR (ops:List Oper) (ms:List Nat) (a b:Nat×Oper):Prop where
 ne:a.1≠b.1
 nb:Bl ms a.1 b.1=false
 JF:rK a.2=true->Bl ms b.1 a.1=true
 dd:∀ d,a.2.dst=some d->b.2.dst≠some d
 lb:∀ d,a.2.dst=some d->d ∈ pO ops b.2->Bl ms b.1 a.1=true
 la:∀ d,b.2.dst=some d->d ∈ pO ops a.2->Bl ms b.1 a.1=true
theorem HQ{ms:List Nat}{a b:Nat×Oper}(h:JY ops ms a b=true):MR ops ms a b:=by
 unfold JY at h;simp only [and_eq_true,bne_iff_ne,ne_eq,not_eq_true',or_eq_true] at h;obtain ⟨h1,h2,h3,h4,h5⟩:=h;refine ⟨h1,h2,fun he=>h3.resolve_left (by simp [he]),fun d hd e=>?_,fun d hd hl=>?_,fun d hd hl=>?_⟩
 ·rw [hd,e] at h4;simp at h4
 ·rw [hd] at h4;simp only [and_eq_true,or_eq_true,not_eq_true'] at h4;exact h4.2.resolve_left (by simp [hl])
 ·rw [hd] at h5;simp only [or_eq_true,not_eq_true'] at h5;exact h5.resolve_left (by simp [hl])
theorem xJ{ops:List Oper}{ms:List Nat}:∀ {L:List (Nat×Oper)},Bo ops ms L=true->L.Pairwise (MR ops ms)
 |[],h=>.nil
 |p :: ps,h=>by
  simp only [Bo,and_eq_true,List.all_eq_true] at h;exact .cons (fun b hb=>HQ (h.1 b hb)) (xJ h.2)
theorem xK{L:List (Nat×Oper)}:∀ {n:Nat},Bp L n=true->∀ i,i<n->∃ p ∈ L,p.1=i
 |0,h,i,hi=>by omega
 |n+1,h,i,hi=>by
  simp only [Bp,and_eq_true,List.any_eq_true,beq_iff_eq] at h;by_cases e:i=n
  ·subst e;exact h.1
  ·exact xK h.2 i (by omega)
theorem xL:∀ (os:List Oper) (k:Nat) (p:Nat×Oper),p ∈ ud os k->k<=p.1/\os[p.1-k]?=some p.2
 |[],k,p,h=>by cases h
 |o :: os,k,p,h=>by
  simp only [ud,mem_cons] at h;rcases h with rfl|h
  ·simp
  ·obtain ⟨h1,h2⟩:=xL os (k+1) p h;refine ⟨by omega,?_⟩;rw [show p.1-k=(p.1-(k+1))+1 by omega];simpa using h2
theorem z8{ms DW:List Nat}{L:List (Nat×Oper)}:∀ (n k:Nat) (p:Nat×Oper),p ∈ Bn ms DW L n k->p ∈ L
 |0,k,p,h=>(mem_filter.1 h).1
 |n+1,k,p,h=>by
  simp only [Bn,mem_append] at h;rcases h with h|h|h
  ·exact (mem_filter.1 h).1
  ·exact (mem_filter.1 h).1
  ·exact z8 n (k+1) p h
theorem xM:∀ {os:List Oper} {k:Nat},Bq os k=true->∀ i o,os[i]?=some o->∀ e ∈ o.after.toList,Region.binds .any e=true->e.on<k+i
 |[],k,h,i,o,ho=>by simp at ho
 |o' :: os,k,h,i,o,ho=>by
  simp only [Bq,and_eq_true,List.all_eq_true,or_eq_true,not_eq_true',decide_eq_true_eq] at h;intro e he hb
  cases i with
  |zero=>
   simp at ho;subst ho;have:=(h.1 e he).resolve_left (by simp [hb]);omega
  |succ i=>
   have:=xM h.2 i o (by simpa using ho) e he hb;omega
structure rN (ops:Array Oper) (ms:List Nat) (L:List (Nat×Oper)):Prop where
 mV:ms=mV ops.toList
 sH:L.Pairwise (MR ops.toList ms)
 cover:∀ i,i<ops.size->∃ p ∈ L,p.1=i
 mem:∀ p ∈ L,ops[p.1]?=some p.2
 jl:∀ (i:Nat) (o:Oper),ops[i]?=some o->∀ e ∈ o.after.toList,Region.binds .any e=true->e.on<i
theorem Kg{ops:Array Oper}{p:UZ}(h:Hu ops.toList=some p):rN ops p.ms p.L:=by
 unfold Hu at h;split at h
 ·rename_i hc;cases h;simp only [and_eq_true] at hc;obtain ⟨⟨h1,h2⟩,h3⟩:=hc;refine ⟨rfl,xJ h2,fun i hi=>xK h3 i (by simpa using hi),fun q hq=>?_,fun i o ho e he hb=>?_⟩
  ·have:=xL _ _ _ (z8 _ _ _ hq);simpa using this.2
  ·have:=xM h1 i o (by simpa using ho) e he hb;omega
 ·cases h
theorem HR{o:Oper}{env eD:Env}(h:∀ t ∈ pO ops o,env t=eD t):∀ x ∈ o.op.operands,evalArg env x=evalArg eD x:=by
 intro x hx
 cases x with
 |tmp t=>
  apply h;simp only [pO,mem_append,mem_filterMap];exact .inl ⟨.tmp t,by simpa using hx,rfl⟩
 |const v=>rfl
 |global g=>rfl
 |func f=>rfl
theorem xN{o:Oper}{env eD:Env}(h:∀ t ∈ pO ops o,env t=eD t):iQ ops o env=iQ ops o eD:=by
 unfold iQ;split
 ·rfl
 ·rename_i j want hg;split
  ·rename_i g hj;split
   ·rename_i d hd;have:env d=eD d:=h d (by simp [pO,hg,hj,hd]);rw [this]
   ·rfl
  ·rfl
end Go.AM
namespace Go.AM
open List Nat Bool Option
open Go Go.RowKit
variable {p:Nat×Oper}
structure XB (P:Program) (ops:Array Oper) (μ:Mu) (h:Heap) (lg:List Read) (d:Dn):Prop where
 ex:∃ wb,iQ ops.toList d.o d.env=some wb/\(wb=false->d.v=bJ)/\(wb=true ->
  (fe d.o.op = .pure/\mu P (evalArg d.env) d.o.op=some d.v) \/
  (fe d.o.op = .read/\lQ P (evalArg d.env) h d.o.op=some d.v/\(⟨d.i,d.o.op,d.env,d.v⟩:Read) ∈ lg) \/
  (fe d.o.op = .alloc/\d.al=true/\∃ k ob,om P (evalArg d.env) d.o.op=some (k,ob)/\d.v=k.val d.b/\h.get d.b=some ob/\∀ kk,μ d.b≠some kk))
structure Rr where
 P:Program
 call:jK
 ops:Array Oper
 ms:List Nat
 L:List (Nat×Oper)
 K:St->Bool
 w0:World
 μb:Mu
 hb:Heap
 wb:World
 kC:Env
 n:Nat
structure mF (C:Rr) (bG:Array Bool) (a:Act) (w:World) (μ:Mu) (dn:List Dn) (R:List (Nat×Oper)) (lg:List Read) (s:St):Prop where
 split:C.L=(dn.reverse.map fun d=>(d.i,d.o))++R
 run:fE C.P C.call C.ops.toList C.ms R lg s C.K=true
 E7:s.n=C.n
 Kh:s.env=fK C.kC C.n (fun _=>true) dn
 size:bG.size=C.ops.size
 Rs:∀ i,gK bG i=true->∃ d ∈ dn,d.i=i
 DW:∀ d ∈ dn,rK d.o=true->gK bG d.i=true
 closed:OS C.ms (gK bG)
 env:Cb C.w0 μ (fK C.kC C.n (gK bG) dn) C.n a.tmps
 defs:xE C.w0 μ s.defs a.defers
 gh:Good C.w0 μ s.h w
 ext:Ext C.μb C.hb C.wb μ s.h w
 Rt:∀ pre d ds,dn=pre++d :: ds->d.env=fK C.kC C.n (fun _=>true) ds
 Ru:∀ d ∈ dn,gK bG d.i=false->XB C.P C.ops μ s.h lg d
 Ki:∀ d ∈ dn,d.al=true->C.hb.next<=d.b/\d.b<s.h.next
 sep:∀ d ∈ dn,∀ d' ∈ dn,d.i≠d'.i->d.al=true->d'.al=true->d.b≠d'.b
theorem Ext.OA{μb μ:Mu}{hb h:Heap}{wb w:World}(x:Ext μb hb wb μ h w){b n:Nat}(hn:hb.next<=b)(hμ:∀ k,μ b≠some k)(O:Obj):Ext μb hb wb (μ.add b ⟨w.heap.size,0,n⟩) h (w.alloc O):=by
 have hsz:(w.alloc O).heap.size=w.heap.size+1:=by show (w.heap.push O).size=_;simp
 refine ⟨x.mono.trans (Mu.yN hμ),fun k hk hne=>?_,fun b' k eX=>?_,by rw [hsz];have:=x.size;omega,x.next,x.gd,fun b' k eX=>?_,x.xy⟩
 ·rw [Below.heap_alloc w O k (Nat.lt_of_lt_of_le hk x.size)];exact x.frame k hk hne
 ·rw [Mu.jk] at eX;by_cases e:b'=b
  ·rw [if_pos e] at eX;cases eX;exact .inr (.inl x.size)
  ·rw [if_neg e] at eX;exact x.new b' k eX
 ·rw [Mu.jk] at eX;by_cases e:b'=b
  ·exact .inr (e▸hn)
  ·rw [if_neg e] at eX;exact x.fresh b' k eX
section
variable {C:Rr} {bG:Array Bool} {a:Act} {w:World} {μ:Mu} {dn:List Dn} {R:List (Nat×Oper)} {lg:List Read} {s:St}
theorem mF.sH(hp:rN C.ops C.ms C.L)(hi:mF C bG a w μ dn R lg s) :
  dn.Pairwise (fun x y=>MR C.ops.toList C.ms (y.i,y.o) (x.i,x.o))/\R.Pairwise (MR C.ops.toList C.ms)/\∀ d ∈ dn,∀ r ∈ R,MR C.ops.toList C.ms (d.i,d.o) r:=by
 have h:=hp.sH;rw [hi.split,pairwise_append,pairwise_map,pairwise_reverse] at h;exact ⟨h.1,h.2.1,fun d hd r hr=>h.2.2 _ (mem_map.2 ⟨d,by simpa using hd,rfl⟩) r hr⟩
theorem mF.fresh(hp:rN C.ops C.ms C.L)(hi:mF C bG a w μ dn R lg s){r:Nat×Oper}(hr:r ∈ R):gK bG r.1=false/\∀ d ∈ dn,d.i≠r.1:=by
 have hne:∀ d ∈ dn,d.i≠r.1:=fun d hd=>((hi.sH hp).2.2 d hd r hr).ne;refine ⟨?_,hne⟩
 cases h:gK bG r.1 with
 |false=>rfl
 |true=>obtain ⟨d,hd,he⟩:=hi.Rs _ h;exact absurd he (hne d hd)
theorem mF.OT(hp:rN C.ops C.ms C.L)(hi:mF C bG a w μ dn (p :: R) lg s)(he:rK p.2=false):∃ Hj MS s',mF C bG a w μ Hj R MS s':=by
 obtain ⟨hf,hne⟩:=hi.fresh hp (r:=p) (by simp);obtain ⟨env,n,defs,Bu⟩:=s;have hrun:=hi.run;simp only [fE] at hrun
 have step:∀ (v:AV) (b:Nat) (al:Bool) (MS:List Read) (h':Heap),fE C.P C.call C.ops.toList C.ms R MS ⟨mo env n p.2.dst v,n,defs,h'⟩ C.K=true ->
   (∀ r ∈ lg,r ∈ MS)->Good C.w0 μ h' w->Ext C.μb C.hb C.wb μ h' w->Bu.next<=h'.next->(∀ b' o,Bu.get b'=some o->h'.get b'=some o)->(∀ op v,lQ C.P (evalArg env) Bu op=some v\/True) ->
   (∀ env op v,lQ C.P (evalArg env) Bu op=some v->lQ C.P (evalArg env) h' op=some v) ->
   XB C.P C.ops μ h' MS ⟨p.1,p.2,v,env,b,al⟩->(al=true->b=Bu.next/\Bu.next<h'.next)->∃ Hj MS s',mF C bG a w μ Hj R MS s':=by
  intro v b al MS h' hr hlg hg hx pg hget _ hrd XC hal;have U7:C.hb.next<=Bu.next:=hi.ext.next
  refine ⟨⟨p.1,p.2,v,env,b,al⟩ :: dn,MS,⟨mo env n p.2.dst v,n,defs,h'⟩,?_⟩;refine ⟨by rw [hi.split];simp,hr,hi.E7,?_,hi.size,fun i h=>?_,fun d hd h=>?_,hi.closed,?_,hi.defs,hg,hx,fun pre d ds h=>?_,fun d hd h=>?_,fun d hd h=>?_,fun d hd d' qI Rv h1 h2=>?_⟩
  ·show mo env n p.2.dst v=_;simp only [fK,if_true];have e1:n=C.n:=hi.E7;have e2:env=fK C.kC C.n (fun _=>true) dn:=hi.Kh;rw [e2,e1]
  ·obtain ⟨d,hd,e⟩:=hi.Rs i h;exact ⟨d,by simp [hd],e⟩
  ·rcases mem_cons.1 hd with rfl|hd
   ·simp [he] at h
   ·exact hi.DW d hd h
  ·have:fK C.kC C.n (gK bG) (⟨p.1,p.2,v,env,b,al⟩ :: dn)=fK C.kC C.n (gK bG) dn:=by
    simp only [fK];rw [if_neg (by rw [hf];simp)]
   rw [this];exact hi.env
  ·cases pre with
   |nil=>
    simp only [nil_append,List.cons.injEq] at h;obtain ⟨rfl,rfl⟩:=h;exact hi.Kh
   |cons x pre=>
    simp only [cons_append,List.cons.injEq] at h;exact hi.Rt pre d ds h.2
  ·rcases mem_cons.1 hd with rfl|hd
   ·exact XC
   ·obtain ⟨wb,q1,q2,q3⟩:=(hi.Ru d hd h).ex;refine ⟨wb,q1,q2,fun hw=>?_⟩;rcases q3 hw with q|⟨k1,k2,k3⟩|⟨k1,k2,k,ob,k3,k4,k5,k6⟩
    ·exact .inl q
    ·exact .inr (.inl ⟨k1,hrd _ _ _ k2,hlg _ k3⟩)
    ·exact .inr (.inr ⟨k1,k2,k,ob,k3,k4,hget _ _ k5,k6⟩)
  ·rcases mem_cons.1 hd with rfl|hd
   ·obtain ⟨e1,e2⟩:=hal h;show _<=b/\b<h'.next
    omega
   ·have:=hi.Ki d hd h;exact ⟨this.1,Nat.lt_of_lt_of_le this.2 pg⟩
  ·rcases mem_cons.1 hd with rfl|hd
   ·rcases mem_cons.1 qI with rfl|qI
    ·exact absurd rfl Rv
    ·have:d'.b<Bu.next:=(hi.Ki d' qI h2).2
     obtain ⟨e1,_⟩:=hal h1;show b≠d'.b;omega
   ·rcases mem_cons.1 qI with rfl|qI
    ·have:d.b<Bu.next:=(hi.Ki d hd h1).2
     obtain ⟨e1,_⟩:=hal h2;show d.b≠b;omega
    ·exact hi.sep d hd d' qI Rv h1 h2
 split at hrun
 ·rename_i hw;split at hrun
  ·rename_i hk;rw [uh hk] at hrun;obtain ⟨v,hv,hK⟩:=fF hrun;have hK:=kV hK;exact step v 0 false lg Bu hK (fun r h=>h) hi.gh hi.ext (dN _) (fun _ _ h=>h) (fun _ _=>.inr trivial) (fun _ _ _ h=>h) ⟨true,hw,by simp,fun _=>.inl ⟨hk,hv⟩⟩ (by simp)
  ·rename_i hk;rw [qd hk] at hrun;obtain ⟨v,hv,hK⟩:=fF hrun;have hK:=kV hK;exact step v 0 false _ Bu hK (fun r h=>by simp [h]) hi.gh hi.ext (dN _) (fun _ _ h=>h) (fun _ _=>.inr trivial) (fun _ _ _ h=>h) ⟨true,hw,by simp,fun _=>.inr (.inl ⟨hk,hv,by simp⟩)⟩ (by simp)
  ·rename_i hk;rw [qQ hk] at hrun;obtain ⟨⟨k,ob⟩,hv,hK⟩:=fF hrun;have hK:=kV hK;obtain ⟨g1,g2⟩:=hi.gh.U2 ob
   refine step (k.val Bu.next) Bu.next true lg (Bu.alloc ob) hK (fun r h=>h) g1 (hi.ext.trans g2) (le_succ _) (fun b' o h=>?_) (fun _ _=>.inr trivial) (fun _ _ _ h=>HO hi.gh.clean ob h)
    ⟨true,hw,by simp,fun _=>.inr (.inr ⟨hk,rfl,k,ob,hv,rfl,by rw [Heap.aW,if_pos rfl],hi.gh.xz⟩)⟩ (fun _=>⟨rfl,lt_succ_self _⟩)
   rw [Heap.aW,if_neg (fun e=>by rw [e,hi.gh.clean _ (dN _)] at h;cases h)];exact h
  ·rename_i hk;simp [rK,hk] at he
 ·rename_i hw;exact step bJ 0 false lg Bu (kV hrun) (fun r h=>h) hi.gh hi.ext (dN _) (fun _ _ h=>h) (fun _ _=>.inr trivial) (fun _ _ _ h=>h) ⟨false,hw,by simp,by simp⟩ (by simp)
 ·cases hrun
theorem mF.advance(hp:rN C.ops C.ms C.L):∀ (R:List (Nat×Oper)) (dn:List Dn) (lg:List Read) (s:St),mF C bG a w μ dn R lg s ->
  ∃ Hj R' MS s',mF C bG a w μ Hj R' MS s'/\(∀ p rest,R'=p :: rest->rK p.2=true)
 |[],dn,lg,s,hi=>⟨dn,[],lg,s,hi,by simp⟩
 |p :: R,dn,lg,s,hi=>by
  cases he:rK p.2 with
  |true=>exact ⟨dn,p :: R,lg,s,hi,fun q rest h=>by cases h;exact he⟩
  |false=>
   obtain ⟨Hj,MS,s',h'⟩:=hi.OT hp he;exact mF.advance hp R Hj MS s' h'
theorem mF.agree(hp:rN C.ops C.ms C.L)(hi:mF C bG a w μ dn R lg s){d:Dn}(hd:d ∈ dn)(hS:gK bG d.i=false)(hr:∀ j,Bl C.ms d.i j=true->gK bG j=true) :
  ∀ t ∈ pO C.ops.toList d.o,fK C.kC C.n (gK bG) dn t=d.env t:=by
 intro t ht;obtain ⟨pre,ds,rfl⟩:=append_of_mem hd;rw [hi.Rt pre d ds rfl];have Of:=(hi.sH hp).1;rw [pairwise_append] at Of;obtain ⟨_,OU,Rw⟩:=Of;rw [pairwise_cons] at OU;rw [Ce (fun x hx hSx XD=>?_)]
 ·simp only [fK];rw [if_neg (by rw [hS];simp)];refine wk fun x hx XD=>hr _ ?_;exact (OU.1 x hx).lb t XD ht
 ·have:=(Rw x hx d (by simp)).la t XD ht;have:=hi.closed _ _ hSx this;rw [hS] at this;cases this
theorem mF.MT(hp:rN C.ops C.ms C.L)(hi:mF C bG a w μ dn (p :: R) lg s)(hr:∀ j,Bl C.ms p.1 j=true->gK bG j=true) :
  ∀ t ∈ pO C.ops.toList p.2,fK C.kC C.n (gK bG) dn t=s.env t:=by
 intro t ht;rw [hi.Kh];exact wk fun x hx XD=>hr _ (((hi.sH hp).2.2 x hx p (by simp)).lb t XD ht)
theorem mF.ran(hp:rN C.ops C.ms C.L)(hi:mF C bG a w μ dn R lg s){d:Dn}(hd:d ∈ dn)(hS:gK bG d.i=false)(hlt:d.i<bG.size)(hr:∀ j,Bl C.ms d.i j=true->gK bG j=true)
  {w':World} {μ':Mu} {vc:Value} (hm:μ.le μ') (hv:VR C.w0 μ' d.v vc) (hg:Good C.w0 μ' s.h w') (hx:Ext C.μb C.hb C.wb μ' s.h w')
  (oU:∀ d' ∈ dn,gK bG d'.i=false->d'.i≠d.i->d'.al=true->(∀ kk,μ d'.b≠some kk)->∀ kk,μ' d'.b≠some kk) :
  mF C (bG.setIfInBounds d.i true) (a.put d.o.dst vc) w' μ' dn R lg s:=by
 have lR:=xI hlt;refine ⟨hi.split,hi.run,hi.E7,hi.Kh,by simpa using hi.size,fun i h=>?_,fun d' qI h=>?_,fun i j h hb=>?_,?_,?_,hg,hx,hi.Rt,fun d' qI h=>?_,hi.Ki,hi.sep⟩
 ·rw [lR] at h;simp only [or_eq_true,decide_eq_true_eq] at h;rcases h with rfl|h
  ·exact ⟨d,hd,rfl⟩
  ·exact hi.Rs i h
 ·rw [lR,hi.DW d' qI h];simp
 ·rw [lR] at h ⊢;simp only [or_eq_true,decide_eq_true_eq] at h ⊢;rcases h with rfl|h
  ·exact .inr (hr j hb)
  ·exact .inr (hi.closed i j h hb)
 ·obtain ⟨pre,ds,rfl⟩:=append_of_mem hd;have Of:=(hi.sH hp).1;rw [pairwise_append] at Of;obtain ⟨_,OU,Rw⟩:=Of;rw [pairwise_cons] at OU;rw [E6 (S:=gK bG) (d:=d) hS (fun k=>lR k) (fun x hx=>((Rw x hx d (by simp)).ne).symm) (fun x hx=>(OU.1 x hx).ne) (fun x hx t ht=>(Rw x hx d (by simp)).dd t ht),Act.HN];exact (hi.env.mono hm).put d.o.dst hv
 ·rw [Act.zW];exact hi.defs.mono hm
 ·rw [lR] at h;simp only [or_eq_false_iff,decide_eq_false_iff_not] at h;obtain ⟨wb,q1,q2,q3⟩:=(hi.Ru d' qI h.2).ex;refine ⟨wb,q1,q2,fun hw=>?_⟩;rcases q3 hw with q|q|⟨k1,k2,k,ob,k3,k4,k5,k6⟩
  ·exact .inl q
  ·exact .inr (.inl q)
  ·exact .inr (.inr ⟨k1,k2,k,ob,k3,k4,k5,oU d' qI h.2 h.1 k2 k6⟩)
theorem pT{P:Program}{ms:List Nat}{i:Nat}{h:Heap}:∀ {lg:List Read},jt P ms i h lg=true->∀ r ∈ lg,Bl ms i r.i=false->sameAt P r.op r.env r.v h=true
 |[],hh,r,hr,hb=>by cases hr
 |r' :: lg,hh,r,hr,hb=>by
  simp only [jt] at hh;rcases mem_cons.1 hr with rfl|hr
  ·rw [if_neg (by rw [hb];simp)] at hh;simp only [and_eq_true] at hh;exact hh.1
  ·split at hh
   ·exact pT hh r hr hb
   ·simp only [and_eq_true] at hh;exact pT hh.2 r hr hb
theorem mF.Uf(hp:rN C.ops C.ms C.L)(hi:mF C bG a w μ dn (p :: R) lg s)(hlt:p.1<bG.size)(hr:∀ j,Bl C.ms p.1 j=true->gK bG j=true)
  {a':Act} {w':World} {μ':Mu} {v:AV} {jL:List oV} {h':Heap} (hrun:fE C.P C.call C.ops.toList C.ms R lg ⟨mo s.env s.n p.2.dst v,s.n,jL,h'⟩ C.K=true)
  (hs:SR C.w0 μ' ⟨mo (fK C.kC C.n (gK bG) dn) C.n p.2.dst v,C.n,jL,h'⟩ a' w') (hx:Ext μ s.h w μ' h' w')
  (hrd:∀ r ∈ lg,fe r.op = .read->Bl C.ms p.1 r.i=false->lQ C.P (evalArg r.env) s.h r.op=some r.v->lQ C.P (evalArg r.env) h' r.op=some r.v) :
  mF C (bG.setIfInBounds p.1 true) a' w' μ' (⟨p.1,p.2,v,s.env,0,false⟩ :: dn) R lg ⟨mo s.env s.n p.2.dst v,s.n,jL,h'⟩:=by
 have lR:=xI hlt;obtain ⟨hf,hne⟩:=hi.fresh hp (r:=p) (by simp);refine ⟨by rw [hi.split];simp,hrun,hi.E7,?_,by simpa using hi.size,fun i h=>?_,fun d' qI h=>?_,fun i j h hb=>?_,?_,hs.defs,hs.gh,hi.ext.trans hx,fun pre d ds h=>?_,fun d' qI h=>?_,fun d' qI h=>?_,fun d1 h1 d2 h2 Rv a1 a2=>?_⟩
 ·show mo s.env s.n p.2.dst v=_;simp only [fK,if_true];rw [hi.E7,hi.Kh]
 ·rw [lR] at h;simp only [or_eq_true,decide_eq_true_eq] at h;rcases h with rfl|h
  ·exact ⟨⟨p.1,p.2,v,s.env,0,false⟩,by simp,rfl⟩
  ·obtain ⟨d,hd,e⟩:=hi.Rs i h;exact ⟨d,by simp [hd],e⟩
 ·rw [lR];rcases mem_cons.1 qI with rfl|qI
  ·simp
  ·rw [hi.DW d' qI h];simp
 ·rw [lR] at h ⊢;simp only [or_eq_true,decide_eq_true_eq] at h ⊢;rcases h with rfl|h
  ·exact .inr (hr j hb)
  ·exact .inr (hi.closed i j h hb)
 ·have:fK C.kC C.n (gK (bG.setIfInBounds p.1 true)) (⟨p.1,p.2,v,s.env,0,false⟩ :: dn)=mo (fK C.kC C.n (gK bG) dn) C.n p.2.dst v:=by
   simp only [fK];rw [if_pos (by rw [lR];simp),pe (S':=gK bG) (fun x hx=>by rw [lR];simp [hne x hx])]
  rw [this];exact hs.env
 ·cases pre with
  |nil=>
   simp only [nil_append,List.cons.injEq] at h;obtain ⟨rfl,rfl⟩:=h;exact hi.Kh
  |cons x pre=>
   simp only [cons_append,List.cons.injEq] at h;exact hi.Rt pre d ds h.2
 ·rw [lR] at h;simp only [or_eq_false_iff,decide_eq_false_iff_not] at h;rcases mem_cons.1 qI with rfl|qI
  ·exact absurd rfl h.1
  ·obtain ⟨wb,q1,q2,q3⟩:=(hi.Ru d' qI h.2).ex;refine ⟨wb,q1,q2,fun hw=>?_⟩;rcases q3 hw with q|⟨k1,k2,k3⟩|⟨k1,k2,k,ob,k3,k4,k5,k6⟩
   ·exact .inl q
   ·refine .inr (.inl ⟨k1,hrd _ k3 k1 ?_ k2,k3⟩)
    cases hb:Bl C.ms p.1 d'.i with
    |false=>rfl
    |true=>have:=hr _ hb;rw [h.2] at this;cases this
   ·have hb:=hi.Ki d' qI k2;refine .inr (.inr ⟨k1,k2,k,ob,k3,k4,?_,fun kk hk=>?_⟩)
    ·show h'.get d'.b=some ob;rw [hx.gd _ hb.2 k6];exact k5
    ·rcases hx.fresh _ kk hk with e|e
     ·exact k6 kk e
     ·omega
 ·rcases mem_cons.1 qI with rfl|qI
  ·cases h
  ·have:=hi.Ki d' qI h;exact ⟨this.1,Nat.lt_of_lt_of_le this.2 hx.next⟩
 ·rcases mem_cons.1 h1 with rfl|h1
  ·cases a1
  ·rcases mem_cons.1 h2 with rfl|h2
   ·cases a2
   ·exact hi.sep d1 h1 d2 h2 Rv a1 a2
end
end Go.AM
namespace Go.AM
open List Nat Bool Option
open Go Go.RowKit
variable {bG:Array Bool}
def Aa(bG:Array Bool):Nat:=((List.range bG.size).filter fun i=>!gK bG i).length
theorem filter_lt{α:Type}(p q:α->Bool)(WN:∀ x,q x=true->p x=true):∀ (l:List α) (x:α),x ∈ l->p x=true->q x=false->(l.filter q).length<(l.filter p).length
 |[],x,h,_,_=>by cases h
 |y :: l,x,h,h1,h2=>by
  have le:∀ l:List α,(l.filter q).length<=(l.filter p).length:=by
   intro l
   induction l with
   |nil=>simp
   |cons z l ih=>
    simp only [filter_cons];by_cases hq:q z=true
    ·rw [if_pos hq,if_pos (WN z hq)];simp;exact ih
    ·rw [if_neg hq];split
     ·simp;omega
     ·exact ih
  simp only [filter_cons];rcases mem_cons.1 h with rfl|h
  ·rw [if_pos h1,if_neg (by rw [h2];simp)];have:=le l;simp;omega
  ·have ih:=filter_lt p q WN l x h h1 h2;by_cases hq:q y=true
   ·rw [if_pos hq,if_pos (WN y hq)];simp;exact ih
   ·rw [if_neg hq];split
    ·simp;omega
    ·exact ih
theorem MU{i:Nat}(hi:i<bG.size)(h:gK bG i=false):Aa (bG.setIfInBounds i true)<Aa bG:=by
 unfold Aa;rw [Array.size_setIfInBounds];refine filter_lt _ _ (fun x hx=>?_) _ i (by simpa using hi) (by simp [h]) (by rw [xI hi];simp);rw [xI hi] at hx;simp only [not_eq_true',or_eq_false_iff] at hx;simp [hx.2]
theorem Kj(h:Aa bG=0):∀ i,i<bG.size->gK bG i=true:=by
 intro i hi;unfold Aa at h;have:=eq_nil_of_length_eq_zero h;rw [filter_eq_nil_iff] at this;simpa using this i (by simpa using hi)
theorem MV{ops:Array Oper}(hs:bG.size=ops.size)(he:∀ (i:Nat) (o:Oper),ops[i]?=some o->∀ e ∈ o.after.toList,Region.binds .any e=true->e.on<i)(h:Region.ready .any ops bG = []) :
  ∀ i,i<ops.size->gK bG i=true:=by
 intro i
 induction i using Nat.strongRecOn with
 |ind i ih=>
  intro hi
  cases hl:gK bG i with
  |true=>rfl
  |false=>
   exfalso;have ho:ops[i]?=some ops[i]:=by simp [hi]
   have:i ∈ Region.ready .any ops bG:=by
    refine mem_ready.2 ⟨?_,_,ho,fun e MW hb=>?_⟩
    ·have:=hl;unfold gK at this;simp only [Array.getD_eq_getD_getElem?] at this ⊢;rw [Array.getElem?_eq_getElem (by omega)] at this ⊢;simpa using this
    ·have:=he i _ ho e (by simpa using MW) hb;exact ih e.on this (by omega)
   rw [h] at this;cases this
section
variable {C:Rr} {bG:Array Bool} {a:Act} {w:World} {μ:Mu} {dn:List Dn} {R:List (Nat×Oper)} {lg:List Read} {s:St}
theorem mF.done(hp:rN C.ops C.ms C.L)(hi:mF C bG a w μ dn R lg s)(lM:∀ i,i<C.ops.size->gK bG i=true):C.K s=true/\SR C.w0 μ s a w/\Ext C.μb C.hb C.wb μ s.h w:=by
 have hR:R = []:=by
  cases R with
  |nil=>rfl
  |cons p R=>
   have hm:p ∈ C.L:=by rw [hi.split];simp
   have hlt:=(Array.getElem?_eq_some_iff.1 (hp.mem p hm)).1;have:=(hi.fresh hp (r:=p) (by simp)).1;rw [lM _ hlt] at this;cases this
 subst hR;have hrun:=hi.run;simp only [fE] at hrun;refine ⟨hrun,⟨?_,hi.defs,hi.gh⟩,hi.ext⟩
 have:fK C.kC C.n (gK bG) dn=s.env:=by
  rw [hi.Kh];refine pe fun x hx=>?_;have hm:(x.i,x.o) ∈ C.L:=by rw [hi.split];simp;exact ⟨x,hx,rfl,rfl⟩
  exact lM _ (Array.getElem?_eq_some_iff.1 (hp.mem _ hm)).1
 have he:=hi.env;rw [this] at he;rw [hi.E7];exact he
theorem Kk(hp:rN C.ops C.ms C.L)(hc:fS C.P C.call){Q:Exit->Act->World->Prop}(hQ:∀ s' a' w' μ',C.K s'=true->SR C.w0 μ' s' a' w'->Ext C.μb C.hb C.wb μ' s'.h w'->Q .normal a' w') :
  ∀ (fuel:Nat) (bG:Array Bool) (a:Act) (w:World) (μ:Mu) (dn:List Dn) (R:List (Nat×Oper)) (lg:List Read) (s:St),mF C bG a w μ dn R lg s->Aa bG<=fuel->wpAny C.P .any C.ops Q fuel bG a w:=by
 have fin:∀ (bG:Array Bool) (a:Act) (w:World) (μ:Mu) (dn:List Dn) (R:List (Nat×Oper)) (lg:List Read) (s:St),mF C bG a w μ dn R lg s->Region.ready .any C.ops bG = []->Q .normal a w:=by
  intro bG a w μ dn R lg s hi hr;obtain ⟨h1,h2,h3⟩:=hi.done hp (MV hi.size hp.jl hr);exact hQ _ _ _ _ h1 h2 h3
 intro fuel
 induction fuel with
 |zero=>
  intro bG a w μ dn R lg s hi hl;have lM:=Kj (le_zero.1 hl)
  have hr:Region.ready .any C.ops bG = []:=by
   cases h:Region.ready .any C.ops bG with
   |nil=>rfl
   |cons i l=>
    have hm:i ∈ Region.ready .any C.ops bG:=(by rw [h];simp);obtain ⟨h1,o,ho,_⟩:=mem_ready.1 hm;have hlt:=(Array.getElem?_eq_some_iff.1 ho).1;have:=lM i (by rw [hi.size];exact hlt);unfold gK at this;simp only [Array.getD_eq_getD_getElem?] at this h1;rw [Array.getElem?_eq_getElem (by rw [hi.size];exact hlt)] at this h1;simp at this h1;rw [this] at h1;cases h1
  exact ⟨hr,fin _ _ _ _ _ _ _ _ hi hr⟩
 |succ fuel ih=>
  intro bG a w μ dn R lg s hi0 hl;refine ⟨fin _ _ _ _ _ _ _ _ hi0,fun i MW=>?_⟩;obtain ⟨dn,R,lg,s,hi,Ug⟩:=hi0.advance hp;obtain ⟨h1,o,ho,_⟩:=mem_ready.1 MW;have hlt:i<C.ops.size:=(Array.getElem?_eq_some_iff.1 ho).1;have HS:i<bG.size:=by rw [hi.size];exact hlt
  have hS:gK bG i=false:=by
   unfold gK;simp only [Array.getD_eq_getD_getElem?] at h1 ⊢;rw [Array.getElem?_eq_getElem HS] at h1 ⊢;simpa using h1
  have hr:∀ j,Bl C.ms i j=true->gK bG j=true:=fun j hb=>by
   rw [hp.mV] at hb;exact MP (by rw [<- hp.mV];exact hi.closed) MW hb
  have B6:Aa (bG.setIfInBounds i true)<=fuel:=by have:=MU HS hS;omega
  obtain ⟨p,hpL,Rx⟩:=hp.cover i hlt;have Vc:=hp.mem p hpL;rw [Rx,ho] at Vc;obtain ⟨pi,po⟩:=p;simp only at Rx Vc;obtain rfl:=Rx;obtain rfl:=Option.some.inj Vc;have hρ:∀ x,VR C.w0 μ (evalArg (fK C.kC C.n (gK bG) dn) x) (a.eval x):=SR.eval (s:=⟨fK C.kC C.n (gK bG) dn,C.n,s.defs,s.h⟩) ⟨hi.env,hi.defs,hi.gh⟩;have OV:∀ b,iQ C.ops.toList o (fK C.kC C.n (gK bG) dn)=some b->Region.wanted o (yielded C.ops a.tmps)=b:=fun b hb=>kZ (s:=⟨fK C.kC C.n (gK bG) dn,C.n,s.defs,s.h⟩) hi.env hb;unfold wpOp;simp only [ho];rw [hi.split,mem_append,mem_map] at hpL;rcases hpL with ⟨d,hd,QL⟩|hpR
  ·
   rw [mem_reverse] at hd;simp only [Prod.mk.injEq] at QL;obtain ⟨rfl,rfl⟩:=QL;have xh:=hi.agree hp hd hS hr;have OW:∀ x ∈ d.o.op.operands,evalArg (fK C.kC C.n (gK bG) dn) x=evalArg d.env x:=HR xh;obtain ⟨wb,q1,q2,q3⟩:=(hi.Ru d hd hS).ex;rw [<- xN xh] at q1;rw [OV wb q1]
   cases wb with
   |false=>
    simp only [false_eq_true,if_false];have uU:=hi.ran hp hd hS HS hr (Mu.le.refl μ) (vc:=undef) (by rw [q2 rfl];exact VR.bJ) hi.gh hi.ext (fun _ _ _ _ _ h=>h);exact ih _ _ _ _ _ _ _ _ uU B6
   |true=>
    rw [if_pos rfl];refine .inl ?_;rcases q3 rfl with ⟨k1,k2⟩|⟨k1,k2,k3⟩|⟨k1,k2,k,ob,k3,k4,k5,k6⟩
    ·rw [<- z6 OW] at k2;obtain ⟨vc,e1,e2⟩:=HF hρ k1 k2;unfold Oper.wp;rw [e1 w,Oper.upon_value];exact ih _ _ _ _ _ _ _ _ (hi.ran hp hd hS HS hr (Mu.le.refl μ) e2 hi.gh hi.ext (fun _ _ _ _ _ h=>h)) B6
    ·rw [<- z7 OW] at k2;obtain ⟨vc,e1,e2⟩:=HI hi.gh hρ k1 k2;unfold Oper.wp;rw [e1,Oper.upon_value];exact ih _ _ _ _ _ _ _ _ (hi.ran hp hd hS HS hr (Mu.le.refl μ) e2 hi.gh hi.ext (fun _ _ _ _ _ h=>h)) B6
    ·rw [<- xG OW] at k3;obtain ⟨O,n,f,hm⟩:=E0 (w0:=C.w0) (μ:=μ) hρ k1 k3;have hb:=hi.Ki d hd k2;have LK:=hi.gh.OA hb.2 k6 k5 O n (hm.obj _);have gm:=hi.ext.OA (n:=n) hb.1 k6 O;unfold Oper.wp;rw [hm.run w,Oper.upon_value];refine ih _ _ _ _ _ _ _ _ (hi.ran hp hd hS HS hr (Mu.yN k6) (by rw [k4];exact hm.val _ _ _ (Mu.add_same _ _ _)) LK gm (fun d' qI _ hne hal hun kk hk=>?_)) B6;rw [Mu.jk] at hk;have:d'.b≠d.b:=hi.sep d' qI d hd hne hal k2;rw [if_neg this] at hk;exact hun kk hk
  ·
   have hRp:∃ rest,R=(pi,o) :: rest:=by
    cases R with
    |nil=>cases hpR
    |cons q rest=>
     rcases mem_cons.1 hpR with e|hq
     ·exact ⟨rest,by rw [e]⟩
     ·exfalso;have pq:=(hi.sH hp).2.1;rw [pairwise_cons] at pq;have hb:=(pq.1 _ hq).JF (Ug q rest rfl);have h2:=hr _ hb;have:=(hi.fresh hp (r:=q) (by simp)).1;rw [h2] at this;cases this
   obtain ⟨rest,rfl⟩:=hRp;have Vd:=Ug _ _ rfl
   have hk:fe o.op = .JF:=by
    unfold rK at Vd;simp only at Vd;cases hk:fe o.op<;>simp [hk] at Vd;rfl
   have xh:=hi.MT hp hr;have OW:∀ x ∈ o.op.operands,evalArg (fK C.kC C.n (gK bG) dn) x=evalArg s.env x:=HR (ops:=C.ops.toList) xh;obtain ⟨agS,ns,Uh,WH⟩:=s;have hrun:=hi.run;simp only [fE] at hrun;rw [<- xN (ops:=C.ops.toList) xh] at hrun;split at hrun
   ·rename_i hw;rw [OV _ hw,if_pos rfl];simp only [hk] at hrun;rw [<- Gm OW] at hrun;refine .inl ?_;have qJ:SR C.w0 μ ⟨fK C.kC C.n (gK bG) dn,C.n,Uh,WH⟩ a w:=⟨hi.env,hi.defs,hi.gh⟩
    refine Bt qJ hc ⟨fun v jL h' a' w' μ' hK gv hx=>?_,fun v vc h' w' μ' hK _ _ _=>by cases hK⟩ hrun;simp only at hK;split at hK
    ·rename_i hsr;refine ih _ _ _ _ _ _ _ _ (hi.Uf hp HS hr (kV hK) gv hx (fun r qi Ve hb hv=>?_)) B6;exact HP Ve (pT hsr r qi hb)
    ·cases hK
   ·rename_i hw;rw [OV _ hw];simp only [false_eq_true,if_false];have qJ:SR C.w0 μ ⟨fK C.kC C.n (gK bG) dn,C.n,Uh,WH⟩ a w:=⟨hi.env,hi.defs,hi.gh⟩
    have LL:=qJ.left o.dst (h':=WH) VR.bJ hi.gh (Mu.le.refl μ);exact ih _ _ _ _ _ _ _ _ (hi.Uf hp HS hr (v:=bJ) (kV hrun) LL (Ext.refl _ _ _) (fun r _ _ _ hv=>hv)) B6
   ·cases hrun
end
theorem LM{P:Program}{w0 w:World}{μ:Mu}{s:St}{a:Act}(hm:P.follows .mixedOrders=true){call:jK}(hc:fS P call){id:Nat}{ops:Array Oper}{HT:UZ}(hp:Hu ops.toList=some HT){K:St->Bool}
  {Q:Exit->Act->World->Prop} (hs:SR w0 μ s a w) (hQ:∀ s' a' w' μ',K s'=true->SR w0 μ' s' a' w'->Ext μ s.h w μ' s'.h w'->Q .normal a' w')
  (h:fE P call ops.toList HT.ms HT.L [] s K=true):(Code.region id ops true).wp P Q a w:=by
 refine wp_region_any hm ?_
 let C:Rr:=⟨P,call,ops,HT.ms,HT.L,K,w0,μ,s.h,w,s.env,s.n⟩
 have sE:rN C.ops C.ms C.L:=Kg hp
 have hin:∀ k,gK (Array.replicate ops.size false) k=false:=fun k=>by
  unfold gK;simp only [Array.getD_eq_getD_getElem?,Array.getElem?_replicate];split<;>rfl
 have hi:mF C (Array.replicate ops.size false) a { w with drawn:=w.drawn+1 } μ [] HT.L [] s:=by
  refine ⟨rfl,h,rfl,rfl,by simp [C],fun i hh=>?_,by simp,fun i j hh=>?_,hs.env,hs.defs,hs.gh.same rfl rfl rfl rfl,?_,by simp,by simp,by simp,by simp⟩
  ·rw [hin] at hh;cases hh
  ·rw [hin] at hh;cases hh
  ·exact ⟨Mu.le.refl μ,fun _ _ _=>rfl,fun _ _ h=>.inl h,dN _,dN _,fun _ _ _=>rfl,fun _ _ h=>.inl h,fun _ _ h=>.inl h⟩
 refine Kk sE hc hQ _ _ _ _ _ _ _ _ _ hi ?_;unfold Aa;refine Nat.le_trans (length_filter_le _ _) ?_;simp [C]
end Go.AM