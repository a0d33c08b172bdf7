/- Parts of a proof, merged out of smaller texts: the abstract machine and what functions do. Conditions: none. -/
import Derived.Test.YtmkffehchicgaaaGreatCh6
import Derived.Defers
import Derived.Orders
set_option linter.unusedSimpArgs false
set_option linter.unusedVariables false
namespace Go.AM
open Go Go.RowKit
structure SE (w0:World) (μ:Mu) (d:mu) (D:Deferred):Prop where
 ex:∃ cap args:List Value,D = { target:=.fn (.func d.f) cap.toArray,args:=args.toArray }∧eC w0 μ d.args args∧eC w0 μ d.cap cap
inductive uH (w0:World) (μ:Mu):List mu→List Deferred→Prop where
 |nil:uH w0 μ [] []
 |cons {d:mu} {D:Deferred} {ds:List mu} {Ds:List Deferred} (h:SE w0 μ d D) (t:uH w0 μ ds Ds):uH w0 μ (d :: ds) (D :: Ds)
def zW(w0:World)(μ:Mu)(env:Env)(n:Nat)(tmps:Array Value):Prop:=tmps.size=n∧∀ t,VR w0 μ (env t) (tmps.getD t undef)
structure SR (w0:World) (μ:Mu) (s:St) (a:Act) (w:World):Prop where
 env:zW w0 μ s.env s.n a.tmps
 defs:uH w0 μ s.defs a.defers
 good:Good w0 μ s.h w
section
variable {P:Program} {w0 w:World} {μ μ':Mu} {h h':ag} {s:St} {a:Act}
theorem uH.mono(hm:μ.le μ'){ds:List mu}{Ds:List Deferred}(h:uH w0 μ ds Ds):uH w0 μ' ds Ds:=by
 induction h with
 |nil=>exact .nil
 |cons h t ih=>obtain ⟨c,x,e,a,b⟩:=h;exact .cons ⟨c,x,e,a.mono hm,b.mono hm⟩ ih
theorem zW.mono(hm:μ.le μ'){env:Env}{n:Nat}{tmps:Array Value}(h:zW w0 μ env n tmps):zW w0 μ' env n tmps:=⟨h.1,fun t=>(h.2 t).mono hm⟩
theorem bt(env:Env)(d:Nat)(v:AV)(t:Nat):aa env d v t=if t=d then v else env t:=by
 unfold aa
 cases h:Nat.beq t d with
 |true=>rw [if_pos (Nat.eq_of_beq_eq_true h)]
 |false=>rw [if_neg (Nat.ne_of_beq_eq_false h)]
theorem jO{env:Env}{n:Nat}{dst:Option Tmp}{v:AV}{k:Env→Bool}(h:gG env n dst v k=true):k (kK env n dst v)=true:=by
 cases dst with
 |none=>exact h
 |some d=>
  simp only [gG] at h
  simp only [kK]
  cases hb:Nat.ble (d+1) n with
  |false=>rw [hb] at h;cases h
  |true=>
   rw [hb] at h
   have:d<n:=Nat.le_of_ble_eq_true hb
   rw [if_pos this];exact h
theorem zW.put{env:Env}{n:Nat}{tmps:Array Value}(h:zW w0 μ env n tmps)(dst:Option Tmp){v:AV}{vc:Value}(hv:VR w0 μ v vc):zW w0 μ (kK env n dst v) n (match dst with|some d=>tmps.setIfInBounds d vc|none=>tmps):=by
 cases dst with
 |none=>exact h
 |some d=>
  refine ⟨by simpa using h.1,fun t=>?_⟩
  have ht:=h.2 t
  simp only [kK]
  by_cases hd:d<n
  ·rw [if_pos hd]
   rw [bt]
   by_cases e:t=d
   ·subst e
    rw [if_pos rfl]
    have:(tmps.setIfInBounds t vc).getD t undef=vc:=by simp [Array.getD,show t<tmps.size by rw [h.1];exact hd]
    rw [this];exact hv
   ·rw [if_neg e]
    have:(tmps.setIfInBounds d vc).getD t undef=tmps.getD t undef:=by
     simp only [Array.getD_eq_getD_getElem?]
     rw [Array.getElem?_setIfInBounds_ne (fun q=>e q.symm)]
    rw [this];exact ht
  ·rw [if_neg hd]
   have:(tmps.setIfInBounds d vc)=tmps:=Array.setIfInBounds_eq_of_size_le (h.1▸Nat.le_of_not_lt hd)
   rw [this];exact ht
theorem Act.EP(a:Act)(dst:Option Tmp)(v:Value):(a.put dst v).tmps=(match dst with|some d=>a.tmps.setIfInBounds d v|none=>a.tmps):=by cases dst<;>rfl
theorem Act.xw(a:Act)(dst:Option Tmp)(v:Value):(a.put dst v).defers=a.defers:=by cases dst<;>rfl
theorem SR.left(hs:SR w0 μ s a w)(dst:Option Tmp){v:AV}{vc:Value}{w':World}(hv:VR w0 μ' v vc)(hg:Good w0 μ' h' w')(hm:μ.le μ'):SR w0 μ' (s.Ow h' dst v) (a.put dst vc) w':=
 ⟨by rw [Act.EP];exact (hs.env.mono hm).put dst hv,by rw [Act.xw];exact hs.defs.mono hm,hg⟩
theorem SR.Pm(hs:SR w0 μ s a w){w':World}(hg:Good w0 μ' h' w')(hm:μ.le μ'):SR w0 μ' ⟨s.env,s.n,s.defs,h'⟩ a w':=
 ⟨hs.env.mono hm,hs.defs.mono hm,hg⟩
theorem SR.eval(hs:SR w0 μ s a w):∀ x,VR w0 μ (evalArg s.env x) (a.eval x):=by
 intro x
 cases x with
 |tmp t=>exact hs.env.2 t
 |const v=>exact VR.ofConst v
 |global g=>exact .undef _
 |func f=>exact .func f [] [] [] [] rfl rfl (by simp) (by simp)
theorem jS(hs:zW w0 μ s.env s.n a.tmps){ops:Array Oper}{o:Oper}{b:Bool}(h:g9 ops.toList o s.env=some b):Region.wanted o (yielded ops a.tmps)=b:=by
 unfold g9 at h
 unfold Region.wanted
 split at h
 ·rename_i hg;rw [hg];simpa using h
 ·rename_i j want hg
  rw [hg]
  simp only
  split at h
  ·rename_i g hj
   split at h
   ·rename_i d hd
    have hj':ops[j]?=some g:=by rw [Array.getElem?_toList] at hj;exact hj
    have ht:=hs.2 d
    have key:∀ v:Value,VR w0 μ (s.env d) v→v=a.tmps.getD d undef→(yielded ops a.tmps j==some want)=b:=by
     intro v hv he
     unfold yielded
     simp only [hj',Option.bind_some,hd]
     split at h
     ·rename_i b' hb
      rw [hb] at hv
      cases h
      rw [hv.gJ] at he
      by_cases hlt:d<a.tmps.size
      ·have:a.tmps[d]?=some (.bool b'):=by
        simp [Array.getD,hlt] at he
        simp [hlt,he]
       rw [this];simp
      ·simp [Array.getD,hlt,undef] at he
     ·rename_i vs hb
      rw [hb] at hv
      cases h
      obtain ⟨us,rfl,_⟩:=hv.Co
      by_cases hlt:d<a.tmps.size
      ·have:a.tmps[d]?=some (.tuple us.toArray):=by
        simp [Array.getD,hlt] at he
        simp [hlt,he]
       rw [this];simp
      ·have:a.tmps[d]?=none:=Array.getElem?_eq_none (Nat.le_of_not_lt hlt)
       rw [this];simp
     ·cases h
    exact key _ ht rfl
   ·cases h
  ·cases h
def zX(w0:World)(μ:Mu)(h:ag)(w:World)(K:Out→ag→Bool):Ending→World→Prop
 |.returned vc,w'=>∃ v h' μ',K (.ret v) h'=true∧VR w0 μ' v vc∧Good w0 μ' h' w'∧Ext μ h w μ' h' w'
 |.panicked chain,w'=>∃ v vc h' μ',K (.panic v) h'=true∧chain = [{ v:=vc,recovered:=false }]∧VR w0 μ' v vc∧Good w0 μ' h' w'∧Ext μ h w μ' h' w'
 |.outgrown,_=>False
def Enters(P:Program)(f:FuncId):Prop:=∃ fn c,P.funcs[f]?=some fn∧fn.body=some c∧fn.name≠ "runtime.NumGoroutine"
theorem uI{f:FuncId}(he:Enters P f)(args:Array Value):(callFunc f args).run P w = .ok (.enter f args) w:=by
 obtain ⟨fn,c,h1,h2,h3⟩:=he
 simp [callFunc,h1,h2,h3]
def fE(P:Program)(call:gW):Prop:=
 ∀ f args h K,call f args h K=true→Enters P f∧∀ (w0:World) (μ:Mu) (w:World) (vs:List Value),Good w0 μ h w→eC w0 μ args vs→Calls P f vs.toArray w (zX w0 μ h w K)
structure Cs (w0:World) (μ:Mu) (s:St) (a:Act) (w:World) (dst:Option Tmp) (K:R→Bool) (next:Act→World→Prop) (Q:Exit→Act→World→Prop):Prop where
 ok:∀ (v:AV) (defs':List mu) (h':ag) (a':Act) (w':World) (μ':Mu),K (.ok v defs' h')=true→SR w0 μ' ⟨kK s.env s.n dst v,s.n,defs',h'⟩ a' w'→Ext μ s.h w μ' h' w'→next a' w'
 panic:∀ (v:AV) (vc:Value) (h':ag) (w':World) (μ':Mu),K (.panic v h')=true→VR w0 μ' v vc→SR w0 μ' ⟨s.env,s.n,s.defs,h'⟩ a w'→Ext μ s.h w μ' h' w'→Q (.panic [{ v:=vc,recovered:=false }]) a w'
theorem zY(hs:SR w0 μ s a w){o:Oper}{K:R→Bool}{next:Act→World→Prop}{Q:Exit→Act→World→Prop}(hl:Cs w0 μ s a w o.dst K next Q){call:gW}
  (h:nt o.op P call s.env s.defs s.h K=true):o.wp P a w next Q:=by
 obtain ⟨v,h',vc,w',μ',hK,hr,hv,hg,hx⟩:=OD hs.good hs.eval h
 unfold Oper.wp
 rcases hr with hr|⟨rfl,hr⟩
 ·rw [hr];exact hl.ok _ _ _ _ _ _ hK (hs.left o.dst hv hg hx.mono) hx
 ·rw [hr];exact hl.ok _ _ _ _ _ _ hK (hs.left o.dst hv hg hx.mono) hx
theorem LU(hs:SR w0 μ s a w){call:gW}(hc:fE P call){o:Oper}{c:Call}(ho:o.op = .call c){K:R→Bool}{next:Act→World→Prop}{Q:Exit→Act→World→Prop}(hl:Cs w0 μ s a w o.dst K next Q)
  (h:tJ c P call s.env s.defs s.h K=true):o.wp P a w next Q:=by
 obtain ⟨cal,args,ts⟩:=c
 cases cal with
 |builtin b=>exact zY hs hl (call:=call) (by rw [ho];exact h)
 |invoke r m=>exact zY hs hl (call:=call) (by rw [ho];exact h)
 |value f=>
  simp only [tJ,zc] at h
  split at h
  ·rename_i g first cap hf
   obtain ⟨he,hcalls⟩:=hc _ _ _ _ h
   have hfv:=hs.eval f
   rw [hf] at hfv
   generalize hfe:a.eval f=fv at hfv
   cases hfv
   rename_i us vs h1 r1 h2 r2
   have hargs:eC w0 μ (args.toList.map (evalArg s.env)) (args.toList.map a.eval):=eC.map _ fun x _=>hs.eval x
   have hall:=(eC.mk h1 r1).append (hargs.append (eC.mk h2 r2))
   have hcl:=hcalls w0 μ w _ hs.good hall
   have hrun:(execOp a.eval o).run P w = .ok (.enter g (us++(args.toList.map a.eval++vs)).toArray) w:=by
    have e:us.toArray++args.map a.eval++vs.toArray=(us++(args.toList.map a.eval++vs)).toArray:=by
     apply Array.ext';simp
    simp only [execOp,ho,resolve,hfe,Deferred.ofValue,Sem.run_bind,Sem.run_pure,Result.andThen_ok,invoke,uI he,e]
   unfold Oper.wp
   rw [hrun,Oper.upon_enter]
   refine Calls.mono hcl fun e w' hR=>?_
   cases e with
   |returned vc=>
    obtain ⟨v,h',μ',hK,hv,hg,hx⟩:=hR
    exact hl.ok _ _ _ _ _ _ hK (hs.left o.dst hv hg hx.mono) hx
   |panicked chain=>
    obtain ⟨v,vc,h',μ',hK,rfl,hv,hg,hx⟩:=hR
    exact hl.panic _ _ _ _ _ hK hv (hs.Pm hg hx.mono) hx
   |outgrown=>exact hR.elim
  ·cases h
theorem Ki(hs:SR w0 μ s a w){call:gW}{o:Oper}{c:Call}(ho:o.op = .defer c){K:R→Bool}{next:Act→World→Prop}{Q:Exit→Act→World→Prop}(hl:Cs w0 μ s a w o.dst K next Q)
  (h:uz c P call s.env s.defs s.h K=true):o.wp P a w next Q:=by
 obtain ⟨cal,args,ts⟩:=c
 cases cal with
 |builtin b=>cases h
 |invoke r m=>cases h
 |value f=>
  simp only [uz] at h
  split at h
  ·rename_i g first cap hf
   have hfv:=hs.eval f
   rw [hf] at hfv
   generalize hfe:a.eval f=fv at hfv
   cases hfv
   rename_i us vs h1 r1 h2 r2
   have hargs:eC w0 μ (args.toList.map (evalArg s.env)) (args.toList.map a.eval):=eC.map _ fun x _=>hs.eval x
   have hall:=(eC.mk h1 r1).append hargs
   have hrun:(execOp a.eval o).run P w = .ok (.defer { target:=.fn (.func g) vs.toArray,args:=(us++args.toList.map a.eval).toArray }) w:=by
    have e:us.toArray++args.map a.eval=(us++args.toList.map a.eval).toArray:=by
     apply Array.ext';simp
    simp only [execOp,ho,resolve,hfe,Deferred.ofValue,Sem.run_bind,Sem.run_pure,Result.andThen_ok,e]
   unfold Oper.wp
   rw [hrun,Oper.upon_defer]
   have hs':SR w0 μ (St.mk s.env s.n (⟨g,first++args.toList.map (evalArg s.env),cap⟩ :: s.defs) s.h) { a with defers:={ target:=.fn (.func g) vs.toArray,args:=(us++args.toList.map a.eval).toArray } :: a.defers } w:=
    ⟨hs.env,.cons ⟨vs,_,rfl,hall,⟨h2,r2⟩⟩ hs.defs,hs.good⟩
   exact hl.ok _ _ _ _ _ _ h (hs'.left o.dst VR.bD hs.good (Mu.le.refl μ)) (Ext.refl _ _ _)
  ·cases h
theorem Kj(hs:SR w0 μ s a w){call:gW}{o:Oper}{x:Operand}(ho:o.op = .panic x){K:R→Bool}{next:Act→World→Prop}{Q:Exit→Act→World→Prop}(hl:Cs w0 μ s a w o.dst K next Q)
  (h:uB x P call s.env s.defs s.h K=true):o.wp P a w next Q:=by
 simp only [uB] at h
 split at h
 ·rename_i t v hx
  have hv:=hs.eval x
  rw [hx] at hv
  generalize he:a.eval x=xv at hv
  cases hv
  rename_i vc hvc
  have hrun:(execOp a.eval o).run P w = .halt (.panic (.iface t vc)) w:=by
   simp [execOp,ho,he,Instr.panic]
  unfold Oper.wp
  rw [hrun,Oper.upon_panic]
  exact hl.panic _ _ _ _ _ h (.iface t v vc hvc) hs (Ext.refl _ _ _)
 ·cases h
theorem xy{defs:List mu}{K:R→Bool}:∀ {L:List (AV×ag)},kr defs K L=true→∀ p ∈ L,K (.ok p.1 defs p.2)=true
 |[],_,p,hp=>by cases hp
 |q :: L,h,p,hp=>by
  simp only [kr,Bool.and_eq_true] at h
  rcases List.mem_cons.1 hp with rfl|hp
  ·exact h.1
  ·exact xy h.2 p hp
theorem LV(hs:SR w0 μ s a w){call:gW}{o:Oper}{x:Operand}{b:Bool}(ho:o.op = .next x b){K:R→Bool}{next:Act→World→Prop}{Q:Exit→Act→World→Prop}(hl:Cs w0 μ s a w o.dst K next Q)
  (h:Dy x b P call s.env s.defs s.h K=true):o.wp P a w next Q:=by
 obtain ⟨L,hL,hh⟩:=fc h
 obtain ⟨p,vc,w',μ',hp,hr,hv,hg,hx⟩:=Kg (P:=P) hs.good (hs.eval x) hL o.type
 have hrun:(execOp a.eval o).run P w = .ok (.value vc) w':=by simp [execOp,ho,hr]
 unfold Oper.wp
 rw [hrun]
 exact hl.ok _ _ _ _ _ _ (xy hh p hp) (hs.left o.dst hv hg hx.mono) hx
theorem zk(hs:SR w0 μ s a w){call:gW}(hc:fE P call){o:Oper}{K:R→Bool}{next:Act→World→Prop}{Q:Exit→Act→World→Prop}(hl:Cs w0 μ s a w o.dst K next Q)
  (h:iA o.op P call s.env s.defs s.h K=true):o.wp P a w next Q:=by
 cases ho:o.op<;>rw [ho] at h<;>simp only [iA] at h
 case call c=>exact LU hs hc ho hl h
 case defer c=>exact Ki hs ho hl h
 case panic x=>exact Kj hs ho hl h
 case next x b=>exact LV hs ho hl h
 all_goals exact zY hs hl (call:=call) (by rw [ho];exact h)
structure vQ (w0:World) (μ:Mu) (h:ag) (w:World) (K:RS→Bool) (Q:Exit→Act→World→Prop):Prop where
 ok:∀ (s':St) (a':Act) (w':World) (μ':Mu),K (.ok s')=true→SR w0 μ' s' a' w'→Ext μ h w μ' s'.h w'→Q .normal a' w'
 panic:∀ (v:AV) (vc:Value) (s':St) (a':Act) (w':World) (μ':Mu),K (.panic v s')=true→VR w0 μ' v vc→SR w0 μ' s' a' w'→Ext μ h w μ' s'.h w'→Q (.panic [{ v:=vc,recovered:=false }]) a' w'
theorem vQ.after{K:RS→Bool}{Q:Exit→Act→World→Prop}(hl:vQ w0 μ h w K Q){w':World}(hx:Ext μ h w μ' h' w'):vQ w0 μ' h' w' K Q:=
 ⟨fun s2 a2 w2 μ2 k2 r2 x2=>hl.ok s2 a2 w2 μ2 k2 r2 (hx.trans x2),fun v vc s2 a2 w2 μ2 k2 v2 r2 x2=>hl.panic v vc s2 a2 w2 μ2 k2 v2 r2 (hx.trans x2)⟩
theorem GS{call:gW}(hc:fE P call){ops:Array Oper}{K:RS→Bool}{Q:Exit→Act→World→Prop}:∀ (l:List Oper) (i:Nat) (s:St) (a:Act) (w:World) (μ:Mu),(∀ j o,l[j]?=some o→ops[i+j]?=some o) →
  SR w0 μ s a w→(hl:vQ w0 μ s.h w K Q)→lI P call ops.toList l s K=true→wpOps P ops Q (List.range' i l.length) a w
 |[],i,s,a,w,μ,hi,hs,hl,h=>by
  simp only [List.length_nil,List.range'_zero,wpOps]
  exact hl.ok _ _ _ _ h hs (Ext.refl _ _ _)
 |o :: rest,i,s,a,w,μ,hi,hs,hl,h=>by
  have hio:ops[i]?=some o:=by simpa using hi 0 o rfl
  obtain ⟨env,n,defs,hp⟩:=s
  simp only [List.length_cons,List.range'_succ,wpOps,hio]
  simp only [lI] at h
  have hi':∀ j o',rest[j]?=some o'→ops[i+1+j]?=some o':=fun j o' hj=>by
   have:=hi (j+1) o' (by simpa using hj)
   rwa [show i+1+j=i+(j+1) by omega]
  split at h
  ·rename_i hw
   rw [jS hs.env hw,if_pos rfl]
   refine .inl (zk hs hc ⟨fun v defs' h' a' w' μ' hK hs' hx=>?_,fun v vc h' w' μ' hK hv hs' hx=>?_⟩ h)
   ·exact GS hc rest (i+1) _ a' w' μ' hi' hs' (hl.after hx) (jO hK)
   ·exact hl.panic v vc _ a w' μ' hK hv hs' hx
  ·rename_i hw
   rw [jS hs.env hw]
   simp only [Bool.false_eq_true,if_false]
   have hs':=hs.left o.dst (h':=hp) VR.bD hs.good (Mu.le.refl μ)
   exact GS hc rest (i+1) ⟨kK env n o.dst bD,n,defs,hp⟩ _ w μ hi' hs' hl (jO h)
  ·cases h
end
end Go.AM
namespace Go.AM
open Go Go.RowKit
section
variable {P:Program} {ρ ρ':Operand→AV}
theorem mQ{c:Call}(h:∀ x ∈ c.operands,ρ x = ρ' x):c.args.toList.map ρ=c.args.toList.map ρ':=
 List.map_congr_left fun x hx=>h x (by simp [Call.operands];exact .inr (by simpa using hx))
theorem xz{ps:Array (Nat×Operand)}(h:∀ x ∈ (ps.toList.map (·.2)).toArray,ρ x = ρ' x):(ps.toList.map fun p=>ρ p.2)=ps.toList.map fun p=>ρ' p.2:=
 List.map_congr_left fun p hp=>h p.2 (by simp;exact ⟨p.1,by simpa using hp⟩)
theorem Ct{o:Option Operand}(h:∀ x ∈ o.toArray,ρ x = ρ' x):o.map ρ=o.map ρ':=by
 cases o with
 |none=>rfl
 |some x=>simp [h x (by simp)]
theorem xA{op:Op}(h:∀ x ∈ op.operands,ρ x = ρ' x):kO P ρ op=kO P ρ' op:=by
 cases op<;>simp only [Op.operands] at h<;>simp only [kO]
 case build t ps=>rw [xz h]
 case makeFunc fn first cap=>
  have h1:first.toList.map ρ=first.toList.map ρ':=List.map_congr_left fun x hx=>h x (by simp;exact .inl (by simpa using hx))
  have h2:cap.toList.map ρ=cap.toList.map ρ':=List.map_congr_left fun x hx=>h x (by simp;exact .inr (by simpa using hx))
  rw [h1,h2]
 case slice t x lo hi mx=>
  have h0:ρ x = ρ' x:=h x (by simp)
  have h1:lo.map ρ=lo.map ρ':=Ct fun y hy=>h y (by simp only [Array.mem_append];exact .inl (.inl (.inr hy)))
  have h2:hi.map ρ=hi.map ρ':=Ct fun y hy=>h y (by simp only [Array.mem_append];exact .inl (.inr hy))
  rw [h0,h1,h2]
 case call c=>simp only [mQ h]
 all_goals (first|rfl|(simp_all;done))
theorem xB{op:Op}(h:∀ x ∈ op.operands,ρ x = ρ' x)(hp:ag):ku P ρ hp op=ku P ρ' hp op:=by
 cases op<;>simp only [Op.operands] at h<;>simp only [ku]
 case call c=>simp only [mQ h]
 all_goals (first|rfl|(simp_all;done))
theorem uJ{op:Op}(h:∀ x ∈ op.operands,ρ x = ρ' x):mO P ρ op=mO P ρ' op:=by
 cases op<;>simp only [Op.operands] at h<;>simp only [mO]
 case buildSlice t n ps=>rw [xz h]
 all_goals (first|rfl|(simp_all;done))
theorem tP{op:Op}(h:∀ x ∈ op.operands,ρ x = ρ' x)(hp:ag)(K:AV→ag→Bool):fX op P ρ hp K=fX op P ρ' hp K:=by
 cases hk:eR op with
 |pure=>rw [rW hk,rW hk,xA h]
 |read=>rw [nX hk,nX hk,xB h]
 |alloc=>rw [oS hk,oS hk,uJ h]
 |eff=>
  cases op<;>simp only [eR,reduceCtorEq] at hk<;>simp only [Op.operands] at h<;>simp only [fX]
  case call c=>simp only [qF,mQ h]
  all_goals (first|rfl|(simp_all;done))
theorem DF{env env':Env}{op:Op}(h:∀ x ∈ op.operands,evalArg env x=evalArg env' x)(call:gW)(defs:List mu)(hp:ag)(K:R→Bool) :
  iA op P call env defs hp K=iA op P call env' defs hp K:=by
 cases op<;>simp only [iA]
 case call c=>
  obtain ⟨cal,args,ts⟩:=c
  cases cal with
  |value f=>
   simp only [tJ,zc]
   have h1:=mQ (c:=⟨.value f,args,ts⟩) h
   have h2:evalArg env f=evalArg env' f:=h f (by simp [Op.operands,Call.operands])
   simp only at h1
   rw [h2,h1]
  |invoke r m=>simp only [tJ,nt];rw [tP h]
  |builtin b=>simp only [tJ,nt];rw [tP h]
 case defer c=>
  obtain ⟨cal,args,ts⟩:=c
  cases cal with
  |value f=>
   simp only [uz]
   have h1:=mQ (c:=⟨.value f,args,ts⟩) h
   have h2:evalArg env f=evalArg env' f:=h f (by simp [Op.operands,Call.operands])
   simp only at h1
   rw [h2,h1]
  |invoke r m=>rfl
  |builtin b=>rfl
 case panic x=>simp only [uB,h x (by simp [Op.operands])]
 case next x b=>simp only [Dy,h x (by simp [Op.operands])]
 all_goals (simp only [nt];rw [tP h])
theorem ER{hp:ag}(hc:∀ b,hp.next≤b→hp.get b=none)(o:jG){op:Op}{v:AV}(h:ku P ρ hp op=some v):ku P ρ (hp.alloc o) op=some v:=by
 have key:∀ b o',hp.get b=some o'→(hp.alloc o).get b=some o':=fun b o' hb=>by
  rw [ag.aV,if_neg (fun e=>by rw [e,hc _ (Nat.le_refl _)] at hb;cases hb)];exact hb
 cases op<;>simp only [ku,reduceCtorEq] at h ⊢
 case load t a=>
  obtain ⟨i,h1,h2⟩:=Option.bind_eq_some_iff.1 h
  refine Option.bind_eq_some_iff.2 ⟨i,h1,?_⟩
  unfold ai at h2 ⊢
  split at h2
  ·rename_i b off hx
   split at h2
   ·rename_i cs hb;simp only [key _ _ hb];exact h2
   ·cases h2
  ·rename_i hx;exact h2
  ·cases h2
 case lookup t x i ok=>
  obtain ⟨d,h1,h2⟩:=Option.bind_eq_some_iff.1 h
  refine Option.bind_eq_some_iff.2 ⟨d,h1,?_⟩
  unfold ei at h2 ⊢
  have he:∀ es,kq (ρ x) hp=some es→kq (ρ x) (hp.alloc o)=some es:=by
   intro es he
   unfold kq at he ⊢
   split at he
   ·rename_i hx;exact he
   ·rename_i b hx
    split at he
    ·rename_i es' ck hb;simp only [key _ _ hb];exact he
    ·cases he
   ·cases he
  split at h2
  ·cases h2
  ·rename_i es hes
   rw [he es hes];exact h2
 case call c=>
  split at h
  ·split at h
   ·rename_i t l x e1 e2
    obtain ⟨i,h1,h2⟩:=Option.bind_eq_some_iff.1 h
    refine Option.bind_eq_some_iff.2 ⟨i,h1,?_⟩
    unfold bQ at h2 ⊢
    split at h2<;>first|exact h2|skip
    ·split at h2
     ·rename_i b _ es ck hb;simp only [key _ _ hb];exact h2
     ·cases h2
   ·cases h
  ·cases h
mutual
theorem AV.beq_eq:∀ (x y:AV),AV.beq x y=true→x=y
 |.undef,y,h=>by cases y<;>simp_all [AV.beq]
 |.bool a,y,h=>by cases y<;>simp_all [AV.beq]
 |.int k a,y,h=>by cases y<;>simp_all [AV.beq]
 |.str a,y,h=>by cases y<;>simp_all [AV.beq]
 |.nilp,y,h=>by cases y<;>simp_all [AV.beq]
 |.ptr a i,y,h=>by cases y<;>simp_all [AV.beq]
 |.iptr a i,y,h=>by
  cases y<;>simp only [AV.beq,Bool.false_eq_true,Bool.and_eq_true,beq_iff_eq] at h
  rw [AV.beqL_eq _ _ h.1,h.2]
 |.nils,y,h=>by cases y<;>simp_all [AV.beq]
 |.slice b i l s,y,h=>by cases y<;>simp_all [AV.beq]
 |.islice a i l s,y,h=>by
  cases y<;>simp only [AV.beq,Bool.false_eq_true,Bool.and_eq_true,beq_iff_eq] at h
  rw [AV.beqL_eq _ _ h.1.1.1,h.1.1.2,h.1.2,h.2]
 |.nilm,y,h=>by cases y<;>simp_all [AV.beq]
 |.map a,y,h=>by cases y<;>simp_all [AV.beq]
 |.nilf,y,h=>by cases y<;>simp_all [AV.beq]
 |.func f a b,y,h=>by
  cases y<;>simp only [AV.beq,Bool.false_eq_true,Bool.and_eq_true,beq_iff_eq] at h
  rw [h.1.1,AV.beqL_eq _ _ h.1.2,AV.beqL_eq _ _ h.2]
 |.nili,y,h=>by cases y<;>simp_all [AV.beq]
 |.iface t v,y,h=>by
  cases y<;>simp only [AV.beq,Bool.false_eq_true,Bool.and_eq_true,beq_iff_eq] at h
  rw [h.1,AV.beq_eq _ _ h.2]
 |.agg a,y,h=>by
  cases y<;>simp only [AV.beq,Bool.false_eq_true] at h
  rw [AV.beqL_eq _ _ h]
 |.tuple a,y,h=>by
  cases y<;>simp only [AV.beq,Bool.false_eq_true] at h
  rw [AV.beqL_eq _ _ h]
theorem AV.beqL_eq:∀ (xs ys:List AV),AV.beqL xs ys=true→xs=ys
 |[],ys,h=>by cases ys<;>simp_all [AV.beqL]
 |x :: xs,ys,h=>by
  cases ys<;>simp only [AV.beqL,Bool.false_eq_true,Bool.and_eq_true] at h
  rw [AV.beq_eq _ _ h.1,AV.beqL_eq _ _ h.2]
end
theorem ES{op:Op}{env:Env}{v:AV}{hp:ag}(hk:eR op = .read)(h:sameAt P op env v hp=true):ku P (evalArg env) hp op=some v:=by
 unfold sameAt at h
 rw [nX hk] at h
 obtain ⟨v',h1,h2⟩:=fc h
 rw [h1,AV.beq_eq _ _ h2]
end
end Go.AM
namespace Go.AM
open Go Go.RowKit
theorem qL(acc:List Nat)(j:Nat):∀ (es:List Edge),(l7 acc es).testBit j=true→∃ e ∈ es,Region.binds .any e=true∧(j=e.on∨(acc.getD e.on 0).testBit j=true)
 |[],h=>by simp [l7] at h
 |e :: es,h=>by
  simp only [l7] at h
  split at h
  ·rename_i hb
   simp only [Nat.testBit_or,Bool.or_eq_true,Nat.testBit_two_pow,decide_eq_true_eq] at h
   rcases h with (h|h)|h
   ·exact ⟨e,by simp,hb,.inl h.symm⟩
   ·exact ⟨e,by simp,hb,.inr h⟩
   ·obtain ⟨e',h1,h2⟩:=qL acc j es h
    exact ⟨e',by simp [h1],h2⟩
  ·obtain ⟨e',h1,h2⟩:=qL acc j es h
   exact ⟨e',by simp [h1],h2⟩
theorem tn:∀ (os:List Oper) (acc:List Nat),∃ r,l9 os acc=acc++r
 |[],acc=>⟨[],by simp [l9]⟩
 |o :: os,acc=>by
  obtain ⟨r,h⟩:=tn os (acc++[l7 acc o.after.toList])
  exact ⟨l7 acc o.after.toList :: r,by simp [l9,h]⟩
theorem zZ:∀ (os:List Oper) (acc:List Nat) (k:Nat) (o:Oper),os[k]?=some o→(l9 os acc)[acc.length+k]?=some (l7 ((l9 os acc).take (acc.length+k)) o.after.toList)
 |[],acc,k,o,h=>by simp at h
 |o' :: os,acc,k,o,h=>by
  simp only [l9]
  cases k with
  |zero=>
   simp at h
   subst h
   obtain ⟨r,hr⟩:=tn os (acc++[l7 acc o'.after.toList])
   rw [hr]
   simp
  |succ k=>
   have:=zZ os (acc++[l7 acc o'.after.toList]) k o (by simpa using h)
   rw [List.length_append,List.length_singleton] at this
   rw [show acc.length+(k+1)=acc.length+1+k by omega]
   exact this
theorem tq:∀ (os:List Oper) (acc:List Nat),(l9 os acc).length=acc.length+os.length
 |[],acc=>by simp [l9]
 |o :: os,acc=>by simp only [l9,tq os];simp;omega
theorem Kk{ops:List Oper}{i j:Nat}(h:ze (masks ops) i j=true):∃ o,ops[i]?=some o∧∃ e ∈ o.after.toList,Region.binds .any e=true∧(j=e.on∨ze (masks ops) e.on j=true):=by
 unfold ze at h
 by_cases hi:i<ops.length
 ·have ho:ops[i]?=some ops[i]:=List.getElem?_eq_getElem hi
  have hm:=zZ ops [] i _ ho
  simp only [List.length_nil,Nat.zero_add] at hm
  have hg:(masks ops).getD i 0=l7 ((masks ops).take i) ops[i].after.toList:=by
   rw [List.getD_eq_getElem?_getD]
   show ((l9 ops [])[i]?).getD 0=_
   rw [hm];rfl
  rw [hg] at h
  obtain ⟨e,h1,h2,h3⟩:=qL _ _ _ h
  refine ⟨_,ho,e,h1,h2,?_⟩
  rcases h3 with h3|h3
  ·exact .inl h3
  ·refine .inr ?_
   unfold ze
   rw [List.getD_eq_getElem?_getD,List.getElem?_take] at h3
   split at h3
   ·rw [List.getD_eq_getElem?_getD];exact h3
   ·simp at h3
 ·have:(masks ops).getD i 0=0:=by
   rw [List.getD_eq_getElem?_getD,List.getElem?_eq_none (by unfold masks;rw [tq];simp;omega)];rfl
  rw [this] at h;simp at h
def Kl(ms:List Nat)(S:Nat→Bool):Prop:=∀ i j,S i=true→ze ms i j=true→S j=true
def isIn(listed:Array Bool)(k:Nat):Bool:=listed.getD k false
theorem IG{ops:Array Oper}{listed:Array Bool}{i j:Nat}(hc:Kl (masks ops.toList) (isIn listed))(hr:i ∈ Region.ready .any ops listed)(hb:ze (masks ops.toList) i j=true):isIn listed j=true:=by
 obtain ⟨_,o,ho,he⟩:=mem_ready.1 hr
 obtain ⟨o',ho',e,h1,h2,h3⟩:=Kk hb
 rw [Array.getElem?_toList,ho] at ho'
 cases ho'
 have:=he e (by simpa using h1) h2
 rcases h3 with rfl|h3
 ·exact this
 ·exact hc _ _ this h3
theorem uK{listed:Array Bool}{i:Nat}(hi:i<listed.size)(k:Nat):isIn (listed.setIfInBounds i true) k=(decide (k=i)||isIn listed k):=by
 unfold isIn
 by_cases e:k=i
 ·subst e;simp [Array.getD,hi]
 ·simp [e,getD_set_ne false (fun q=>e q.symm)]
structure Dn where
 i:Nat
 o:Oper
 v:AV
 env:Env
 b:Nat
 al:Bool
noncomputable def fq(env0:Env)(n:Nat)(S:Nat→Bool):List Dn→Env
 |[]=>env0
 |d :: ds=>if S d.i then kK (fq env0 n S ds) n d.o.dst d.v else fq env0 n S ds
theorem DG{env:Env}{n:Nat}{dst:Option Tmp}{v:AV}{t:Nat}(h:dst≠some t):kK env n dst v t=env t:=by
 cases dst with
 |none=>rfl
 |some d=>
  have:t≠d:=fun e=>h (by rw [e])
  simp only [kK]
  split
  ·simp [bt,this]
  ·rfl
theorem II{env:Env}{n:Nat}{x y:Option Tmp}{u v:AV}(h:∀ t,x=some t→y≠some t):kK (kK env n x u) n y v=kK (kK env n y v) n x u:=by
 cases x with
 |none=>rfl
 |some d=>cases y with
  |none=>rfl
  |some e=>
   have hne:d≠e:=fun q=>h d rfl (by rw [q])
   simp only [kK]
   split<;>split<;>try rfl
   funext t
   simp only [bt]
   split<;>split<;>try rfl
   rename_i h1 h2;exact absurd (h2▸h1) (by simpa using hne)
section
variable {env0:Env} {n:Nat} {S S':Nat→Bool}
theorem z6{t:Nat}:∀ {pre ds:List Dn},(∀ x ∈ pre,S x.i=true→x.o.dst≠some t)→fq env0 n S (pre++ds) t=fq env0 n S ds t
 |[],ds,h=>rfl
 |x :: pre,ds,h=>by
  simp only [List.cons_append,fq]
  have ih:=z6 (pre:=pre) (ds:=ds) (fun y hy=>h y (by simp [hy]))
  split
  ·rename_i hx;rw [DG (h x (by simp) hx),ih]
  ·exact ih
theorem nx:∀ {ds:List Dn},(∀ x ∈ ds,S x.i=S' x.i)→fq env0 n S ds=fq env0 n S' ds
 |[],h=>rfl
 |x :: ds,h=>by
  simp only [fq]
  rw [h x (by simp),nx (ds:=ds) (fun y hy=>h y (by simp [hy]))]
theorem tQ{t:Nat}:∀ {ds:List Dn},(∀ x ∈ ds,x.o.dst=some t→S x.i=true)→fq env0 n S ds t=fq env0 n (fun _=>true) ds t
 |[],h=>rfl
 |x :: ds,h=>by
  have ih:=tQ (ds:=ds) (fun y hy=>h y (by simp [hy]))
  simp only [fq,if_true]
  by_cases hd:x.o.dst=some t
  ·rw [if_pos (h x (by simp) hd),hd]
   simp only [kK]
   split
   ·simp [bt]
   ·exact ih
  ·rw [DG hd]
   split
   ·rw [DG hd];exact ih
   ·exact ih
theorem Cu{d:Dn}(hS:S d.i=false)(hS':∀ k,S' k=(decide (k=d.i)||S k)):∀ {pre ds:List Dn},(∀ x ∈ pre,x.i≠d.i)→(∀ x ∈ ds,x.i≠d.i)→(∀ x ∈ pre,∀ t,d.o.dst=some t→x.o.dst≠some t) →
  fq env0 n S' (pre++d :: ds)=kK (fq env0 n S (pre++d :: ds)) n d.o.dst d.v
 |[],ds,h1,h2,h3=>by
  simp only [List.nil_append,fq]
  rw [if_pos (by rw [hS'];simp),if_neg (by rw [hS];simp),nx (S:=S') (S':=S) (fun x hx=>by rw [hS'];simp [h2 x hx])]
 |x :: pre,ds,h1,h2,h3=>by
  have ih:=Cu hS hS' (pre:=pre) (ds:=ds) (fun y hy=>h1 y (by simp [hy])) h2 (fun y hy=>h3 y (by simp [hy]))
  simp only [List.cons_append,fq]
  have hx:S' x.i=S x.i:=by rw [hS'];simp [h1 x (by simp)]
  rw [hx]
  split
  ·rw [ih,II (h3 x (by simp))]
  ·exact ih
end
structure IJ (ops:List Oper) (ms:List Nat) (a b:Nat×Oper):Prop where
 ne:a.1≠b.1
 nb:ze ms a.1 b.1=false
 eff:pV a.2=true→ze ms b.1 a.1=true
 dd:∀ d,a.2.dst=some d→b.2.dst≠some d
 lb:∀ d,a.2.dst=some d→d ∈ nJ ops b.2→ze ms b.1 a.1=true
 la:∀ d,b.2.dst=some d→d ∈ nJ ops a.2→ze ms b.1 a.1=true
theorem ET{ops:List Oper}{ms:List Nat}{a b:Nat×Oper}(h:GD ops ms a b=true):IJ ops ms a b:=by
 unfold GD at h
 simp only [Bool.and_eq_true,bne_iff_ne,ne_eq,Bool.not_eq_true',Bool.or_eq_true] at h
 obtain ⟨h1,h2,h3,h4,h5⟩:=h
 refine ⟨h1,h2,fun he=>h3.resolve_left (by simp [he]),fun d hd e=>?_,fun d hd hl=>?_,fun d hd hl=>?_⟩
 ·rw [hd,e] at h4;simp at h4
 ·rw [hd] at h4
  simp only [Bool.and_eq_true,Bool.or_eq_true,Bool.not_eq_true'] at h4
  exact h4.2.resolve_left (by simp [hl])
 ·rw [hd] at h5
  simp only [Bool.or_eq_true,Bool.not_eq_true'] at h5
  exact h5.resolve_left (by simp [hl])
theorem uL{ops:List Oper}{ms:List Nat}:∀ {L:List (Nat×Oper)},zg ops ms L=true→L.Pairwise (IJ ops ms)
 |[],h=>.nil
 |p :: ps,h=>by
  simp only [zg,Bool.and_eq_true,List.all_eq_true] at h
  exact .cons (fun b hb=>ET (h.1 b hb)) (uL h.2)
theorem uN{L:List (Nat×Oper)}:∀ {n:Nat},zh L n=true→∀ i,i<n→∃ p ∈ L,p.1=i
 |0,h,i,hi=>by omega
 |n+1,h,i,hi=>by
  simp only [zh,Bool.and_eq_true,List.any_eq_true,beq_iff_eq] at h
  by_cases e:i=n
  ·subst e;exact h.1
  ·exact uN h.2 i (by omega)
theorem uO:∀ (os:List Oper) (k:Nat) (p:Nat×Oper),p ∈ rT os k→k≤p.1∧os[p.1-k]?=some p.2
 |[],k,p,h=>by cases h
 |o :: os,k,p,h=>by
  simp only [rT,List.mem_cons] at h
  rcases h with rfl|h
  ·simp
  ·obtain ⟨h1,h2⟩:=uO os (k+1) p h
   refine ⟨by omega,?_⟩
   rw [show p.1-k=(p.1-(k+1))+1 by omega]
   simpa using h2
theorem xC{ms effs:List Nat}{L:List (Nat×Oper)}:∀ (n k:Nat) (p:Nat×Oper),p ∈ zf ms effs L n k→p ∈ L
 |0,k,p,h=>(List.mem_filter.1 h).1
 |n+1,k,p,h=>by
  simp only [zf,List.mem_append] at h
  rcases h with h|h|h
  ·exact (List.mem_filter.1 h).1
  ·exact (List.mem_filter.1 h).1
  ·exact xC n (k+1) p h
theorem uQ:∀ {os:List Oper} {k:Nat},zi os k=true→∀ i o,os[i]?=some o→∀ e ∈ o.after.toList,Region.binds .any e=true→e.on<k+i
 |[],k,h,i,o,ho=>by simp at ho
 |o' :: os,k,h,i,o,ho=>by
  simp only [zi,Bool.and_eq_true,List.all_eq_true,Bool.or_eq_true,Bool.not_eq_true',decide_eq_true_eq] at h
  intro e he hb
  cases i with
  |zero=>
   simp at ho;subst ho
   have:=(h.1 e he).resolve_left (by simp [hb])
   omega
  |succ i=>
   have:=uQ h.2 i o (by simpa using ho) e he hb
   omega
structure pY (ops:Array Oper) (ms:List Nat) (L:List (Nat×Oper)):Prop where
 masks:ms=masks ops.toList
 pairs:L.Pairwise (IJ ops.toList ms)
 cover:∀ i,i<ops.size→∃ p ∈ L,p.1=i
 mem:∀ p ∈ L,ops[p.1]?=some p.2
 jz:∀ (i:Nat) (o:Oper),ops[i]?=some o→∀ e ∈ o.after.toList,Region.binds .any e=true→e.on<i
theorem GU{ops:Array Oper}{p:Oy}(h:EB ops.toList=some p):pY ops p.ms p.L:=by
 unfold EB at h
 split at h
 ·rename_i hc
  cases h
  simp only [Bool.and_eq_true] at hc
  obtain ⟨⟨h1,h2⟩,h3⟩:=hc
  refine ⟨rfl,uL h2,fun i hi=>uN h3 i (by simpa using hi),fun q hq=>?_,fun i o ho e he hb=>?_⟩
  ·have:=uO _ _ _ (xC _ _ _ hq)
   simpa using this.2
  ·have:=uQ h1 i o (by simpa using ho) e he hb
   omega
 ·cases h
theorem EU{ops:List Oper}{o:Oper}{env env':Env}(h:∀ t ∈ nJ ops o,env t=env' t):∀ x ∈ o.op.operands,evalArg env x=evalArg env' x:=by
 intro x hx
 cases x with
 |tmp t=>
  apply h
  simp only [nJ,List.mem_append,List.mem_filterMap]
  exact .inl ⟨.tmp t,by simpa using hx,rfl⟩
 |const v=>rfl
 |global g=>rfl
 |func f=>rfl
theorem uR{ops:List Oper}{o:Oper}{env env':Env}(h:∀ t ∈ nJ ops o,env t=env' t):g9 ops o env=g9 ops o env':=by
 unfold g9
 split
 ·rfl
 ·rename_i j want hg
  split
  ·rename_i g hj
   split
   ·rename_i d hd
    have:env d=env' d:=h d (by simp [nJ,hg,hj,hd])
    rw [this]
   ·rfl
  ·rfl
end Go.AM
namespace Go.AM
open Go Go.RowKit
structure Pn (P:Program) (ops:Array Oper) (μ:Mu) (h:ag) (lg:List Read) (d:Dn):Prop where
 ex:∃ wb,g9 ops.toList d.o d.env=some wb∧(wb=false→d.v=bD)∧(wb=true →
  (eR d.o.op = .pure∧kO P (evalArg d.env) d.o.op=some d.v) ∨
  (eR d.o.op = .read∧ku P (evalArg d.env) h d.o.op=some d.v∧(⟨d.i,d.o.op,d.env,d.v⟩:Read) ∈ lg) ∨
  (eR d.o.op = .alloc∧d.al=true∧∃ k ob,mO P (evalArg d.env) d.o.op=some (k,ob)∧d.v=k.val d.b∧h.get d.b=some ob∧∀ kk,μ d.b≠some kk))
structure LW where
 P:Program
 call:gW
 ops:Array Oper
 ms:List Nat
 L:List (Nat×Oper)
 K:St→Bool
 w0:World
 μb:Mu
 hb:ag
 wb:World
 env0:Env
 n:Nat
structure kY (C:LW) (listed:Array Bool) (a:Act) (w:World) (μ:Mu) (dn:List Dn) (R:List (Nat×Oper)) (lg:List Read) (s:St):Prop where
 split:C.L=(dn.reverse.map fun d=>(d.i,d.o))++R
 run:eZ C.P C.call C.ops.toList C.ms R lg s C.K=true
 slots:s.n=C.n
 senv:s.env=fq C.env0 C.n (fun _=>true) dn
 size:listed.size=C.ops.size
 inDn:∀ i,isIn listed i=true→∃ d ∈ dn,d.i=i
 effs:∀ d ∈ dn,pV d.o=true→isIn listed d.i=true
 closed:Kl C.ms (isIn listed)
 env:zW C.w0 μ (fq C.env0 C.n (isIn listed) dn) C.n a.tmps
 defs:uH C.w0 μ s.defs a.defers
 good:Good C.w0 μ s.h w
 ext:Ext C.μb C.hb C.wb μ s.h w
 denv:∀ pre d ds,dn=pre++d :: ds→d.env=fq C.env0 C.n (fun _=>true) ds
 pend:∀ d ∈ dn,isIn listed d.i=false→Pn C.P C.ops μ s.h lg d
 blks:∀ d ∈ dn,d.al=true→C.hb.next≤d.b∧d.b<s.h.next
 sep:∀ d ∈ dn,∀ d' ∈ dn,d.i≠d'.i→d.al=true→d'.al=true→d.b≠d'.b
theorem Ext.J6{μb μ:Mu}{hb h:ag}{wb w:World}(x:Ext μb hb wb μ h w){b n:Nat}(hn:hb.next≤b)(hμ:∀ k,μ b≠some k)(O:Obj):Ext μb hb wb (μ.add b ⟨w.heap.size,0,n⟩) h (w.alloc O):=by
 have hsz:(w.alloc O).heap.size=w.heap.size+1:=by show (w.heap.push O).size=_;simp
 refine ⟨x.mono.trans (Mu.vK hμ),fun k hk hne=>?_,fun b' k hb'=>?_,by rw [hsz];have:=x.size;omega,x.next,x.keep,fun b' k hb'=>?_,x.yh⟩
 ·rw [Below.heap_alloc w O k (Nat.lt_of_lt_of_le hk x.size)];exact x.frame k hk hne
 ·rw [Mu.iG] at hb'
  by_cases e:b'=b
  ·rw [if_pos e] at hb';cases hb';exact .inr (.inl x.size)
  ·rw [if_neg e] at hb';exact x.new b' k hb'
 ·rw [Mu.iG] at hb'
  by_cases e:b'=b
  ·exact .inr (e▸hn)
  ·rw [if_neg e] at hb';exact x.fresh b' k hb'
section
variable {C:LW} {listed:Array Bool} {a:Act} {w:World} {μ:Mu} {dn:List Dn} {R:List (Nat×Oper)} {lg:List Read} {s:St}
theorem kY.pairs(hp:pY C.ops C.ms C.L)(hi:kY C listed a w μ dn R lg s) :
  dn.Pairwise (fun x y=>IJ C.ops.toList C.ms (y.i,y.o) (x.i,x.o))∧R.Pairwise (IJ C.ops.toList C.ms)∧∀ d ∈ dn,∀ r ∈ R,IJ C.ops.toList C.ms (d.i,d.o) r:=by
 have h:=hp.pairs
 rw [hi.split,List.pairwise_append,List.pairwise_map,List.pairwise_reverse] at h
 exact ⟨h.1,h.2.1,fun d hd r hr=>h.2.2 _ (List.mem_map.2 ⟨d,by simpa using hd,rfl⟩) r hr⟩
theorem kY.fresh(hp:pY C.ops C.ms C.L)(hi:kY C listed a w μ dn R lg s){r:Nat×Oper}(hr:r ∈ R):isIn listed r.1=false∧∀ d ∈ dn,d.i≠r.1:=by
 have hne:∀ d ∈ dn,d.i≠r.1:=fun d hd=>((hi.pairs hp).2.2 d hd r hr).ne
 refine ⟨?_,hne⟩
 cases h:isIn listed r.1 with
 |false=>rfl
 |true=>obtain ⟨d,hd,he⟩:=hi.inDn _ h;exact absurd he (hne d hd)
theorem kY.Km(hp:pY C.ops C.ms C.L){p:Nat×Oper}(hi:kY C listed a w μ dn (p :: R) lg s)(he:pV p.2=false):∃ dn' lg' s',kY C listed a w μ dn' R lg' s':=by
 obtain ⟨hf,hne⟩:=hi.fresh hp (r:=p) (by simp)
 obtain ⟨env,n,defs,hp0⟩:=s
 have hrun:=hi.run
 simp only [eZ] at hrun
 have step:∀ (v:AV) (b:Nat) (al:Bool) (lg':List Read) (h':ag),eZ C.P C.call C.ops.toList C.ms R lg' ⟨kK env n p.2.dst v,n,defs,h'⟩ C.K=true →
   (∀ r ∈ lg,r ∈ lg')→Good C.w0 μ h' w→Ext C.μb C.hb C.wb μ h' w→hp0.next≤h'.next→(∀ b' o,hp0.get b'=some o→h'.get b'=some o)→(∀ op v,ku C.P (evalArg env) hp0 op=some v∨True) →
   (∀ env op v,ku C.P (evalArg env) hp0 op=some v→ku C.P (evalArg env) h' op=some v) →
   Pn C.P C.ops μ h' lg' ⟨p.1,p.2,v,env,b,al⟩→(al=true→b=hp0.next∧hp0.next<h'.next)→∃ dn' lg' s',kY C listed a w μ dn' R lg' s':=by
  intro v b al lg' h' hr hlg hg hx hnx hget _ hrd hpd hal
  have hb0:C.hb.next≤hp0.next:=hi.ext.next
  refine ⟨⟨p.1,p.2,v,env,b,al⟩ :: dn,lg',⟨kK env n p.2.dst v,n,defs,h'⟩,?_⟩
  refine ⟨by rw [hi.split];simp,hr,hi.slots,?_,hi.size,fun i h=>?_,fun d hd h=>?_,hi.closed,?_,hi.defs,hg,hx,fun pre d ds h=>?_,fun d hd h=>?_,fun d hd h=>?_,fun d hd d' hd' hne' h1 h2=>?_⟩
  ·show kK env n p.2.dst v=_
   simp only [fq,if_true]
   have e1:n=C.n:=hi.slots
   have e2:env=fq C.env0 C.n (fun _=>true) dn:=hi.senv
   rw [e2,e1]
  ·obtain ⟨d,hd,e⟩:=hi.inDn i h
   exact ⟨d,by simp [hd],e⟩
  ·rcases List.mem_cons.1 hd with rfl|hd
   ·simp [he] at h
   ·exact hi.effs d hd h
  ·have:fq C.env0 C.n (isIn listed) (⟨p.1,p.2,v,env,b,al⟩ :: dn)=fq C.env0 C.n (isIn listed) dn:=by
    simp only [fq];rw [if_neg (by rw [hf];simp)]
   rw [this];exact hi.env
  ·cases pre with
   |nil=>
    simp only [List.nil_append,List.cons.injEq] at h
    obtain ⟨rfl,rfl⟩:=h
    exact hi.senv
   |cons x pre=>
    simp only [List.cons_append,List.cons.injEq] at h
    exact hi.denv pre d ds h.2
  ·rcases List.mem_cons.1 hd with rfl|hd
   ·exact hpd
   ·obtain ⟨wb,q1,q2,q3⟩:=(hi.pend d hd h).ex
    refine ⟨wb,q1,q2,fun hw=>?_⟩
    rcases q3 hw with q|⟨k1,k2,k3⟩|⟨k1,k2,k,ob,k3,k4,k5,k6⟩
    ·exact .inl q
    ·exact .inr (.inl ⟨k1,hrd _ _ _ k2,hlg _ k3⟩)
    ·exact .inr (.inr ⟨k1,k2,k,ob,k3,k4,hget _ _ k5,k6⟩)
  ·rcases List.mem_cons.1 hd with rfl|hd
   ·obtain ⟨e1,e2⟩:=hal h
    show _≤b∧b<h'.next
    omega
   ·have:=hi.blks d hd h
    exact ⟨this.1,Nat.lt_of_lt_of_le this.2 hnx⟩
  ·rcases List.mem_cons.1 hd with rfl|hd
   ·rcases List.mem_cons.1 hd' with rfl|hd'
    ·exact absurd rfl hne'
    ·have:d'.b<hp0.next:=(hi.blks d' hd' h2).2
     obtain ⟨e1,_⟩:=hal h1
     show b≠d'.b
     omega
   ·rcases List.mem_cons.1 hd' with rfl|hd'
    ·have:d.b<hp0.next:=(hi.blks d hd h1).2
     obtain ⟨e1,_⟩:=hal h2
     show d.b≠b
     omega
    ·exact hi.sep d hd d' hd' hne' h1 h2
 split at hrun
 ·rename_i hw
  split at hrun
  ·rename_i hk
   rw [rW hk] at hrun
   obtain ⟨v,hv,hK⟩:=fc hrun
   have hK:=jO hK
   exact step v 0 false lg hp0 hK (fun r h=>h) hi.good hi.ext (Nat.le_refl _) (fun _ _ h=>h) (fun _ _=>.inr trivial) (fun _ _ _ h=>h) ⟨true,hw,by simp,fun _=>.inl ⟨hk,hv⟩⟩ (by simp)
  ·rename_i hk
   rw [nX hk] at hrun
   obtain ⟨v,hv,hK⟩:=fc hrun
   have hK:=jO hK
   exact step v 0 false _ hp0 hK (fun r h=>by simp [h]) hi.good hi.ext (Nat.le_refl _) (fun _ _ h=>h) (fun _ _=>.inr trivial) (fun _ _ _ h=>h) ⟨true,hw,by simp,fun _=>.inr (.inl ⟨hk,hv,by simp⟩)⟩ (by simp)
  ·rename_i hk
   rw [oS hk] at hrun
   obtain ⟨⟨k,ob⟩,hv,hK⟩:=fc hrun
   have hK:=jO hK
   obtain ⟨g1,g2⟩:=hi.good.OC ob
   refine step (k.val hp0.next) hp0.next true lg (hp0.alloc ob) hK (fun r h=>h) g1 (hi.ext.trans g2) (Nat.le_succ _) (fun b' o h=>?_) (fun _ _=>.inr trivial) (fun _ _ _ h=>ER hi.good.clean ob h)
    ⟨true,hw,by simp,fun _=>.inr (.inr ⟨hk,rfl,k,ob,hv,rfl,by rw [ag.aV,if_pos rfl],hi.good.uF⟩)⟩ (fun _=>⟨rfl,Nat.lt_succ_self _⟩)
   rw [ag.aV,if_neg (fun e=>by rw [e,hi.good.clean _ (Nat.le_refl _)] at h;cases h)];exact h
  ·rename_i hk
   simp [pV,hk] at he
 ·rename_i hw
  exact step bD 0 false lg hp0 (jO hrun) (fun r h=>h) hi.good hi.ext (Nat.le_refl _) (fun _ _ h=>h) (fun _ _=>.inr trivial) (fun _ _ _ h=>h) ⟨false,hw,by simp,by simp⟩ (by simp)
 ·cases hrun
theorem kY.advance(hp:pY C.ops C.ms C.L):∀ (R:List (Nat×Oper)) (dn:List Dn) (lg:List Read) (s:St),kY C listed a w μ dn R lg s →
  ∃ dn' R' lg' s',kY C listed a w μ dn' R' lg' s'∧(∀ p rest,R'=p :: rest→pV p.2=true)
 |[],dn,lg,s,hi=>⟨dn,[],lg,s,hi,by simp⟩
 |p :: R,dn,lg,s,hi=>by
  cases he:pV p.2 with
  |true=>exact ⟨dn,p :: R,lg,s,hi,fun q rest h=>by cases h;exact he⟩
  |false=>
   obtain ⟨dn',lg',s',h'⟩:=hi.Km hp he
   exact kY.advance hp R dn' lg' s' h'
theorem kY.agree(hp:pY C.ops C.ms C.L)(hi:kY C listed a w μ dn R lg s){d:Dn}(hd:d ∈ dn)(hS:isIn listed d.i=false)(hr:∀ j,ze C.ms d.i j=true→isIn listed j=true) :
  ∀ t ∈ nJ C.ops.toList d.o,fq C.env0 C.n (isIn listed) dn t=d.env t:=by
 intro t ht
 obtain ⟨pre,ds,rfl⟩:=List.append_of_mem hd
 rw [hi.denv pre d ds rfl]
 have hpw:=(hi.pairs hp).1
 rw [List.pairwise_append] at hpw
 obtain ⟨_,hpw2,hpw3⟩:=hpw
 rw [List.pairwise_cons] at hpw2
 rw [z6 (fun x hx hSx hdx=>?_)]
 ·simp only [fq]
  rw [if_neg (by rw [hS];simp)]
  refine tQ fun x hx hdx=>hr _ ?_
  exact (hpw2.1 x hx).lb t hdx ht
 ·have:=(hpw3 x hx d (by simp)).la t hdx ht
  have:=hi.closed _ _ hSx this
  rw [hS] at this;cases this
theorem kY.IK(hp:pY C.ops C.ms C.L){p:Nat×Oper}(hi:kY C listed a w μ dn (p :: R) lg s)(hr:∀ j,ze C.ms p.1 j=true→isIn listed j=true) :
  ∀ t ∈ nJ C.ops.toList p.2,fq C.env0 C.n (isIn listed) dn t=s.env t:=by
 intro t ht
 rw [hi.senv]
 exact tQ fun x hx hdx=>hr _ (((hi.pairs hp).2.2 x hx p (by simp)).lb t hdx ht)
theorem kY.Sw(hp:pY C.ops C.ms C.L)(hi:kY C listed a w μ dn R lg s){d:Dn}(hd:d ∈ dn)(hS:isIn listed d.i=false)(hlt:d.i<listed.size)(hr:∀ j,ze C.ms d.i j=true→isIn listed j=true)
  {w':World} {μ':Mu} {vc:Value} (hm:μ.le μ') (hv:VR C.w0 μ' d.v vc) (hg:Good C.w0 μ' s.h w') (hx:Ext C.μb C.hb C.wb μ' s.h w')
  (hnew:∀ d' ∈ dn,isIn listed d'.i=false→d'.i≠d.i→d'.al=true→(∀ kk,μ d'.b≠some kk)→∀ kk,μ' d'.b≠some kk) :
  kY C (listed.setIfInBounds d.i true) (a.put d.o.dst vc) w' μ' dn R lg s:=by
 have hset:=uK hlt
 refine ⟨hi.split,hi.run,hi.slots,hi.senv,by simpa using hi.size,fun i h=>?_,fun d' hd' h=>?_,fun i j h hb=>?_,?_,?_,hg,hx,hi.denv,fun d' hd' h=>?_,hi.blks,hi.sep⟩
 ·rw [hset] at h
  simp only [Bool.or_eq_true,decide_eq_true_eq] at h
  rcases h with rfl|h
  ·exact ⟨d,hd,rfl⟩
  ·exact hi.inDn i h
 ·rw [hset,hi.effs d' hd' h];simp
 ·rw [hset] at h ⊢
  simp only [Bool.or_eq_true,decide_eq_true_eq] at h ⊢
  rcases h with rfl|h
  ·exact .inr (hr j hb)
  ·exact .inr (hi.closed i j h hb)
 ·obtain ⟨pre,ds,rfl⟩:=List.append_of_mem hd
  have hpw:=(hi.pairs hp).1
  rw [List.pairwise_append] at hpw
  obtain ⟨_,hpw2,hpw3⟩:=hpw
  rw [List.pairwise_cons] at hpw2
  rw [Cu (S:=isIn listed) (d:=d) hS (fun k=>hset k) (fun x hx=>((hpw3 x hx d (by simp)).ne).symm) (fun x hx=>(hpw2.1 x hx).ne) (fun x hx t ht=>(hpw3 x hx d (by simp)).dd t ht),Act.EP]
  exact (hi.env.mono hm).put d.o.dst hv
 ·rw [Act.xw];exact hi.defs.mono hm
 ·rw [hset] at h
  simp only [Bool.or_eq_false_iff,decide_eq_false_iff_not] at h
  obtain ⟨wb,q1,q2,q3⟩:=(hi.pend d' hd' h.2).ex
  refine ⟨wb,q1,q2,fun hw=>?_⟩
  rcases q3 hw with q|q|⟨k1,k2,k,ob,k3,k4,k5,k6⟩
  ·exact .inl q
  ·exact .inr (.inl q)
  ·exact .inr (.inr ⟨k1,k2,k,ob,k3,k4,k5,hnew d' hd' h.2 h.1 k2 k6⟩)
theorem nM{P:Program}{ms:List Nat}{i:Nat}{h:ag}:∀ {lg:List Read},iK P ms i h lg=true→∀ r ∈ lg,ze ms i r.i=false→sameAt P r.op r.env r.v h=true
 |[],hh,r,hr,hb=>by cases hr
 |r' :: lg,hh,r,hr,hb=>by
  simp only [iK] at hh
  rcases List.mem_cons.1 hr with rfl|hr
  ·rw [if_neg (by rw [hb];simp)] at hh
   simp only [Bool.and_eq_true] at hh
   exact hh.1
  ·split at hh
   ·exact nM hh r hr hb
   ·simp only [Bool.and_eq_true] at hh
    exact nM hh.2 r hr hb
theorem kY.Oc(hp:pY C.ops C.ms C.L){p:Nat×Oper}(hi:kY C listed a w μ dn (p :: R) lg s)(hlt:p.1<listed.size)(hr:∀ j,ze C.ms p.1 j=true→isIn listed j=true)
  {a':Act} {w':World} {μ':Mu} {v:AV} {defs':List mu} {h':ag} (hrun:eZ C.P C.call C.ops.toList C.ms R lg ⟨kK s.env s.n p.2.dst v,s.n,defs',h'⟩ C.K=true)
  (hs:SR C.w0 μ' ⟨kK (fq C.env0 C.n (isIn listed) dn) C.n p.2.dst v,C.n,defs',h'⟩ a' w') (hx:Ext μ s.h w μ' h' w')
  (hrd:∀ r ∈ lg,eR r.op = .read→ze C.ms p.1 r.i=false→ku C.P (evalArg r.env) s.h r.op=some r.v→ku C.P (evalArg r.env) h' r.op=some r.v) :
  kY C (listed.setIfInBounds p.1 true) a' w' μ' (⟨p.1,p.2,v,s.env,0,false⟩ :: dn) R lg ⟨kK s.env s.n p.2.dst v,s.n,defs',h'⟩:=by
 have hset:=uK hlt
 obtain ⟨hf,hne⟩:=hi.fresh hp (r:=p) (by simp)
 refine ⟨by rw [hi.split];simp,hrun,hi.slots,?_,by simpa using hi.size,fun i h=>?_,fun d' hd' h=>?_,fun i j h hb=>?_,?_,hs.defs,hs.good,hi.ext.trans hx,fun pre d ds h=>?_,fun d' hd' h=>?_,fun d' hd' h=>?_,fun d1 h1 d2 h2 hne' a1 a2=>?_⟩
 ·show kK s.env s.n p.2.dst v=_
  simp only [fq,if_true]
  rw [hi.slots,hi.senv]
 ·rw [hset] at h
  simp only [Bool.or_eq_true,decide_eq_true_eq] at h
  rcases h with rfl|h
  ·exact ⟨⟨p.1,p.2,v,s.env,0,false⟩,by simp,rfl⟩
  ·obtain ⟨d,hd,e⟩:=hi.inDn i h
   exact ⟨d,by simp [hd],e⟩
 ·rw [hset]
  rcases List.mem_cons.1 hd' with rfl|hd'
  ·simp
  ·rw [hi.effs d' hd' h];simp
 ·rw [hset] at h ⊢
  simp only [Bool.or_eq_true,decide_eq_true_eq] at h ⊢
  rcases h with rfl|h
  ·exact .inr (hr j hb)
  ·exact .inr (hi.closed i j h hb)
 ·have:fq C.env0 C.n (isIn (listed.setIfInBounds p.1 true)) (⟨p.1,p.2,v,s.env,0,false⟩ :: dn)=kK (fq C.env0 C.n (isIn listed) dn) C.n p.2.dst v:=by
   simp only [fq]
   rw [if_pos (by rw [hset];simp),nx (S':=isIn listed) (fun x hx=>by rw [hset];simp [hne x hx])]
  rw [this];exact hs.env
 ·cases pre with
  |nil=>
   simp only [List.nil_append,List.cons.injEq] at h
   obtain ⟨rfl,rfl⟩:=h
   exact hi.senv
  |cons x pre=>
   simp only [List.cons_append,List.cons.injEq] at h
   exact hi.denv pre d ds h.2
 ·rw [hset] at h
  simp only [Bool.or_eq_false_iff,decide_eq_false_iff_not] at h
  rcases List.mem_cons.1 hd' with rfl|hd'
  ·exact absurd rfl h.1
  ·obtain ⟨wb,q1,q2,q3⟩:=(hi.pend d' hd' h.2).ex
   refine ⟨wb,q1,q2,fun hw=>?_⟩
   rcases q3 hw with q|⟨k1,k2,k3⟩|⟨k1,k2,k,ob,k3,k4,k5,k6⟩
   ·exact .inl q
   ·refine .inr (.inl ⟨k1,hrd _ k3 k1 ?_ k2,k3⟩)
    cases hb:ze C.ms p.1 d'.i with
    |false=>rfl
    |true=>have:=hr _ hb;rw [h.2] at this;cases this
   ·have hb:=hi.blks d' hd' k2
    refine .inr (.inr ⟨k1,k2,k,ob,k3,k4,?_,fun kk hk=>?_⟩)
    ·show h'.get d'.b=some ob
     rw [hx.keep _ hb.2 k6];exact k5
    ·rcases hx.fresh _ kk hk with e|e
     ·exact k6 kk e
     ·omega
 ·rcases List.mem_cons.1 hd' with rfl|hd'
  ·cases h
  ·have:=hi.blks d' hd' h
   exact ⟨this.1,Nat.lt_of_lt_of_le this.2 hx.next⟩
 ·rcases List.mem_cons.1 h1 with rfl|h1
  ·cases a1
  ·rcases List.mem_cons.1 h2 with rfl|h2
   ·cases a2
   ·exact hi.sep d1 h1 d2 h2 hne' a1 a2
end
end Go.AM
namespace Go.AM
open Go Go.RowKit
def xD(listed:Array Bool):Nat:=((List.range listed.size).filter fun i=>!isIn listed i).length
theorem filter_lt{α:Type}(p q:α→Bool)(hpq:∀ x,q x=true→p x=true):∀ (l:List α) (x:α),x ∈ l→p x=true→q x=false→(l.filter q).length<(l.filter p).length
 |[],x,h,_,_=>by cases h
 |y :: l,x,h,h1,h2=>by
  have le:∀ l:List α,(l.filter q).length≤(l.filter p).length:=by
   intro l
   induction l with
   |nil=>simp
   |cons z l ih=>
    simp only [List.filter_cons]
    by_cases hq:q z=true
    ·rw [if_pos hq,if_pos (hpq z hq)];simp;exact ih
    ·rw [if_neg hq]
     split
     ·simp;omega
     ·exact ih
  simp only [List.filter_cons]
  rcases List.mem_cons.1 h with rfl|h
  ·rw [if_pos h1,if_neg (by rw [h2];simp)]
   have:=le l
   simp;omega
  ·have ih:=filter_lt p q hpq l x h h1 h2
   by_cases hq:q y=true
   ·rw [if_pos hq,if_pos (hpq y hq)];simp;exact ih
   ·rw [if_neg hq]
    split
    ·simp;omega
    ·exact ih
theorem IL{listed:Array Bool}{i:Nat}(hi:i<listed.size)(h:isIn listed i=false):xD (listed.setIfInBounds i true)<xD listed:=by
 unfold xD
 rw [Array.size_setIfInBounds]
 refine filter_lt _ _ (fun x hx=>?_) _ i (by simpa using hi) (by simp [h]) (by rw [uK hi];simp)
 rw [uK hi] at hx
 simp only [Bool.not_eq_true',Bool.or_eq_false_iff] at hx
 simp [hx.2]
theorem GV{listed:Array Bool}(h:xD listed=0):∀ i,i<listed.size→isIn listed i=true:=by
 intro i hi
 unfold xD at h
 have:=List.eq_nil_of_length_eq_zero h
 rw [List.filter_eq_nil_iff] at this
 simpa using this i (by simpa using hi)
theorem IM{ops:Array Oper}{listed:Array Bool}(hs:listed.size=ops.size)(he:∀ (i:Nat) (o:Oper),ops[i]?=some o→∀ e ∈ o.after.toList,Region.binds .any e=true→e.on<i)(h:Region.ready .any ops listed = []) :
  ∀ i,i<ops.size→isIn listed i=true:=by
 intro i
 induction i using Nat.strongRecOn with
 |ind i ih=>
  intro hi
  cases hl:isIn listed i with
  |true=>rfl
  |false=>
   exfalso
   have ho:ops[i]?=some ops[i]:=by simp [hi]
   have:i ∈ Region.ready .any ops listed:=by
    refine mem_ready.2 ⟨?_,_,ho,fun e hmem hb=>?_⟩
    ·have:=hl
     unfold isIn at this
     simp only [Array.getD_eq_getD_getElem?] at this ⊢
     rw [Array.getElem?_eq_getElem (by omega)] at this ⊢
     simpa using this
    ·have:=he i _ ho e (by simpa using hmem) hb
     exact ih e.on this (by omega)
   rw [h] at this;cases this
section
variable {C:LW} {listed:Array Bool} {a:Act} {w:World} {μ:Mu} {dn:List Dn} {R:List (Nat×Oper)} {lg:List Read} {s:St}
theorem kY.done(hp:pY C.ops C.ms C.L)(hi:kY C listed a w μ dn R lg s)(hall:∀ i,i<C.ops.size→isIn listed i=true):C.K s=true∧SR C.w0 μ s a w∧Ext C.μb C.hb C.wb μ s.h w:=by
 have hR:R = []:=by
  cases R with
  |nil=>rfl
  |cons p R=>
   have hm:p ∈ C.L:=by rw [hi.split];simp
   have hlt:=(Array.getElem?_eq_some_iff.1 (hp.mem p hm)).1
   have:=(hi.fresh hp (r:=p) (by simp)).1
   rw [hall _ hlt] at this;cases this
 subst hR
 have hrun:=hi.run
 simp only [eZ] at hrun
 refine ⟨hrun,⟨?_,hi.defs,hi.good⟩,hi.ext⟩
 have:fq C.env0 C.n (isIn listed) dn=s.env:=by
  rw [hi.senv]
  refine nx fun x hx=>?_
  have hm:(x.i,x.o) ∈ C.L:=by rw [hi.split];simp;exact ⟨x,hx,rfl,rfl⟩
  exact hall _ (Array.getElem?_eq_some_iff.1 (hp.mem _ hm)).1
 have he:=hi.env
 rw [this] at he
 rw [hi.slots];exact he
theorem GW(hp:pY C.ops C.ms C.L)(hc:fE C.P C.call){Q:Exit→Act→World→Prop}(hQ:∀ s' a' w' μ',C.K s'=true→SR C.w0 μ' s' a' w'→Ext C.μb C.hb C.wb μ' s'.h w'→Q .normal a' w') :
  ∀ (fuel:Nat) (listed:Array Bool) (a:Act) (w:World) (μ:Mu) (dn:List Dn) (R:List (Nat×Oper)) (lg:List Read) (s:St),kY C listed a w μ dn R lg s→xD listed≤fuel→wpAny C.P .any C.ops Q fuel listed a w:=by
 have fin:∀ (listed:Array Bool) (a:Act) (w:World) (μ:Mu) (dn:List Dn) (R:List (Nat×Oper)) (lg:List Read) (s:St),kY C listed a w μ dn R lg s→Region.ready .any C.ops listed = []→Q .normal a w:=by
  intro listed a w μ dn R lg s hi hr
  obtain ⟨h1,h2,h3⟩:=hi.done hp (IM hi.size hp.jz hr)
  exact hQ _ _ _ _ h1 h2 h3
 intro fuel
 induction fuel with
 |zero=>
  intro listed a w μ dn R lg s hi hl
  have hall:=GV (Nat.le_zero.1 hl)
  have hr:Region.ready .any C.ops listed = []:=by
   cases h:Region.ready .any C.ops listed with
   |nil=>rfl
   |cons i l=>
    have hm:i ∈ Region.ready .any C.ops listed:=by rw [h];simp
    obtain ⟨h1,o,ho,_⟩:=mem_ready.1 hm
    have hlt:=(Array.getElem?_eq_some_iff.1 ho).1
    have:=hall i (by rw [hi.size];exact hlt)
    unfold isIn at this
    simp only [Array.getD_eq_getD_getElem?] at this h1
    rw [Array.getElem?_eq_getElem (by rw [hi.size];exact hlt)] at this h1
    simp at this h1
    rw [this] at h1;cases h1
  exact ⟨hr,fin _ _ _ _ _ _ _ _ hi hr⟩
 |succ fuel ih=>
  intro listed a w μ dn R lg s hi0 hl
  refine ⟨fin _ _ _ _ _ _ _ _ hi0,fun i hmem=>?_⟩
  obtain ⟨dn,R,lg,s,hi,hhead⟩:=hi0.advance hp
  obtain ⟨h1,o,ho,_⟩:=mem_ready.1 hmem
  have hlt:i<C.ops.size:=(Array.getElem?_eq_some_iff.1 ho).1
  have hlt':i<listed.size:=by rw [hi.size];exact hlt
  have hS:isIn listed i=false:=by
   unfold isIn
   simp only [Array.getD_eq_getD_getElem?] at h1 ⊢
   rw [Array.getElem?_eq_getElem hlt'] at h1 ⊢
   simpa using h1
  have hr:∀ j,ze C.ms i j=true→isIn listed j=true:=fun j hb=>by
   rw [hp.masks] at hb
   exact IG (by rw [← hp.masks];exact hi.closed) hmem hb
  have hl':xD (listed.setIfInBounds i true)≤fuel:=by have:=IL hlt' hS;omega
  obtain ⟨p,hpL,hpi⟩:=hp.cover i hlt
  have hpo:=hp.mem p hpL
  rw [hpi,ho] at hpo
  obtain ⟨pi,po⟩:=p
  simp only at hpi hpo
  obtain rfl:=hpi
  obtain rfl:=Option.some.inj hpo
  have hρ:∀ x,VR C.w0 μ (evalArg (fq C.env0 C.n (isIn listed) dn) x) (a.eval x):=SR.eval (s:=⟨fq C.env0 C.n (isIn listed) dn,C.n,s.defs,s.h⟩) ⟨hi.env,hi.defs,hi.good⟩
  have hwant:∀ b,g9 C.ops.toList o (fq C.env0 C.n (isIn listed) dn)=some b→Region.wanted o (yielded C.ops a.tmps)=b:=fun b hb=>jS (s:=⟨fq C.env0 C.n (isIn listed) dn,C.n,s.defs,s.h⟩) hi.env hb
  unfold wpOp
  simp only [ho]
  rw [hi.split,List.mem_append,List.mem_map] at hpL
  rcases hpL with ⟨d,hd,hdo⟩|hpR
  ·
   rw [List.mem_reverse] at hd
   simp only [Prod.mk.injEq] at hdo
   obtain ⟨rfl,rfl⟩:=hdo
   have hag:=hi.agree hp hd hS hr
   have hops:∀ x ∈ d.o.op.operands,evalArg (fq C.env0 C.n (isIn listed) dn) x=evalArg d.env x:=EU hag
   obtain ⟨wb,q1,q2,q3⟩:=(hi.pend d hd hS).ex
   rw [← uR hag] at q1
   rw [hwant wb q1]
   cases wb with
   |false=>
    simp only [Bool.false_eq_true,if_false]
    have hi':=hi.Sw hp hd hS hlt' hr (Mu.le.refl μ) (vc:=undef) (by rw [q2 rfl];exact VR.bD) hi.good hi.ext (fun _ _ _ _ _ h=>h)
    exact ih _ _ _ _ _ _ _ _ hi' hl'
   |true=>
    rw [if_pos rfl]
    refine .inl ?_
    rcases q3 rfl with ⟨k1,k2⟩|⟨k1,k2,k3⟩|⟨k1,k2,k,ob,k3,k4,k5,k6⟩
    ·rw [← xA hops] at k2
     obtain ⟨vc,e1,e2⟩:=EI hρ k1 k2
     unfold Oper.wp
     rw [e1 w,Oper.upon_value]
     exact ih _ _ _ _ _ _ _ _ (hi.Sw hp hd hS hlt' hr (Mu.le.refl μ) e2 hi.good hi.ext (fun _ _ _ _ _ h=>h)) hl'
    ·rw [← xB hops] at k2
     obtain ⟨vc,e1,e2⟩:=EK hi.good hρ k1 k2
     unfold Oper.wp
     rw [e1,Oper.upon_value]
     exact ih _ _ _ _ _ _ _ _ (hi.Sw hp hd hS hlt' hr (Mu.le.refl μ) e2 hi.good hi.ext (fun _ _ _ _ _ h=>h)) hl'
    ·rw [← uJ hops] at k3
     obtain ⟨O,n,f,hm⟩:=Cq (w0:=C.w0) (μ:=μ) hρ k1 k3
     have hb:=hi.blks d hd k2
     have hg':=hi.good.J6 hb.2 k6 k5 O n (hm.obj _)
     have hx':=hi.ext.J6 (n:=n) hb.1 k6 O
     unfold Oper.wp
     rw [hm.run w,Oper.upon_value]
     refine ih _ _ _ _ _ _ _ _ (hi.Sw hp hd hS hlt' hr (Mu.vK k6) (by rw [k4];exact hm.val _ _ _ (Mu.add_same _ _ _)) hg' hx' (fun d' hd' _ hne hal hun kk hk=>?_)) hl'
     rw [Mu.iG] at hk
     have:d'.b≠d.b:=hi.sep d' hd' d hd hne hal k2
     rw [if_neg this] at hk
     exact hun kk hk
  ·
   have hRp:∃ rest,R=(pi,o) :: rest:=by
    cases R with
    |nil=>cases hpR
    |cons q rest=>
     rcases List.mem_cons.1 hpR with e|hq
     ·exact ⟨rest,by rw [e]⟩
     ·exfalso
      have hq':=(hi.pairs hp).2.1
      rw [List.pairwise_cons] at hq'
      have hb:=(hq'.1 _ hq).eff (hhead q rest rfl)
      have h2:=hr _ hb
      have:=(hi.fresh hp (r:=q) (by simp)).1
      rw [h2] at this;cases this
   obtain ⟨rest,rfl⟩:=hRp
   have heff:=hhead _ _ rfl
   have hk:eR o.op = .eff:=by
    unfold pV at heff
    simp only at heff
    cases hk:eR o.op<;>simp [hk] at heff
    rfl
   have hag:=hi.IK hp hr
   have hops:∀ x ∈ o.op.operands,evalArg (fq C.env0 C.n (isIn listed) dn) x=evalArg s.env x:=EU (ops:=C.ops.toList) hag
   obtain ⟨envs,ns,defss,hs0⟩:=s
   have hrun:=hi.run
   simp only [eZ] at hrun
   rw [← uR (ops:=C.ops.toList) hag] at hrun
   split at hrun
   ·rename_i hw
    rw [hwant _ hw,if_pos rfl]
    simp only [hk] at hrun
    rw [← DF hops] at hrun
    refine .inl ?_
    have hs2:SR C.w0 μ ⟨fq C.env0 C.n (isIn listed) dn,C.n,defss,hs0⟩ a w:=⟨hi.env,hi.defs,hi.good⟩
    refine zk hs2 hc ⟨fun v defs' h' a' w' μ' hK hs' hx=>?_,fun v vc h' w' μ' hK _ _ _=>by cases hK⟩ hrun
    simp only at hK
    split at hK
    ·rename_i hsr
     refine ih _ _ _ _ _ _ _ _ (hi.Oc hp hlt' hr (jO hK) hs' hx (fun r hr2 hk2 hb hv=>?_)) hl'
     exact ES hk2 (nM hsr r hr2 hb)
    ·cases hK
   ·rename_i hw
    rw [hwant _ hw]
    simp only [Bool.false_eq_true,if_false]
    have hs2:SR C.w0 μ ⟨fq C.env0 C.n (isIn listed) dn,C.n,defss,hs0⟩ a w:=⟨hi.env,hi.defs,hi.good⟩
    have hs3:=hs2.left o.dst (h':=hs0) VR.bD hi.good (Mu.le.refl μ)
    exact ih _ _ _ _ _ _ _ _ (hi.Oc hp hlt' hr (v:=bD) (jO hrun) hs3 (Ext.refl _ _ _) (fun r _ _ _ hv=>hv)) hl'
   ·cases hrun
end
theorem HW{P:Program}{w0 w:World}{μ:Mu}{s:St}{a:Act}(hm:P.follows .mixedOrders=true){call:gW}(hc:fE P call){id:Nat}{ops:Array Oper}{plan:Oy}(hp:EB ops.toList=some plan){K:St→Bool}
  {Q:Exit→Act→World→Prop} (hs:SR w0 μ s a w) (hQ:∀ s' a' w' μ',K s'=true→SR w0 μ' s' a' w'→Ext μ s.h w μ' s'.h w'→Q .normal a' w')
  (h:eZ P call ops.toList plan.ms plan.L [] s K=true):(Code.region id ops true).wp P Q a w:=by
 refine wp_region_any hm ?_
 let C:LW:=⟨P,call,ops,plan.ms,plan.L,K,w0,μ,s.h,w,s.env,s.n⟩
 have hpl:pY C.ops C.ms C.L:=GU hp
 have hin:∀ k,isIn (Array.replicate ops.size false) k=false:=fun k=>by
  unfold isIn
  simp only [Array.getD_eq_getD_getElem?,Array.getElem?_replicate]
  split<;>rfl
 have hi:kY C (Array.replicate ops.size false) a { w with drawn:=w.drawn+1 } μ [] plan.L [] s:=by
  refine ⟨rfl,h,rfl,rfl,by simp [C],fun i hh=>?_,by simp,fun i j hh=>?_,hs.env,hs.defs,hs.good.same rfl rfl rfl rfl,?_,by simp,by simp,by simp,by simp⟩
  ·rw [hin] at hh;cases hh
  ·rw [hin] at hh;cases hh
  ·exact ⟨Mu.le.refl μ,fun _ _ _=>rfl,fun _ _ h=>.inl h,Nat.le_refl _,Nat.le_refl _,fun _ _ _=>rfl,fun _ _ h=>.inl h,fun _ _ h=>.inl h⟩
 refine GW hpl hc hQ _ _ _ _ _ _ _ _ _ hi ?_
 unfold xD
 refine Nat.le_trans (List.length_filter_le _ _) ?_
 simp [C]
end Go.AM