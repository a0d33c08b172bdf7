/- A deferred function that begins with recover. Conditions: none. -/
import Derived.Test.YtmkffehchicgaaaGreatPf8
import Derived.Recover
set_option linter.unusedSimpArgs false
set_option linter.unusedVariables false
namespace Go.AM
open List Nat Bool Option
open Go Go.RowKit
noncomputable section
theorem aaL{P:Program}{ops:Array Oper}{Q:Exit->Act->List Frame->World->Prop}{o:Oper}{rest:List Nat}{a:Act}{cs:List Frame}{w:World}
  (h:o.wp P a w (fun a' w'=>wpOpsS P ops Q rest a' cs w') (fun e a' w'=>Q e a' cs w')) :
  (match (execOp a.eval o).run P w with
    |.ok .recover w'=>
     match recoverD cs with
     |some (v,rD)=>wpOpsS P ops Q rest (a.put o.dst v) rD w'
     |none=>wpOpsS P ops Q rest (a.put o.dst .nilIface) cs w'
    |r=>o.upon P a (fun a' w'=>wpOpsS P ops Q rest a' cs w') (fun e a' w'=>Q e a' cs w') r):=by
 unfold Oper.wp at h;split
 ·rename_i w' hr;rw [hr] at h;exact h.elim
 ·exact h
section
variable {P:Program} {w0 w:World} {μ μ':Mu} {h h':ag} {s:St} {a:Act}
theorem Ks{call:lI}(hc:g9 P call){ops:Array Oper}{K:RS->Bool}{Q:Exit->Act->List Frame->World->Prop}{cs:List Frame}:∀ (l:List Oper) (i:Nat) (s:St) (a:Act) (w:World) (μ:Mu),(∀ j o,l[j]?=some o->ops[i+j]?=some o) ->
  SR w0 μ s a w->(hl:BR w0 μ s.h w K (fun e a' w'=>Q e a' cs w'))->pE P call ops.toList l s K=true->wpOpsS P ops Q (range' i l.length) a cs w
 |[],i,s,a,w,μ,hi,hs,hl,h=>by
  simp only [length_nil,range'_zero,wpOpsS];exact hl.ok _ _ _ _ h hs (Ext.refl _ _ _)
 |o :: rest,i,s,a,w,μ,hi,hs,hl,h=>by
  have hio:ops[i]?=some o:=by simpa using hi 0 o rfl
  obtain ⟨env,n,defs,hp⟩:=s;simp only [length_cons,range'_succ,wpOpsS,hio];simp only [pE] at h
  have tj:∀ j o',rest[j]?=some o'->ops[i+1+j]?=some o':=fun j o' hj=>by
   have:=hi (j+1) o' (by simpa using hj)
   rwa [show i+1+j=i+(j+1) by omega]
  split at h
  ·rename_i hw;rw [nk hs.env hw,if_pos rfl];refine aaL (EG hs hc ⟨fun v lJ h' a' w' μ' hK jc hx=>?_,fun v vc h' w' μ' hK hv jc hx=>?_⟩ h)
   ·exact Ks hc rest (i+1) _ a' w' μ' tj jc (hl.after hx) (mZ hK)
   ·exact hl.panic v vc _ a w' μ' hK hv jc hx
  ·rename_i hw;rw [nk hs.env hw];simp only [false_eq_true,if_false];have jc:=hs.left o.dst (h':=hp) VR.bK hs.iP (Mu.le.refl μ);exact Ks hc rest (i+1) ⟨oC env n o.dst bK,n,defs,hp⟩ _ w μ tj jc hl (mZ h)
  ·cases h
def zK:lI:=fun _ _ _ _=>false
theorem AQ(P:Program):g9 P zK:=fun f args h K hh=>by cases hh
def ON(K:Option AV->ag->Bool):AX->St->Bool
 |.normal,s=>(match s.defs with|[]=>K none s.h|_=>false)
 |.ret,s=>(match s.defs with|[]=>K none s.h|_=>false)
 |_,_=>false
def OO(P:Program)(n:Nat)(d:Tmp)(ops:List Oper)(c:Code):List AV->Option AV->ag->(Option AV->ag->Bool)->Bool:=fun args LG h K=>
 match ops with
 |[]=>false
 |_ :: rest=>pE P zK ops rest ⟨aa (aI args) d (match LG with|some v=>v|none=>.tc),n,[],h⟩ fun
  |.ok s=>evalCode P zK 0 c s (ON K)
  |.panic _ _=>false
structure QB (P:Program) (f:FuncId) (n:Nat) (d:Tmp) (ops:List Oper) (c:Code) (np:Nat):Prop where
 ex:∃ fn id o ts,P.funcs[f]?=some fn/\fn.body=some (.seq (.region id ops.toArray false) c)/\fn.ntmps=n/\fn.name≠ "runtime.NumGoroutine"/\fn.results.toList = []/\d<n/\np<=n /\
  ops[0]?=some o/\o.dst=some d/\o.guard=none/\o.op = .call ⟨.builtin .recover,#[],ts⟩
theorem Kt(hm:P.follows .mixedOrders=true){f:FuncId}{n:Nat}{d:Tmp}{ops:List Oper}{c:Code}{np:Nat}(hd:QB P f n d ops c np){args:List AV}(hnp:args.length<=np){LG:Option AV}{h:ag}{K:Option AV->ag->Bool}
  (hh:OO P n d ops c args LG h K=true):Enters P f /\
  ∀ (w0:World) (μ:Mu) (w:World) (vs:List Value) (pv:Option Value),Good w0 μ h w->fO w0 μ args vs->HC w0 μ LG pv->CallsD P f vs.toArray (rH pv) w fun
   |.returned _,u',w'=>∃ vJ NR h' μ',K vJ h'=true/\HC w0 μ' vJ NR/\settle u'=rH NR/\Good w0 μ' h' w'/\Ext μ h w μ' h' w'
   |_,_,_=>False:=by
 obtain ⟨fn,id,o,ts,Tr,hb,hn,Ui,wL,Ts,anJ,ho,hod,hog,hoo⟩:=hd.ex;refine ⟨⟨fn,_,Tr,hb,Ui⟩,fun w0 μ w vs pv hg hv hp=>?_⟩;refine callsD_of_wpS Tr hb fun c0 cs hc0=>?_;have ai8:=BS (n:=fn.ntmps) hv (by omega)
 cases ops with
 |nil=>cases ho
 |cons o' rest=>
  simp at ho;subst ho;simp only [OO] at hh;refine wpS_seq (wpS_region ?_);have qv:(o' :: rest).toArray.size=rest.length+1:=by simp
  rw [qv,range_eq_range',range'_succ];have h0:(o' :: rest).toArray[0]?=some o':=by simp
  have hw:∀ t:Array Value,Region.wanted o' (yielded (o' :: rest).toArray t)=true:=fun t=>by unfold Region.wanted;rw [hog]
  have Ku:∀ (ac:Act),(execOp ac.eval o').run P w = .ok .recover w:=fun ac=>by simp [execOp,hoo,resolve,invoke,builtin]
  simp only [wpOpsS,h0];rw [if_pos (hw _),Ku]
  have key:∀ (v:AV) (vc:Value) (cs1:List Frame) (u':FrameMode),VR w0 μ v vc->cs1 = { c0 with mode:=u' } :: cs->settle u' = .returning ->
    pE P zK (o' :: rest) rest ⟨aa (aI args) d v,n,[],h⟩ (fun
     |.ok s=>evalCode P zK 0 c s (ON K)
     |.panic _ _=>false)=true ->
    wpOpsS P (o' :: rest).toArray (Exit.thenS (c.wpS P (bodyPostS P fn c0 cs fun
      |.returned _,u',w'=>∃ vJ NR h' μ',K vJ h'=true/\HC w0 μ' vJ NR/\settle u'=rH NR/\Good w0 μ' h' w'/\Ext μ h w μ' h' w'
      |_,_,_=>False)) (bodyPostS P fn c0 cs fun
      |.returned _,u',w'=>∃ vJ NR h' μ',K vJ h'=true/\HC w0 μ' vJ NR/\settle u'=rH NR/\Good w0 μ' h' w'/\Ext μ h w μ' h' w'
      |_,_,_=>False)) (range' (0+1) rest.length) (Act.put { tmps:=vs.toArray++Array.replicate (fn.ntmps-vs.toArray.size) undef,defers:=[] } o'.dst vc) cs1 w:=by
   intro v vc cs1 u' hvv uq nT he;have hs:SR w0 μ ⟨aI args,n,[],h⟩ { tmps:=vs.toArray++Array.replicate (fn.ntmps-vs.toArray.size) undef,defers:=[] } w:=⟨by rw [<- hn];exact ai8,.nil,hg⟩
   have qX:=hs.left (h':=h) (some d) hvv hg (Mu.le.refl μ);rw [hod]
   have he2:pE P zK (o' :: rest).toArray.toList rest (St.aai ⟨aI args,n,[],h⟩ h (some d) v) (fun
     |.ok s=>evalCode P zK 0 c s (ON K)
     |.panic _ _=>false)=true:=by
    simp only [St.aai,oC];rw [if_pos (by omega)];exact he
   refine Ks (AQ P) rest (0+1) _ _ w μ (fun j o2 hj=>by
    show (o' :: rest).toArray[0+1+j]?=some o2
    rw [show 0+1+j=j+1 by omega];simpa using hj) qX ⟨fun s' a' w' μ' hK jc hx=>?_,fun _ _ _ _ _ _ hK _ _ _=>by cases hK⟩ he2
   refine wpS_of_wp (Qt (w0:=w0) hm (AQ P) 0 c s' a' w' μ' _ _ jc (fun e ex s2 a2 w2 μ2 Tt hq qX iu=>?_) hK)
   have fin:(match s2.defs with|[]=>K none s2.h|_=>false)=true->a2.defers = []/\∃ u',cs1 = { c0 with mode:=u' } :: cs/\∃ v,(results fn a2.tmps).run P w2 = .ok v w2 /\
     ∃ vJ NR h' μ',K vJ h'=true/\HC w0 μ' vJ NR/\settle u'=rH NR/\Good w0 μ' h' w2/\Ext μ h w μ' h' w2:=by
    intro hk;split at hk
    ·rename_i adi;have hdd:=qX.defs;rw [adi] at hdd
     have aja:a2.defers = []:=by
      cases ajb:a2.defers with
      |nil=>rfl
      |cons x xs=>rw [ajb] at hdd;cases hdd
     obtain ⟨vc2,hr,_⟩:=Db (fn:=fn) (vs:=[]) qX (by rw [wL];rfl);exact ⟨aja,u',uq,vc2,hr,none,none,s2.h,μ2,hk,.none,nT,qX.iP,hx.trans iu⟩
    ·cases hk
   cases hq with
   |normal=>exact fin Tt
   |ret=>exact fin Tt
   |exit id=>cases Tt
   |panic v vc hv=>cases Tt
  cases hp with
  |none=>
   have:recoverD (c0 :: cs)=none:=by simp [recoverD,hc0,rH]
   rw [this]
   exact key .tc .nilIface (c0 :: cs) .returning .tc (by
    have:c0 = { c0 with mode:=.returning }:=by
     have h1:c0.mode = .returning:=hc0;cases c0;simp_all
    rw [<- this]) rfl hh
  |some WZ=>
   rename_i pvv pvc;have:recoverD (c0 :: cs)=some (pvc,{ c0 with mode:=.panicking [{ v:=pvc,recovered:=true }] } :: cs):=by simp [recoverD,hc0,rH]
   rw [this];exact key _ _ _ (.panicking [{ v:=pvc,recovered:=true }]) WZ rfl rfl hh
end
end
end Go.AM