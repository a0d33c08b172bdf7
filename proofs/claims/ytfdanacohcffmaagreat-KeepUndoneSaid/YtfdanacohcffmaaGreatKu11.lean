/- A deferred function that begins with recover. Conditions: none. -/
import Derived.Test.YtfdanacohcffmaaGreatKu9
import Derived.Recover
set_option linter.unusedSimpArgs false
set_option linter.unusedVariables false
namespace Go.AM
open List Nat Bool Option
open Go Go.RowKit
noncomputable section
theorem VS{P:Program}{ops:Array Oper}{Q:Exit->Act->List Frame->World->Prop}{o:Oper}{rest:List Nat}{a:Act}{cs:List Frame}{w:World}
  (h:o.wp P a w (fun a' w'=>wpOpsS P ops Q rest a' cs w') (fun e a' w'=>Q e a' cs w')) :
  (match (execOp a.eval o).run P w with
    |.ok .recover w'=>
     match recoverD cs with
     |some (v,ou)=>wpOpsS P ops Q rest (a.put o.dst v) ou w'
     |none=>wpOpsS P ops Q rest (a.put o.dst .nilIface) cs w'
    |r=>o.upon P a (fun a' w'=>wpOpsS P ops Q rest a' cs w') (fun e a' w'=>Q e a' cs w') r):=by
 unfold Oper.wp at h;split
 ·rename_i w' hr;rw [hr] at h;exact h.elim
 ·exact h
section
variable {P:Program} {w0 w:World} {μ μ':Mu} {h h':Heap} {s:St} {a:Act}
theorem GJ{call:jI}(hc:fR P call){ops:Array Oper}{K:RS->Bool}{Q:Exit->Act->List Frame->World->Prop}{cs:List Frame}:∀ (l:List Oper) (i:Nat) (s:St) (a:Act) (w:World) (μ:Mu),(∀ j o,l[j]?=some o->ops[i+j]?=some o) ->
  SR w0 μ s a w->(hl:yY w0 μ s.h w K (fun e a' w'=>Q e a' cs w'))->mM P call ops.toList l s K=true->wpOpsS P ops Q (range' i l.length) a cs w
 |[],i,s,a,w,μ,hi,hs,hl,h=>by
  simp only [length_nil,range'_zero,wpOpsS];exact hl.ok _ _ _ _ h hs (Ext.refl _ _ _)
 |o :: rest,i,s,a,w,μ,hi,hs,hl,h=>by
  have Ot:ops[i]?=some o:=by simpa using hi 0 o rfl
  obtain ⟨env,n,defs,hp⟩:=s;simp only [length_cons,range'_succ,wpOpsS,Ot];simp only [mM] at h
  have uX:∀ j o',rest[j]?=some o'->ops[i+1+j]?=some o':=fun j o' hj=>by
   have:=hi (j+1) o' (by simpa using hj)
   rwa [show i+1+j=i+(j+1) by omega]
  split at h
  ·rename_i hw;rw [kZ hs.env hw,if_pos rfl];refine VS (Bx hs hc ⟨fun v jJ h' a' w' μ' hK gu hx=>?_,fun v vc h' w' μ' hK hv gu hx=>?_⟩ h)
   ·exact GJ hc rest (i+1) _ a' w' μ' uX gu (hl.after hx) (kT hK)
   ·exact hl.panic v vc _ a w' μ' hK hv gu hx
  ·rename_i hw;rw [kZ hs.env hw];simp only [false_eq_true,if_false];have gu:=hs.left o.dst (h':=hp) VR.bI hs.gC (Mu.le.refl μ);exact GJ hc rest (i+1) ⟨l8 env n o.dst bI,n,defs,hp⟩ _ w μ uX gu hl (kT h)
  ·cases h
def wA:jI:=fun _ _ _ _=>false
theorem xS(P:Program):fR P wA:=fun f args h K hh=>by cases hh
def Kv(K:Option AV->Heap->Bool):AX->St->Bool
 |.normal,s=>(match s.defs with|[]=>K none s.h|_=>false)
 |.ret,s=>(match s.defs with|[]=>K none s.h|_=>false)
 |_,_=>false
def Kw(P:Program)(n:Nat)(d:Tmp)(ops:List Oper)(c:Code):List AV->Option AV->Heap->(Option AV->Heap->Bool)->Bool:=fun args HE h K=>
 match ops with
 |[]=>false
 |_ :: rest=>mM P wA ops rest ⟨aa (aC args) d (match HE with|some v=>v|none=>.pJ),n,[],h⟩ fun
  |.ok s=>evalCode P wA 0 c s (Kv K)
  |.panic _ _=>false
structure Ma (P:Program) (f:FuncId) (n:Nat) (d:Tmp) (ops:List Oper) (c:Code) (np:Nat):Prop where
 ex:∃ fn id o ts,P.funcs[f]?=some fn/\fn.body=some (.seq (.region id ops.toArray false) c)/\fn.ntmps=n/\fn.name≠ "runtime.NumGoroutine"/\fn.results.toList = []/\d<n/\np<=n /\
  ops[0]?=some o/\o.dst=some d/\o.guard=none/\o.op = .call ⟨.builtin .recover,#[],ts⟩
theorem GK(hm:P.follows .mixedOrders=true){f:FuncId}{n:Nat}{d:Tmp}{ops:List Oper}{c:Code}{np:Nat}(hd:Ma P f n d ops c np){args:List AV}(hnp:args.length<=np){HE:Option AV}{h:Heap}{K:Option AV->Heap->Bool}
  (hh:Kw P n d ops c args HE h K=true):Enters P f /\
  ∀ (w0:World) (μ:Mu) (w:World) (vs:List Value) (pv:Option Value),Good w0 μ h w->dY w0 μ args vs->Ed w0 μ HE pv->CallsD P f vs.toArray (oz pv) w fun
   |.returned _,u',w'=>∃ rX JR h' μ',K rX h'=true/\Ed w0 μ' rX JR/\settle u'=oz JR/\Good w0 μ' h' w'/\Ext μ h w μ' h' w'
   |_,_,_=>False:=by
 obtain ⟨fn,id,o,ts,Ou,hb,hn,Pc,RZ,Yh,aib,ho,hod,hog,hoo⟩:=hd.ex;refine ⟨⟨fn,_,Ou,hb,Pc⟩,fun w0 μ w vs pv hg hv hp=>?_⟩;refine callsD_of_wpS Ou hb fun c0 cs hc0=>?_;have adR:=yZ (n:=fn.ntmps) hv (by omega)
 cases ops with
 |nil=>cases ho
 |cons o' rest=>
  simp at ho;subst ho;simp only [Kw] at hh;refine wpS_seq (wpS_region ?_);have hsz:(o' :: rest).toArray.size=rest.length+1:=by simp
  rw [hsz,range_eq_range',range'_succ];have h0:(o' :: rest).toArray[0]?=some o':=by simp
  have hw:∀ t:Array Value,Region.wanted o' (yielded (o' :: rest).toArray t)=true:=fun t=>by unfold Region.wanted;rw [hog]
  have adS:∀ (ac:Act),(execOp ac.eval o').run P w = .ok .recover w:=fun ac=>by simp [execOp,hoo,resolve,invoke,builtin]
  simp only [wpOpsS,h0];rw [if_pos (hw _),adS]
  have key:∀ (v:AV) (vc:Value) (Xp:List Frame) (u':FrameMode),VR w0 μ v vc->Xp = { c0 with mode:=u' } :: cs->settle u' = .returning ->
    mM P wA (o' :: rest) rest ⟨aa (aC args) d v,n,[],h⟩ (fun
     |.ok s=>evalCode P wA 0 c s (Kv K)
     |.panic _ _=>false)=true ->
    wpOpsS P (o' :: rest).toArray (Exit.thenS (c.wpS P (bodyPostS P fn c0 cs fun
      |.returned _,u',w'=>∃ rX JR h' μ',K rX h'=true/\Ed w0 μ' rX JR/\settle u'=oz JR/\Good w0 μ' h' w'/\Ext μ h w μ' h' w'
      |_,_,_=>False)) (bodyPostS P fn c0 cs fun
      |.returned _,u',w'=>∃ rX JR h' μ',K rX h'=true/\Ed w0 μ' rX JR/\settle u'=oz JR/\Good w0 μ' h' w'/\Ext μ h w μ' h' w'
      |_,_,_=>False)) (range' (0+1) rest.length) (Act.put { tmps:=vs.toArray++Array.replicate (fn.ntmps-vs.toArray.size) undef,defers:=[] } o'.dst vc) Xp w:=by
   intro v vc Xp u' hvv hcs lN he;have hs:SR w0 μ ⟨aC args,n,[],h⟩ { tmps:=vs.toArray++Array.replicate (fn.ntmps-vs.toArray.size) undef,defers:=[] } w:=⟨by rw [<- hn];exact adR,.nil,hg⟩
   have qH:=hs.left (h':=h) (some d) hvv hg (Mu.le.refl μ);rw [hod]
   have he2:mM P wA (o' :: rest).toArray.toList rest (St.Vk ⟨aC args,n,[],h⟩ h (some d) v) (fun
     |.ok s=>evalCode P wA 0 c s (Kv K)
     |.panic _ _=>false)=true:=by
    simp only [St.Vk,l8];rw [if_pos (by omega)];exact he
   refine GJ (xS P) rest (0+1) _ _ w μ (fun j o2 hj=>by
    show (o' :: rest).toArray[0+1+j]?=some o2
    rw [show 0+1+j=j+1 by omega];simpa using hj) qH ⟨fun s' a' w' μ' hK gu hx=>?_,fun _ _ _ _ _ _ hK _ _ _=>by cases hK⟩ he2
   refine wpS_of_wp (LX (w0:=w0) hm (xS P) 0 c s' a' w' μ' _ _ gu (fun e ex s2 a2 w2 μ2 UF hq qH gi=>?_) hK)
   have fin:(match s2.defs with|[]=>K none s2.h|_=>false)=true->a2.defers = []/\∃ u',Xp = { c0 with mode:=u' } :: cs/\∃ v,(results fn a2.tmps).run P w2 = .ok v w2 /\
     ∃ rX JR h' μ',K rX h'=true/\Ed w0 μ' rX JR/\settle u'=oz JR/\Good w0 μ' h' w2/\Ext μ h w μ' h' w2:=by
    intro hk;split at hk
    ·rename_i Yi;have hdd:=qH.defs;rw [Yi] at hdd
     have hnil:a2.defers = []:=by
      cases adU:a2.defers with
      |nil=>rfl
      |cons x xs=>rw [adU] at hdd;cases hdd
     obtain ⟨vc2,hr,_⟩:=Ai (fn:=fn) (vs:=[]) qH (by rw [RZ];rfl);exact ⟨hnil,u',hcs,vc2,hr,none,none,s2.h,μ2,hk,.none,lN,qH.gC,hx.trans gi⟩
    ·cases hk
   cases hq with
   |normal=>exact fin UF
   |ret=>exact fin UF
   |exit id=>cases UF
   |panic v vc hv=>cases UF
  cases hp with
  |none=>
   have:recoverD (c0 :: cs)=none:=by simp [recoverD,hc0,oz]
   rw [this]
   exact key .pJ .nilIface (c0 :: cs) .returning .pJ (by
    have:c0 = { c0 with mode:=.returning }:=by
     have h1:c0.mode = .returning:=hc0;cases c0;simp_all
    rw [<- this]) rfl hh
  |some Xq=>
   rename_i pvv pvc;have:recoverD (c0 :: cs)=some (pvc,{ c0 with mode:=.panicking [{ v:=pvc,recovered:=true }] } :: cs):=by simp [recoverD,hc0,oz]
   rw [this];exact key _ _ _ (.panicking [{ v:=pvc,recovered:=true }]) Xq rfl rfl hh
end
end
end Go.AM