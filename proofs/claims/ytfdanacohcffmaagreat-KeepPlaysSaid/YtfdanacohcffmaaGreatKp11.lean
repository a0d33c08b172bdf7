/- A deferred function that begins with recover. Conditions: none. -/
import Derived.Test.YtfdanacohcffmaaGreatKp9
import Derived.Recover
set_option linter.unusedSimpArgs false
set_option linter.unusedVariables false
namespace Go.AM
open List Nat Bool Option
open Go Go.RowKit
noncomputable section
theorem adH{P:Program}{ops:Array Oper}{Q:Exit->Act->List Frame->World->Prop}{o:Oper}{rest:List Nat}{a:Act}{cs:List Frame}{w:World}
  (h:o.wp P a w (fun a' w'=>wpOpsS P ops Q rest a' cs w') (fun e a' w'=>Q e a' cs w')) :
  (match (execOp a.eval o).run P w with
    |.ok .recover w'=>
     match recoverD cs with
     |some (v,tc)=>wpOpsS P ops Q rest (a.put o.dst v) tc w'
     |none=>wpOpsS P ops Q rest (a.put o.dst .nilIface) cs w'
    |r=>o.upon P a (fun a' w'=>wpOpsS P ops Q rest a' cs w') (fun e a' w'=>Q e a' cs w') r):=by
 unfold Oper.wp at h;split
 ·rename_i w' hr;rw [hr] at h;exact h.elim
 ·exact h
section
variable {P:Program} {w0 w:World} {μ μ':Mu} {h h':Heap} {s:St} {a:Act}
theorem Mk{call:mU}(hc:iS P call){ops:Array Oper}{K:RS->Bool}{Q:Exit->Act->List Frame->World->Prop}{cs:List Frame}:∀ (l:List Oper) (i:Nat) (s:St) (a:Act) (w:World) (μ:Mu),(∀ j o,l[j]?=some o->ops[i+j]?=some o) ->
  SR w0 μ s a w->(hl:Dp w0 μ s.h w K (fun e a' w'=>Q e a' cs w'))->qZ P call ops.toList l s K=true->wpOpsS P ops Q (range' i l.length) a cs w
 |[],i,s,a,w,μ,hi,hs,hl,h=>by
  simp only [length_nil,range'_zero,wpOpsS];exact hl.ok _ _ _ _ h hs (Ext.refl _ _ _)
 |o :: rest,i,s,a,w,μ,hi,hs,hl,h=>by
  have VQ:ops[i]?=some o:=by simpa using hi 0 o rfl
  obtain ⟨env,n,defs,hp⟩:=s;simp only [length_cons,range'_succ,wpOpsS,VQ];simp only [qZ] at h
  have Ae:∀ j o',rest[j]?=some o'->ops[i+1+j]?=some o':=fun j o' hj=>by
   have:=hi (j+1) o' (by simpa using hj)
   rwa [show i+1+j=i+(j+1) by omega]
  split at h
  ·rename_i hw;rw [oK hs.env hw,if_pos rfl];refine adH (Gt hs hc ⟨fun v mV h' a' w' μ' hK iZ hx=>?_,fun v vc h' w' μ' hK hv iZ hx=>?_⟩ h)
   ·exact Mk hc rest (i+1) _ a' w' μ' Ae iZ (hl.after hx) (oD hK)
   ·exact hl.panic v vc _ a w' μ' hK hv iZ hx
  ·rename_i hw;rw [oK hs.env hw];simp only [false_eq_true,if_false];have iZ:=hs.left o.dst (h':=hp) VR.bz hs.iD (Mu.le.refl μ);exact Mk hc rest (i+1) ⟨qp env n o.dst bz,n,defs,hp⟩ _ w μ Ae iZ hl (oD h)
  ·cases h
def Bl:mU:=fun _ _ _ _=>false
theorem Cr(P:Program):iS P Bl:=fun f args h K hh=>by cases hh
def Rq(K:Option AV->Heap->Bool):AX->St->Bool
 |.normal,s=>(match s.defs with|[]=>K none s.h|_=>false)
 |.ret,s=>(match s.defs with|[]=>K none s.h|_=>false)
 |_,_=>false
def Rr(P:Program)(n:Nat)(d:Tmp)(ops:List Oper)(c:Code):List AV->Option AV->Heap->(Option AV->Heap->Bool)->Bool:=fun args NA h K=>
 match ops with
 |[]=>false
 |_ :: rest=>qZ P Bl ops rest ⟨cF (ay args) d (match NA with|some v=>v|none=>.uy),n,[],h⟩ fun
  |.ok s=>evalCode P Bl 0 c s (Rq K)
  |.panic _ _=>false
structure Tf (P:Program) (f:FuncId) (n:Nat) (d:Tmp) (ops:List Oper) (c:Code) (np:Nat):Prop where
 ex:∃ fn id o ts,P.funcs[f]?=some fn/\fn.body=some (.seq (.region id ops.toArray false) c)/\fn.ntmps=n/\fn.name≠ "runtime.NumGoroutine"/\fn.results.toList = []/\d<n/\np<=n /\
  ops[0]?=some o/\o.dst=some d/\o.guard=none/\o.op = .call ⟨.builtin .recover,#[],ts⟩
theorem Ml(hm:P.follows .mixedOrders=true){f:FuncId}{n:Nat}{d:Tmp}{ops:List Oper}{c:Code}{np:Nat}(hd:Tf P f n d ops c np){args:List AV}(hnp:args.length<=np){NA:Option AV}{h:Heap}{K:Option AV->Heap->Bool}
  (hh:Rr P n d ops c args NA h K=true):Enters P f /\
  ∀ (w0:World) (μ:Mu) (w:World) (vs:List Value) (pv:Option Value),Good w0 μ h w->fA w0 μ args vs->Jv w0 μ NA pv->CallsD P f vs.toArray (tj pv) w fun
   |.returned _,u',w'=>∃ w8 Qm h' μ',K w8 h'=true/\Jv w0 μ' w8 Qm/\settle u'=tj Qm/\Good w0 μ' h' w'/\Ext μ h w μ' h' w'
   |_,_,_=>False:=by
 obtain ⟨fn,id,o,ts,VS,hb,hn,WE,Zm,hdn,aqN,ho,hod,hog,hoo⟩:=hd.ex;refine ⟨⟨fn,_,VS,hb,WE⟩,fun w0 μ w vs pv hg hv hp=>?_⟩;refine callsD_of_wpS VS hb fun c0 cs hc0=>?_;have alT:=Dq (n:=fn.ntmps) hv (by omega)
 cases ops with
 |nil=>cases ho
 |cons o' rest=>
  simp at ho;subst ho;simp only [Rr] at hh;refine wpS_seq (wpS_region ?_);have hsz:(o' :: rest).toArray.size=rest.length+1:=by simp
  rw [hsz,range_eq_range',range'_succ];have h0:(o' :: rest).toArray[0]?=some o':=by simp
  have hw:∀ t:Array Value,Region.wanted o' (yielded (o' :: rest).toArray t)=true:=fun t=>by unfold Region.wanted;rw [hog]
  have alU:∀ (ac:Act),(execOp ac.eval o').run P w = .ok .recover w:=fun ac=>by simp [execOp,hoo,resolve,invoke,builtin]
  simp only [wpOpsS,h0];rw [if_pos (hw _),alU]
  have key:∀ (v:AV) (vc:Value) (cs1:List Frame) (u':FrameMode),VR w0 μ v vc->cs1 = { c0 with mode:=u' } :: cs->settle u' = .returning ->
    qZ P Bl (o' :: rest) rest ⟨cF (ay args) d v,n,[],h⟩ (fun
     |.ok s=>evalCode P Bl 0 c s (Rq K)
     |.panic _ _=>false)=true ->
    wpOpsS P (o' :: rest).toArray (Exit.thenS (c.wpS P (bodyPostS P fn c0 cs fun
      |.returned _,u',w'=>∃ w8 Qm h' μ',K w8 h'=true/\Jv w0 μ' w8 Qm/\settle u'=tj Qm/\Good w0 μ' h' w'/\Ext μ h w μ' h' w'
      |_,_,_=>False)) (bodyPostS P fn c0 cs fun
      |.returned _,u',w'=>∃ w8 Qm h' μ',K w8 h'=true/\Jv w0 μ' w8 Qm/\settle u'=tj Qm/\Good w0 μ' h' w'/\Ext μ h w μ' h' w'
      |_,_,_=>False)) (range' (0+1) rest.length) (Act.put { tmps:=vs.toArray++Array.replicate (fn.ntmps-vs.toArray.size) undef,defers:=[] } o'.dst vc) cs1 w:=by
   intro v vc cs1 u' hvv hcs mu he;have hs:SR w0 μ ⟨ay args,n,[],h⟩ { tmps:=vs.toArray++Array.replicate (fn.ntmps-vs.toArray.size) undef,defers:=[] } w:=⟨by rw [<- hn];exact alT,.nil,hg⟩
   have se:=hs.left (h':=h) (some d) hvv hg (Mu.le.refl μ);rw [hod]
   have he2:qZ P Bl (o' :: rest).toArray.toList rest (St.ada ⟨ay args,n,[],h⟩ h (some d) v) (fun
     |.ok s=>evalCode P Bl 0 c s (Rq K)
     |.panic _ _=>false)=true:=by
    simp only [St.ada,qp];rw [if_pos (by omega)];exact he
   refine Mk (Cr P) rest (0+1) _ _ w μ (fun j o2 hj=>by
    show (o' :: rest).toArray[0+1+j]?=some o2
    rw [show 0+1+j=j+1 by omega];simpa using hj) se ⟨fun s' a' w' μ' hK iZ hx=>?_,fun _ _ _ _ _ _ hK _ _ _=>by cases hK⟩ he2
   refine wpS_of_wp (S7 (w0:=w0) hm (Cr P) 0 c s' a' w' μ' _ _ iZ (fun e ex s2 a2 w2 μ2 YD hq se fK=>?_) hK)
   have fin:(match s2.defs with|[]=>K none s2.h|_=>false)=true->a2.defers = []/\∃ u',cs1 = { c0 with mode:=u' } :: cs/\∃ v,(results fn a2.tmps).run P w2 = .ok v w2 /\
     ∃ w8 Qm h' μ',K w8 h'=true/\Jv w0 μ' w8 Qm/\settle u'=tj Qm/\Good w0 μ' h' w2/\Ext μ h w μ' h' w2:=by
    intro hk;split at hk
    ·rename_i af6;have hdd:=se.defs;rw [af6] at hdd
     have hnil:a2.defers = []:=by
      cases alW:a2.defers with
      |nil=>rfl
      |cons x xs=>rw [alW] at hdd;cases hdd
     obtain ⟨vc2,hr,_⟩:=EP (fn:=fn) (vs:=[]) se (by rw [Zm];rfl);exact ⟨hnil,u',hcs,vc2,hr,none,none,s2.h,μ2,hk,.none,mu,se.iD,hx.trans fK⟩
    ·cases hk
   cases hq with
   |normal=>exact fin YD
   |ret=>exact fin YD
   |exit id=>cases YD
   |panic v vc hv=>cases YD
  cases hp with
  |none=>
   have:recoverD (c0 :: cs)=none:=by simp [recoverD,hc0,tj]
   rw [this]
   exact key .uy .nilIface (c0 :: cs) .returning .uy (by
    have:c0 = { c0 with mode:=.returning }:=by
     have h1:c0.mode = .returning:=hc0;cases c0;simp_all
    rw [<- this]) rfl hh
  |some hpv=>
   rename_i pvv pvc;have:recoverD (c0 :: cs)=some (pvc,{ c0 with mode:=.panicking [{ v:=pvc,recovered:=true }] } :: cs):=by simp [recoverD,hc0,tj]
   rw [this];exact key _ _ _ (.panicking [{ v:=pvc,recovered:=true }]) hpv rfl rfl hh
end
end
end Go.AM