/- A deferred function that begins with recover. Conditions: none. -/
import Derived.Test.YtfdanacohcffmaaGreatKd9
import Derived.Recover
set_option linter.unusedSimpArgs false
set_option linter.unusedVariables false
namespace Go.AM
open List Nat Bool Option
open Go Go.RowKit
noncomputable section
theorem Xo{P:Program}{ops:Array Oper}{Q:Exit->Act->List Frame->World->Prop}{o:Oper}{rest:List Nat}{a:Act}{cs:List Frame}{w:World}
  (h:o.wp P a w (fun a' w'=>wpOpsS P ops Q rest a' cs w') (fun e a' w'=>Q e a' cs w')) :
  (match (execOp a.eval o).run P w with
    |.ok .recover w'=>
     match recoverD cs with
     |some (v,pg)=>wpOpsS P ops Q rest (a.put o.dst v) pg w'
     |none=>wpOpsS P ops Q rest (a.put o.dst .nilIface) cs w'
    |r=>o.upon P a (fun a' w'=>wpOpsS P ops Q rest a' cs w') (fun e a' w'=>Q e a' cs w') r):=by
 unfold Oper.wp at h;split
 ·rename_i w' hr;rw [hr] at h;exact h.elim
 ·exact h
section
variable {P:Program} {w0 w:World} {μ μ':Mu} {h h':Heap} {s:St} {a:Act}
theorem HH{call:jS}(hc:fZ P call){ops:Array Oper}{K:RS->Bool}{Q:Exit->Act->List Frame->World->Prop}{cs:List Frame}:∀ (l:List Oper) (i:Nat) (s:St) (a:Act) (w:World) (μ:Mu),(∀ j o,l[j]?=some o->ops[i+j]?=some o) ->
  SR w0 μ s a w->(hl:zU w0 μ s.h w K (fun e a' w'=>Q e a' cs w'))->ny P call ops.toList l s K=true->wpOpsS P ops Q (range' i l.length) a cs w
 |[],i,s,a,w,μ,hi,hs,hl,h=>by
  simp only [length_nil,range'_zero,wpOpsS];exact hl.ok _ _ _ _ h hs (Ext.refl _ _ _)
 |o :: rest,i,s,a,w,μ,hi,hs,hl,h=>by
  have PM:ops[i]?=some o:=by simpa using hi 0 o rfl
  obtain ⟨env,n,defs,hp⟩:=s;simp only [length_cons,range'_succ,wpOpsS,PM];simp only [ny] at h
  have wo:∀ j o',rest[j]?=some o'->ops[i+1+j]?=some o':=fun j o' hj=>by
   have:=hi (j+1) o' (by simpa using hj)
   rwa [show i+1+j=i+(j+1) by omega]
  split at h
  ·rename_i hw;rw [lF hs.env hw,if_pos rfl];refine Xo (Cn hs hc ⟨fun v jT h' a' w' μ' hK gI hx=>?_,fun v vc h' w' μ' hK hv gI hx=>?_⟩ h)
   ·exact HH hc rest (i+1) _ a' w' μ' wo gI (hl.after hx) (lu hK)
   ·exact hl.panic v vc _ a w' μ' hK hv gI hx
  ·rename_i hw;rw [lF hs.env hw];simp only [false_eq_true,if_false];have gI:=hs.left o.dst (h':=hp) VR.bM hs.fV (Mu.le.refl μ);exact HH hc rest (i+1) ⟨mQ env n o.dst bM,n,defs,hp⟩ _ w μ wo gI hl (lu h)
  ·cases h
def xP:jS:=fun _ _ _ _=>false
theorem yV(P:Program):fZ P xP:=fun f args h K hh=>by cases hh
def LK(K:Option AV->Heap->Bool):AX->St->Bool
 |.normal,s=>(match s.defs with|[]=>K none s.h|_=>false)
 |.ret,s=>(match s.defs with|[]=>K none s.h|_=>false)
 |_,_=>false
def LL(P:Program)(n:Nat)(d:Tmp)(ops:List Oper)(c:Code):List AV->Option AV->Heap->(Option AV->Heap->Bool)->Bool:=fun args IQ h K=>
 match ops with
 |[]=>false
 |_ :: rest=>ny P xP ops rest ⟨aa (aE args) d (match IQ with|some v=>v|none=>.qE),n,[],h⟩ fun
  |.ok s=>evalCode P xP 0 c s (LK K)
  |.panic _ _=>false
structure Nl (P:Program) (f:FuncId) (n:Nat) (d:Tmp) (ops:List Oper) (c:Code) (np:Nat):Prop where
 ex:∃ fn id o ts,P.funcs[f]?=some fn/\fn.body=some (.seq (.region id ops.toArray false) c)/\fn.ntmps=n/\fn.name≠ "runtime.NumGoroutine"/\fn.results.toList = []/\d<n/\np<=n /\
  ops[0]?=some o/\o.dst=some d/\o.guard=none/\o.op = .call ⟨.builtin .recover,#[],ts⟩
theorem HI(hm:P.follows .mixedOrders=true){f:FuncId}{n:Nat}{d:Tmp}{ops:List Oper}{c:Code}{np:Nat}(hd:Nl P f n d ops c np){args:List AV}(hnp:args.length<=np){IQ:Option AV}{h:Heap}{K:Option AV->Heap->Bool}
  (hh:LL P n d ops c args IQ h K=true):Enters P f /\
  ∀ (w0:World) (μ:Mu) (w:World) (vs:List Value) (pv:Option Value),Good w0 μ h w->ep w0 μ args vs->EY w0 μ IQ pv->CallsD P f vs.toArray (pE pv) w fun
   |.returned _,u',w'=>∃ tr KR h' μ',K tr h'=true/\EY w0 μ' tr KR/\settle u'=pE KR/\Good w0 μ' h' w'/\Ext μ h w μ' h' w'
   |_,_,_=>False:=by
 obtain ⟨fn,id,o,ts,PN,hb,hn,QA,Tu,Oz,aje,ho,hod,hog,hoo⟩:=hd.ex;refine ⟨⟨fn,_,PN,hb,QA⟩,fun w0 μ w vs pv hg hv hp=>?_⟩;refine callsD_of_wpS PN hb fun c0 cs hc0=>?_;have aeQ:=zV (n:=fn.ntmps) hv (by omega)
 cases ops with
 |nil=>cases ho
 |cons o' rest=>
  simp at ho;subst ho;simp only [LL] at hh;refine wpS_seq (wpS_region ?_);have hsz:(o' :: rest).toArray.size=rest.length+1:=by simp
  rw [hsz,range_eq_range',range'_succ];have h0:(o' :: rest).toArray[0]?=some o':=by simp
  have hw:∀ t:Array Value,Region.wanted o' (yielded (o' :: rest).toArray t)=true:=fun t=>by unfold Region.wanted;rw [hog]
  have aeR:∀ (ac:Act),(execOp ac.eval o').run P w = .ok .recover w:=fun ac=>by simp [execOp,hoo,resolve,invoke,builtin]
  simp only [wpOpsS,h0];rw [if_pos (hw _),aeR]
  have key:∀ (v:AV) (vc:Value) (YO:List Frame) (u':FrameMode),VR w0 μ v vc->YO = { c0 with mode:=u' } :: cs->settle u' = .returning ->
    ny P xP (o' :: rest) rest ⟨aa (aE args) d v,n,[],h⟩ (fun
     |.ok s=>evalCode P xP 0 c s (LK K)
     |.panic _ _=>false)=true ->
    wpOpsS P (o' :: rest).toArray (Exit.thenS (c.wpS P (bodyPostS P fn c0 cs fun
      |.returned _,u',w'=>∃ tr KR h' μ',K tr h'=true/\EY w0 μ' tr KR/\settle u'=pE KR/\Good w0 μ' h' w'/\Ext μ h w μ' h' w'
      |_,_,_=>False)) (bodyPostS P fn c0 cs fun
      |.returned _,u',w'=>∃ tr KR h' μ',K tr h'=true/\EY w0 μ' tr KR/\settle u'=pE KR/\Good w0 μ' h' w'/\Ext μ h w μ' h' w'
      |_,_,_=>False)) (range' (0+1) rest.length) (Act.put { tmps:=vs.toArray++Array.replicate (fn.ntmps-vs.toArray.size) undef,defers:=[] } o'.dst vc) YO w:=by
   intro v vc YO u' hvv hcs kK he;have hs:SR w0 μ ⟨aE args,n,[],h⟩ { tmps:=vs.toArray++Array.replicate (fn.ntmps-vs.toArray.size) undef,defers:=[] } w:=⟨by rw [<- hn];exact aeQ,.nil,hg⟩
   have qW:=hs.left (h':=h) (some d) hvv hg (Mu.le.refl μ);rw [hod]
   have he2:ny P xP (o' :: rest).toArray.toList rest (St.WQ ⟨aE args,n,[],h⟩ h (some d) v) (fun
     |.ok s=>evalCode P xP 0 c s (LK K)
     |.panic _ _=>false)=true:=by
    simp only [St.WQ,mQ];rw [if_pos (by omega)];exact he
   refine HH (yV P) rest (0+1) _ _ w μ (fun j o2 hj=>by
    show (o' :: rest).toArray[0+1+j]?=some o2
    rw [show 0+1+j=j+1 by omega];simpa using hj) qW ⟨fun s' a' w' μ' hK gI hx=>?_,fun _ _ _ _ _ _ hK _ _ _=>by cases hK⟩ he2
   refine wpS_of_wp (Nd (w0:=w0) hm (yV P) 0 c s' a' w' μ' _ _ gI (fun e ex s2 a2 w2 μ2 SJ hq qW fo=>?_) hK)
   have fin:(match s2.defs with|[]=>K none s2.h|_=>false)=true->a2.defers = []/\∃ u',YO = { c0 with mode:=u' } :: cs/\∃ v,(results fn a2.tmps).run P w2 = .ok v w2 /\
     ∃ tr KR h' μ',K tr h'=true/\EY w0 μ' tr KR/\settle u'=pE KR/\Good w0 μ' h' w2/\Ext μ h w μ' h' w2:=by
    intro hk;split at hk
    ·rename_i ZD;have hdd:=qW.defs;rw [ZD] at hdd
     have hnil:a2.defers = []:=by
      cases aeT:a2.defers with
      |nil=>rfl
      |cons x xs=>rw [aeT] at hdd;cases hdd
     obtain ⟨vc2,hr,_⟩:=A7 (fn:=fn) (vs:=[]) qW (by rw [Tu];rfl);exact ⟨hnil,u',hcs,vc2,hr,none,none,s2.h,μ2,hk,.none,kK,qW.fV,hx.trans fo⟩
    ·cases hk
   cases hq with
   |normal=>exact fin SJ
   |ret=>exact fin SJ
   |exit id=>cases SJ
   |panic v vc hv=>cases SJ
  cases hp with
  |none=>
   have:recoverD (c0 :: cs)=none:=by simp [recoverD,hc0,pE]
   rw [this]
   exact key .qE .nilIface (c0 :: cs) .returning .qE (by
    have:c0 = { c0 with mode:=.returning }:=by
     have h1:c0.mode = .returning:=hc0;cases c0;simp_all
    rw [<- this]) rfl hh
  |some YP=>
   rename_i pvv pvc;have:recoverD (c0 :: cs)=some (pvc,{ c0 with mode:=.panicking [{ v:=pvc,recovered:=true }] } :: cs):=by simp [recoverD,hc0,pE]
   rw [this];exact key _ _ _ (.panicking [{ v:=pvc,recovered:=true }]) YP rfl rfl hh
end
end
end Go.AM