/- A deferred function that begins with recover. Conditions: none. -/
import Derived.Test.YthmbnnjimbjplaaGreatDoorTu8
import Derived.Recover
set_option linter.unusedSimpArgs false
set_option linter.unusedVariables false
namespace Go.AM
open List Nat Bool Option
open Go Go.RowKit
noncomputable section
theorem JE{P:Program}{ops:Array Oper}{Q:Exit->Act->List Frame->World->Prop}{o:Oper}{rest:List Nat}{a:Act}{cs:List Frame}{w:World}
  (h:o.wp P a w (fun a' w'=>wpOpsS P ops Q rest a' cs w') (fun e a' w'=>Q e a' cs w')) :
  (match (execOp a.eval o).run P w with
    |.ok .recover w'=>
     match recoverD cs with
     |some (v,jx)=>wpOpsS P ops Q rest (a.put o.dst v) jx w'
     |none=>wpOpsS P ops Q rest (a.put o.dst .nilIface) cs w'
    |r=>o.upon P a (fun a' w'=>wpOpsS P ops Q rest a' cs w') (fun e a' w'=>Q e a' cs w') r):=by
 unfold Oper.wp at h;split
 ·rename_i w' hr;rw [hr] at h;exact h.elim
 ·exact h
section
variable {P:Program} {w0 w:World} {μ μ':Mu} {h h':Heap} {s:St} {a:Act}
theorem za{call:fT}(hc:di P call){ops:Array Oper}{K:RS->Bool}{Q:Exit->Act->List Frame->World->Prop}{cs:List Frame}:∀ (l:List Oper) (i:Nat) (s:St) (a:Act) (w:World) (μ:Mu),(∀ j o,l[j]?=some o->ops[i+j]?=some o) ->
  SR w0 μ s a w->(hl:qV w0 μ s.h w K (fun e a' w'=>Q e a' cs w'))->iO P call ops.toList l s K=true->wpOpsS P ops Q (range' i l.length) a cs w
 |[],i,s,a,w,μ,hi,hs,hl,h=>by
  simp only [length_nil,range'_zero,wpOpsS];exact hl.ok _ _ _ _ h hs (Ext.refl _ _ _)
 |o :: rest,i,s,a,w,μ,hi,hs,hl,h=>by
  have Lf:ops[i]?=some o:=by simpa using hi 0 o rfl
  obtain ⟨env,n,defs,hp⟩:=s;simp only [length_cons,range'_succ,wpOpsS,Lf];simp only [iO] at h
  have sW:∀ j o',rest[j]?=some o'->ops[i+1+j]?=some o':=fun j o' hj=>by
   have:=hi (j+1) o' (by simpa using hj)
   rwa [show i+1+j=i+(j+1) by omega]
  split at h
  ·rename_i hw;rw [gJ hs.env hw,if_pos rfl];refine JE (uc hs hc ⟨fun v fU h' a' w' μ' hK ei hx=>?_,fun v vc h' w' μ' hK hv ei hx=>?_⟩ h)
   ·exact za hc rest (i+1) _ a' w' μ' sW ei (hl.after hx) (gF hK)
   ·exact hl.panic v vc _ a w' μ' hK hv ei hx
  ·rename_i hw;rw [gJ hs.env hw];simp only [false_eq_true,if_false];have ei:=hs.left o.dst (h':=hp) VR.aZ hs.fE (Mu.le.refl μ);exact za hc rest (i+1) ⟨iq env n o.dst aZ,n,defs,hp⟩ _ w μ sW ei hl (gF h)
  ·cases h
def oB:fT:=fun _ _ _ _=>false
theorem pZ(P:Program):di P oB:=fun f args h K hh=>by cases hh
def Cd(K:Option AV->Heap->Bool):AX->St->Bool
 |.normal,s=>(match s.defs with|[]=>K none s.h|_=>false)
 |.ret,s=>(match s.defs with|[]=>K none s.h|_=>false)
 |_,_=>false
def Ce(P:Program)(n:Nat)(d:Tmp)(ops:List Oper)(c:Code):List AV->Option AV->Heap->(Option AV->Heap->Bool)->Bool:=fun args zW h K=>
 match ops with
 |[]=>false
 |_ :: rest=>iO P oB ops rest ⟨bZ (az args) d (match zW with|some v=>v|none=>.j3),n,[],h⟩ fun
  |.ok s=>evalCode P oB 0 c s (Cd K)
  |.panic _ _=>false
structure Dj (P:Program) (f:FuncId) (n:Nat) (d:Tmp) (ops:List Oper) (c:Code) (np:Nat):Prop where
 ex:∃ fn id o ts,P.funcs[f]?=some fn/\fn.body=some (.seq (.region id ops.toArray false) c)/\fn.ntmps=n/\fn.name≠ "runtime.NumGoroutine"/\fn.results.toList = []/\d<n/\np<=n /\
  ops[0]?=some o/\o.dst=some d/\o.guard=none/\o.op = .call ⟨.builtin .recover,#[],ts⟩
theorem zb(hm:P.follows .mixedOrders=true){f:FuncId}{n:Nat}{d:Tmp}{ops:List Oper}{c:Code}{np:Nat}(hd:Dj P f n d ops c np){args:List AV}(Tf:args.length<=np){zW:Option AV}{h:Heap}{K:Option AV->Heap->Bool}
  (hh:Ce P n d ops c args zW h K=true):Enters P f /\
  ∀ (w0:World) (μ:Mu) (w:World) (vs:List Value) (pv:Option Value),Good w0 μ h w->cj w0 μ args vs->wO w0 μ zW pv->CallsD P f vs.toArray (jA pv) w fun
   |.returned _,u',w'=>∃ lT BC h' μ',K lT h'=true/\wO w0 μ' lT BC/\settle u'=jA BC/\Good w0 μ' h' w'/\Ext μ h w μ' h' w'
   |_,_,_=>False:=by
 obtain ⟨fn,id,o,ts,Da,hb,hn,FA,Hp,xV,QV,ho,QW,QX,QY⟩:=hd.ex;refine ⟨⟨fn,_,Da,hb,FA⟩,fun w0 μ w vs pv hg hv hp=>?_⟩;refine callsD_of_wpS Da hb fun c0 cs Np=>?_;have Nq:=qW (n:=fn.ntmps) hv (by omega)
 cases ops with
 |nil=>cases ho
 |cons o' rest=>
  simp at ho;subst ho;simp only [Ce] at hh;refine wpS_seq (wpS_region ?_);have hsz:(o' :: rest).toArray.size=rest.length+1:=by simp
  rw [hsz,range_eq_range',range'_succ];have h0:(o' :: rest).toArray[0]?=some o':=by simp
  have hw:∀ t:Array Value,Region.wanted o' (yielded (o' :: rest).toArray t)=true:=fun t=>by unfold Region.wanted;rw [QX]
  have Nr:∀ (ac:Act),(execOp ac.eval o').run P w = .ok .recover w:=fun ac=>by simp [execOp,QY,resolve,invoke,builtin]
  simp only [wpOpsS,h0];rw [if_pos (hw _),Nr]
  have key:∀ (v:AV) (vc:Value) (Mz:List Frame) (u':FrameMode),VR w0 μ v vc->Mz = { c0 with mode:=u' } :: cs->settle u' = .returning ->
    iO P oB (o' :: rest) rest ⟨bZ (az args) d v,n,[],h⟩ (fun
     |.ok s=>evalCode P oB 0 c s (Cd K)
     |.panic _ _=>false)=true ->
    wpOpsS P (o' :: rest).toArray (Exit.thenS (c.wpS P (bodyPostS P fn c0 cs fun
      |.returned _,u',w'=>∃ lT BC h' μ',K lT h'=true/\wO w0 μ' lT BC/\settle u'=jA BC/\Good w0 μ' h' w'/\Ext μ h w μ' h' w'
      |_,_,_=>False)) (bodyPostS P fn c0 cs fun
      |.returned _,u',w'=>∃ lT BC h' μ',K lT h'=true/\wO w0 μ' lT BC/\settle u'=jA BC/\Good w0 μ' h' w'/\Ext μ h w μ' h' w'
      |_,_,_=>False)) (range' (0+1) rest.length) (Act.put { tmps:=vs.toArray++Array.replicate (fn.ntmps-vs.toArray.size) undef,defers:=[] } o'.dst vc) Mz w:=by
   intro v vc Mz u' QZ hcs kC he;have hs:SR w0 μ ⟨az args,n,[],h⟩ { tmps:=vs.toArray++Array.replicate (fn.ntmps-vs.toArray.size) undef,defers:=[] } w:=⟨by rw [<- hn];exact Nq,.nil,hg⟩
   have BB:=hs.left (h':=h) (some d) QZ hg (Mu.le.refl μ);rw [QW]
   have M6:iO P oB (o' :: rest).toArray.toList rest (St.I3 ⟨az args,n,[],h⟩ h (some d) v) (fun
     |.ok s=>evalCode P oB 0 c s (Cd K)
     |.panic _ _=>false)=true:=by
    simp only [St.I3,iq];rw [if_pos (by omega)];exact he
   refine za (pZ P) rest (0+1) _ _ w μ (fun j o2 hj=>by
    show (o' :: rest).toArray[0+1+j]?=some o2
    rw [show 0+1+j=j+1 by omega];simpa using hj) BB ⟨fun s' a' w' μ' hK ei hx=>?_,fun _ _ _ _ _ _ hK _ _ _=>by cases hK⟩ M6
   refine wpS_of_wp (C9 (w0:=w0) hm (pZ P) 0 c s' a' w' μ' _ _ ei (fun e ex s2 a2 w2 μ2 GD hq BB gY=>?_) hK)
   have fin:(match s2.defs with|[]=>K none s2.h|_=>false)=true->a2.defers = []/\∃ u',Mz = { c0 with mode:=u' } :: cs/\∃ v,(results fn a2.tmps).run P w2 = .ok v w2 /\
     ∃ lT BC h' μ',K lT h'=true/\wO w0 μ' lT BC/\settle u'=jA BC/\Good w0 μ' h' w2/\Ext μ h w μ' h' w2:=by
    intro hk;split at hk
    ·rename_i Lw;have Ns:=BB.defs;rw [Lw] at Ns
     have hnil:a2.defers = []:=by
      cases Nt:a2.defers with
      |nil=>rfl
      |cons x xs=>rw [Nt] at Ns;cases Ns
     obtain ⟨Ra,hr,_⟩:=sD (fn:=fn) (vs:=[]) BB (by rw [Hp];rfl);exact ⟨hnil,u',hcs,Ra,hr,none,none,s2.h,μ2,hk,.none,kC,BB.fE,hx.trans gY⟩
    ·cases hk
   cases hq with
   |normal=>exact fin GD
   |ret=>exact fin GD
   |exit id=>cases GD
   |panic v vc hv=>cases GD
  cases hp with
  |none=>
   have:recoverD (c0 :: cs)=none:=by simp [recoverD,Np,jA]
   rw [this]
   exact key .j3 .nilIface (c0 :: cs) .returning .j3 (by
    have:c0 = { c0 with mode:=.returning }:=by
     have h1:c0.mode = .returning:=Np;cases c0;simp_all
    rw [<- this]) rfl hh
  |some Rb=>
   rename_i Tg Nu;have:recoverD (c0 :: cs)=some (Nu,{ c0 with mode:=.panicking [{ v:=Nu,recovered:=true }] } :: cs):=by simp [recoverD,Np,jA]
   rw [this];exact key _ _ _ (.panicking [{ v:=Nu,recovered:=true }]) Rb rfl rfl hh
end
end
end Go.AM