/- Parts of the proof. Conditions: none. -/
import Derived.Test.YtfdanacohcffmaaGreatKp4
import Derived.Test.YtfdanacohcffmaaGreatKp10
import Derived.Test.YtfdanacohcffmaaGreatKp11
import Derived.Test.YtfdanacohcffmaaGreatKp13
import Derived.Test.YtfdanacohcffmaaGreatKp17
set_option linter.unusedVariables false
namespace Go.Proofs
open Go.RowKit Go.Maps Go.Sort Go.Shelf
theorem Tryz.Tm(m:Nat):AnyZ.SortsIn Tryz.prog Tryz.B8 Fence.wide m:=
 ⟨fun nO off cap ss W hH Zi hsz=>callsIn_wide.2 (AnyM.slices_Sort_string Tryz.SV nO off cap ss W hH Zi hsz),
  fun p cap W=>callsIn_wide.2 (AnyM.slices_Sort_string_none Tryz.SV p cap W)⟩
theorem Tryz.Oo:AM.KN Tryz.prog 62 106 121:=fun mb W=>callsIn_wide.1 (AnyZ.keys_in Tryz.QM Fence.wide 5 trivial rfl mb W)
set_option maxHeartbeats 1000000 in
theorem Tryz.JB:AM.ET Tryz.prog 61 106 9:=by
 refine ⟨fun Bm b nn D0 w h1 h2 adA af9 adP=>(callsIn_wide (n:=5)).1 ?_,fun Bm w h1 h2=>?_⟩
 ·have adQ:SeqGives Fence.wide 2 Tryz.prog 106 #[.pointer (some ⟨Bm,0,none⟩)] encStr (fun ss=>ss.Perm (strKeys D0)) (Maps.size D0) w:=
   AnyZ.keys_gives (ρ:=Tryz.Bb) { Tryz.QM with } Fence.wide _ trivial rfl (by omega) Bm b nn D0 w h1 h2 adA
  exact AnyZ.sorted_in Tryz.NC Fence.wide 5 trivial trivial trivial trivial rfl (by omega) (Tryz.Tm _) (enters_of Tryz.func105 (by kernel_rfl) rfl) 106 #[.pointer (some ⟨Bm,0,none⟩)] trivial (enters_of Tryz.func106 (by kernel_rfl) rfl) _ _ af9 adP w adQ
 ·have adQ:SeqGives Fence.wide 2 Tryz.prog 106 #[.pointer (some ⟨Bm,0,none⟩)] encStr (fun ss:List (List UInt8)=>ss = []) 0 w:=
   AnyZ.keys_gives_nil (ρ:=Tryz.Bb) { Tryz.QM with } Fence.wide _ trivial rfl Bm w h1 h2
  refine Calls.mono ((callsIn_wide (n:=5)).1 (AnyZ.sorted_in Tryz.NC Fence.wide 5 trivial trivial trivial trivial rfl (by omega) (Tryz.Tm _) (enters_of Tryz.func105 (by kernel_rfl) rfl) 106 #[.pointer (some ⟨Bm,0,none⟩)] trivial (enters_of Tryz.func106 (by kernel_rfl) rfl) _ 0 (Nat.zero_le _) (by omega) w adQ)) fun e w' hR=>?_;obtain ⟨v,ss,rfl,s1,s2,s3,s4⟩:=hR;exact ⟨by rw [s3.2 s1],s4⟩
end Go.Proofs
namespace Go.AM
open Go Go.Proofs
noncomputable section
noncomputable abbrev TP:Go.Program:=Tryz.prog
noncomputable abbrev EV:=tq TP (an TP)
variable {K:Out->Heap->Bool} {h:Heap} {J:AX->St->Bool} {e:Env} {a0 a1 a2 a3 a4:AV}
theorem mixed:Tryz.prog.follows .mixedOrders=true:=by kernel_rfl
noncomputable abbrev RL (f:Go.Func):=QL TP noD f.results.toList
noncomputable abbrev LK (i:Nat) (f:Go.Func) (p:List Nat) (K:Out->Heap->Bool):=cE i (jG false (EV (partOf (ag f) p)) (RL f K))
theorem SB{f:FuncId}{fn:Go.Func}(VS:TP.funcs[f]?=some fn){args:List AV}{h:Heap}{K:Out->Heap->Bool}
  (hh:EV (ag fn) ⟨ay args,fn.ntmps,[],h⟩ (RL fn K)=true) (hb:fn.body=some (ag fn):=by rfl) (hn:fn.name≠ "runtime.NumGoroutine":=by decide) (hl:Nat.ble args.length fn.ntmps=true:=by kernel_rfl):Sem TP f args h K:=WD mixed (Us _) VS hb hn (Nat.le_of_ble_eq_true hl) hh
abbrev I6(x:Int):AV:=.int .i64 x
abbrev bT:AV:=.bool true
abbrev bF:AV:=.bool false
abbrev sC(l:List AV):Option mI:=some (.cells l)
abbrev sM(e:Env)(n:Nat)(h:Heap):St:=⟨e,n,[],h⟩
abbrev pK(K:Out->Heap->Bool):AV->Heap->Bool:=fun v h=>K (.panic v) h
abbrev rK(K:Out->Heap->Bool):AV->Heap->Bool:=fun v h=>K (.ret v) h
abbrev pS(K:AX->St->Bool)(e:Env)(n:Nat):AV->Heap->Bool:=fun v h=>K (.panic v) ⟨e,n,[],h⟩
abbrev fF:AV->Heap->Bool:=fun _ _=>false
abbrev iz(x:Sl cc):AV:=dR encS 1 x
abbrev dH(x:Sl Int):AV:=dR AM.encI 1 x
noncomputable def age:Code->List Oper
 |.seq (.region _ ops _) _=>ops.toList
 |_=>[]
noncomputable def alZ:Code->Nat
 |.seq (.region id _ _) _=>id
 |_=>0
noncomputable def WS:List Oper->Oper
 |o :: _=>o
 |[]=>default
noncomputable def al0:Op->Array TypeId
 |.call c=>c.argTypes
 |_=>#[]
def F0:B7:=fun f=>if f=56 then some vU else if f=57 then some Ct else if f=62 then some (Th 106) else if f=61 then some (zJ 106) else none
theorem WT:Enters TP 62:=⟨_,_,Tryz.func62,rfl,by decide⟩
theorem WU:Enters TP 61:=⟨_,_,Tryz.func61,rfl,by decide⟩
theorem WV:Enters TP 56:=⟨_,_,Tryz.func56,rfl,by decide⟩
theorem WW:Enters TP 57:=⟨_,_,Tryz.func57,rfl,by decide⟩
theorem va:kJ TP F0:=by
 intro f g hg args h K hK;unfold F0 at hg;split at hg
 ·rename_i e;subst e;cases hg;exact Jz rfl WV Rw args h K hK
 split at hg
 ·rename_i e;subst e;cases hg;exact Jy rfl WW agd args h K hK
 split at hg
 ·rename_i e;subst e;cases hg;exact Og WT Tryz.Oo args h K hK
 split at hg
 ·rename_i e;subst e;cases hg;exact JA WU (by kernel_rfl) Tryz.JB args h K hK
 ·cases hg
noncomputable def Cv:List Oper:=age (ag Tryz.f87)
noncomputable def KP:Code:=partOf (ag Tryz.f87) [1]
def D0:uB:=fun f=>if f=87 then some (fun args NA h K=>Nat.ble args.length 2&&Rr TP 10 5 Cv KP args NA h K) else none
theorem UF:Tf TP 87 10 5 Cv KP 2:=⟨⟨Tryz.f87,alZ (ag Tryz.f87),WS Cv,al0 (WS Cv).op,Tryz.func87,by kernel_rfl,by kernel_rfl,by decide,by kernel_rfl,by decide,by decide,by kernel_rfl,by kernel_rfl,by kernel_rfl,by kernel_rfl⟩⟩
theorem yl:G9 TP D0:=by
 intro f g hg;unfold D0 at hg;split at hg
 ·rename_i e;subst e;cases hg;refine ⟨⟨_,_,Tryz.func87,rfl,by decide⟩,fun args NA h K hh w0 μ w vs pv h1 h2 h3=>?_⟩;simp only [Bool.and_eq_true] at hh;exact (Ml mixed UF (Nat.le_of_ble_eq_true hh.1) hh.2).2 w0 μ w vs pv h1 h2 h3
 cases hg
noncomputable def F.fL.L0:=partOf (ag Tryz.f153) [1,1,0,1,0,0]
noncomputable def F.fL.cK:=LK 0 Tryz.f153 [1,1,1]
theorem F.fL.aP:EV F.fL.L0 (sM e 40 h) J=(aa (bK .str (e 0) h) fun f=>aa (aF .lss (e 3) f) fun g=>let Q1:=(sL e [(22,e 3),(23,e 0),(24,f),(25,g)]);aq g (aa (oA (e 0) (e 3)) fun a=>an TP 180 [a] h (bf (fun i j=>aa (mh .not i) fun b=>let Q2:=(sL Q1 [(28,e 0),(29,e 3),(30,a),(31,i),(32,b),(33,b)]);aq b (aa (oA (e 0) (e 3)) fun c=>an TP 182 [c] j (bf (fun k l=>aa (mh .not k) fun d=>let Q3:=(sL Q2 [(33,bT),(34,e 0),(33,bT),(35,e 3),(33,bT),(36,c),(33,bT),(37,k),(33,bT),(38,d),(39,d)]);aq d (J .ret (sM (cF Q3 2 bF) 40 l)) (aa (aF .add (e 3) (I6 1)) fun m=>J .normal (sM (sL Q3 [(26,e 3),(27,m),(3,m)]) 40 l))) (pS J (sL Q2 [(33,bT),(34,e 0),(33,bT),(35,e 3),(33,bT),(36,c),(33,bT)]) 40))) (aa (aF .add (e 3) (I6 1)) fun n=>J .normal (sM (sL Q2 [(33,bF),(34,bz),(33,bF),(35,bz),(33,bF),(36,bz),(33,bF),(37,bz),(33,bF),(38,bz),(39,bF),(26,e 3),(27,n),(3,n)]) 40 j))) (pS J (sL Q1 [(28,e 0),(29,e 3),(30,a)]) 40))) (J (.exit 0) (sM Q1 40 h))):=by kernel_rfl
theorem F.fL.aC:F.fL.cK K (.exit 0) (sM e 40 h)=(K (.ret bT) h):=by kernel_rfl
theorem F.fL.bg:F.fL.cK K .ret (sM e 40 h)=(K (.ret (e 2)) h):=by kernel_rfl
theorem F.JC:EV (ag Tryz.f153) (sM (ay [a0]) 40 h) (RL Tryz.f153 K)=(aa (bK .str a0 h) fun j=>aa (aF .lss j (I6 1)) fun f=>aq f (K (.ret bF) h) (aa (bK .str a0 h) fun k=>aa (aF .gtr k (I6 12)) fun c=>aq c (K (.ret bF) h) (aa (oA a0 (I6 0)) fun l=>an TP 180 [l] h (bf (fun m n=>aa (mh .not m) fun d=>aq d (K (.ret bF) n) (an TP 181 [a0] n (bf (fun a b=>aq a (K (.ret bF) b) (bJ (EV F.fL.L0) (sM (sL (ay [a0]) [(2,bF),(4,a0),(5,j),(6,f),(7,f),(7,bF),(8,a0),(7,bF),(9,k),(7,bF),(10,c),(11,c),(12,c),(12,bF),(13,a0),(12,bF),(14,l),(12,bF),(15,m),(12,bF),(16,d),(17,d),(18,d),(18,bF),(19,a0),(18,bF),(20,a),(21,a),(3,I6 1)]) 40 b) (F.fL.cK K))) (pK K)))) (pK K))))):=by kernel_rfl
theorem F.Hr(hh:EV (ag Tryz.f153) (sM (ay [a0]) 40 h) (RL Tryz.f153 K)=true):Sem TP 153 [a0] h K:=
 SB Tryz.func153 hh
noncomputable def F.eX.L0:=partOf (ag Tryz.f107) [1,1,0,1,0,0]
noncomputable def F.eX.cK:=LK 0 Tryz.f107 [1,1,1]
theorem F.eX.aP:EV F.eX.L0 (sM e 39 h) J=(aa (aF .lss (e 23) (e 22)) fun f=>let Q1:=(cF e 24 f);aq f (aa (oA (e 0) (e 23)) fun a=>an TP 150 [a] h (bf (fun g i=>aa (mh .not g) fun b=>let Q2:=(sL Q1 [(25,e 23),(3,e 23),(26,e 0),(27,e 23),(28,a),(29,g),(30,b),(31,b)]);aq b (aa (oA (e 0) (e 23)) fun c=>an TP 152 [c] i (bf (fun j k=>aa (mh .not j) fun d=>let Q3:=(sL Q2 [(31,bT),(32,e 0),(31,bT),(33,e 23),(31,bT),(34,c),(31,bT),(35,j),(31,bT),(36,d),(37,d)]);aq d (J .ret (sM (cF Q3 2 bF) 39 k)) (aa (aF .add (e 23) (I6 1)) fun l=>J .normal (sM (sL Q3 [(38,l),(23,l)]) 39 k))) (pS J (sL Q2 [(31,bT),(32,e 0),(31,bT),(33,e 23),(31,bT),(34,c),(31,bT)]) 39))) (aa (aF .add (e 23) (I6 1)) fun m=>J .normal (sM (sL Q2 [(31,bF),(32,bz),(31,bF),(33,bz),(31,bF),(34,bz),(31,bF),(35,bz),(31,bF),(36,bz),(37,bF),(38,m),(23,m)]) 39 i))) (pS J (sL Q1 [(25,e 23),(3,e 23),(26,e 0),(27,e 23),(28,a)]) 39))) (J (.exit 0) (sM Q1 39 h))):=by kernel_rfl
theorem F.eX.aC:F.eX.cK K (.exit 0) (sM e 39 h)=(K (.ret bT) h):=by kernel_rfl
theorem F.eX.bg:F.eX.cK K .ret (sM e 39 h)=(K (.ret (e 2)) h):=by kernel_rfl
theorem F.JD:EV (ag Tryz.f107) (sM (ay [a0]) 39 h) (RL Tryz.f107 K)=(aa (jC .string a0 (.str [])) fun d=>aq d (K (.ret bF) h) (aa (bK .str a0 h) fun k=>aa (aF .gtr k (I6 12)) fun b=>aq b (K (.ret bF) h) (aa (oA a0 (I6 0)) fun l=>an TP 150 [l] h (bf (fun m n=>aa (mh .not m) fun c=>aq c (K (.ret bF) n) (an TP 151 [a0] n (bf (fun f a=>aq f (K (.ret bF) a) (aa (bK .str a0 a) fun g=>bJ (EV F.eX.L0) (sM (sL (ay [a0]) [(2,bF),(4,a0),(5,d),(6,d),(6,bF),(7,a0),(6,bF),(8,k),(6,bF),(9,b),(10,b),(11,b),(11,bF),(12,a0),(11,bF),(13,l),(11,bF),(14,m),(11,bF),(15,c),(16,c),(17,c),(17,bF),(18,a0),(17,bF),(19,f),(20,f),(21,a0),(22,g),(23,I6 0)]) 39 a) (F.eX.cK K))) (pK K)))) (pK K))))):=by kernel_rfl
theorem F.Ht(hh:EV (ag Tryz.f107) (sM (ay [a0]) 39 h) (RL Tryz.f107 K)=true):Sem TP 107 [a0] h K:=
 SB Tryz.func107 hh
theorem F.Ft:EV (ag Tryz.f180) (sM (ay [a0]) 17 h) (RL Tryz.f180 K)=(aa (aF .geq a0 (.int .u8 97)) fun a=>aq a (aa (aF .leq a0 (.int .u8 122)) fun b=>aq b (K (.ret bT) h) (aa (aF .geq a0 (.int .u8 65)) fun c=>aq c (aa (aF .leq a0 (.int .u8 90)) fun d=>K (.ret d) h) (K (.ret bF) h))) (aa (aF .geq a0 (.int .u8 65)) fun f=>aq f (aa (aF .leq a0 (.int .u8 90)) fun g=>K (.ret g) h) (K (.ret bF) h))):=by kernel_rfl
theorem F.DA(hh:EV (ag Tryz.f180) (sM (ay [a0]) 17 h) (RL Tryz.f180 K)=true):Sem TP 180 [a0] h K:=
 SB Tryz.func180 hh
theorem F.JE:EV (ag Tryz.f181) (sM (ay [a0]) 16 h) (RL Tryz.f181 K)=(aa (jC .string a0 (.str [97,110,100])) fun b=>aq b (aq b (K (.ret bT) h) (K (.ret bF) h)) (aa (jC .string a0 (.str [111,114])) fun c=>aq c (aq c (K (.ret bT) h) (K (.ret bF) h)) (aa (jC .string a0 (.str [110,111,116])) fun d=>aq d (aq d (K (.ret bT) h) (K (.ret bF) h)) (aa (jC .string a0 (.str [115,111,109,101])) fun f=>aq f (aq f (K (.ret bT) h) (K (.ret bF) h)) (aa (jC .string a0 (.str [97,108,108])) fun g=>aq g (aq g (K (.ret bT) h) (K (.ret bF) h)) (aa (jC .string a0 (.str [108,102,112])) fun i=>aq i (aq i (K (.ret bT) h) (K (.ret bF) h)) (aa (jC .string a0 (.str [112,102,112])) fun j=>aq j (aq j (K (.ret bT) h) (K (.ret bF) h)) (aa (jC .string a0 (.str [116,99])) fun k=>aq k (aq k (K (.ret bT) h) (K (.ret bF) h)) (aa (jC .string a0 (.str [101,120,105,115,116,115])) fun l=>aq l (aq l (K (.ret bT) h) (K (.ret bF) h)) (aa (jC .string a0 (.str [116,114,117,101])) fun m=>aq m (aq m (K (.ret bT) h) (K (.ret bF) h)) (aa (jC .string a0 (.str [102,97,108,115,101])) fun a=>aq a (K (.ret bT) h) (K (.ret bF) h)))))))))))):=by kernel_rfl
theorem F.Hu(hh:EV (ag Tryz.f181) (sM (ay [a0]) 16 h) (RL Tryz.f181 K)=true):Sem TP 181 [a0] h K:=
 SB Tryz.func181 hh
theorem F.Hv:EV (ag Tryz.f182) (sM (ay [a0]) 9 h) (RL Tryz.f182 K)=(aa (aF .geq a0 (.int .u8 48)) fun a=>aq a (aa (aF .leq a0 (.int .u8 57)) fun b=>K (.ret b) h) (K (.ret bF) h)):=by kernel_rfl
theorem F.Fu(hh:EV (ag Tryz.f182) (sM (ay [a0]) 9 h) (RL Tryz.f182 K)=true):Sem TP 182 [a0] h K:=
 SB Tryz.func182 hh
noncomputable def F.eu.L0:=partOf (ag Tryz.f86) [1,0,1,0,0]
noncomputable def F.eu.cK:=LK 0 Tryz.f86 [1,1]
theorem F.eu.aP:EV F.eu.L0 (sM e 18 h) J=(aa (bK .slice (e 0) h) fun a=>aa (aF .lss (e 5) a) fun b=>let Q1:=(sL e [(6,e 5),(7,e 0),(8,a),(9,b)]);aq b (il 1 (e 0) (e 5) h fun g c=>aa (jC .string c (e 1)) fun d=>let Q2:=(sL Q1 [(12,e 0),(13,e 5),(14,g),(15,c),(16,e 1),(17,d)]);aq d (J .ret (sM (cF Q2 4 bT) 18 h)) (aa (aF .add (e 5) (I6 1)) fun f=>J .normal (sM (sL Q2 [(10,e 5),(11,f),(5,f)]) 18 h))) (J (.exit 0) (sM Q1 18 h))):=by kernel_rfl
theorem F.eu.aC:F.eu.cK K (.exit 0) (sM e 18 h)=(K (.ret bF) h):=by kernel_rfl
theorem F.eu.bg:F.eu.cK K .ret (sM e 18 h)=(K (.ret (e 4)) h):=by kernel_rfl
theorem F.ym:EV (ag Tryz.f86) (sM (ay [a0,a1]) 18 h) (RL Tryz.f86 K)=(bJ (EV F.eu.L0) (sM (sL (ay [a0,a1]) [(4,bF),(5,I6 0)]) 18 h) (F.eu.cK K)):=by kernel_rfl
theorem F.wP(hh:EV (ag Tryz.f86) (sM (ay [a0,a1]) 18 h) (RL Tryz.f86 K)=true):Sem TP 86 [a0,a1] h K:=
 SB Tryz.func86 hh
theorem F.Fv:EV (ag Tryz.f150) (sM (ay [a0]) 17 h) (RL Tryz.f150 K)=(aa (aF .geq a0 (.int .u8 97)) fun a=>aq a (aa (aF .leq a0 (.int .u8 122)) fun b=>aq b (K (.ret bT) h) (aa (aF .geq a0 (.int .u8 65)) fun c=>aq c (aa (aF .leq a0 (.int .u8 90)) fun d=>K (.ret d) h) (K (.ret bF) h))) (aa (aF .geq a0 (.int .u8 65)) fun f=>aq f (aa (aF .leq a0 (.int .u8 90)) fun g=>K (.ret g) h) (K (.ret bF) h))):=by kernel_rfl
theorem F.DC(hh:EV (ag Tryz.f150) (sM (ay [a0]) 17 h) (RL Tryz.f150 K)=true):Sem TP 150 [a0] h K:=
 SB Tryz.func150 hh
theorem F.JF:EV (ag Tryz.f151) (sM (ay [a0]) 16 h) (RL Tryz.f151 K)=(aa (jC .string a0 (.str [97,110,100])) fun b=>aq b (aq b (K (.ret bT) h) (K (.ret bF) h)) (aa (jC .string a0 (.str [111,114])) fun c=>aq c (aq c (K (.ret bT) h) (K (.ret bF) h)) (aa (jC .string a0 (.str [110,111,116])) fun d=>aq d (aq d (K (.ret bT) h) (K (.ret bF) h)) (aa (jC .string a0 (.str [115,111,109,101])) fun f=>aq f (aq f (K (.ret bT) h) (K (.ret bF) h)) (aa (jC .string a0 (.str [97,108,108])) fun g=>aq g (aq g (K (.ret bT) h) (K (.ret bF) h)) (aa (jC .string a0 (.str [108,102,112])) fun i=>aq i (aq i (K (.ret bT) h) (K (.ret bF) h)) (aa (jC .string a0 (.str [112,102,112])) fun j=>aq j (aq j (K (.ret bT) h) (K (.ret bF) h)) (aa (jC .string a0 (.str [116,99])) fun k=>aq k (aq k (K (.ret bT) h) (K (.ret bF) h)) (aa (jC .string a0 (.str [101,120,105,115,116,115])) fun l=>aq l (aq l (K (.ret bT) h) (K (.ret bF) h)) (aa (jC .string a0 (.str [116,114,117,101])) fun m=>aq m (aq m (K (.ret bT) h) (K (.ret bF) h)) (aa (jC .string a0 (.str [102,97,108,115,101])) fun a=>aq a (K (.ret bT) h) (K (.ret bF) h)))))))))))):=by kernel_rfl
theorem F.Hw(hh:EV (ag Tryz.f151) (sM (ay [a0]) 16 h) (RL Tryz.f151 K)=true):Sem TP 151 [a0] h K:=
 SB Tryz.func151 hh
theorem F.Hy:EV (ag Tryz.f152) (sM (ay [a0]) 9 h) (RL Tryz.f152 K)=(aa (aF .geq a0 (.int .u8 48)) fun a=>aq a (aa (aF .leq a0 (.int .u8 57)) fun b=>K (.ret b) h) (K (.ret bF) h)):=by kernel_rfl
theorem F.Fw(hh:EV (ag Tryz.f152) (sM (ay [a0]) 9 h) (RL Tryz.f152 K)=true):Sem TP 152 [a0] h K:=
 SB Tryz.func152 hh
noncomputable def F.ew.L0:=partOf (ag Tryz.f20) [1,1,0,1,0,0]
noncomputable def F.ew.cK:=LK 0 Tryz.f20 [1,1,1]
theorem F.ew.aP:EV F.ew.L0 (sM e 26 h) J=(aa (bK .slice (e 0) h) fun b=>aa (aF .lss (e 5) b) fun c=>let Q1:=(sL e [(11,e 5),(12,e 0),(13,b),(14,c)]);aq c (il 1 (e 0) (e 5) h fun i d=>il 1 (e 1) (e 5) h fun j f=>aa (qE (.int .i64) d f) fun g=>let Q2:=(sL Q1 [(17,e 0),(18,e 5),(19,i),(20,d),(21,e 1),(22,e 5),(23,j),(24,f),(25,g)]);aq g (J .ret (sM (cF Q2 4 bF) 26 h)) (aa (aF .add (e 5) (I6 1)) fun a=>J .normal (sM (sL Q2 [(15,e 5),(16,a),(5,a)]) 26 h))) (J (.exit 0) (sM Q1 26 h))):=by kernel_rfl
theorem F.ew.aC:F.ew.cK K (.exit 0) (sM e 26 h)=(K (.ret bT) h):=by kernel_rfl
theorem F.ew.bg:F.ew.cK K .ret (sM e 26 h)=(K (.ret (e 4)) h):=by kernel_rfl
theorem F.Hz:EV (ag Tryz.f20) (sM (ay [a0,a1]) 26 h) (RL Tryz.f20 K)=(aa (bK .slice a0 h) fun a=>aa (bK .slice a1 h) fun b=>aa (qE (.int .i64) a b) fun c=>aq c (K (.ret bF) h) (bJ (EV F.ew.L0) (sM (sL (ay [a0,a1]) [(4,bF),(6,a0),(7,a),(8,a1),(9,b),(10,c),(5,I6 0)]) 26 h) (F.ew.cK K))):=by kernel_rfl
theorem F.Fx(hh:EV (ag Tryz.f20) (sM (ay [a0,a1]) 26 h) (RL Tryz.f20 K)=true):Sem TP 20 [a0,a1] h K:=
 SB Tryz.func20 hh
noncomputable def F.fP.L0:=partOf (ag Tryz.f79) [1,1,0,0,0]
noncomputable def F.fP.cK:=LK 0 Tryz.f79 [1,1,1]
theorem F.fP.aP:EV F.fP.L0 (sM e 45 h) J=(aa (bK .slice (e 0) h) fun c=>aa (aF .lss (e 5) c) fun a=>let Q1:=(sL e [(6,e 5),(7,e 0),(8,c),(9,a),(10,a)]);aq a (il 1 (e 0) (e 5) h fun g d=>aa (aF .lss d (e 1)) fun b=>let Q2:=(sL Q1 [(10,bT),(11,e 0),(10,bT),(12,e 5),(10,bT),(13,g),(10,bT),(14,d),(10,bT),(15,e 1),(10,bT),(16,b),(17,b)]);aq b (aa (aF .add (e 5) (I6 1)) fun f=>J .normal (sM (sL Q2 [(18,e 5),(19,f),(5,f)]) 45 h)) (J (.exit 0) (sM Q2 45 h))) (J (.exit 0) (sM (sL Q1 [(10,bF),(11,bz),(10,bF),(12,bz),(10,bF),(13,bz),(10,bF),(14,bz),(10,bF),(15,bz),(10,bF),(16,bz),(17,bF)]) 45 h))):=by kernel_rfl
theorem F.fP.aC:F.fP.cK K (.exit 0) (sM e 45 h)=(aa (bK .slice (e 0) h) fun x=>aa (aF .lss (e 5) x) fun y=>aq y (il 1 (e 0) (e 5) h fun A z=>aa (jC .string z (e 1)) fun c=>aq c (K (.ret (e 0)) h) (aa (eN [] [] []) fun a=>aa (fR (some 1) (e 0) none (some (e 5))) fun d=>aa (eN [(.str [])] [(0,1)] [(e 1)]) fun f=>aa (fR (some 1) (e 0) (some (e 5)) none) fun g=>cG (bB 1 16 (.slice (Heap.next h) 0 0 1) d (hA (hA h a) f)) fun i j=>cG (bB 1 16 i (.slice (Heap.next (hA h a)) 0 1 1) j) fun k l=>cG (bB 1 16 k g l) fun m n=>K (.ret m) n)) (aa (eN [] [] []) fun b=>aa (fR (some 1) (e 0) none (some (e 5))) fun o=>aa (eN [(.str [])] [(0,1)] [(e 1)]) fun p=>aa (fR (some 1) (e 0) (some (e 5)) none) fun q=>cG (bB 1 16 (.slice (Heap.next h) 0 0 1) o (hA (hA h b) p)) fun r s=>cG (bB 1 16 r (.slice (Heap.next (hA h b)) 0 1 1) s) fun t u=>cG (bB 1 16 t q u) fun v w=>K (.ret v) w)):=by kernel_rfl
theorem F.Fy:EV (ag Tryz.f79) (sM (ay [a0,a1]) 45 h) (RL Tryz.f79 K)=(bJ (EV F.fP.L0) (sM (sL (ay [a0,a1]) [(4,.ai),(5,I6 0)]) 45 h) (F.fP.cK K)):=by kernel_rfl
theorem F.DD(hh:EV (ag Tryz.f79) (sM (ay [a0,a1]) 45 h) (RL Tryz.f79 K)=true):Sem TP 79 [a0,a1] h K:=
 SB Tryz.func79 hh
noncomputable def F.dS.L0:=partOf (ag Tryz.f35) [1,1,0,1,0,0]
noncomputable def F.dS.cK:=LK 0 Tryz.f35 [1,1,1]
theorem F.dS.aP:EV F.dS.L0 (sM e 20 h) J=(aa (bK .slice (e 0) h) fun f=>aa (aF .lss (e 4) f) fun g=>let Q1:=(sL e [(5,e 4),(6,e 0),(7,f),(8,g)]);aq g (aa (jw 3 (e 0) (e 4)) fun b=>aa (ja 0 b) fun c=>fl 0 c h fun i d=>an TP 79 [(e 3),d] h (bf (fun j k=>aa (aF .add (e 4) (I6 1)) fun a=>J .normal (sM (sL Q1 [(11,e 3),(12,e 0),(13,e 4),(14,b),(15,c),(16,i),(17,d),(18,j),(3,j),(9,e 4),(10,a),(4,a)]) 20 k)) (pS J (sL Q1 [(11,e 3),(12,e 0),(13,e 4),(14,b),(15,c),(16,i),(17,d)]) 20))) (J (.exit 0) (sM Q1 20 h))):=by kernel_rfl
theorem F.dS.aC:F.dS.cK K (.exit 0) (sM e 20 h)=(K (.ret (e 3)) h):=by kernel_rfl
theorem F.DE:EV (ag Tryz.f35) (sM (ay [a0]) 20 h) (RL Tryz.f35 K)=(bJ (EV F.dS.L0) (sM (sL (ay [a0]) [(2,.ai),(3,.ai),(4,I6 0)]) 20 h) (F.dS.cK K)):=by kernel_rfl
theorem F.Cw(hh:EV (ag Tryz.f35) (sM (ay [a0]) 20 h) (RL Tryz.f35 K)=true):Sem TP 35 [a0] h K:=
 SB Tryz.func35 hh
noncomputable def F.eT.L0:=partOf (ag Tryz.f128) [1,0,1,0,0]
noncomputable def F.eT.cK:=LK 0 Tryz.f128 [1,1]
theorem F.eT.aP:EV F.eT.L0 (sM e 19 h) J=(aa (bK .slice (e 0) h) fun a=>aa (aF .lss (e 5) a) fun b=>let Q1:=(sL e [(6,e 5),(7,e 0),(8,a),(9,b)]);aq b (il 1 (e 0) (e 5) h fun g c=>aa (jC .string c (e 1)) fun d=>let Q2:=(sL Q1 [(12,e 0),(13,e 5),(14,g),(15,c),(16,e 1),(17,d)]);aq d (J .ret (sM (sL Q2 [(18,e 5),(4,e 5)]) 19 h)) (aa (aF .add (e 5) (I6 1)) fun f=>J .normal (sM (sL Q2 [(10,e 5),(11,f),(5,f)]) 19 h))) (J (.exit 0) (sM Q1 19 h))):=by kernel_rfl
theorem F.eT.aC:F.eT.cK K (.exit 0) (sM e 19 h)=(K (.ret (I6 (-1))) h):=by kernel_rfl
theorem F.eT.bg:F.eT.cK K .ret (sM e 19 h)=(K (.ret (e 4)) h):=by kernel_rfl
theorem F.HA:EV (ag Tryz.f128) (sM (ay [a0,a1]) 19 h) (RL Tryz.f128 K)=(bJ (EV F.eT.L0) (sM (sL (ay [a0,a1]) [(4,I6 0),(5,I6 0)]) 19 h) (F.eT.cK K)):=by kernel_rfl
theorem F.FA(hh:EV (ag Tryz.f128) (sM (ay [a0,a1]) 19 h) (RL Tryz.f128 K)=true):Sem TP 128 [a0,a1] h K:=
 SB Tryz.func128 hh
noncomputable def F.dh.L0:=partOf (ag Tryz.f113) [1,1,0,1,0,0]
noncomputable def F.dh.cK:=LK 0 Tryz.f113 [1,1,1]
noncomputable def F.dh.L1:=partOf (ag Tryz.f113) [1,1,0,1,0,0,1,0,0,1,1,0,0]
noncomputable def F.dh.kg(J:AX->St->Bool):=(cE 2 (cE 1 (jG false (EV (partOf (ag Tryz.f113) [1,1,0,1,0,0,1,1])) J)))
theorem F.dh.aP:EV F.dh.L0 (sM e 63 h) J=(aa (bK .slice (e 0) h) fun g=>aa (aF .lss (e 4) g) fun i=>let Q1:=(sL e [(7,e 4),(8,e 0),(9,g),(10,i)]);aq i (aa (jw 3 (e 0) (e 4)) fun j=>aa (ja 0 j) fun k=>fl 0 k h fun p l=>aa (jw 3 (e 0) (e 4)) fun m=>aa (ja 0 m) fun n=>fl 1 n h fun q o=>aa (bK .slice o h) fun a=>aa (iP [(.str []),(I6 0)] [(0,1),(1,1)] [l,a]) fun b=>aa (eN [(.str []),(I6 0)] [(0,2)] [b]) fun d=>cG (bB 2 24 (e 3) (.slice (Heap.next h) 0 1 2) (hA h d)) fun c f=>bJ (EV F.dh.L1) (sM (sL Q1 [(13,e 3),(14,e 0),(15,e 4),(16,j),(17,k),(18,p),(19,l),(20,e 0),(21,e 4),(22,m),(23,n),(24,q),(25,o),(26,a),(27,b),(28,.slice (Heap.next h) 0 1 2),(29,c),(3,c),(5,I6 0)]) 63 f) (F.dh.kg J)) (J (.exit 0) (sM Q1 63 h))):=by kernel_rfl
theorem F.dh.aC:F.dh.cK K (.exit 0) (sM e 63 h)=(K (.ret (e 3)) h):=by kernel_rfl
theorem F.dh.cU:EV F.dh.L1 (sM e 63 h) J=(ou 3 (e 0) (e 4) 2 h fun u v b=>aa (bK .slice b h) fun c=>aa (aF .lss (e 5) c) fun d=>let Q1:=(sL e [(30,e 5),(31,e 0),(32,e 4),(33,u),(34,v),(35,b),(36,c),(37,d)]);aq d (ou 3 (e 0) (e 4) 2 h fun w x f=>aa (jw 4 f (e 5)) fun g=>aa (au (some 4) g h) fun i=>aa (aS 4 (nP h) i (hA h [(I6 0),bF,(.str []),.ai])) fun a=>fl 0 (nP h) a fun y j=>aa (jC (.int .i64) j (I6 0)) fun k=>let Q2:=(sL Q1 [(40,e 0),(41,e 4),(42,w),(43,x),(44,f),(45,e 5),(46,g),(47,i),(6,nP h),(48,y),(49,j),(50,k)]);aq k (aa (ja 2 (nP h)) fun l=>fl 0 l a fun z m=>aa (ja 2 (nP h)) fun n=>fl 1 n a fun A o=>aa (bK .slice o a) fun p=>aa (iP [(.str []),(I6 0)] [(0,1),(1,1)] [m,p]) fun q=>aa (eN [(.str []),(I6 0)] [(0,2)] [q]) fun B=>cG (bB 2 24 (e 3) (.slice (Heap.next a) 0 1 2) (hA a B)) fun r C=>aa (aF .add (e 5) (I6 1)) fun s=>J .normal (sM (sL Q2 [(51,e 3),(52,l),(53,z),(54,m),(55,n),(56,A),(57,o),(58,p),(59,q),(60,.slice (Heap.next a) 0 1 2),(61,r),(3,r),(38,e 5),(39,s),(5,s)]) 63 C)) (aa (aF .add (e 5) (I6 1)) fun t=>J .normal (sM (sL Q2 [(38,e 5),(39,t),(5,t)]) 63 a))) (J (.exit 2) (sM Q1 63 h))):=by kernel_rfl
theorem F.dh.cm:F.dh.kg J (.exit 2) (sM e 63 h)=(aa (aF .add (e 4) (I6 1)) fun a=>J .normal (sM (sL e [(11,e 4),(12,a),(4,a)]) 63 h)):=by kernel_rfl
theorem F.HF:EV (ag Tryz.f113) (sM (ay [a0]) 63 h) (RL Tryz.f113 K)=(bJ (EV F.dh.L0) (sM (sL (ay [a0]) [(2,.ai),(3,.ai),(4,I6 0)]) 63 h) (F.dh.cK K)):=by kernel_rfl
theorem F.FB(hh:EV (ag Tryz.f113) (sM (ay [a0]) 63 h) (RL Tryz.f113 K)=true):Sem TP 113 [a0] h K:=
 SB Tryz.func113 hh
noncomputable def F.eU.L0:=partOf (ag Tryz.f154) [1,0,1,0,0]
noncomputable def F.eU.cK:=LK 0 Tryz.f154 [1,1]
theorem F.eU.aP:EV F.eU.L0 (sM e 19 h) J=(aa (bK .slice (e 0) h) fun b=>aa (aF .lss (e 3) b) fun c=>let Q1:=(sL e [(4,e 3),(5,e 0),(6,b),(7,c)]);aq c (il 1 (e 0) (e 3) h fun d a=>an TP 153 [a] h (bf (fun f g=>aa (mh .not f) fun i=>let Q2:=(sL Q1 [(10,e 0),(11,e 3),(12,d),(13,a),(14,f),(15,i)]);aq i (J .ret (sM (cF Q2 2 bF) 19 g)) (aa (aF .add (e 3) (I6 1)) fun j=>J .normal (sM (sL Q2 [(8,e 3),(9,j),(3,j)]) 19 g))) (pS J (sL Q1 [(10,e 0),(11,e 3),(12,d),(13,a)]) 19))) (J (.exit 0) (sM Q1 19 h))):=by kernel_rfl
theorem F.eU.aC:F.eU.cK K (.exit 0) (sM e 19 h)=(aa (bK .slice (e 0) h) fun a=>aa (aF .leq a (I6 12)) fun b=>K (.ret b) h):=by kernel_rfl
theorem F.eU.bg:F.eU.cK K .ret (sM e 19 h)=(K (.ret (e 2)) h):=by kernel_rfl
theorem F.HH:EV (ag Tryz.f154) (sM (ay [a0]) 19 h) (RL Tryz.f154 K)=(bJ (EV F.eU.L0) (sM (sL (ay [a0]) [(2,bF),(3,I6 0)]) 19 h) (F.eU.cK K)):=by kernel_rfl
theorem F.FC(hh:EV (ag Tryz.f154) (sM (ay [a0]) 19 h) (RL Tryz.f154 K)=true):Sem TP 154 [a0] h K:=
 SB Tryz.func154 hh
theorem F.m7:EV (ag Tryz.f167) (sM (ay [a0,a1]) 9 h) (RL Tryz.f167 K)=(an TP 184 [a0,a1] h (bf (fun a b=>aa (aF .geq a (I6 0)) fun c=>K (.ret c) b) (pK K))):=by kernel_rfl
theorem F.mT(hh:EV (ag Tryz.f167) (sM (ay [a0,a1]) 9 h) (RL Tryz.f167 K)=true):Sem TP 167 [a0,a1] h K:=
 SB Tryz.func167 hh
noncomputable def F.bE.L0:=partOf (ag Tryz.f184) [1,0,1,0,0]
noncomputable def F.bE.cK:=LK 0 Tryz.f184 [1,1]
theorem F.bE.aP:EV F.bE.L0 (sM e 19 h) J=(aa (aF .lss (e 8) (e 7)) fun b=>let Q1:=(cF e 9 b);aq b (il 1 (e 0) (e 8) h fun c a=>ud (e 1) fun f9 YF Zp=>an TP f9 (YF++([a]++Zp)) h (bf (fun d f=>let Q2:=(sL Q1 [(10,e 8),(5,e 8),(11,e 1),(12,e 0),(13,e 8),(14,c),(15,a),(16,d)]);aq d (J .ret (sM (sL Q2 [(17,e 8),(4,e 8)]) 19 f)) (aa (aF .add (e 8) (I6 1)) fun g=>J .normal (sM (sL Q2 [(18,g),(8,g)]) 19 f))) (pS J (sL Q1 [(10,e 8),(5,e 8),(11,e 1),(12,e 0),(13,e 8),(14,c),(15,a)]) 19))) (J (.exit 0) (sM Q1 19 h))):=by kernel_rfl
theorem F.bE.aC:F.bE.cK K (.exit 0) (sM e 19 h)=(K (.ret (I6 (-1))) h):=by kernel_rfl
theorem F.bE.bg:F.bE.cK K .ret (sM e 19 h)=(K (.ret (e 4)) h):=by kernel_rfl
theorem F.oy:EV (ag Tryz.f184) (sM (ay [a0,a1]) 19 h) (RL Tryz.f184 K)=(aa (bK .slice a0 h) fun a=>bJ (EV F.bE.L0) (sM (sL (ay [a0,a1]) [(4,I6 0),(6,a0),(7,a),(8,I6 0)]) 19 h) (F.bE.cK K)):=by kernel_rfl
theorem F.nX(hh:EV (ag Tryz.f184) (sM (ay [a0,a1]) 19 h) (RL Tryz.f184 K)=true):Sem TP 184 [a0,a1] h K:=
 SB Tryz.func184 hh
theorem F.oL:EV (ag Tryz.f143) (sM (ay [a0,a1]) 9 h) (RL Tryz.f143 K)=(an TP 145 [a0,a1] h (bf (fun a b=>aa (aF .geq a (I6 0)) fun c=>K (.ret c) b) (pK K))):=by kernel_rfl
theorem F.oz(hh:EV (ag Tryz.f143) (sM (ay [a0,a1]) 9 h) (RL Tryz.f143 K)=true):Sem TP 143 [a0,a1] h K:=
 SB Tryz.func143 hh
noncomputable def F.bG.L0:=partOf (ag Tryz.f145) [1,0,1,0,0]
noncomputable def F.bG.cK:=LK 0 Tryz.f145 [1,1]
theorem F.bG.aP:EV F.bG.L0 (sM e 19 h) J=(aa (aF .lss (e 8) (e 7)) fun a=>aq a (il 1 (e 0) (e 8) h fun f b=>aa (jC .string (e 1) b) fun c=>let Q1:=(sL e [(9,a),(10,e 8),(5,e 8),(11,e 1),(12,e 0),(13,e 8),(14,f),(15,b),(16,c)]);aq c (J .ret (sM (sL Q1 [(17,e 8),(4,e 8)]) 19 h)) (aa (aF .add (e 8) (I6 1)) fun d=>J .normal (sM (sL Q1 [(18,d),(8,d)]) 19 h))) (J (.exit 0) (sM (cF e 9 a) 19 h))):=by kernel_rfl
theorem F.bG.aC:F.bG.cK K (.exit 0) (sM e 19 h)=(K (.ret (I6 (-1))) h):=by kernel_rfl
theorem F.bG.bg:F.bG.cK K .ret (sM e 19 h)=(K (.ret (e 4)) h):=by kernel_rfl
theorem F.kS:EV (ag Tryz.f145) (sM (ay [a0,a1]) 19 h) (RL Tryz.f145 K)=(aa (bK .slice a0 h) fun a=>bJ (EV F.bG.L0) (sM (sL (ay [a0,a1]) [(4,I6 0),(6,a0),(7,a),(8,I6 0)]) 19 h) (F.bG.cK K)):=by kernel_rfl
theorem F.kE(hh:EV (ag Tryz.f145) (sM (ay [a0,a1]) 19 h) (RL Tryz.f145 K)=true):Sem TP 145 [a0,a1] h K:=
 SB Tryz.func145 hh
theorem F.FD:EV (ag Tryz.f168) (sM (ay [a0]) 6 h) (RL Tryz.f168 K)=(an TP 107 [a0] h (bf (fun a b=>aa (mh .not a) fun c=>K (.ret c) b) (pK K))):=by kernel_rfl
theorem F.DF(hh:EV (ag Tryz.f168) (sM (ay [a0]) 6 h) (RL Tryz.f168 K)=true):Sem TP 168 [a0] h K:=
 SB Tryz.func168 hh
noncomputable def F.eP.L0:=partOf (ag Tryz.f142) [1,0,0]
noncomputable def F.eP.cK(K:Out->Heap->Bool):=(cE 0 (RL Tryz.f142 K))
theorem F.eP.aP:EV F.eP.L0 (sM e 20 h) J=(aa (aF .lss (e 7) (e 6)) fun m=>let Q1:=(cF e 8 m);aq m (il 1 (e 5) (e 7) h fun n a=>aa (au none (e 1) h) fun i=>an TP 143 [i,a] h (bf (fun o b=>aa (mh .not o) fun p=>let Q2:=(sL Q1 [(9,n),(10,a),(4,a),(11,i),(12,a),(13,o),(14,p)]);aq p (aa (au none (e 1) b) fun c=>aa (eN [(.str [])] [(0,1)] [a]) fun j=>cG (bB 1 16 c (.slice (Heap.next b) 0 1 1) (hA b j)) fun d k=>aa (aS 1 (e 1) d k) fun l=>aa (aF .add (e 7) (I6 1)) fun f=>J .normal (sM (sL Q2 [(15,c),(16,a),(17,.slice (Heap.next b) 0 1 1),(18,d),(19,f),(7,f)]) 20 l)) (aa (aF .add (e 7) (I6 1)) fun g=>J .normal (sM (sL Q2 [(19,g),(7,g)]) 20 b))) (pS J (sL Q1 [(9,n),(10,a),(4,a),(11,i),(12,a)]) 20))) (J (.exit 0) (sM Q1 20 h))):=by kernel_rfl
theorem F.eP.aC:F.eP.cK K (.exit 0) (sM e 20 h)=(K (.ret (.tuple [])) h):=by kernel_rfl
theorem F.yo:EV (ag Tryz.f142) (sM (ay [a0,a1]) 20 h) (RL Tryz.f142 K)=(aa (bK .slice a0 h) fun a=>bJ (EV F.eP.L0) (sM (sL (ay [a0,a1]) [(5,a0),(6,a),(7,I6 0)]) 20 h) (F.eP.cK K)):=by kernel_rfl
theorem F.xg(hh:EV (ag Tryz.f142) (sM (ay [a0,a1]) 20 h) (RL Tryz.f142 K)=true):Sem TP 142 [a0,a1] h K:=
 SB Tryz.func142 hh
theorem F.JG:EV (ag Tryz.f138) (sM (ay [a0]) 18 h) (RL Tryz.f138 K)=(aa (eG a0) fun k=>fl 0 (nP h) (hA h k) fun s l=>an TP 107 [l] (hA h k) (bf (fun m a=>aq m (fl 1 (nP h) a fun t n=>aa (bK .slice n a) fun o=>aa (aF .leq o (I6 12)) fun b=>aq b (fl 1 (nP h) a fun p c=>an TP 167 [c,(.func 168 [] [])] a (bf (fun d f=>aa (mh .not d) fun g=>K (.ret g) f) (pK K))) (K (.ret bF) a)) (K (.ret bF) a)) (pK K))):=by kernel_rfl
theorem F.HI(hh:EV (ag Tryz.f138) (sM (ay [a0]) 18 h) (RL Tryz.f138 K)=true):Sem TP 138 [a0] h K:=
 SB Tryz.func138 hh
theorem F.vX:EV (ag Tryz.f139) (sM (ay [a0,a1]) 35 h) (RL Tryz.f139 K)=(aa (eG a1) fun b=>aa (aJ a0) fun n=>fl 1 n (hA h b) fun x o=>fl 0 (nP h) (hA h b) fun y p=>aa (eO .string (I6 0) true o p (hA h b)) fun m=>aa (bu m 0) fun q=>aa (bu m 1) fun r=>aa (aJ a0) fun s=>fl 1 s (hA h b) fun t c=>fl 0 (nP h) (hA h b) fun u d=>fl 1 (nP h) (hA h b) fun v f=>aa (bK .slice f (hA h b)) fun g=>aa (fX .string c d g (hA h b)) fun a=>aa (mh .not r) fun i=>aq i (K (.ret bT) a) (fl 1 (nP h) a fun w j=>aa (bK .slice j a) fun k=>aa (jC (.int .i64) q k) fun l=>K (.ret l) a)):=by kernel_rfl
theorem F.ve(hh:EV (ag Tryz.f139) (sM (ay [a0,a1]) 35 h) (RL Tryz.f139 K)=true):Sem TP 139 [a0,a1] h K:=
 SB Tryz.func139 hh
noncomputable def F.dW.L0:=partOf (ag Tryz.f100) [1,1,1,1,0,1,0,0]
noncomputable def F.dW.cK:=LK 0 Tryz.f100 [1,1,1,1,1]
theorem F.dW.aP:EV F.dW.L0 (sM e 27 h) J=(aa (aF .lss (e 16) (e 15)) fun a=>aq a (aa (jw 4 (e 14) (e 16)) fun b=>aa (au (some 4) b h) fun c=>aa (aS 4 (nP h) c (hA h [(I6 0),bF,(.str []),.ai])) fun g=>aa (ja 2 (nP h)) fun d=>fl 1 d g fun i f=>ud (e 4) fun f23 a24 a25=>an TP f23 (a24++([f]++a25)) g (bf (fun k l=>aa (aF .add (e 16) (I6 1)) fun j=>J .normal (sM (sL e [(17,a),(18,b),(19,c),(6,nP h),(20,e 4),(21,d),(22,i),(23,f),(24,k),(25,j),(16,j)]) 27 l)) (pS J (sL e [(17,a),(18,b),(19,c),(6,nP h),(20,e 4),(21,d),(22,i),(23,f)]) 27))) (J (.exit 0) (sM (cF e 17 a) 27 h))):=by kernel_rfl
theorem F.dW.aC:F.dW.cK K (.exit 0) (sM e 27 h)=(aa (au none (e 3) h) fun a=>K (.ret a) h):=by kernel_rfl
theorem F.Bo:EV (ag Tryz.f100) (sM (ay [a0]) 27 h) (RL Tryz.f100 K)=(aa (eG a0) fun a=>aa (ja 0 (nP h)) fun d=>fl 1 d (hA (hA h a) [.ai]) fun i f=>an TP 142 [f,(.ptr (Heap.next (hA h a)) 0)] (hA (hA h a) [.ai]) (bf (fun j b=>fl 2 (nP h) b fun k g=>aa (bK .slice g b) fun c=>bJ (EV F.dW.L0) (sM (sL (ay [a0]) [(1,nP h),(2,.ai),(3,.ptr (Heap.next (hA h a)) 0),(7,.func 142 [] [(.ptr (Heap.next (hA h a)) 0)]),(4,.func 142 [] [(.ptr (Heap.next (hA h a)) 0)]),(8,.func 142 [] [(.ptr (Heap.next (hA h a)) 0)]),(9,d),(10,i),(11,f),(12,j),(13,k),(14,g),(15,c),(16,I6 0)]) 27 b) (F.dW.cK K)) (pK K))):=by kernel_rfl
theorem F.Aj(hh:EV (ag Tryz.f100) (sM (ay [a0]) 27 h) (RL Tryz.f100 K)=true):Sem TP 100 [a0] h K:=
 SB Tryz.func100 hh
noncomputable def F.iU.J0(K:Out->Heap->Bool)(s:St):Bool:=Rm (EV (partOf (ag Tryz.f140) [1,0,1,0,1,1,1])) s (cE 0 (jG false (EV (partOf (ag Tryz.f140) [1,1])) (RL Tryz.f140 K)))
theorem F.iU.Cx:F.iU.J0 K (sM e 40 h)=(aq (e 10) (aa (ja 2 (e 1)) fun g=>fl 0 g h fun C i=>aa (jC .string i (.str [])) fun j=>aq j (aa (ja 2 (e 1)) fun k=>fl 1 k h fun D l=>aa (bK .slice l h) fun m=>aa (jC (.int .i64) m (I6 2)) fun n=>aq n (aa (ja 2 (e 1)) fun o=>fl 1 o h fun E p=>il 1 p (I6 0) h fun G q=>an TP 107 [q] h (bf (fun r b=>aq r (aa (ja 2 (e 1)) fun s=>fl 1 s b fun I t=>il 1 t (I6 1) b fun J u=>an TP 107 [u] b (bf (rK K) (pK K))) (K (.ret bF) b)) (pK K))) (K (.ret bF) h)) (K (.ret bF) h)) (K (.ret bF) h)):=(zC _ _ _).trans (by kernel_rfl)
theorem F.Bp:EV (ag Tryz.f140) (sM (ay [a0]) 40 h) (RL Tryz.f140 K)=(aa (eG a0) fun c=>fl 0 (nP h) (hA h c) fun L f=>aa (jC (.int .i64) f (I6 0)) fun B=>let Q1:=(sL (ay [a0]) [(1,nP h),(2,bF),(3,L),(4,f),(6,B),(5,B)]);aq B (aa (ja 2 (nP h)) fun M=>aa (au (some 2) M (hA h c)) fun N=>an TP 138 [N] (hA h c) (bf (rK K) (pK K))) (aa (jC (.int .i64) f (I6 1)) fun a=>aq a (F.iU.J0 K (sM (sL Q1 [(11,a),(10,a)]) 40 (hA h c))) (aa (jC (.int .i64) f (I6 2)) fun d=>F.iU.J0 K (sM (sL Q1 [(11,a),(10,a),(12,d),(10,d)]) 40 (hA h c))))):=by kernel_rfl
theorem F.Ak(hh:EV (ag Tryz.f140) (sM (ay [a0]) 40 h) (RL Tryz.f140 K)=true):Sem TP 140 [a0] h K:=
 SB Tryz.func140 hh
noncomputable def F.bX.L0:=partOf (ag Tryz.f43) [1,1,0,1,0,0]
noncomputable def F.bX.cK:=LK 0 Tryz.f43 [1,1,1]
noncomputable def F.bX.L1:=partOf (ag Tryz.f43) [1,1,1,1,0,1,0,0]
noncomputable def F.bX.kg:=LK 2 Tryz.f43 [1,1,1,1,1]
theorem F.bX.aP:EV F.bX.L0 (sM e 49 h) J=(fl 2 (e 1) h fun o m=>aa (bK .slice m h) fun n=>aa (aF .lss (e 4) n) fun a=>let Q1:=(sL e [(12,e 4),(13,o),(14,m),(15,n),(16,a)]);aq a (fl 2 (e 1) h fun j b=>aa (jw 4 b (e 4)) fun c=>aa (ja 2 c) fun d=>fl 1 d h fun k f=>cG (bB 1 16 (e 3) f h) fun g l=>aa (aF .add (e 4) (I6 1)) fun i=>J .normal (sM (sL Q1 [(19,e 3),(20,j),(21,b),(22,e 4),(23,c),(24,d),(25,k),(26,f),(27,g),(3,g),(17,e 4),(18,i),(4,i)]) 49 l)) (J (.exit 0) (sM Q1 49 h))):=by kernel_rfl
theorem F.bX.aC:F.bX.cK K (.exit 0) (sM e 49 h)=(bJ (EV F.bX.L1) (sM (sL e [(5,.ai),(6,I6 0)]) 49 h) (F.bX.kg K)):=by kernel_rfl
theorem F.bX.cU:EV F.bX.L1 (sM e 49 h) J=(aa (bK .slice (e 3) h) fun c=>aa (aF .lss (e 6) c) fun d=>let Q1:=(sL e [(28,e 6),(29,e 3),(30,c),(31,d)]);aq d (il 1 (e 3) (e 6) h fun f b=>an TP 86 [(e 5),b] h (bf (fun g a=>aa (mh .not g) fun i=>let Q2:=(sL Q1 [(34,e 5),(35,e 3),(36,e 6),(37,f),(38,b),(39,g),(40,i)]);aq i (il 1 (e 3) (e 6) a fun n j=>aa (eN [(.str [])] [(0,1)] [j]) fun o=>cG (bB 1 16 (e 5) (.slice (Heap.next a) 0 1 1) (hA a o)) fun k p=>aa (aF .add (e 6) (I6 1)) fun l=>J .normal (sM (sL Q2 [(41,e 5),(42,e 3),(43,e 6),(44,n),(45,j),(46,.slice (Heap.next a) 0 1 1),(47,k),(5,k),(32,e 6),(33,l),(6,l)]) 49 p)) (aa (aF .add (e 6) (I6 1)) fun m=>J .normal (sM (sL Q2 [(32,e 6),(33,m),(6,m)]) 49 a))) (pS J (sL Q1 [(34,e 5),(35,e 3),(36,e 6),(37,f),(38,b)]) 49))) (J (.exit 2) (sM Q1 49 h))):=by kernel_rfl
theorem F.bX.cm:F.bX.kg K (.exit 2) (sM e 49 h)=(K (.ret (e 5)) h):=by kernel_rfl
theorem F.Bq:EV (ag Tryz.f43) (sM (ay [a0]) 49 h) (RL Tryz.f43 K)=(aa (eG a0) fun a=>aa (eN [] [] []) fun b=>aa (ja 0 (nP h)) fun c=>fl 1 c (hA (hA h a) b) fun g d=>cG (bB 1 16 (.slice (Heap.next (hA h a)) 0 0 1) d (hA (hA h a) b)) fun f i=>bJ (EV F.bX.L0) (sM (sL (ay [a0]) [(1,nP h),(2,.ai),(7,.slice (Heap.next (hA h a)) 0 0 1),(8,c),(9,g),(10,d),(11,f),(3,f),(4,I6 0)]) 49 i) (F.bX.cK K)):=by kernel_rfl
theorem F.Al(hh:EV (ag Tryz.f43) (sM (ay [a0]) 49 h) (RL Tryz.f43 K)=true):Sem TP 43 [a0] h K:=
 SB Tryz.func43 hh
noncomputable def F.dx.L0:=partOf (ag Tryz.f112) [1,1,0,1,0,0]
noncomputable def F.dx.cK:=LK 0 Tryz.f112 [1,1,1]
noncomputable def F.dx.J0(K:AX->St->Bool)(s:St):Bool:=Rm (EV (partOf (ag Tryz.f112) [1,1,0,1,0,0,1,0,0,1,0,1,0,1,1,1])) s (cE 2 (jG false (EV (partOf (ag Tryz.f112) [1,1,0,1,0,0,1,0,0,1,1])) (cE 1 (jG false (EV (partOf (ag Tryz.f112) [1,1,0,1,0,0,1,1])) K))))
theorem F.dx.aP:EV F.dx.L0 (sM e 67 h) J=(fl 2 (e 1) h fun A l=>aa (bK .slice l h) fun m=>aa (aF .lss (e 3) m) fun n=>let Q1:=(sL e [(23,e 3),(24,A),(25,l),(26,m),(27,n)]);aq n (fl 2 (e 1) h fun B o=>aa (jw 4 o (e 3)) fun p=>aa (au (some 4) p h) fun q=>aa (aS 4 (nP h) q (hA h [(I6 0),bF,(.str []),.ai])) fun a=>fl 0 (nP h) a fun C c=>aa (jC (.int .i64) c (I6 0)) fun d=>let Q2:=(sL Q1 [(30,B),(31,o),(32,e 3),(33,p),(34,q),(4,nP h),(35,C),(36,c),(38,d),(37,d)]);aq d (aa (ja 2 (nP h)) fun f=>fl 0 f a fun r g=>an TP 153 [g] a (bf (fun s i=>aa (mh .not s) fun t=>let Q3:=(sL Q2 [(39,f),(40,r),(41,g),(42,s),(43,t)]);aq t (J .ret (sM (cF Q3 2 bF) 67 i)) (aa (ja 2 (nP h)) fun j=>fl 1 j i fun u k=>an TP 154 [k] i (bf (fun v w=>aa (mh .not v) fun x=>let Q4:=(sL Q3 [(58,j),(59,u),(60,k),(61,v),(62,x)]);aq x (J .ret (sM (cF Q4 2 bF) 67 w)) (aa (aF .add (e 3) (I6 1)) fun y=>J .normal (sM (sL Q4 [(28,e 3),(29,y),(3,y)]) 67 w))) (pS J (sL Q3 [(58,j),(59,u),(60,k)]) 67)))) (pS J (sL Q2 [(39,f),(40,r),(41,g)]) 67))) (aa (jC (.int .i64) c (I6 1)) fun b=>aq b (F.dx.J0 J (sM (sL Q2 [(45,b),(44,b)]) 67 a)) (aa (jC (.int .i64) c (I6 2)) fun z=>F.dx.J0 J (sM (sL Q2 [(45,b),(44,b),(46,z),(44,z)]) 67 a)))) (J (.exit 0) (sM Q1 67 h))):=by kernel_rfl
theorem F.dx.aC:F.dx.cK K (.exit 0) (sM e 67 h)=(aa (au (some 3) (e 1) h) fun b=>an TP 43 [b] h (bf (fun c a=>aa (bK .slice c a) fun d=>aa (aF .leq d (I6 12)) fun f=>K (.ret f) a) (pK K))):=by kernel_rfl
theorem F.dx.bg:F.dx.cK K .ret (sM e 67 h)=(K (.ret (e 2)) h):=by kernel_rfl
theorem F.dx.Cx:F.dx.J0 J (sM e 67 h)=(aq (e 44) (aa (ja 2 (e 4)) fun j=>fl 0 j h fun x k=>aa (qE .string k (.str [])) fun c=>let Q1:=(sL e [(47,j),(48,x),(49,k),(50,c),(51,c)]);aq c (J .ret (sM (sL Q1 [(51,bT),(52,bz),(51,bT),(53,bz),(51,bT),(54,bz),(51,bT),(55,bz),(51,bT),(56,bz),(57,bT),(2,bF)]) 67 h)) (aa (ja 2 (e 4)) fun l=>fl 1 l h fun y m=>aa (bK .slice m h) fun n=>aa (qE (.int .i64) n (I6 2)) fun d=>let Q2:=(sL Q1 [(51,bF),(52,l),(51,bF),(53,y),(51,bF),(54,m),(51,bF),(55,n),(51,bF),(56,d),(57,d)]);aq d (J .ret (sM (cF Q2 2 bF) 67 h)) (aa (ja 2 (e 4)) fun f=>fl 1 f h fun o g=>an TP 154 [g] h (bf (fun p q=>aa (mh .not p) fun r=>let Q3:=(sL Q2 [(58,f),(59,o),(60,g),(61,p),(62,r)]);aq r (J .ret (sM (cF Q3 2 bF) 67 q)) (aa (aF .add (e 3) (I6 1)) fun s=>J .normal (sM (sL Q3 [(28,e 3),(29,s),(3,s)]) 67 q))) (pS J (sL Q2 [(58,f),(59,o),(60,g)]) 67))))) (J .ret (sM (cF e 2 bF) 67 h))):=(zC _ _ _).trans (by kernel_rfl)
theorem F.JH{J:Out->Heap->Bool}:EV (ag Tryz.f112) (sM (ay [a0]) 67 h) (RL Tryz.f112 J)=(aa (eG a0) fun L=>aa (ja 0 (nP h)) fun M=>fl 0 M (hA h L) fun R N=>an TP 153 [N] (hA h L) (bf (fun O B=>aa (mh .not O) fun C=>aq C (J (.ret bF) B) (aa (ja 0 (nP h)) fun P=>fl 1 P B fun D t=>an TP 154 [t] B (bf (fun u a=>aa (mh .not u) fun b=>aq b (J (.ret bF) a) (fl 2 (nP h) a fun E v=>aa (bK .slice v a) fun w=>aa (aF .gtr w (I6 20)) fun i=>aq i (J (.ret bF) a) (bJ (EV F.dx.L0) (sM (sL (ay [a0]) [(1,nP h),(2,bF),(5,M),(6,R),(7,N),(8,O),(9,C),(10,C),(10,bF),(11,P),(10,bF),(12,D),(10,bF),(13,t),(10,bF),(14,u),(10,bF),(15,b),(16,b),(17,b),(17,bF),(18,E),(17,bF),(19,v),(17,bF),(20,w),(17,bF),(21,i),(22,i),(3,I6 0)]) 67 a) (F.dx.cK J)))) (fun G I=>J (.panic G) I)))) (fun S T=>J (.panic S) T))):=by kernel_rfl
theorem F.HJ(hh:EV (ag Tryz.f112) (sM (ay [a0]) 67 h) (RL Tryz.f112 K)=true):Sem TP 112 [a0] h K:=
 SB Tryz.func112 hh
noncomputable def F.eL.L0:=partOf (ag Tryz.f41) [1,1,1,0,1,0,0]
noncomputable def F.eL.cK:=LK 0 Tryz.f41 [1,1,1,1]
noncomputable def F.eL.L1:=partOf (ag Tryz.f41) [1,1,1,0,1,0,0,1,0,0,1,1,0,0]
noncomputable def F.eL.kg(J:AX->St->Bool):=(cE 2 (cE 1 (jG false (EV (partOf (ag Tryz.f41) [1,1,1,0,1,0,0,1,1])) J)))
theorem F.eL.aP:EV F.eL.L0 (sM e 62 h) J=(aa (bK .slice (e 0) h) fun m=>aa (aF .lss (e 6) m) fun b=>let Q1:=(sL e [(11,e 6),(12,e 0),(13,m),(14,b),(15,b)]);aq b (aa (aF .leq (e 5) (e 1)) fun c=>let Q2:=(sL Q1 [(15,bT),(16,e 5),(15,bT),(17,e 1),(15,bT),(18,c),(19,c)]);aq c (aa (aF .add (e 5) (I6 1)) fun d=>aa (jw 3 (e 0) (e 6)) fun f=>aa (ja 0 f) fun g=>aa (au (some 2) g h) fun i=>an TP 85 [i] h (bf (fun n j=>aa (aF .add d n) fun a=>bJ (EV F.eL.L1) (sM (sL Q2 [(22,e 5),(23,d),(24,e 0),(25,e 6),(26,f),(27,g),(28,i),(29,n),(30,a),(5,a),(7,I6 0)]) 62 j) (F.eL.kg J)) (pS J (sL Q2 [(22,e 5),(23,d),(24,e 0),(25,e 6),(26,f),(27,g),(28,i)]) 62))) (J (.exit 0) (sM Q2 62 h))) (J (.exit 0) (sM (sL Q1 [(15,bF),(16,bz),(15,bF),(17,bz),(15,bF),(18,bz),(19,bF)]) 62 h))):=by kernel_rfl
theorem F.eL.aC:F.eL.cK K (.exit 0) (sM e 62 h)=(aa (aF .leq (e 5) (e 1)) fun a=>K (.ret a) h):=by kernel_rfl
theorem F.eL.cU:EV F.eL.L1 (sM e 62 h) J=(ou 3 (e 0) (e 6) 2 h fun q r j=>aa (bK .slice j h) fun k=>aa (aF .lss (e 7) k) fun a=>let Q1:=(sL e [(31,e 7),(32,e 0),(33,e 6),(34,q),(35,r),(36,j),(37,k),(38,a),(39,a)]);aq a (aa (aF .leq (e 5) (e 1)) fun b=>let Q2:=(sL Q1 [(39,bT),(40,e 5),(39,bT),(41,e 1),(39,bT),(42,b),(43,b)]);aq b (aa (aF .add (e 5) (I6 1)) fun c=>ou 3 (e 0) (e 6) 2 h fun l m d=>aa (jw 4 d (e 7)) fun f=>aa (ja 2 f) fun g=>aa (au (some 2) g h) fun i=>an TP 85 [i] h (bf (fun n s=>aa (aF .add c n) fun o=>aa (aF .add (e 7) (I6 1)) fun p=>J .normal (sM (sL Q2 [(46,e 5),(47,c),(48,e 0),(49,e 6),(50,l),(51,m),(52,d),(53,e 7),(54,f),(55,g),(56,i),(57,n),(58,o),(5,o),(44,e 7),(45,p),(7,p)]) 62 s)) (pS J (sL Q2 [(46,e 5),(47,c),(48,e 0),(49,e 6),(50,l),(51,m),(52,d),(53,e 7),(54,f),(55,g),(56,i)]) 62))) (J (.exit 2) (sM Q2 62 h))) (J (.exit 2) (sM (sL Q1 [(39,bF),(40,bz),(39,bF),(41,bz),(39,bF),(42,bz),(43,bF)]) 62 h))):=by kernel_rfl
theorem F.eL.cm:F.eL.kg J (.exit 2) (sM e 62 h)=(aa (aF .add (e 6) (I6 1)) fun a=>J .normal (sM (sL e [(20,e 6),(21,a),(6,a)]) 62 h)):=by kernel_rfl
theorem F.Mo:EV (ag Tryz.f41) (sM (ay [a0,a1]) 62 h) (RL Tryz.f41 K)=(aa (bK .slice a0 h) fun a=>aa (aF .gtr a (I6 70)) fun b=>aq b (K (.ret bF) h) (bJ (EV F.eL.L0) (sM (sL (ay [a0,a1]) [(4,bF),(8,a0),(9,a),(10,b),(5,I6 0),(6,I6 0)]) 62 h) (F.eL.cK K))):=by kernel_rfl
theorem F.JI(hh:EV (ag Tryz.f41) (sM (ay [a0,a1]) 62 h) (RL Tryz.f41 K)=true):Sem TP 41 [a0,a1] h K:=
 SB Tryz.func41 hh
noncomputable def F.iQ.L0:=partOf (ag Tryz.f85) [1,1,0,1,0,0]
noncomputable def F.iQ.cK:=LK 0 Tryz.f85 [1,1,1]
theorem F.iQ.aP:EV F.iQ.L0 (sM e 34 h) J=(fl 1 (e 1) h fun o c=>aa (bK .slice c h) fun d=>aa (aF .lss (e 4) d) fun a=>let Q1:=(sL e [(13,e 4),(14,o),(15,c),(16,d),(17,a),(18,a)]);aq a (aa (aF .lss (e 3) (I6 10000)) fun b=>let Q2:=(sL Q1 [(18,bT),(19,e 3),(18,bT),(20,b),(21,b)]);aq b (fl 1 (e 1) h fun m f=>il 1 f (e 4) h fun n g=>aa (bK .str g h) fun i=>aa (aF .quo i (I6 20)) fun j=>aa (aF .add (e 3) j) fun k=>aa (aF .add (e 4) (I6 1)) fun l=>J .normal (sM (sL Q2 [(24,e 3),(25,m),(26,f),(27,e 4),(28,n),(29,g),(30,i),(31,j),(32,k),(3,k),(22,e 4),(23,l),(4,l)]) 34 h)) (J (.exit 0) (sM Q2 34 h))) (J (.exit 0) (sM (sL Q1 [(18,bF),(19,bz),(18,bF),(20,bz),(21,bF)]) 34 h))):=by kernel_rfl
theorem F.iQ.aC:F.iQ.cK K (.exit 0) (sM e 34 h)=(K (.ret (e 3)) h):=by kernel_rfl
theorem F.JJ:EV (ag Tryz.f85) (sM (ay [a0]) 34 h) (RL Tryz.f85 K)=(aa (eG a0) fun a=>fl 1 (nP h) (hA h a) fun j b=>aa (bK .slice b (hA h a)) fun c=>fl 0 (nP h) (hA h a) fun k d=>aa (bK .str d (hA h a)) fun f=>aa (aF .quo f (I6 20)) fun g=>aa (aF .add c g) fun i=>bJ (EV F.iQ.L0) (sM (sL (ay [a0]) [(1,nP h),(2,I6 0),(5,j),(6,b),(7,c),(8,k),(9,d),(10,f),(11,g),(12,i),(3,i),(4,I6 0)]) 34 (hA h a)) (F.iQ.cK K)):=by kernel_rfl
theorem F.HK(hh:EV (ag Tryz.f85) (sM (ay [a0]) 34 h) (RL Tryz.f85 K)=true):Sem TP 85 [a0] h K:=
 SB Tryz.func85 hh
noncomputable def F.cI.L0:=partOf (ag Tryz.f98) [1,1,1,0,1,0,0]
noncomputable def F.cI.cK:=LK 0 Tryz.f98 [1,1,1,1]
noncomputable def F.cI.L1:=partOf (ag Tryz.f98) [1,1,1,0,1,0,0,1,1,0,0,1,1,0,1,0,0]
noncomputable def F.cI.kg(J:AX->St->Bool):=(cE 2 (jG false (EV (partOf (ag Tryz.f98) [1,1,1,0,1,0,0,1,1,0,0,1,1,1])) (cE 1 (jG false (EV (partOf (ag Tryz.f98) [1,1,1,0,1,0,0,1,1,1])) J))))
noncomputable def F.cI.L2:=partOf (ag Tryz.f98) [1,1,1,1,0,1,0,0]
noncomputable def F.cI.xj:=LK 4 Tryz.f98 [1,1,1,1,1]
theorem F.cI.aP:EV F.cI.L0 (sM e 90 h) J=(aa (aF .lss (e 19) (e 18)) fun I=>let Q1:=(cF e 20 I);aq I (aa (jw 3 (e 17) (e 19)) fun u=>aa (au (some 3) u h) fun v=>aa (aS 3 (nP h) v (hA h [(.str []),.ai,.ai])) fun L=>aa (ja 0 (nP h)) fun w=>aa (au (some 2) w L) fun f=>an TP 138 [f] L (bf (fun n g=>aa (mh .not n) fun i=>let Q2:=(sL Q1 [(21,u),(22,v),(6,nP h),(23,w),(24,f),(25,n),(26,i),(27,i)]);aq i (J .ret (sM (sL Q2 [(27,bT),(28,bz),(27,bT),(29,bz),(27,bT),(30,bz),(27,bT),(31,bz),(27,bT),(32,bz),(33,bT),(34,bT),(34,bT),(35,bz),(34,bT),(36,bz),(34,bT),(37,bz),(34,bT),(38,bz),(39,bT),(40,bT),(40,bT),(41,bz),(40,bT),(42,bz),(40,bT),(43,bz),(40,bT),(44,bz),(45,bT),(2,.eZ),(3,bF)]) 90 g)) (aa (ja 0 (nP h)) fun j=>aa (au (some 2) j g) fun k=>an TP 139 [(e 4),k] g (bf (fun o a=>aa (mh .not o) fun c=>let Q3:=(sL Q2 [(27,bF),(28,e 4),(27,bF),(29,j),(27,bF),(30,k),(27,bF),(31,o),(27,bF),(32,c),(33,c),(34,c)]);aq c (J .ret (sM (sL Q3 [(34,bT),(35,bz),(34,bT),(36,bz),(34,bT),(37,bz),(34,bT),(38,bz),(39,bT),(40,bT),(40,bT),(41,bz),(40,bT),(42,bz),(40,bT),(43,bz),(40,bT),(44,bz),(45,bT),(2,.eZ),(3,bF)]) 90 a)) (fl 2 (nP h) a fun x p=>aa (bK .slice p a) fun q=>aa (aF .gtr q (I6 20)) fun d=>let Q4:=(sL Q3 [(34,bF),(35,x),(34,bF),(36,p),(34,bF),(37,q),(34,bF),(38,d),(39,d),(40,d)]);aq d (J .ret (sM (sL Q4 [(40,bT),(41,bz),(40,bT),(42,bz),(40,bT),(43,bz),(40,bT),(44,bz),(45,bT),(2,.eZ),(3,bF)]) 90 a)) (aa (au (some 3) (nP h) a) fun l=>an TP 100 [l] a (bf (fun r b=>aa (bK .slice r b) fun s=>aa (aF .gtr s (I6 12)) fun m=>let Q5:=(sL Q4 [(40,bF),(41,l),(40,bF),(42,r),(40,bF),(43,s),(40,bF),(44,m),(45,m)]);aq m (J .ret (sM (sL Q5 [(2,.eZ),(3,bF)]) 90 b)) (fl 2 (nP h) b fun y t=>aa (bK .slice t b) fun z=>bJ (EV F.cI.L1) (sM (sL Q5 [(46,y),(47,t),(48,z),(49,I6 0)]) 90 b) (F.cI.kg J))) (pS J (sL Q4 [(40,bF),(41,l),(40,bF)]) 90))))) (pS J (sL Q2 [(27,bF),(28,e 4),(27,bF),(29,j),(27,bF),(30,k),(27,bF)]) 90)))) (pS J (sL Q1 [(21,u),(22,v),(6,nP h),(23,w),(24,f)]) 90))) (J (.exit 0) (sM Q1 90 h))):=by kernel_rfl
theorem F.cI.aC:F.cI.cK K (.exit 0) (sM e 90 h)=(aa (aJ (e 4)) fun a=>fl 2 a h fun d b=>aa (bK .map b h) fun c=>aa (aF .add c (I6 1)) fun f=>bJ (EV F.cI.L2) (sM (sL e [(77,e 4),(78,a),(79,d),(80,b),(81,c),(82,f),(83,I6 0)]) 90 h) (F.cI.xj K)):=by kernel_rfl
theorem F.cI.bg:F.cI.cK K .ret (sM e 90 h)=(K (.ret (.tuple [(e 2),(e 3)])) h):=by kernel_rfl
theorem F.cI.cU:EV F.cI.L1 (sM e 90 h) J=(aa (aF .lss (e 49) (e 48)) fun l=>let Q1:=(cF e 50 l);aq l (aa (jw 4 (e 47) (e 49)) fun c=>aa (au (some 4) c h) fun d=>aa (aS 4 (nP h) d (hA h [(I6 0),bF,(.str []),.ai])) fun m=>aa (au (some 4) (nP h) m) fun f=>an TP 140 [f] m (bf (fun n a=>aa (mh .not n) fun g=>let Q2:=(sL Q1 [(51,c),(52,d),(8,nP h),(53,f),(54,n),(55,g),(56,g)]);aq g (J .ret (sM (sL Q2 [(56,bT),(57,bz),(56,bT),(58,bz),(56,bT),(59,bz),(56,bT),(60,bz),(61,bz),(62,bz),(63,bz),(64,bz),(65,bz),(56,bT),(66,bz),(67,bT),(2,.eZ),(3,bF)]) 90 a)) (fl 0 (nP h) a fun t o=>aa (jC (.int .i64) o (I6 0)) fun i=>let Q3:=(sL Q2 [(56,bF),(57,t),(56,bF),(58,o),(56,bF),(59,i),(56,bF),(60,i)]);aq i (aa (ja 2 (nP h)) fun j=>aa (au (some 2) j a) fun k=>an TP 139 [(e 4),k] a (bf (fun p q=>aa (mh .not p) fun b=>let Q4:=(sL Q3 [(60,bT),(61,e 4),(60,bT),(62,j),(60,bT),(63,k),(60,bT),(64,p),(60,bT),(65,b),(56,bF),(66,b),(67,b)]);aq b (J .ret (sM (sL Q4 [(2,.eZ),(3,bF)]) 90 q)) (aa (aF .add (e 49) (I6 1)) fun r=>J .normal (sM (sL Q4 [(68,r),(49,r)]) 90 q))) (pS J (sL Q3 [(60,bT),(61,e 4),(60,bT),(62,j),(60,bT),(63,k),(60,bT)]) 90))) (aa (aF .add (e 49) (I6 1)) fun s=>J .normal (sM (sL Q3 [(60,bF),(61,bz),(60,bF),(62,bz),(60,bF),(63,bz),(60,bF),(64,bz),(60,bF),(65,bz),(56,bF),(66,bF),(67,bF),(68,s),(49,s)]) 90 a)))) (pS J (sL Q1 [(51,c),(52,d),(8,nP h),(53,f)]) 90))) (J (.exit 2) (sM Q1 90 h))):=by kernel_rfl
theorem F.cI.cm:F.cI.kg J (.exit 2) (sM e 90 h)=(aa (aJ (e 4)) fun a=>fl 2 a h fun g b=>aa (ja 0 (e 6)) fun c=>fl 0 c h fun i d=>aa (fX .string b d (I6 0) h) fun j=>aa (aF .add (e 19) (I6 1)) fun f=>J .normal (sM (sL e [(69,e 4),(70,a),(71,g),(72,b),(73,c),(74,i),(75,d),(76,f),(19,f)]) 90 j)):=by kernel_rfl
theorem F.cI.k7:F.cI.kg J .ret (sM e 90 h)=(J .ret (sM e 90 h)):=by kernel_rfl
theorem F.cI.lD:EV F.cI.L2 (sM e 90 h) J=(aa (aF .lss (e 83) (e 82)) fun a=>let Q1:=(cF e 84 a);aq a (an TP 141 [(e 4)] h (bf (fun b c=>aa (mh .not b) fun d=>let Q2:=(sL Q1 [(85,e 4),(86,b),(87,d)]);aq d (J .ret (sM (sL Q2 [(88,e 4),(2,e 4),(3,bT)]) 90 c)) (aa (aF .add (e 83) (I6 1)) fun f=>J .normal (sM (sL Q2 [(89,f),(83,f)]) 90 c))) (pS J (cF Q1 85 (e 4)) 90))) (J (.exit 4) (sM Q1 90 h))):=by kernel_rfl
theorem F.cI.jo:F.cI.xj K (.exit 4) (sM e 90 h)=(K (.ret (.tuple [.eZ,bF])) h):=by kernel_rfl
theorem F.cI.Cy:F.cI.xj K .ret (sM e 90 h)=(K (.ret (.tuple [(e 2),(e 3)])) h):=by kernel_rfl
theorem F.Oq:EV (ag Tryz.f98) (sM (ay [a0]) 90 h) (RL Tryz.f98 K)=(aa (iP [.ai,.mH,.mH] [(0,1),(1,1),(2,1)] [a0,(.map (Heap.next h)),(.map (Heap.next (Heap.alloc h (.map [] 0))))]) fun b=>aa (eG b) fun a=>aa (bK .slice a0 (hA (Heap.alloc (Heap.alloc h (.map [] 0)) (.map [] 0)) a)) fun c=>aa (aF .gtr c (I6 60)) fun d=>aq d (K (.ret (.tuple [.eZ,bF])) (hA (Heap.alloc (Heap.alloc h (.map [] 0)) (.map [] 0)) a)) (aa (bK .slice a0 (hA (Heap.alloc (Heap.alloc h (.map [] 0)) (.map [] 0)) a)) fun f=>bJ (EV F.cI.L0) (sM (sL (ay [a0]) [(2,.eZ),(3,bF),(9,a0),(10,.map (Heap.next h)),(11,.map (Heap.next (Heap.alloc h (.map [] 0)))),(12,b),(13,.ptr (Heap.next (Heap.alloc (Heap.alloc h (.map [] 0)) (.map [] 0))) 0),(4,.ptr (Heap.next (Heap.alloc (Heap.alloc h (.map [] 0)) (.map [] 0))) 0),(14,a0),(15,c),(16,d),(17,a0),(18,f),(19,I6 0)]) 90 (hA (Heap.alloc (Heap.alloc h (.map [] 0)) (.map [] 0)) a)) (F.cI.cK K))):=by kernel_rfl
theorem F.Mp(hh:EV (ag Tryz.f98) (sM (ay [a0]) 90 h) (RL Tryz.f98 K)=true):Sem TP 98 [a0] h K:=
 SB Tryz.func98 hh
noncomputable def F.bt.L0:=partOf (ag Tryz.f141) [1,1,0,1,0,0]
noncomputable def F.bt.cK:=LK 0 Tryz.f141 [1,1,1]
noncomputable def F.bt.L1:=partOf (ag Tryz.f141) [1,1,0,1,0,0,1,1,0,0,1,1,0,0]
noncomputable def F.bt.kg(J:AX->St->Bool):=(cE 2 (cE 1 (jG false (EV (partOf (ag Tryz.f141) [1,1,0,1,0,0,1,1,1])) J)))
noncomputable def F.bt.J0(K:AX->St->Bool)(s:St):Bool:=Rm (EV (partOf (ag Tryz.f141) [1,1,0,1,0,0,1,1,0,0,1,1,0,0,1,1,0,0,1,1,1,1])) s (cE 3 (jG false (EV (partOf (ag Tryz.f141) [1,1,0,1,0,0,1,1,0,0,1,1,0,0,1,1,1])) K))
theorem F.bt.aP:EV F.bt.L0 (sM e 71 h) J=(aa (aF .lss (e 15) (e 14)) fun a=>aq a (aa (jw 3 (e 13) (e 15)) fun d=>aa (au (some 3) d h) fun f=>aa (aS 3 (nP h) f (hA h [(.str []),.ai,.ai])) fun b=>fl 2 (nP h) b fun i g=>aa (bK .slice g b) fun c=>bJ (EV F.bt.L1) (sM (sL e [(16,a),(17,d),(18,f),(5,nP h),(19,i),(20,g),(21,c),(22,I6 0)]) 71 b) (F.bt.kg J)) (J (.exit 0) (sM (cF e 16 a) 71 h))):=by kernel_rfl
theorem F.bt.aC:F.bt.cK K (.exit 0) (sM e 71 h)=(K (.ret (e 3)) h):=by kernel_rfl
theorem F.bt.cU:EV F.bt.L1 (sM e 71 h) J=(aa (aF .lss (e 22) (e 21)) fun j=>let Q1:=(cF e 23 j);aq j (aa (jw 4 (e 20) (e 22)) fun k=>aa (au (some 4) k h) fun l=>aa (aS 4 (nP h) l (hA h [(I6 0),bF,(.str []),.ai])) fun a=>aa (aJ (e 0)) fun m=>fl 2 m a fun v n=>aa (ja 2 (nP h)) fun o=>fl 0 o a fun w p=>aa (eO .string (I6 0) true n p a) fun b=>aa (bu b 0) fun c=>aa (bu b 1) fun d=>fl 0 (nP h) a fun x q=>aa (qE (.int .i64) q (I6 0)) fun f=>let Q2:=(sL Q1 [(24,k),(25,l),(7,nP h),(27,e 0),(28,m),(29,v),(30,n),(31,o),(32,w),(33,p),(34,b),(26,b),(35,c),(36,d),(8,c),(9,d),(37,x),(38,q),(39,f),(40,f)]);aq f (aa (aF .add (e 22) (I6 1)) fun r=>J .normal (sM (sL Q2 [(40,bT),(41,bz),(40,bT),(42,bz),(43,bT),(68,r),(22,r)]) 71 a)) (aa (mh .not d) fun g=>let Q3:=(sL Q2 [(40,bF),(41,d),(40,bF),(42,g),(43,g)]);aq g (aa (aF .add (e 22) (I6 1)) fun s=>J .normal (sM (sL Q3 [(68,s),(22,s)]) 71 a)) (fl 1 (nP h) a fun t i=>aq i (aa (aF .add c (I6 1)) fun u=>F.bt.J0 J (sM (sL Q3 [(44,t),(45,i),(46,c),(47,u),(8,u)]) 71 a)) (F.bt.J0 J (sM (sL Q3 [(44,t),(45,i)]) 71 a))))) (J (.exit 2) (sM Q1 71 h))):=by kernel_rfl
theorem F.bt.cm:F.bt.kg J (.exit 2) (sM e 71 h)=(aa (aF .add (e 15) (I6 1)) fun a=>J .normal (sM (sL e [(69,a),(15,a)]) 71 h)):=by kernel_rfl
theorem F.bt.Cx:F.bt.J0 J (sM e 71 h)=(aa (aJ (e 0)) fun b=>fl 2 b h fun q c=>aa (ja 0 (e 5)) fun d=>fl 0 d h fun r f=>aa (eO .string (I6 0) false c f h) fun g=>aa (aF .gtr (e 8) g) fun i=>let Q1:=(sL e [(48,e 8),(49,e 0),(50,b),(51,q),(52,c),(53,d),(54,r),(55,f),(56,g),(57,i)]);aq i (aa (aJ (e 0)) fun j=>fl 2 j h fun s a=>aa (ja 0 (e 5)) fun k=>fl 0 k h fun t l=>cG (oQ .string (I6 0) a l h) fun m u=>aa (bu m 1) fun n=>aa (lM a n (e 8) u) fun v=>aa (aF .add (e 22) (I6 1)) fun o=>J .normal (sM (sL Q1 [(58,e 0),(59,j),(60,s),(61,a),(62,k),(63,t),(64,l),(65,e 8),(66,m),(67,n),(3,bT),(68,o),(22,o)]) 71 v)) (aa (aF .add (e 22) (I6 1)) fun p=>J .normal (sM (sL Q1 [(68,p),(22,p)]) 71 h))):=(zC _ _ _).trans (by kernel_rfl)
theorem F.xk{J:Out->Heap->Bool}:EV (ag Tryz.f141) (sM (ay [a0]) 71 h) (RL Tryz.f141 J)=(aa (aJ a0) fun w=>fl 0 w h fun y x=>aa (bK .slice x h) fun z=>bJ (EV F.bt.L0) (sM (sL (ay [a0]) [(2,bF),(3,bF),(10,a0),(11,w),(12,y),(13,x),(14,z),(15,I6 0)]) 71 h) (F.bt.cK J)):=by kernel_rfl
theorem F.vY(hh:EV (ag Tryz.f141) (sM (ay [a0]) 71 h) (RL Tryz.f141 K)=true):Sem TP 141 [a0] h K:=
 SB Tryz.func141 hh
noncomputable def F.bP.L0:=partOf (ag Tryz.f65) [1,1,0,1,0,0]
noncomputable def F.bP.cK:=LK 0 Tryz.f65 [1,1,1]
noncomputable def F.bP.L1:=partOf (ag Tryz.f65) [1,1,1,1,0,1,0,0]
noncomputable def F.bP.kg:=LK 2 Tryz.f65 [1,1,1,1,1]
noncomputable def F.bP.L2:=partOf (ag Tryz.f65) [1,1,1,1,0,1,0,0,1,0,0,1,0,0]
noncomputable def F.bP.xj(J:AX->St->Bool):=(cE 4 (cE 3 (jG false (EV (partOf (ag Tryz.f65) [1,1,1,1,0,1,0,0,1,1])) J)))
theorem F.bP.aP:EV F.bP.L0 (sM e 67 h) J=(aa (bK .slice (e 0) h) fun f=>aa (aF .lss (e 3) f) fun g=>let Q1:=(sL e [(12,e 3),(13,e 0),(14,f),(15,g)]);aq g (aa (jw 3 (e 0) (e 3)) fun c=>aa (au (some 3) c h) fun d=>an TP 112 [d] h (bf (fun i j=>aa (mh .not i) fun a=>let Q2:=(sL Q1 [(18,e 0),(19,e 3),(20,c),(21,d),(22,i),(23,a)]);aq a (J .ret (sM (cF Q2 2 bF) 67 j)) (aa (aF .add (e 3) (I6 1)) fun b=>J .normal (sM (sL Q2 [(16,e 3),(17,b),(3,b)]) 67 j))) (pS J (sL Q1 [(18,e 0),(19,e 3),(20,c),(21,d)]) 67))) (J (.exit 0) (sM Q1 67 h))):=by kernel_rfl
theorem F.bP.aC:F.bP.cK K (.exit 0) (sM e 67 h)=(an TP 113 [(e 0)] h (bf (fun a b=>bJ (EV F.bP.L1) (sM (sL e [(24,e 0),(25,a),(4,a),(5,I6 0)]) 67 b) (F.bP.kg K)) (pK K))):=by kernel_rfl
theorem F.bP.bg:F.bP.cK K .ret (sM e 67 h)=(K (.ret (e 2)) h):=by kernel_rfl
theorem F.bP.cU:EV F.bP.L1 (sM e 67 h) J=(aa (bK .slice (e 4) h) fun a=>aa (aF .lss (e 5) a) fun b=>let Q1:=(sL e [(26,e 5),(27,e 4),(28,a),(29,b)]);aq b (bJ (EV F.bP.L2) (sM (cF Q1 6 (I6 0)) 67 h) (F.bP.xj J)) (J (.exit 2) (sM Q1 67 h))):=by kernel_rfl
theorem F.bP.cm:F.bP.kg K (.exit 2) (sM e 67 h)=(an TP 114 [(e 0)] h (bf (fun a b=>aa (bu a 0) fun g=>aa (bu a 1) fun c=>K (.ret c) b) (pK K))):=by kernel_rfl
theorem F.bP.k7:F.bP.kg K .ret (sM e 67 h)=(K (.ret (e 2)) h):=by kernel_rfl
theorem F.bP.lD:EV F.bP.L2 (sM e 67 h) J=(aa (aF .lss (e 6) (e 5)) fun c=>let Q1:=(sL e [(32,e 6),(33,e 5),(34,c)]);aq c (ou 2 (e 4) (e 6) 0 h fun l m d=>ou 2 (e 4) (e 5) 0 h fun n o f=>aa (jC .string d f) fun a=>let Q2:=(sL Q1 [(37,e 4),(38,e 6),(39,l),(40,m),(41,d),(42,e 4),(43,e 5),(44,n),(45,o),(46,f),(47,a),(48,a)]);aq a (ou 2 (e 4) (e 6) 1 h fun p q g=>ou 2 (e 4) (e 5) 1 h fun r s i=>aa (qE (.int .i64) g i) fun b=>let Q3:=(sL Q2 [(48,bT),(49,e 4),(48,bT),(50,e 6),(48,bT),(51,p),(48,bT),(52,q),(48,bT),(53,g),(48,bT),(54,e 4),(48,bT),(55,e 5),(48,bT),(56,r),(48,bT),(57,s),(48,bT),(58,i),(48,bT),(59,b),(60,b)]);aq b (J .ret (sM (cF Q3 2 bF) 67 h)) (aa (aF .add (e 6) (I6 1)) fun j=>J .normal (sM (sL Q3 [(35,e 6),(36,j),(6,j)]) 67 h))) (aa (aF .add (e 6) (I6 1)) fun k=>J .normal (sM (sL Q2 [(48,bF),(49,bz),(48,bF),(50,bz),(48,bF),(51,bz),(48,bF),(52,bz),(48,bF),(53,bz),(48,bF),(54,bz),(48,bF),(55,bz),(48,bF),(56,bz),(48,bF),(57,bz),(48,bF),(58,bz),(48,bF),(59,bz),(60,bF),(35,e 6),(36,k),(6,k)]) 67 h))) (J (.exit 4) (sM Q1 67 h))):=by kernel_rfl
theorem F.bP.jo:F.bP.xj J (.exit 4) (sM e 67 h)=(aa (aF .add (e 5) (I6 1)) fun a=>J .normal (sM (sL e [(30,e 5),(31,a),(5,a)]) 67 h)):=by kernel_rfl
theorem F.bP.Cy:F.bP.xj J .ret (sM e 67 h)=(J .ret (sM e 67 h)):=by kernel_rfl
theorem F.HL:EV (ag Tryz.f65) (sM (ay [a0]) 67 h) (RL Tryz.f65 K)=(aa (bK .slice a0 h) fun a=>aa (aF .gtr a (I6 60)) fun b=>aq b (K (.ret bF) h) (bJ (EV F.bP.L0) (sM (sL (ay [a0]) [(2,bF),(9,a0),(10,a),(11,b),(3,I6 0)]) 67 h) (F.bP.cK K))):=by kernel_rfl
theorem F.FE(hh:EV (ag Tryz.f65) (sM (ay [a0]) 67 h) (RL Tryz.f65 K)=true):Sem TP 65 [a0] h K:=
 SB Tryz.func65 hh
noncomputable def F.bq.L0:=partOf (ag Tryz.f114) [1,1,1,0,1,0,0]
noncomputable def F.bq.cK:=LK 0 Tryz.f114 [1,1,1,1]
noncomputable def F.bq.L1:=partOf (ag Tryz.f114) [1,1,1,0,1,0,0,1,0,1,1,0,0]
noncomputable def F.bq.kg(J:AX->St->Bool):=(cE 2 (cE 1 J))
noncomputable def F.bq.L2:=partOf (ag Tryz.f114) [1,1,1,0,1,0,0,1,0,1,1,0,0,1,0,0,1,0,1,0,0]
noncomputable def F.bq.xj(J:AX->St->Bool):=(cE 4 (jG false (EV (partOf (ag Tryz.f114) [1,1,1,0,1,0,0,1,0,1,1,0,0,1,0,0,1,1])) (cE 3 (jG false (EV (partOf (ag Tryz.f114) [1,1,1,0,1,0,0,1,0,1,1,0,0,1,1])) J))))
noncomputable def F.bq.J0(K:AX->St->Bool)(s:St):Bool:=Rm (EV (partOf (ag Tryz.f114) [1,1,1,0,1,0,0,1,0,1,1,0,0,1,0,0,1,0,1,0,0,1,0,0,1,1,1,0,1,1])) s (cE 5 (jG false (EV (partOf (ag Tryz.f114) [1,1,1,0,1,0,0,1,0,1,1,0,0,1,0,0,1,0,1,0,0,1,1])) K))
theorem F.bq.aP:EV F.bq.L0 (sM e 89 h) J=(aq (e 6) (bJ (EV F.bq.L1) (sM (sL e [(18,e 6),(6,bF),(7,I6 0)]) 89 h) (F.bq.kg J)) (J (.exit 0) (sM (cF e 18 (e 6)) 89 h))):=by kernel_rfl
theorem F.bq.aC:F.bq.cK K (.exit 0) (sM e 89 h)=(K (.ret (.tuple [(e 5),bT])) h):=by kernel_rfl
theorem F.bq.bg:F.bq.cK K .ret (sM e 89 h)=(K (.ret (.tuple [(e 2),(e 3)])) h):=by kernel_rfl
theorem F.bq.cU:EV F.bq.L1 (sM e 89 h) J=(aa (bK .slice (e 0) h) fun k=>aa (aF .lss (e 7) k) fun l=>let Q1:=(sL e [(19,e 7),(20,e 0),(21,k),(22,l)]);aq l (aa (jw 3 (e 0) (e 7)) fun f=>aa (ja 0 f) fun a=>fl 0 a h fun c b=>an TP 128 [(e 4),b] h (bf (fun d g=>bJ (EV F.bq.L2) (sM (sL Q1 [(25,e 4),(26,e 0),(27,e 7),(28,f),(29,a),(30,c),(31,b),(32,d),(8,d),(9,I6 0)]) 89 g) (F.bq.xj J)) (pS J (sL Q1 [(25,e 4),(26,e 0),(27,e 7),(28,f),(29,a),(30,c),(31,b)]) 89))) (J (.exit 2) (sM Q1 89 h))):=by kernel_rfl
theorem F.bq.cm:F.bq.kg J (.exit 2) (sM e 89 h)=(J .normal (sM e 89 h)):=by kernel_rfl
theorem F.bq.k7:F.bq.kg J .ret (sM e 89 h)=(J .ret (sM e 89 h)):=by kernel_rfl
theorem F.bq.lD:EV F.bq.L2 (sM e 89 h) J=(ou 3 (e 0) (e 7) 2 h fun y z m=>aa (bK .slice m h) fun n=>aa (aF .lss (e 9) n) fun o=>let Q1:=(sL e [(33,e 9),(34,e 0),(35,e 7),(36,y),(37,z),(38,m),(39,n),(40,o)]);aq o (ou 3 (e 0) (e 7) 2 h fun p q d=>aa (jw 4 d (e 9)) fun f=>aa (au (some 4) f h) fun g=>aa (aS 4 (nP h) g (hA h [(I6 0),bF,(.str []),.ai])) fun r=>aa (ja 2 (nP h)) fun i=>fl 0 i r fun s j=>an TP 128 [(e 4),j] r (bf (fun b a=>fl 0 (nP h) a fun A t=>aa (jC (.int .i64) t (I6 0)) fun k=>let Q2:=(sL Q1 [(43,e 0),(44,e 7),(45,p),(46,q),(47,d),(48,e 9),(49,f),(50,g),(10,nP h),(51,e 4),(52,i),(53,s),(54,j),(55,b),(11,b),(56,A),(57,t),(58,k),(59,k)]);aq k (aa (aF .geq b (I6 0)) fun l=>let Q3:=(sL Q2 [(59,bT),(60,b),(59,bT),(61,l),(62,l)]);aq l (il 1 (e 5) b a fun B c=>fl 1 (nP h) a fun C u=>let Q4:=(sL Q3 [(63,e 5),(64,b),(65,B),(66,c),(12,c),(67,C),(68,u)]);aq u (aa (aF .add c (I6 1)) fun v=>F.bq.J0 J (sM (sL Q4 [(69,c),(70,v),(12,v)]) 89 a)) (F.bq.J0 J (sM Q4 89 a))) (aa (aF .add (e 9) (I6 1)) fun w=>J .normal (sM (sL Q3 [(41,e 9),(42,w),(9,w)]) 89 a))) (aa (aF .add (e 9) (I6 1)) fun x=>J .normal (sM (sL Q2 [(59,bF),(60,bz),(59,bF),(61,bz),(62,bF),(41,e 9),(42,x),(9,x)]) 89 a))) (pS J (sL Q1 [(43,e 0),(44,e 7),(45,p),(46,q),(47,d),(48,e 9),(49,f),(50,g),(10,nP h),(51,e 4),(52,i),(53,s),(54,j)]) 89))) (J (.exit 4) (sM Q1 89 h))):=by kernel_rfl
theorem F.bq.jo:F.bq.xj J (.exit 4) (sM e 89 h)=(il 1 (e 5) (e 8) h fun f a=>aa (bK .slice (e 4) h) fun b=>aa (aF .gtr a b) fun c=>let Q1:=(sL e [(81,e 5),(82,e 8),(83,f),(84,a),(85,e 4),(86,b),(87,c)]);aq c (J .ret (sM (sL Q1 [(2,.ai),(3,bF)]) 89 h)) (aa (aF .add (e 7) (I6 1)) fun d=>J .normal (sM (sL Q1 [(23,e 7),(24,d),(7,d)]) 89 h))):=by kernel_rfl
theorem F.bq.Cx:F.bq.J0 J (sM e 89 h)=(il 1 (e 5) (e 8) h fun i a=>aa (aF .gtr (e 12) a) fun b=>let Q1:=(sL e [(71,e 12),(72,e 5),(73,e 8),(74,i),(75,a),(76,b)]);aq b (aa (jw 1 (e 5) (e 8)) fun c=>aa (aS 1 c (e 12) h) fun j=>aa (aF .add (e 9) (I6 1)) fun d=>J .normal (sM (sL Q1 [(77,e 5),(78,e 8),(79,e 12),(80,c),(6,bT),(41,e 9),(42,d),(9,d)]) 89 j)) (aa (aF .add (e 9) (I6 1)) fun f=>J .normal (sM (sL Q1 [(41,e 9),(42,f),(9,f)]) 89 h))):=(zC _ _ _).trans (by kernel_rfl)
theorem F.FF{J:Out->Heap->Bool}:EV (ag Tryz.f114) (sM (ay [a0]) 89 h) (RL Tryz.f114 J)=(an TP 35 [a0] h (bf (fun g l=>aa (bK .slice g l) fun k=>cG (gE 1 8 [(I6 0)] k k l) fun m n=>bJ (EV F.bq.L0) (sM (sL (ay [a0]) [(2,.ai),(3,bF),(13,a0),(14,g),(4,g),(15,g),(16,k),(17,m),(5,m),(6,bT)]) 89 n) (F.bq.cK J)) (fun o p=>J (.panic o) p))):=by kernel_rfl
theorem F.DG(hh:EV (ag Tryz.f114) (sM (ay [a0]) 89 h) (RL Tryz.f114 K)=true):Sem TP 114 [a0] h K:=
 SB Tryz.func114 hh
noncomputable def F.dV.L0:=partOf (ag Tryz.f101) [1,1,0,1,0,0]
noncomputable def F.dV.cK:=LK 0 Tryz.f101 [1,1,1]
theorem F.dV.aP:EV F.dV.L0 (sM e 24 h) J=(aa (aF .lss (e 10) (e 9)) fun b=>aq b (il 1 (e 8) (e 10) h fun j a=>aa (aJ (e 0)) fun c=>fl 0 c h fun k d=>aa (aF .mul (e 5) d) fun f=>aa (aF .add f a) fun g=>aa (aF .add (e 10) (I6 1)) fun i=>J .normal (sM (sL e [(11,b),(12,j),(13,a),(7,a),(14,e 5),(15,e 0),(16,c),(17,k),(18,d),(19,f),(20,a),(21,g),(5,g),(22,i),(10,i)]) 24 h)) (J (.exit 0) (sM (cF e 11 b) 24 h))):=by kernel_rfl
theorem F.dV.aC:F.dV.cK K (.exit 0) (sM e 24 h)=(K (.ret (e 5)) h):=by kernel_rfl
theorem F.rW:EV (ag Tryz.f101) (sM (ay [a0,a1]) 24 h) (RL Tryz.f101 K)=(aa (bK .slice a1 h) fun a=>bJ (EV F.dV.L0) (sM (sL (ay [a0,a1]) [(4,I6 0),(5,I6 0),(8,a1),(9,a),(10,I6 0)]) 24 h) (F.dV.cK K)):=by kernel_rfl
theorem F.rB(hh:EV (ag Tryz.f101) (sM (ay [a0,a1]) 24 h) (RL Tryz.f101 K)=true):Sem TP 101 [a0,a1] h K:=
 SB Tryz.func101 hh
noncomputable def F.kK.L0:=partOf (ag Tryz.f121) [1,1,0,1,0,0]
noncomputable def F.kK.cK:=LK 0 Tryz.f121 [1,1,1]
theorem F.kK.aP:EV F.kK.L0 (sM e 27 h) J=(aa (aF .lss (e 13) (e 12)) fun c=>aq c (il 1 (e 11) (e 13) h fun i b=>il 1 (e 0) b h fun j f=>aa (jw 1 (e 5) (e 13)) fun g=>aa (aS 1 g f h) fun d=>aa (aF .add (e 13) (I6 1)) fun a=>J .normal (sM (sL e [(14,c),(15,e 13),(16,i),(17,b),(6,e 13),(7,b),(18,e 5),(19,e 13),(20,e 0),(21,b),(22,j),(23,f),(24,g),(25,a),(13,a)]) 27 d)) (J (.exit 0) (sM (cF e 14 c) 27 h))):=by kernel_rfl
theorem F.kK.aC:F.kK.cK K (.exit 0) (sM e 27 h)=(K (.ret (e 5)) h):=by kernel_rfl
theorem F.JK:EV (ag Tryz.f121) (sM (ay [a0,a1]) 27 h) (RL Tryz.f121 K)=(aa (bK .slice a1 h) fun a=>cG (gE 1 8 [(I6 0)] a a h) fun b c=>aa (bK .slice a1 c) fun d=>bJ (EV F.kK.L0) (sM (sL (ay [a0,a1]) [(4,.ai),(8,a1),(9,a),(10,b),(5,b),(11,a1),(12,d),(13,I6 0)]) 27 c) (F.kK.cK K)):=by kernel_rfl
theorem F.HM(hh:EV (ag Tryz.f121) (sM (ay [a0,a1]) 27 h) (RL Tryz.f121 K)=true):Sem TP 121 [a0,a1] h K:=
 SB Tryz.func121 hh
theorem F.yp:EV (ag Tryz.f158) (sM (ay [a0,a1,a2]) 47 h) (RL Tryz.f158 K)=(aa (eG a1) fun a=>fl 0 (nP h) (hA h a) fun V d=>aa (jC (.int .i64) d (I6 0)) fun D=>aq D (aa (aJ a0) fun E=>fl 1 E (hA h a) fun G f=>aa (ja 2 (nP h)) fun I=>fl 0 I (hA h a) fun J g=>aa (eO .string .ai false f g (hA h a)) fun c=>an TP 101 [a0,a2] (hA h a) (bf (fun i b=>if ((aa (eO .string .ai false f g b) fun j=>AV.beq j c)&&((aa (au none J b) fun k=>AV.beq k g)&&((aa (au none G b) fun l=>AV.beq l f)&&true)))=true then (il 1 c i b fun L m=>fl 1 (nP h) b fun M n=>aa (qE .bool m n) fun o=>K (.ret o) b) else false) fF)) (aa (jC (.int .i64) d (I6 1)) fun p=>aq p (il 1 a2 (I6 0) (hA h a) fun N q=>il 1 a2 (I6 1) (hA h a) fun O r=>aa (jC (.int .i64) q r) fun s=>fl 1 (nP h) (hA h a) fun P t=>aa (qE .bool s t) fun u=>K (.ret u) (hA h a)) (aa (jC (.int .i64) d (I6 2)) fun v=>aq v (il 1 a2 (I6 0) (hA h a) fun R w=>il 1 a2 (I6 1) (hA h a) fun S x=>aa (aF .lss w x) fun y=>fl 1 (nP h) (hA h a) fun T z=>aa (qE .bool y z) fun A=>K (.ret A) (hA h a)) (fl 1 (nP h) (hA h a) fun U B=>aa (qE .bool bF B) fun C=>K (.ret C) (hA h a))))):=by kernel_rfl
theorem F.xm(hh:EV (ag Tryz.f158) (sM (ay [a0,a1,a2]) 47 h) (RL Tryz.f158 K)=true):Sem TP 158 [a0,a1,a2] h K:=
 SB Tryz.func158 hh
noncomputable def F.cS.L0:=partOf (ag Tryz.f102) [1,1,1,1,0,1,0,0]
noncomputable def F.cS.cK:=LK 0 Tryz.f102 [1,1,1,1,1]
noncomputable def F.cS.L1:=partOf (ag Tryz.f102) [1,1,1,1,0,1,0,0,1,1,0,0,1,1,1,0,1,0,0]
noncomputable def F.cS.kg(J:AX->St->Bool):=(cE 2 (jG false (EV (partOf (ag Tryz.f102) [1,1,1,1,0,1,0,0,1,1,0,0,1,1,1,1])) (cE 1 (jG false (EV (partOf (ag Tryz.f102) [1,1,1,1,0,1,0,0,1,1,1])) J))))
theorem F.cS.aP:EV F.cS.L0 (sM e 63 h) J=(aa (aF .lss (e 30) (e 29)) fun a=>aq a (aa (jw 4 (e 28) (e 30)) fun c=>aa (au (some 4) c h) fun d=>aa (aS 4 (nP h) d (hA h [(I6 0),bF,(.str []),.ai])) fun i=>aa (ja 2 (nP h)) fun f=>fl 1 f i fun j g=>ud (e 6) fun f35 a36 a37=>an TP f35 (a36++([g]++a37)) i (bf (fun b k=>aa (bK .slice b k) fun l=>bJ (EV F.cS.L1) (sM (sL e [(31,a),(32,c),(33,d),(9,nP h),(34,e 6),(35,f),(36,j),(37,g),(38,b),(10,b),(11,I6 (-1)),(39,b),(40,l),(41,I6 0)]) 63 k) (F.cS.kg J)) (pS J (sL e [(31,a),(32,c),(33,d),(9,nP h),(34,e 6),(35,f),(36,j),(37,g)]) 63))) (J (.exit 0) (sM (cF e 31 a) 63 h))):=by kernel_rfl
theorem F.cS.aC:F.cS.cK K (.exit 0) (sM e 63 h)=(aa (au (some 8) (e 7) h) fun a=>aa (aS 8 (e 4) a h) fun b=>aa (dz TP (sM (cF e 62 a) 63 b) Tryz.f102.results.toList) fun c=>K (.ret (oneOf c)) b):=by kernel_rfl
theorem F.cS.cU:EV F.cS.L1 (sM e 63 h) J=(aa (aF .lss (e 41) (e 40)) fun b=>aq b (il 1 (e 39) (e 41) h fun f a=>aa (AJ true (e 11) [a]) fun c=>aa (aF .add (e 41) (I6 1)) fun d=>J .normal (sM (sL e [(42,b),(43,f),(44,a),(13,a),(45,e 11),(46,a),(47,c),(11,c),(48,d),(41,d)]) 63 h)) (J (.exit 2) (sM (cF e 42 b) 63 h))):=by kernel_rfl
theorem F.cS.cm:F.cS.kg J (.exit 2) (sM e 63 h)=(fl 6 (e 7) h fun m c=>aa (eN [.ai] [(0,1)] [(e 10)]) fun a=>fl 7 (e 7) (hA h a) fun d b=>aa (eN [(I6 0)] [(0,1)] [(e 11)]) fun n=>cG (bB 1 24 c (.slice (Heap.next h) 0 1 1) (hA (hA h a) n)) fun f g=>if ((aa (au none d g) fun o=>AV.beq o b)&&true)=true then (aa (ja 6 (e 7)) fun i=>cG (bB 1 8 b (.slice (Heap.next (hA h a)) 0 1 1) g) fun j p=>aa (aS 1 i f p) fun q=>aa (ja 7 (e 7)) fun k=>aa (aS 1 k j q) fun r=>aa (aF .add (e 30) (I6 1)) fun l=>J .normal (sM (sL e [(49,m),(50,c),(51,e 10),(52,.slice (Heap.next h) 0 1 1),(54,d),(55,b),(56,e 11),(57,.slice (Heap.next (hA h a)) 0 1 1),(53,f),(59,i),(58,j),(60,k),(61,l),(30,l)]) 63 r)) else false):=by kernel_rfl
theorem F.FG:EV (ag Tryz.f102) (sM (ay [a0,a1]) 63 h) (RL Tryz.f102 K)=(aa (eG a1) fun m=>aa (au (some 3) (nP h) (hA (hA h m) [(I6 0),(.str []),.ai,.ai,(I6 0),.ai,.ai,.ai])) fun v=>an TP 100 [v] (hA (hA h m) [(I6 0),(.str []),.ai,.ai,(I6 0),.ai,.ai,.ai]) (bf (fun w a=>aa (aS 1 (nP a) w (hA a [.ai])) fun c=>aa (au (some 3) (nP h) c) fun n=>aa (au none (nP a) c) fun l=>aa (bK .slice l c) fun o=>aa (ja 0 (nP h)) fun f=>fl 1 f c fun p g=>an TP 144 [g,(nP a)] (hA c [(I6 0),(.str []),.ai,.ai,(I6 0),.ai,.ai,.ai]) (bf (fun i b=>if ((aa (bK .slice l b) fun q=>AV.beq q o)&&((aa (au none (nP a) b) fun r=>AV.beq r l)&&((aa (au (some 3) (nP h) b) fun s=>AV.beq s n)&&true)))=true then (aa (iP [(I6 0),(.str []),.ai,.ai,(I6 0),.ai,.ai,.ai] [(0,1),(1,3),(4,1),(5,1)] [a0,n,o,i]) fun j=>aa (aS 8 (nP c) j b) fun d=>fl 2 (nP h) d fun t k=>aa (bK .slice k d) fun u=>bJ (EV F.cS.L0) (sM (sL (ay [a0,a1]) [(3,nP h),(4,.ptr (Heap.next (hA h m)) 0),(14,v),(15,w),(5,nP a),(16,.func 144 [] [(nP a)]),(6,.func 144 [] [(nP a)]),(17,a0),(18,n),(19,l),(20,o),(21,.func 144 [] [(nP a)]),(22,f),(23,p),(24,g),(7,nP c),(25,i),(26,j),(27,t),(28,k),(29,u),(30,I6 0)]) 63 d) (F.cS.cK K)) else false) fF)) (pK K))):=by kernel_rfl
theorem F.DH(hh:EV (ag Tryz.f102) (sM (ay [a0,a1]) 63 h) (RL Tryz.f102 K)=true):Sem TP 102 [a0,a1] h K:=
 SB Tryz.func102 hh
noncomputable def F.g8.L0:=partOf (ag Tryz.f144) [1,1,0,1,0,0]
noncomputable def F.g8.cK:=LK 0 Tryz.f144 [1,1,1]
theorem F.g8.aP:EV F.g8.L0 (sM e 21 h) J=(aa (aF .lss (e 9) (e 8)) fun d=>aq d (il 1 (e 7) (e 9) h fun j a=>aa (au none (e 1) h) fun f=>an TP 145 [f,a] h (bf (fun k g=>aa (eN [(I6 0)] [(0,1)] [k]) fun l=>cG (bB 1 8 (e 4) (.slice (Heap.next g) 0 1 1) (hA g l)) fun b i=>aa (aF .add (e 9) (I6 1)) fun c=>J .normal (sM (sL e [(10,d),(11,j),(12,a),(6,a),(13,e 4),(14,f),(15,a),(16,k),(17,.slice (Heap.next g) 0 1 1),(18,b),(4,b),(19,c),(9,c)]) 21 i)) (pS J (sL e [(10,d),(11,j),(12,a),(6,a),(13,e 4),(14,f),(15,a)]) 21))) (J (.exit 0) (sM (cF e 10 d) 21 h))):=by kernel_rfl
theorem F.g8.aC:F.g8.cK K (.exit 0) (sM e 21 h)=(K (.ret (e 4)) h):=by kernel_rfl
theorem F.Cz:EV (ag Tryz.f144) (sM (ay [a0,a1]) 21 h) (RL Tryz.f144 K)=(aa (bK .slice a0 h) fun a=>bJ (EV F.g8.L0) (sM (sL (ay [a0,a1]) [(3,.ai),(4,.ai),(7,a0),(8,a),(9,I6 0)]) 21 h) (F.g8.cK K)):=by kernel_rfl
theorem F.Br(hh:EV (ag Tryz.f144) (sM (ay [a0,a1]) 21 h) (RL Tryz.f144 K)=true):Sem TP 144 [a0,a1] h K:=
 SB Tryz.func144 hh
theorem F.Am:EV (ag Tryz.f118) (sM (ay [a0,a1,a2]) 18 h) (RL Tryz.f118 K)=(aa (eG a0) fun b=>aa (eG a1) fun g=>aa (eG a2) fun q=>fl 4 (.ptr (Heap.next (hA h b)) 0) (hA (hA (hA h b) g) q) fun v r=>cG (gE 1 8 [(I6 0)] r r (hA (hA (hA h b) g) q)) fun t c=>aa (aS 1 (nP c) t (hA c [.ai])) fun d=>aa (aS 1 (nP d) (.func 157 [] [(.ptr (Heap.next (hA h b)) 0),(nP h),(nP c)]) (hA d [.rP])) fun f=>aa (aS 1 (nP f) (.func 159 [] [(.ptr (Heap.next (hA h b)) 0),(.ptr (Heap.next (hA (hA h b) g)) 0),(nP c),(nP h),(nP d),(nP f)]) (hA f [.rP])) fun s=>aa (au none (nP d) s) fun i=>ud i fun f23 a24 a25=>an TP f23 (a24++([(I6 (-1))]++a25)) s (bf (fun j a=>aq j (aa (au none (nP f) a) fun k=>ud k fun f20 a21 a22=>an TP f20 (a21++([(I6 0)]++a22)) a (bf (fun u l=>K (.ret (.tuple [])) l) (pK K))) (K (.ret (.tuple [])) a)) (pK K))):=by kernel_rfl
theorem F.yq(hh:EV (ag Tryz.f118) (sM (ay [a0,a1,a2]) 18 h) (RL Tryz.f118 K)=true):Sem TP 118 [a0,a1,a2] h K:=
 SB Tryz.func118 hh
noncomputable def F.dy.L0:=partOf (ag Tryz.f157) [1,0,1,0,0]
noncomputable def F.dy.cK:=LK 0 Tryz.f157 [1,1]
theorem F.dy.aP:EV F.dy.L0 (sM e 38 h) J=(aa (aF .lss (e 12) (e 11)) fun w=>let Q1:=(cF e 13 w);aq w (aa (jw 4 (e 10) (e 12)) fun x=>aa (au (some 4) x h) fun y=>aa (aS 4 (nP h) y (hA h [(I6 0),bF,(.str []),.ai])) fun a=>fl 7 (e 1) a fun A z=>il 1 z (e 12) a fun r i=>aa (jC (.int .i64) i (e 0)) fun b=>let Q2:=(sL Q1 [(14,e 12),(15,x),(16,y),(7,nP h),(6,e 12),(17,A),(18,z),(19,e 12),(20,r),(21,i),(22,e 0),(23,b),(24,b)]);aq b (aa (au none (e 2) a) fun c=>aa (au (some 4) (nP h) a) fun d=>aa (au none (e 3) a) fun j=>fl 6 (e 1) a fun s k=>il 1 k (e 12) a fun t l=>an TP 121 [j,l] a (bf (fun m f=>if ((aa (au (some 4) (nP h) f) fun u=>AV.beq u d)&&((aa (au none (e 2) f) fun v=>AV.beq v c)&&true))=true then (an TP 158 [c,d,m] f (bf (fun n o=>aa (mh .not n) fun g=>let Q3:=(sL Q2 [(24,bT),(25,c),(24,bT),(26,d),(24,bT),(27,j),(24,bT),(28,s),(24,bT),(29,k),(24,bT),(30,e 12),(24,bT),(31,t),(24,bT),(32,l),(24,bT),(33,m),(24,bT),(34,n),(24,bT),(35,g),(36,g)]);aq g (J .ret (sM (cF Q3 5 bF) 38 o)) (aa (aF .add (e 12) (I6 1)) fun p=>J .normal (sM (sL Q3 [(37,p),(12,p)]) 38 o))) fF)) else false) fF)) (aa (aF .add (e 12) (I6 1)) fun q=>J .normal (sM (sL Q2 [(24,bF),(25,bz),(24,bF),(26,bz),(24,bF),(27,bz),(24,bF),(28,bz),(24,bF),(29,bz),(24,bF),(30,bz),(24,bF),(31,bz),(24,bF),(32,bz),(24,bF),(33,bz),(24,bF),(34,bz),(24,bF),(35,bz),(36,bF),(37,q),(12,q)]) 38 a))) (J (.exit 0) (sM Q1 38 h))):=by kernel_rfl
theorem F.dy.aC:F.dy.cK K (.exit 0) (sM e 38 h)=(K (.ret bT) h):=by kernel_rfl
theorem F.dy.bg:F.dy.cK K .ret (sM e 38 h)=(K (.ret (e 5)) h):=by kernel_rfl
theorem F.xo:EV (ag Tryz.f157) (sM (ay [a0,a1,a2,a3]) 38 h) (RL Tryz.f157 K)=(aa (ja 1 a1) fun a=>fl 2 a h fun c b=>aa (bK .slice b h) fun d=>bJ (EV F.dy.L0) (sM (sL (ay [a0,a1,a2,a3]) [(5,bF),(8,a),(9,c),(10,b),(11,d),(12,I6 0)]) 38 h) (F.dy.cK K)):=by kernel_rfl
theorem F.vZ(hh:EV (ag Tryz.f157) (sM (ay [a0,a1,a2,a3]) 38 h) (RL Tryz.f157 K)=true):Sem TP 157 [a0,a1,a2,a3] h K:=
 SB Tryz.func157 hh
noncomputable def F.ey.L0:=partOf (ag Tryz.f159) [1,1,0,1,0,0]
noncomputable def F.ey.cK:=LK 0 Tryz.f159 [1,1,1]
theorem F.ey.aP:EV F.ey.L0 (sM e 39 h) J=(aa (aF .lss (e 21) (e 20)) fun k=>let Q1:=(cF e 22 k);aq k (aa (au none (e 3) h) fun a=>aa (jw 1 a (e 0)) fun b=>aa (aS 1 b (e 21) h) fun l=>aa (au none (e 5) l) fun c=>ud c fun f37 a38 a39=>an TP f37 (a38++([(e 0)]++a39)) l (bf (fun d f=>let Q2:=(sL Q1 [(23,e 21),(9,e 21),(24,a),(25,e 0),(26,e 21),(27,b),(28,c),(29,e 0),(30,d),(31,d)]);aq d (aa (au none (e 6) f) fun g=>aa (aF .add (e 0) (I6 1)) fun i=>ud g fun f33 a34 a35=>an TP f33 (a34++([i]++a35)) f (bf (fun m n=>aa (mh .not m) fun j=>let Q3:=(sL Q2 [(31,bT),(32,g),(31,bT),(33,e 0),(31,bT),(34,i),(31,bT),(35,m),(31,bT),(36,j),(37,j)]);aq j (J .ret (sM (cF Q3 8 bF) 39 n)) (aa (aF .add (e 21) (I6 1)) fun o=>J .normal (sM (sL Q3 [(38,o),(21,o)]) 39 n))) (pS J (sL Q2 [(31,bT),(32,g),(31,bT),(33,e 0),(31,bT),(34,i),(31,bT)]) 39))) (aa (aF .add (e 21) (I6 1)) fun p=>J .normal (sM (sL Q2 [(31,bF),(32,bz),(31,bF),(33,bz),(31,bF),(34,bz),(31,bF),(35,bz),(31,bF),(36,bz),(37,bF),(38,p),(21,p)]) 39 f))) (pS J (sL Q1 [(23,e 21),(9,e 21),(24,a),(25,e 0),(26,e 21),(27,b),(28,c),(29,e 0)]) 39))) (J (.exit 0) (sM Q1 39 h))):=by kernel_rfl
theorem F.ey.aC:F.ey.cK K (.exit 0) (sM e 39 h)=(K (.ret bT) h):=by kernel_rfl
theorem F.qz{a5 a6:AV}:EV (ag Tryz.f159) (sM (ay [a0,a1,a2,a3,a4,a5,a6]) 39 h) (RL Tryz.f159 K)=(fl 4 a1 h fun i f=>aa (jC (.int .i64) a0 f) fun g=>aq g (aa (au none a2 h) fun j=>aa (au none a3 h) fun k=>ud j fun f9 YF Zp=>an TP f9 (YF++([k]++Zp)) h (bf (rK K) (pK K))) (aa (au none a4 h) fun a=>aa (aJ a) fun b=>fl 0 b h fun c d=>bJ (EV F.ey.L0) (sM (sL (ay [a0,a1,a2,a3,a4,a5,a6]) [(8,bF),(10,a0),(11,i),(12,f),(13,g),(17,a),(18,b),(19,c),(20,d),(21,I6 0)]) 39 h) (F.ey.cK K))):=by kernel_rfl
theorem F.pN{a5 a6:AV}(hh:EV (ag Tryz.f159) (sM (ay [a0,a1,a2,a3,a4,a5,a6]) 39 h) (RL Tryz.f159 K)=true):Sem TP 159 [a0,a1,a2,a3,a4,a5,a6] h K:=
 SB Tryz.func159 hh
noncomputable def F.cB.L0:=partOf (ag Tryz.f103) [1,1,0,0]
noncomputable def F.cB.cK(K:Out->Heap->Bool):=(cE 0 (RL Tryz.f103 K))
noncomputable def F.cB.L1:=partOf (ag Tryz.f103) [1,1,0,0,1,0,0,1,1,0,0]
noncomputable def F.cB.kg(J:AX->St->Bool):=(cE 2 (cE 1 (jG false (EV (partOf (ag Tryz.f103) [1,1,0,0,1,1])) J)))
theorem F.cB.aP:EV F.cB.L0 (sM e 22 h) J=(aa (au none (e 6) h) fun a=>aq a (aa (aS 1 (e 6) bF h) fun b=>aa (bK .slice (e 1) b) fun c=>bJ (EV F.cB.L1) (sM (sL e [(9,a),(10,e 1),(11,c),(12,I6 0)]) 22 b) (F.cB.kg J)) (J (.exit 0) (sM (cF e 9 a) 22 h))):=by kernel_rfl
theorem F.cB.aC:F.cB.cK K (.exit 0) (sM e 22 h)=(K (.ret (.tuple [])) h):=by kernel_rfl
theorem F.cB.cU:EV F.cB.L1 (sM e 22 h) J=(aa (aF .lss (e 12) (e 11)) fun d=>aq d (aa (jw 8 (e 10) (e 12)) fun f=>aa (au (some 8) f h) fun g=>aa (aS 8 (nP h) g (hA h [(I6 0),(.str []),.ai,.ai,(I6 0),.ai,.ai,.ai])) fun i=>aa (au none (e 3) i) fun a=>aa (au (some 8) (nP h) i) fun b=>an TP 118 [a,b,(.func 146 [] [(nP h),(e 3),(e 6),(e 5)])] i (bf (fun j k=>aa (aF .add (e 12) (I6 1)) fun c=>J .normal (sM (sL e [(13,d),(14,f),(15,g),(8,nP h),(16,a),(17,b),(18,.func 146 [] [(nP h),(e 3),(e 6),(e 5)]),(19,j),(20,c),(12,c)]) 22 k)) (pS J (sL e [(13,d),(14,f),(15,g),(8,nP h),(16,a),(17,b),(18,.func 146 [] [(nP h),(e 3),(e 6),(e 5)])]) 22))) (J (.exit 2) (sM (cF e 13 d) 22 h))):=by kernel_rfl
theorem F.cB.cm:F.cB.kg J (.exit 2) (sM e 22 h)=(aa (au none (e 6) h) fun a=>aa (aS 1 (nP h) a (hA h [bF])) fun b=>J .normal (sM (sL e [(21,a),(6,nP h)]) 22 b)):=by kernel_rfl
theorem F.yt:EV (ag Tryz.f103) (sM (ay [a0,a1,a2]) 22 h) (RL Tryz.f103 K)=(aa (eG a0) fun a=>aa (eG a2) fun b=>aa (aS 1 (.ptr (Heap.next (hA (hA h a) b)) 0) bT (hA (hA (hA h a) b) [bF])) fun c=>bJ (EV F.cB.L0) (sM (sL (ay [a0,a1,a2]) [(3,nP h),(5,.ptr (Heap.next (hA h a)) 0),(6,.ptr (Heap.next (hA (hA h a) b)) 0)]) 22 c) (F.cB.cK K)):=by kernel_rfl
theorem F.xp(hh:EV (ag Tryz.f103) (sM (ay [a0,a1,a2]) 22 h) (RL Tryz.f103 K)=true):Sem TP 103 [a0,a1,a2] h K:=
 SB Tryz.func103 hh
theorem F.v7:EV (ag Tryz.f146) (sM (ay [a0,a1,a2,a3,a4]) 38 h) (RL Tryz.f146 K)=(fl 5 a1 h fun O C=>an TP 121 [a0,C] h (bf (fun B c=>aa (au none a2 c) fun D=>aa (aJ D) fun E=>fl 1 E c fun P G=>aa (ja 1 a1) fun f=>aa (ja 0 f) fun g=>fl 0 g c fun I i=>aa (eO .string .ai false G i c) fun d=>aa (au none a2 c) fun j=>an TP 101 [j,B] c (bf (fun k a=>il 1 d k a fun J l=>aa (mh .not l) fun m=>aq m (aa (au none a2 a) fun n=>an TP 101 [n,B] a (bf (fun o p=>aa (jw 1 d o) fun q=>aa (aS 1 q bT p) fun r=>aa (aS 1 a3 bT r) fun b=>aa (au none a4 b) fun s=>aa (au (some 8) a1 b) fun t=>ud s fun f37 a38 a39=>an TP f37 (a38++([t,a0]++a39)) b (bf (fun L u=>K (.ret bT) u) (pK K))) (pK K))) (K (.ret bT) a)) (pK K))) (pK K))):=by kernel_rfl
theorem F.vg(hh:EV (ag Tryz.f146) (sM (ay [a0,a1,a2,a3,a4]) 38 h) (RL Tryz.f146 K)=true):Sem TP 146 [a0,a1,a2,a3,a4] h K:=
 SB Tryz.func146 hh
noncomputable def F.aX.L0:=partOf (ag Tryz.f59) [1,0,1,0,0]
noncomputable def F.aX.cK:=LK 0 Tryz.f59 [1,1]
noncomputable def F.aX.L1:=partOf (ag Tryz.f59) [1,1,1,0,0]
noncomputable def F.aX.kg(K:Out->Heap->Bool):=(cE 2 (RL Tryz.f59 K))
noncomputable def F.aX.L2:=partOf (ag Tryz.f59) [1,1,1,0,0,1,1,0,0,1,1,0,1,0,0]
noncomputable def F.aX.xj(J:AX->St->Bool):=(cE 4 (jG false (EV (partOf (ag Tryz.f59) [1,1,1,0,0,1,1,0,0,1,1,1])) (cE 3 (jG false (EV (partOf (ag Tryz.f59) [1,1,1,0,0,1,1,1])) J))))
theorem F.aX.aP:EV F.aX.L0 (sM e 62 h) J=(aa (B3 false (e 17) h) (pI [] (Mi (fun d f=>aa (bu d 0) fun g=>aq g (aa (xS (e 17) f) fun b=>aa (bu b 1) fun a=>aa (AJ true (e 6) [a]) fun c=>J .normal (sM (sL e [(18,d),(19,g),(20,b),(21,a),(8,a),(22,e 6),(23,a),(24,c),(6,c)]) 62 f)) (J (.exit 0) (sM (sL e [(18,d),(19,g)]) 62 f))) (pS J e 62)))):=by kernel_rfl
theorem F.aX.aC:F.aX.cK K (.exit 0) (sM e 62 h)=(aa (aF .add (e 6) (I6 1)) fun a=>bJ (EV F.aX.L1) (sM (sL e [(25,e 6),(26,a),(27,I6 0)]) 62 h) (F.aX.kg K)):=by kernel_rfl
theorem F.aX.cU:EV F.aX.L1 (sM e 62 h) J=(aa (aF .lss (e 27) (e 26)) fun a=>aq a (aa (aJ (e 0)) fun b=>fl 0 b h fun d c=>aa (bK .slice c h) fun f=>bJ (EV F.aX.L2) (sM (sL e [(28,a),(29,e 27),(9,e 27),(10,.ai),(30,e 0),(31,b),(32,d),(33,c),(34,f),(35,I6 0)]) 62 h) (F.aX.xj J)) (J (.exit 2) (sM (cF e 28 a) 62 h))):=by kernel_rfl
theorem F.aX.cm:F.aX.kg K (.exit 2) (sM e 62 h)=(K (.ret (.tuple [])) h):=by kernel_rfl
theorem F.aX.lD:EV F.aX.L2 (sM e 62 h) J=(aa (aF .lss (e 35) (e 34)) fun d=>let Q1:=(cF e 36 d);aq d (aa (jw 3 (e 33) (e 35)) fun f=>aa (au (some 3) f h) fun g=>aa (aS 3 (nP h) g (hA h [(.str []),.ai,.ai])) fun a=>aa (aJ (e 0)) fun i=>fl 2 i a fun s j=>aa (ja 0 (nP h)) fun k=>fl 0 k a fun t l=>aa (eO .string (I6 0) false j l a) fun m=>aa (jC (.int .i64) m (e 9)) fun n=>let Q2:=(sL Q1 [(37,e 35),(38,f),(39,g),(12,nP h),(11,e 35),(40,e 0),(41,i),(42,s),(43,j),(44,k),(45,t),(46,l),(47,m),(48,e 9),(49,n)]);aq n (aa (au (some 3) (nP h) a) fun b=>an TP 102 [(e 35),b] a (bf (fun o c=>aa (eN [(I6 0),(.str []),.ai,.ai,(I6 0),.ai,.ai,.ai] [(0,8)] [o]) fun u=>cG (bB 8 152 (e 10) (.slice (Heap.next c) 0 1 8) (hA c u)) fun p v=>aa (aF .add (e 35) (I6 1)) fun q=>J .normal (sM (sL Q2 [(50,e 10),(51,e 35),(52,b),(53,o),(54,.slice (Heap.next c) 0 1 8),(55,p),(10,p),(56,q),(35,q)]) 62 v)) (pS J (sL Q2 [(50,e 10),(51,e 35),(52,b)]) 62))) (aa (aF .add (e 35) (I6 1)) fun r=>J .normal (sM (sL Q2 [(56,r),(35,r)]) 62 a))) (J (.exit 4) (sM Q1 62 h))):=by kernel_rfl
theorem F.aX.jo:F.aX.xj J (.exit 4) (sM e 62 h)=(an TP 103 [(e 1),(e 10),(e 2)] h (bf (fun b c=>aa (aF .add (e 27) (I6 1)) fun a=>J .normal (sM (sL e [(57,e 1),(58,e 10),(59,e 2),(60,b),(61,a),(27,a)]) 62 c)) (pS J (sL e [(57,e 1),(58,e 10),(59,e 2)]) 62))):=by kernel_rfl
theorem F.yu:EV (ag Tryz.f59) (sM (ay [a0,a1,a2]) 62 h) (RL Tryz.f59 K)=(aa (aJ a0) fun a=>fl 2 a h fun c b=>cG (qF .map b h) fun d f=>bJ (EV F.aX.L0) (sM (sL (ay [a0,a1,a2]) [(6,I6 0),(13,a0),(14,a),(15,c),(16,b),(17,d)]) 62 f) (F.aX.cK K)):=by kernel_rfl
theorem F.xq(hh:EV (ag Tryz.f59) (sM (ay [a0,a1,a2]) 62 h) (RL Tryz.f59 K)=true):Sem TP 59 [a0,a1,a2] h K:=
 SB Tryz.func59 hh
noncomputable def F.az.L0:=partOf (ag Tryz.f58) [1,1,1,0,1,0,0]
noncomputable def F.az.cK:=LK 0 Tryz.f58 [1,1,1,1]
noncomputable def F.az.L1:=partOf (ag Tryz.f58) [1,1,1,1,0,1,0,0]
noncomputable def F.az.kg:=LK 2 Tryz.f58 [1,1,1,1,1]
noncomputable def F.az.L2:=partOf (ag Tryz.f58) [1,1,1,1,1,1,1,0,1,0,0]
noncomputable def F.az.xj:=LK 4 Tryz.f58 [1,1,1,1,1,1,1,1]
noncomputable def F.az.L3:=partOf (ag Tryz.f58) [1,1,1,1,1,1,1,1,0,1,0,0]
noncomputable def F.az.L3k:=LK 6 Tryz.f58 [1,1,1,1,1,1,1,1,1]
noncomputable def F.az.L4:=partOf (ag Tryz.f58) [1,1,1,1,1,1,1,1,0,1,0,0,1,1,0,0,1,1,1,0,0]
noncomputable def F.az.L4k(J:AX->St->Bool):=(cE 8 (cE 7 (jG false (EV (partOf (ag Tryz.f58) [1,1,1,1,1,1,1,1,0,1,0,0,1,1,1])) J)))
noncomputable def F.az.L5:=partOf (ag Tryz.f58) [1,1,1,1,1,1,1,1,1,0,1,0,0]
noncomputable def F.az.L5k:=LK 10 Tryz.f58 [1,1,1,1,1,1,1,1,1,1]
noncomputable def F.az.L6:=partOf (ag Tryz.f58) [1,1,1,1,1,1,1,1,1,0,1,0,0,1,1,0,0,1,1,1,1,0,0]
noncomputable def F.az.L6k(J:AX->St->Bool):=(cE 12 (cE 11 (jG false (EV (partOf (ag Tryz.f58) [1,1,1,1,1,1,1,1,1,0,1,0,0,1,1,1])) J)))
theorem F.az.aP:EV F.az.L0 (sM e 198 h) J=(aa (B3 false (e 46) h) (pI [] (Mi (fun l a=>aa (bu l 0) fun m=>let Q1:=(sL e [(47,l),(48,m)]);aq m (aa (xS (e 46) a) fun g=>aa (bu g 0) fun b=>aa (bu g 1) fun c=>aa (aJ (e 7)) fun n=>fl 2 n a fun s o=>aa (eO .string (I6 0) true o b a) fun d=>aa (bu d 0) fun p=>aa (bu d 1) fun f=>aa (mh .not f) fun i=>let Q2:=(sL Q1 [(49,g),(50,b),(51,c),(9,b),(10,c),(53,e 7),(54,n),(55,s),(56,o),(57,b),(58,d),(52,d),(59,p),(60,f),(11,p),(12,f),(61,f),(62,i),(63,i)]);aq i (aa (au (some 2) (e 3) a) fun j=>an TP 53 [j,b,c] a (bf (fun q r=>aa (aF .lss q (I6 0)) fun k=>let Q3:=(sL Q2 [(63,bT),(64,j),(63,bT),(65,b),(63,bT),(66,c),(63,bT),(67,q),(63,bT),(68,k),(69,k)]);aq k (J .ret (sM (sL Q3 [(4,.eZ),(5,.eZ),(6,I6 4)]) 198 r)) (J .normal (sM Q3 198 r))) (pS J (sL Q2 [(63,bT),(64,j),(63,bT),(65,b),(63,bT),(66,c),(63,bT)]) 198))) (J .normal (sM (sL Q2 [(63,bF),(64,bz),(63,bF),(65,bz),(63,bF),(66,bz),(63,bF),(67,bz),(63,bF),(68,bz),(69,bF)]) 198 a))) (J (.exit 0) (sM Q1 198 a))) (pS J e 198)))):=by kernel_rfl
theorem F.az.aC:F.az.cK K (.exit 0) (sM e 198 h)=(fl 1 (e 3) h fun b a=>aa (bK .slice a h) fun c=>bJ (EV F.az.L1) (sM (sL e [(70,b),(71,a),(72,c),(73,I6 0)]) 198 h) (F.az.kg K)):=by kernel_rfl
theorem F.az.bg:F.az.cK K .ret (sM e 198 h)=(K (.ret (.tuple [(e 4),(e 5),(e 6)])) h):=by kernel_rfl
theorem F.az.cU:EV F.az.L1 (sM e 198 h) J=(aa (aF .lss (e 73) (e 72)) fun d=>aq d (aa (jw 3 (e 71) (e 73)) fun f=>aa (au (some 3) f h) fun g=>aa (aS 3 (nP h) g (hA h [(.str []),(I6 0),.ai])) fun a=>aa (aJ (e 7)) fun i=>fl 2 i a fun n j=>fl 0 (nP h) a fun o k=>aa (eO .string (I6 0) true j k a) fun b=>aa (bu b 0) fun l=>aa (bu b 1) fun c=>let Q1:=(sL e [(74,d),(75,f),(76,g),(14,nP h),(78,e 7),(79,i),(80,n),(81,j),(82,o),(83,k),(84,b),(77,b),(85,l),(86,c),(15,l),(16,c),(87,c)]);aq c (J .ret (sM (sL Q1 [(4,.eZ),(5,.eZ),(6,I6 4)]) 198 a)) (aa (aF .add (e 73) (I6 1)) fun m=>J .normal (sM (sL Q1 [(88,m),(73,m)]) 198 a))) (J (.exit 2) (sM (cF e 74 d) 198 h))):=by kernel_rfl
theorem F.az.cm:F.az.kg K (.exit 2) (sM e 198 h)=(fl 1 (e 3) h fun o a=>aa (bK .slice a h) fun b=>aa (aJ (e 7)) fun c=>fl 2 c h fun p d=>aa (bK .map d h) fun f=>aa (aF .add b f) fun g=>aa (aF .gtr g (I6 8)) fun i=>aq i (K (.ret (.tuple [.eZ,.eZ,(I6 5)])) h) (fl 0 (e 3) h fun q j=>aa (iP [(I6 0),.mH] [(0,1),(1,1)] [j,(.map (Heap.next h))]) fun k=>aa (eG k) fun l=>aa (aJ (e 7)) fun m=>fl 2 m (hA (Heap.alloc h (.map [] 0)) l) fun r n=>cG (qF .map n (hA (Heap.alloc h (.map [] 0)) l)) fun s t=>bJ (EV F.az.L2) (sM (sL e [(89,o),(90,a),(91,b),(92,e 7),(93,c),(94,p),(95,d),(96,f),(97,g),(98,i),(99,q),(100,j),(101,.map (Heap.next h)),(102,k),(103,.ptr (Heap.next (Heap.alloc h (.map [] 0))) 0),(17,.ptr (Heap.next (Heap.alloc h (.map [] 0))) 0),(104,e 7),(105,m),(106,r),(107,n),(108,s)]) 198 t) (F.az.xj K))):=by kernel_rfl
theorem F.az.k7:F.az.kg K .ret (sM e 198 h)=(K (.ret (.tuple [(e 4),(e 5),(e 6)])) h):=by kernel_rfl
theorem F.az.lD:EV F.az.L2 (sM e 198 h) J=(aa (B3 false (e 108) h) (pI [] (Mi (fun i a=>aa (bu i 0) fun j=>let Q1:=(sL e [(109,i),(110,j)]);aq j (aa (xS (e 108) a) fun k=>aa (bu k 0) fun b=>fl 0 (e 3) a fun t l=>aa (aJ (e 7)) fun m=>fl 1 m a fun u n=>aa (eO .string (I6 0) false n b a) fun o=>an TP 99 [l,o] a (bf (fun d g=>aa (bu d 0) fun c=>aa (bu d 1) fun f=>aa (qE (.int .i64) f (I6 0)) fun p=>let Q2:=(sL Q1 [(111,k),(112,b),(18,b),(114,t),(115,l),(116,e 7),(117,m),(118,u),(119,n),(120,b),(121,o),(122,d),(113,d),(123,c),(124,f),(19,c),(20,f),(125,f),(126,p)]);aq p (J .ret (sM (sL Q2 [(4,.eZ),(5,.eZ),(6,I6 5)]) 198 g)) (aa (aJ (e 17)) fun q=>fl 1 q g fun v r=>cG (gE 1 1 [bF] c c g) fun s w=>aa (fX .string r b s w) fun x=>J .normal (sM (sL Q2 [(127,e 17),(128,q),(129,v),(130,r),(131,b),(132,c),(133,s)]) 198 x))) fF)) (J (.exit 4) (sM Q1 198 a))) (pS J e 198)))):=by kernel_rfl
theorem F.az.jo:F.az.xj K (.exit 4) (sM e 198 h)=(aa (bK .slice (e 0) h) fun a=>bJ (EV F.az.L3) (sM (sL e [(134,e 0),(135,a),(136,I6 0)]) 198 h) (F.az.L3k K)):=by kernel_rfl
theorem F.az.Cy:F.az.xj K .ret (sM e 198 h)=(K (.ret (.tuple [(e 4),(e 5),(e 6)])) h):=by kernel_rfl
theorem F.az.Ot:EV F.az.L3 (sM e 198 h) J=(aa (aF .lss (e 136) (e 135)) fun d=>aq d (aa (jw 3 (e 134) (e 136)) fun a=>aa (au (some 3) a h) fun b=>aa (aS 3 (nP h) b (hA h [(.str []),.ai,.ai])) fun f=>aa (au (some 3) (nP h) f) fun c=>an TP 100 [c] f (bf (fun g i=>aa (bK .slice g i) fun j=>bJ (EV F.az.L4) (sM (sL e [(137,d),(138,a),(139,b),(22,nP h),(23,I6 1),(140,c),(141,g),(142,j),(143,I6 0)]) 198 i) (F.az.L4k J)) (pS J (sL e [(137,d),(138,a),(139,b),(22,nP h),(23,I6 1),(140,c)]) 198))) (J (.exit 6) (sM (cF e 137 d) 198 h))):=by kernel_rfl
theorem F.az.WX:F.az.L3k K (.exit 6) (sM e 198 h)=(fl 1 (e 3) h fun b a=>aa (bK .slice a h) fun c=>bJ (EV F.az.L5) (sM (sL e [(153,b),(154,a),(155,c),(156,I6 0)]) 198 h) (F.az.L5k K)):=by kernel_rfl
theorem F.az.Zq:F.az.L3k K .ret (sM e 198 h)=(K (.ret (.tuple [(e 4),(e 5),(e 6)])) h):=by kernel_rfl
theorem F.az.Ou:EV F.az.L4 (sM e 198 h) J=(aa (aF .lss (e 143) (e 142)) fun b=>let Q1:=(cF e 144 b);aq b (fl 0 (e 3) h fun g c=>aa (aF .mul (e 23) c) fun a=>aa (aF .gtr a (I6 65536)) fun d=>let Q2:=(sL Q1 [(145,e 23),(146,g),(147,c),(148,a),(23,a),(149,a),(150,d)]);aq d (J .ret (sM (sL Q2 [(4,.eZ),(5,.eZ),(6,I6 5)]) 198 h)) (aa (aF .add (e 143) (I6 1)) fun f=>J .normal (sM (sL Q2 [(151,f),(143,f)]) 198 h))) (J (.exit 8) (sM Q1 198 h))):=by kernel_rfl
theorem F.az.HN:F.az.L4k J (.exit 8) (sM e 198 h)=(aa (aF .add (e 136) (I6 1)) fun a=>J .normal (sM (sL e [(152,a),(136,a)]) 198 h)):=by kernel_rfl
theorem F.az.Zr:F.az.L4k J .ret (sM e 198 h)=(J .ret (sM e 198 h)):=by kernel_rfl
theorem F.az.acs:EV F.az.L5 (sM e 198 h) J=(aa (aF .lss (e 156) (e 155)) fun l=>let Q1:=(cF e 157 l);aq l (aa (jw 3 (e 154) (e 156)) fun c=>aa (au (some 3) c h) fun d=>aa (aS 3 (nP h) d (hA h [(.str []),(I6 0),.ai])) fun f=>fl 0 (e 3) f fun m g=>fl 1 (nP h) f fun n i=>an TP 99 [g,i] f (bf (fun b j=>aa (bu b 0) fun a=>aa (bu b 1) fun o=>aa (aJ (e 17)) fun p=>fl 1 p j fun u q=>fl 0 (nP h) j fun v r=>cG (gE 1 1 [bF] a a j) fun s w=>aa (fX .string q r s w) fun k=>fl 2 (nP h) k fun x t=>aa (bK .slice t k) fun y=>bJ (EV F.az.L6) (sM (sL Q1 [(158,c),(159,d),(25,nP h),(161,m),(162,g),(163,n),(164,i),(165,b),(160,b),(166,a),(167,o),(26,a),(27,o),(168,e 17),(169,p),(170,u),(171,q),(172,v),(173,r),(174,a),(175,s),(176,x),(177,t),(178,y),(179,I6 0)]) 198 k) (F.az.L6k J)) (pS J (sL Q1 [(158,c),(159,d),(25,nP h),(161,m),(162,g),(163,n),(164,i)]) 198))) (J (.exit 10) (sM Q1 198 h))):=by kernel_rfl
theorem F.az.UG:F.az.L5k K (.exit 10) (sM e 198 h)=(K (.ret (.tuple [(e 7),(e 17),(I6 0)])) h):=by kernel_rfl
theorem F.az.acu:EV F.az.L6 (sM e 198 h) J=(aa (aF .lss (e 179) (e 178)) fun f=>aq f (il 1 (e 177) (e 179) h fun o a=>aa (aJ (e 17)) fun i=>fl 1 i h fun j b=>fl 0 (e 25) h fun k c=>aa (eO .string .ai false b c h) fun g=>an TP 101 [(e 17),a] h (bf (fun l d=>if ((aa (eO .string .ai false b c d) fun p=>AV.beq p g)&&((aa (au none k d) fun q=>AV.beq q c)&&((aa (au none j d) fun r=>AV.beq r b)&&true)))=true then (aa (jw 1 g l) fun m=>aa (aS 1 m bT d) fun s=>aa (aF .add (e 179) (I6 1)) fun n=>J .normal (sM (sL e [(180,f),(181,o),(182,a),(29,a),(183,e 17),(184,i),(185,j),(186,b),(187,k),(188,c),(189,g),(190,e 17),(191,a),(192,l),(193,m),(194,n),(179,n)]) 198 s)) else false) fF)) (J (.exit 12) (sM (cF e 180 f) 198 h))):=by kernel_rfl
theorem F.az.UH:F.az.L6k J (.exit 12) (sM e 198 h)=(aa (aF .add (e 156) (I6 1)) fun a=>J .normal (sM (sL e [(195,a),(156,a)]) 198 h)):=by kernel_rfl
theorem F.DI:EV (ag Tryz.f58) (sM (ay [a0,a1]) 198 h) (RL Tryz.f58 K)=(aa (eG a1) fun s=>an TP 98 [a0] (hA h s) (bf (fun f j=>aa (bu f 0) fun g=>aa (bu f 1) fun i=>aa (mh .not i) fun k=>aq k (K (.ret (.tuple [.eZ,.eZ,(I6 1)])) j) (aa (au (some 2) (nP h) j) fun q=>an TP 64 [q] j (bf (fun r a=>aa (mh .not r) fun b=>aq b (K (.ret (.tuple [.eZ,.eZ,(I6 1)])) a) (aa (aJ g) fun c=>fl 1 c a fun l d=>cG (qF .map d a) fun m n=>bJ (EV F.az.L0) (sM (sL (ay [a0,a1]) [(3,nP h),(4,.eZ),(5,.eZ),(6,I6 0),(31,a0),(32,f),(30,f),(33,g),(34,i),(7,g),(8,i),(35,i),(36,k),(37,k),(37,bF),(38,q),(37,bF),(39,r),(37,bF),(40,b),(41,b),(42,g),(43,c),(44,l),(45,d),(46,m)]) 198 n) (F.az.cK K))) (pK K)))) (pK K))):=by kernel_rfl
theorem F.CA(hh:EV (ag Tryz.f58) (sM (ay [a0,a1]) 198 h) (RL Tryz.f58 K)=true):Sem TP 58 [a0,a1] h K:=
 SB Tryz.func58 hh
noncomputable def F.eC.L0:=partOf (ag Tryz.f19) [1,1,1,1,1,0,1,0,0]
noncomputable def F.eC.cK:=LK 0 Tryz.f19 [1,1,1,1,1,1]
noncomputable def F.eC.L1:=partOf (ag Tryz.f19) [1,1,1,1,1,0,1,0,0,1,1,0,0,1,1,0,1,0,0]
noncomputable def F.eC.kg(J:AX->St->Bool):=(cE 2 (jG false (EV (partOf (ag Tryz.f19) [1,1,1,1,1,0,1,0,0,1,1,0,0,1,1,1])) (cE 1 (jG false (EV (partOf (ag Tryz.f19) [1,1,1,1,1,0,1,0,0,1,1,1])) J))))
theorem F.eC.aP:EV F.eC.L0 (sM e 89 h) J=(aa (aF .lss (e 40) (e 39)) fun c=>aq c (il 1 (e 38) (e 40) h fun m a=>aa (aJ (e 6)) fun d=>fl 1 d h fun n f=>aa (eO .string (I6 0) false f a h) fun g=>aa (iP [(.str []),(I6 0),.ai] [(0,1),(1,1)] [a,g]) fun i=>aa (aS 3 (nP h) i (hA h [(.str []),(I6 0),.ai])) fun b=>aa (aJ (e 7)) fun j=>fl 1 j b fun o k=>aa (eO .string .ai false k a b) fun l=>aa (bK .slice l b) fun p=>bJ (EV F.eC.L1) (sM (sL e [(41,c),(42,m),(43,a),(11,a),(44,a),(45,e 6),(46,d),(47,n),(48,f),(49,a),(50,g),(51,i),(12,nP h),(52,e 7),(53,j),(54,o),(55,k),(56,a),(57,l),(58,p),(59,I6 0)]) 89 b) (F.eC.kg J)) (J (.exit 0) (sM (cF e 41 c) 89 h))):=by kernel_rfl
theorem F.eC.aC:F.eC.cK K (.exit 0) (sM e 89 h)=(aa (au (some 2) (e 9) h) fun a=>aa (aS 2 (e 4) a h) fun b=>aa (dz TP (sM (sL e [(88,a),(5,I6 0)]) 89 b) Tryz.f19.results.toList) fun c=>K (.ret (oneOf c)) b):=by kernel_rfl
theorem F.eC.cU:EV F.eC.L1 (sM e 89 h) J=(aa (aF .lss (e 59) (e 58)) fun i=>let Q1:=(cF e 60 i);aq i (il 1 (e 57) (e 59) h fun r a=>let Q2:=(sL Q1 [(61,e 59),(62,r),(63,a),(13,e 59),(14,a),(64,a)]);aq a (fl 0 (e 3) h fun j f=>fl 1 (e 12) h fun k g=>an TP 63 [f,g,(e 59)] h (bf (fun b c=>aa (bu b 0) fun d=>aa (bu b 1) fun l=>fl 2 (e 12) c fun s m=>aa (eN [.ai] [(0,1)] [d]) fun t=>cG (bB 1 24 m (.slice (Heap.next c) 0 1 1) (hA c t)) fun n u=>aa (ja 2 (e 12)) fun o=>aa (aS 1 o n u) fun v=>aa (aF .add (e 59) (I6 1)) fun p=>J .normal (sM (sL Q2 [(66,j),(67,f),(68,k),(69,g),(70,e 59),(71,b),(65,b),(72,d),(73,l),(15,d),(16,l),(74,s),(75,m),(76,d),(77,.slice (Heap.next c) 0 1 1),(78,n),(79,o),(80,p),(59,p)]) 89 v)) (pS J (sL Q2 [(66,j),(67,f),(68,k),(69,g),(70,e 59)]) 89))) (aa (aF .add (e 59) (I6 1)) fun q=>J .normal (sM (sL Q2 [(80,q),(59,q)]) 89 h))) (J (.exit 2) (sM Q1 89 h))):=by kernel_rfl
theorem F.eC.cm:F.eC.kg J (.exit 2) (sM e 89 h)=(fl 1 (e 9) h fun g a=>aa (au (some 3) (e 12) h) fun b=>aa (eN [(.str []),(I6 0),.ai] [(0,3)] [b]) fun i=>cG (bB 3 48 a (.slice (Heap.next h) 0 1 3) (hA h i)) fun c j=>aa (ja 1 (e 9)) fun d=>aa (aS 1 d c j) fun k=>aa (aF .add (e 40) (I6 1)) fun f=>J .normal (sM (sL e [(81,g),(82,a),(83,b),(84,.slice (Heap.next h) 0 1 3),(85,c),(86,d),(87,f),(40,f)]) 89 k)):=by kernel_rfl
theorem F.Mq:EV (ag Tryz.f19) (sM (ay [a0,a1]) 89 h) (RL Tryz.f19 K)=(aa (eG a1) fun r=>aa (au (some 2) (nP h) (hA (hA h r) [(I6 0),.ai])) fun G=>an TP 58 [a0,G] (hA (hA h r) [(I6 0),.ai]) (bf (fun d I=>aa (bu d 0) fun b=>aa (bu d 1) fun s=>aa (bu d 2) fun c=>aa (qE (.int .i64) c (I6 0)) fun J=>let Q1:=(sL (ay [a0,a1]) [(3,nP h),(4,.ptr (Heap.next (hA h r)) 0),(5,I6 0),(18,a0),(19,G),(20,d),(17,d),(21,b),(22,s),(23,c),(6,b),(7,s),(8,c),(24,c),(25,J)]);aq J (aa (iP [(I6 0),.ai] [] []) fun f=>aa (aS 2 (.ptr (Heap.next (hA h r)) 0) f I) fun g=>aa (dz TP (sM (sL Q1 [(26,f),(27,c),(5,c)]) 89 g) Tryz.f19.results.toList) fun L=>K (.ret (oneOf L)) g) (an TP 59 [b,s,(.func 60 [] [])] I (bf (fun t i=>aa (au (some 2) (nP h) i) fun j=>an TP 46 [j] i (bf (fun k a=>aa (aS 2 (nP a) k (hA a [(I6 0),.ai])) fun l=>aa (aJ b) fun m=>fl 2 m l fun u n=>an TP 62 [n] l (bf (fun o v=>an TP 61 [o] v (bf (fun p q=>aa (bK .slice p q) fun w=>bJ (EV F.eC.L0) (sM (sL Q1 [(28,b),(29,s),(30,t),(31,j),(32,k),(9,nP a),(33,b),(34,m),(35,u),(36,n),(37,o),(38,p),(39,w),(40,I6 0)]) 89 q) (F.eC.cK K)) (pK K))) (pK K))) (pK K))) (pK K)))) (pK K))):=by kernel_rfl
theorem F.JL(hh:EV (ag Tryz.f19) (sM (ay [a0,a1]) 89 h) (RL Tryz.f19 K)=true):Sem TP 19 [a0,a1] h K:=
 SB Tryz.func19 hh
theorem F.CB:EV (ag Tryz.f21) (sM (ay [a0,a1,a2]) 33 h) (RL Tryz.f21 K)=(aa (eG a0) fun o=>aa (au (some 2) (nP h) (hA h o)) fun q=>an TP 64 [q] (hA h o) (bf (fun r c=>aa (mh .not r) fun s=>aq s (K (.ret (.tuple [bF,(I6 1)])) c) (aa (au (some 2) (nP h) c) fun t=>aa (bK .slice a2 c) fun u=>an TP 53 [t,a1,u] c (bf (fun p a=>aa (aF .lss p (I6 0)) fun d=>aq d (K (.ret (.tuple [bF,(I6 4)])) a) (fl 1 (nP h) a fun v f=>ou 3 f p 2 a fun w x g=>an TP 54 [g,a2,(.func 55 [] [])] a (bf (fun b i=>aa (bu b 0) fun y=>aa (bu b 1) fun j=>K (.ret (.tuple [j,(I6 0)])) i) (pK K)))) (pK K)))) (pK K))):=by kernel_rfl
theorem F.AU(hh:EV (ag Tryz.f21) (sM (ay [a0,a1,a2]) 33 h) (RL Tryz.f21 K)=true):Sem TP 21 [a0,a1,a2] h K:=
 SB Tryz.func21 hh
noncomputable def F.bl.L0:=partOf (ag Tryz.f54) [1,1,1,0,0,0]
noncomputable def F.bl.cK:=LK 0 Tryz.f54 [1,1,1,1]
theorem F.bl.aP:EV F.bl.L0 (sM e 49 h) J=(aa (aF .lss (e 9) (e 10)) fun n=>let Q1:=(sL e [(15,e 9),(16,e 10),(17,n)]);aq n (aa (aF .add (e 9) (e 10)) fun g=>cG (mj (.int .u64) g h) fun i q=>aa (aF .shr i (.int .u64 1)) fun j=>cG (mj (.int .i64) j q) fun a o=>il 1 (e 0) a o fun p k=>ud (e 2) fun f16 a17 a18=>an TP f16 (a17++([k,(e 1)]++a18)) o (bf (fun b c=>aa (aF .lss b (I6 0)) fun d=>let Q2:=(sL Q1 [(18,e 9),(19,e 10),(20,g),(21,i),(22,j),(23,a),(11,a),(24,e 2),(25,e 0),(26,a),(27,p),(28,k),(29,e 1),(30,b),(31,d)]);aq d (aa (aF .add a (I6 1)) fun f=>J .normal (sM (sL Q2 [(32,a),(33,f),(9,f)]) 49 c)) (J .normal (sM (sL Q2 [(34,a),(10,a)]) 49 c))) (pS J (sL Q1 [(18,e 9),(19,e 10),(20,g),(21,i),(22,j),(23,a),(11,a),(24,e 2),(25,e 0),(26,a),(27,p),(28,k),(29,e 1)]) 49))) (J (.exit 0) (sM Q1 49 h))):=by kernel_rfl
theorem F.bl.aC:F.bl.cK K (.exit 0) (sM e 49 h)=(aa (aF .lss (e 9) (e 8)) fun a=>aq a (il 1 (e 0) (e 9) h fun j b=>ud (e 2) fun f27 a28 a29=>an TP f27 (a28++([b,(e 1)]++a29)) h (bf (fun c d=>aa (jC (.int .i64) c (I6 0)) fun f=>K (.ret (.tuple [(e 9),f])) d) (pK K))) (K (.ret (.tuple [(e 9),bF])) h)):=by kernel_rfl
theorem F.g9:EV (ag Tryz.f54) (sM (ay [a0,a1,a2]) 49 h) (RL Tryz.f54 K)=(aa (bK .slice a0 h) fun a=>bJ (EV F.bl.L0) (sM (sL (ay [a0,a1,a2]) [(6,I6 0),(7,bF),(12,a0),(13,a),(8,a),(14,a),(9,I6 0),(10,a)]) 49 h) (F.bl.cK K)):=by kernel_rfl
theorem F.gQ(hh:EV (ag Tryz.f54) (sM (ay [a0,a1,a2]) 49 h) (RL Tryz.f54 K)=true):Sem TP 54 [a0,a1,a2] h K:=
 SB Tryz.func54 hh
noncomputable def F.kj.L0:=partOf (ag Tryz.f126) [1,1,1,1,0,1,0,0]
noncomputable def F.kj.cK:=LK 0 Tryz.f126 [1,1,1,1,1]
theorem F.kj.aP:EV F.kj.L0 (sM e 66 h) J=(fl 1 (e 4) h fun w f=>ou 3 f (e 10) 2 h fun x y g=>aa (bK .slice g h) fun i=>aa (aF .lss (e 12) i) fun j=>let Q1:=(sL e [(18,e 12),(19,w),(20,f),(21,e 10),(22,x),(23,y),(24,g),(25,i),(26,j)]);aq j (fl 1 (e 4) h fun k b=>ou 3 b (e 10) 2 h fun l m c=>il 1 c (e 12) h fun n d=>an TP 20 [d,(e 2)] h (bf (fun o a=>aa (mh .not o) fun p=>let Q2:=(sL Q1 [(29,k),(30,b),(31,e 10),(32,l),(33,m),(34,c),(35,e 12),(36,n),(37,d),(38,e 2),(39,o),(40,p)]);aq p (fl 1 (e 4) a fun z q=>ou 3 q (e 10) 2 a fun A B r=>il 1 r (e 12) a fun C s=>aa (eN [.ai] [(0,1)] [s]) fun D=>cG (bB 1 24 (e 11) (.slice (Heap.next a) 0 1 1) (hA a D)) fun t E=>aa (aF .add (e 12) (I6 1)) fun u=>J .normal (sM (sL Q2 [(41,e 11),(42,z),(43,q),(44,e 10),(45,A),(46,B),(47,r),(48,e 12),(49,C),(50,s),(51,.slice (Heap.next a) 0 1 1),(52,t),(11,t),(27,e 12),(28,u),(12,u)]) 66 E)) (aa (aF .add (e 12) (I6 1)) fun v=>J .normal (sM (sL Q2 [(27,e 12),(28,v),(12,v)]) 66 a))) (pS J (sL Q1 [(29,k),(30,b),(31,e 10),(32,l),(33,m),(34,c),(35,e 12),(36,n),(37,d),(38,e 2)]) 66))) (J (.exit 0) (sM Q1 66 h))):=by kernel_rfl
theorem F.kj.aC:F.kj.cK K (.exit 0) (sM e 66 h)=(aq (e 3) (aa (eN [.ai] [(0,1)] [(e 2)]) fun w=>cG (bB 1 24 (e 11) (.slice (Heap.next h) 0 1 1) (hA h w)) fun a d=>fl 1 (e 9) d fun f b=>an TP 163 [a] d (bf (fun g i=>if ((aa (au none f i) fun x=>AV.beq x b)&&true)=true then (aa (jw 3 b (e 10)) fun j=>aa (ja 2 j) fun k=>aa (aS 1 k g i) fun l=>aa (au (some 2) (e 9) l) fun m=>aa (aS 2 (e 8) m l) fun n=>aa (dz TP (sM (sL e [(53,e 3),(54,e 11),(55,e 2),(56,.slice (Heap.next h) 0 1 1),(57,a),(11,a),(58,f),(59,b),(60,e 10),(61,a),(62,g),(63,j),(64,k),(65,m)]) 66 n) Tryz.f126.results.toList) fun y=>K (.ret (oneOf y)) n) else false) fF)) (fl 1 (e 9) h fun o c=>an TP 163 [(e 11)] h (bf (fun p q=>if ((aa (au none o q) fun z=>AV.beq z c)&&true)=true then (aa (jw 3 c (e 10)) fun r=>aa (ja 2 r) fun s=>aa (aS 1 s p q) fun t=>aa (au (some 2) (e 9) t) fun u=>aa (aS 2 (e 8) u t) fun v=>aa (dz TP (sM (sL e [(53,e 3),(58,o),(59,c),(60,e 10),(61,e 11),(62,p),(63,r),(64,s),(65,u)]) 66 v) Tryz.f126.results.toList) fun y=>K (.ret (oneOf y)) v) else false) fF))):=by kernel_rfl
theorem F.Mr:EV (ag Tryz.f126) (sM (ay [a0,a1,a2,a3]) 66 h) (RL Tryz.f126 K)=(aa (eG a0) fun a=>aa (au (some 2) (nP h) (hA (hA h a) [(I6 0),.ai])) fun f=>an TP 25 [f] (hA (hA h a) [(I6 0),.ai]) (bf (fun g b=>aa (aS 2 (nP b) g (hA b [(I6 0),.ai])) fun i=>aa (au (some 2) (nP h) i) fun j=>an TP 69 [j,a1] i (bf (fun k l=>bJ (EV F.kj.L0) (sM (sL (ay [a0,a1,a2,a3]) [(4,nP h),(8,.ptr (Heap.next (hA h a)) 0),(13,f),(14,g),(9,nP b),(15,j),(16,a1),(17,k),(10,k),(11,.ai),(12,I6 0)]) 66 l) (F.kj.cK K)) (pK K))) (pK K))):=by kernel_rfl
theorem F.JM(hh:EV (ag Tryz.f126) (sM (ay [a0,a1,a2,a3]) 66 h) (RL Tryz.f126 K)=true):Sem TP 126 [a0,a1,a2,a3] h K:=
 SB Tryz.func126 hh
noncomputable def F.cV.L0:=partOf (ag Tryz.f163) [1,1,0,1,0,0]
noncomputable def F.cV.cK:=LK 0 Tryz.f163 [1,1,1]
noncomputable def F.cV.L1:=partOf (ag Tryz.f163) [1,1,0,1,0,0,1,0,0,1,0,0,0]
noncomputable def F.cV.kg(J:AX->St->Bool):=(cE 2 (jG false (EV (partOf (ag Tryz.f163) [1,1,0,1,0,0,1,0,0,1,1])) (cE 1 (jG false (EV (partOf (ag Tryz.f163) [1,1,0,1,0,0,1,1])) J))))
theorem F.cV.aP:EV F.cV.L0 (sM e 65 h) J=(aa (bK .slice (e 0) h) fun a=>aa (aF .lss (e 4) a) fun b=>let Q1:=(sL e [(6,e 4),(7,e 0),(8,a),(9,b)]);aq b (aa (bK .slice (e 3) h) fun c=>bJ (EV F.cV.L1) (sM (sL Q1 [(12,e 3),(13,c),(5,c)]) 65 h) (F.cV.kg J)) (J (.exit 0) (sM Q1 65 h))):=by kernel_rfl
theorem F.cV.aC:F.cV.cK K (.exit 0) (sM e 65 h)=(K (.ret (e 3)) h):=by kernel_rfl
theorem F.cV.cU:EV F.cV.L1 (sM e 65 h) J=(aa (aF .gtr (e 5) (I6 0)) fun c=>let Q1:=(sL e [(14,e 5),(15,c),(16,c)]);aq c (il 1 (e 0) (e 4) h fun j f=>aa (aF .sub (e 5) (I6 1)) fun g=>il 1 (e 3) g h fun k i=>an TP 156 [f,i] h (bf (fun d a=>let Q2:=(sL Q1 [(16,bT),(17,e 0),(16,bT),(18,e 4),(16,bT),(19,j),(16,bT),(20,f),(16,bT),(21,e 3),(16,bT),(22,e 5),(16,bT),(23,g),(16,bT),(24,k),(16,bT),(25,i),(16,bT),(26,d),(27,d)]);aq d (aa (aF .sub (e 5) (I6 1)) fun b=>J .normal (sM (sL Q2 [(28,e 5),(29,b),(5,b)]) 65 a)) (J (.exit 2) (sM Q2 65 a))) fF)) (J (.exit 2) (sM (sL Q1 [(16,bF),(17,bz),(16,bF),(18,bz),(16,bF),(19,bz),(16,bF),(20,bz),(16,bF),(21,bz),(16,bF),(22,bz),(16,bF),(23,bz),(16,bF),(24,bz),(16,bF),(25,bz),(16,bF),(26,bz),(27,bF)]) 65 h))):=by kernel_rfl
theorem F.cV.cm:F.cV.kg J (.exit 2) (sM e 65 h)=(aa (aF .gtr (e 5) (I6 0)) fun g=>let Q1:=(sL e [(30,e 5),(31,g),(32,g)]);aq g (aa (aF .sub (e 5) (I6 1)) fun j=>il 1 (e 3) j h fun D k=>il 1 (e 0) (e 4) h fun E l=>an TP 20 [k,l] h (bf (fun i c=>let Q2:=(sL Q1 [(32,bT),(33,e 3),(32,bT),(34,e 5),(32,bT),(35,j),(32,bT),(36,D),(32,bT),(37,k),(32,bT),(38,e 0),(32,bT),(39,e 4),(32,bT),(40,E),(32,bT),(41,l),(32,bT),(42,i),(43,i)]);aq i (aa (aF .add (e 4) (I6 1)) fun m=>J .normal (sM (sL Q2 [(10,e 4),(11,m),(4,m)]) 65 c)) (aa (eN [.ai] [(0,1)] [.ai]) fun G=>cG (bB 1 24 (e 3) (.slice (Heap.next c) 0 1 1) (hA c G)) fun a I=>aa (aF .add (e 5) (I6 1)) fun n=>aa (fR (some 1) a (some n) none) fun o=>aa (fR (some 1) a (some (e 5)) none) fun p=>cG (Ew 1 o p I) fun L d=>aa (eN [] [] []) fun q=>il 1 (e 0) (e 4) (hA d q) fun M r=>cG (bB 1 8 (.slice (Heap.next d) 0 0 1) r (hA d q)) fun s N=>aa (jw 1 a (e 5)) fun t=>aa (aS 1 t s N) fun O=>aa (aF .add (e 4) (I6 1)) fun u=>J .normal (sM (sL Q2 [(44,e 3),(45,.slice (Heap.next c) 0 1 1),(46,a),(3,a),(47,a),(48,e 5),(49,n),(50,o),(51,a),(52,e 5),(53,p),(54,L),(55,a),(56,e 5),(57,.slice (Heap.next d) 0 0 1),(58,e 0),(59,e 4),(60,M),(61,r),(62,s),(63,t),(10,e 4),(11,u),(4,u)]) 65 O))) fF)) (aa (eN [.ai] [(0,1)] [.ai]) fun P=>cG (bB 1 24 (e 3) (.slice (Heap.next h) 0 1 1) (hA h P)) fun b R=>aa (aF .add (e 5) (I6 1)) fun v=>aa (fR (some 1) b (some v) none) fun w=>aa (fR (some 1) b (some (e 5)) none) fun x=>cG (Ew 1 w x R) fun S f=>aa (eN [] [] []) fun y=>il 1 (e 0) (e 4) (hA f y) fun T z=>cG (bB 1 8 (.slice (Heap.next f) 0 0 1) z (hA f y)) fun A U=>aa (jw 1 b (e 5)) fun B=>aa (aS 1 B A U) fun V=>aa (aF .add (e 4) (I6 1)) fun C=>J .normal (sM (sL Q1 [(32,bF),(33,bz),(32,bF),(34,bz),(32,bF),(35,bz),(32,bF),(36,bz),(32,bF),(37,bz),(32,bF),(38,bz),(32,bF),(39,bz),(32,bF),(40,bz),(32,bF),(41,bz),(32,bF),(42,bz),(43,bF),(44,e 3),(45,.slice (Heap.next h) 0 1 1),(46,b),(3,b),(47,b),(48,e 5),(49,v),(50,w),(51,b),(52,e 5),(53,x),(54,S),(55,b),(56,e 5),(57,.slice (Heap.next f) 0 0 1),(58,e 0),(59,e 4),(60,T),(61,z),(62,A),(63,B),(10,e 4),(11,C),(4,C)]) 65 V))):=by kernel_rfl
theorem F.FH:EV (ag Tryz.f163) (sM (ay [a0]) 65 h) (RL Tryz.f163 K)=(bJ (EV F.cV.L0) (sM (sL (ay [a0]) [(2,.ai),(3,.ai),(4,I6 0)]) 65 h) (F.cV.cK K)):=by kernel_rfl
theorem F.DJ(hh:EV (ag Tryz.f163) (sM (ay [a0]) 65 h) (RL Tryz.f163 K)=true):Sem TP 163 [a0] h K:=
 SB Tryz.func163 hh
noncomputable def F.cL.L0:=partOf (ag Tryz.f120) [1,1,0,1,0,0]
noncomputable def F.cL.cK:=LK 0 Tryz.f120 [1,1,1]
theorem F.cL.aP:EV F.cL.L0 (sM e 26 h) J=(aa (aF .lss (e 13) (e 12)) fun b=>aq b (il 1 (e 0) (e 13) h fun g c=>il 1 (e 1) (e 13) h fun i d=>aa (qE (.int .i64) c d) fun f=>let Q1:=(sL e [(14,b),(15,e 13),(5,e 13),(16,e 0),(17,e 13),(18,g),(19,c),(20,e 1),(21,e 13),(22,i),(23,d),(24,f)]);aq f (J .ret (sM (cF Q1 4 bF) 26 h)) (aa (aF .add (e 13) (I6 1)) fun a=>J .normal (sM (sL Q1 [(25,a),(13,a)]) 26 h))) (J (.exit 0) (sM (cF e 14 b) 26 h))):=by kernel_rfl
theorem F.cL.aC:F.cL.cK K (.exit 0) (sM e 26 h)=(K (.ret bT) h):=by kernel_rfl
theorem F.cL.bg:F.cL.cK K .ret (sM e 26 h)=(K (.ret (e 4)) h):=by kernel_rfl
theorem F.tW:EV (ag Tryz.f120) (sM (ay [a0,a1]) 26 h) (RL Tryz.f120 K)=(aa (bK .slice a0 h) fun a=>aa (bK .slice a1 h) fun b=>aa (qE (.int .i64) a b) fun c=>aq c (K (.ret bF) h) (aa (bK .slice a0 h) fun d=>bJ (EV F.cL.L0) (sM (sL (ay [a0,a1]) [(4,bF),(6,a0),(7,a),(8,a1),(9,b),(10,c),(11,a0),(12,d),(13,I6 0)]) 26 h) (F.cL.cK K))):=by kernel_rfl
theorem F.tD(hh:EV (ag Tryz.f120) (sM (ay [a0,a1]) 26 h) (RL Tryz.f120 K)=true):Sem TP 120 [a0,a1] h K:=
 SB Tryz.func120 hh
end
end Go.AM
namespace Go.AM
open Go
noncomputable section
def sA0:List AV:=[(.int .u8 80)]
def sR0:AV:=bT
theorem adR:cq TP F0 D0 200 130 sA0 Heap.empty (cR true 20 sR0)=true:=by kernel_rfl
def sA1:List AV:=[(.int .u8 40)]
def sR1:AV:=bF
theorem adS:cq TP F0 D0 200 130 sA1 Heap.empty (cR true 20 sR1)=true:=by kernel_rfl
def sA2:List AV:=[(.int .u8 120)]
def sR2:AV:=bT
theorem adT:cq TP F0 D0 200 130 sA2 Heap.empty (cR true 20 sR2)=true:=by kernel_rfl
def sA3:List AV:=[(.int .u8 32)]
def sR3:AV:=bF
theorem adU:cq TP F0 D0 200 130 sA3 Heap.empty (cR true 20 sR3)=true:=by kernel_rfl
def sA4:List AV:=[(.int .u8 121)]
def sR4:AV:=bT
theorem adV:cq TP F0 D0 200 130 sA4 Heap.empty (cR true 20 sR4)=true:=by kernel_rfl
def sA5:List AV:=[(.int .u8 41)]
def sR5:AV:=bF
theorem adW:cq TP F0 D0 200 130 sA5 Heap.empty (cR true 20 sR5)=true:=by kernel_rfl
def sA6:List AV:=[(.int .u8 58)]
def sR6:AV:=bF
theorem adX:cq TP F0 D0 200 130 sA6 Heap.empty (cR true 20 sR6)=true:=by kernel_rfl
def sA7:List AV:=[(.int .u8 69)]
def sR7:AV:=bT
theorem adY:cq TP F0 D0 200 130 sA7 Heap.empty (cR true 20 sR7)=true:=by kernel_rfl
def sA8:List AV:=[(.int .u8 46)]
def sR8:AV:=bF
theorem adZ:cq TP F0 D0 200 130 sA8 Heap.empty (cR true 20 sR8)=true:=by kernel_rfl
def sA9:List AV:=[(.int .u8 122)]
def sR9:AV:=bT
theorem ad0:cq TP F0 D0 200 130 sA9 Heap.empty (cR true 20 sR9)=true:=by kernel_rfl
def agf:List AV:=[(.int .u8 44)]
def agh:AV:=bF
theorem Zs:cq TP F0 D0 200 130 agf Heap.empty (cR true 20 agh)=true:=by kernel_rfl
def agi:List AV:=[(.agg [(I6 3),(.ax [(.str [69]),(I6 2),(.ax [(.ax [(I6 0),(I6 1)] 0 2 1),(.ax [(I6 1),(I6 2)] 0 2 1)] 0 2 1)] 0 1 3)]),(.str [69]),(I6 2)]
def agj:AV:=(I6 0)
theorem Zt:cq TP F0 D0 200 53 agi Heap.empty (cR true 20 agj)=true:=by kernel_rfl
def agk:List AV:=[(I6 3),(I6 2)]
def agl:AV:=(.tuple [(I6 9),(I6 0)])
theorem Zu:cq TP F0 D0 200 99 agk Heap.empty (cR true 20 agl)=true:=by kernel_rfl
def agm:List AV:=[(.ax [(I6 0),(I6 0)] 0 2 1),(.ax [(I6 0),(I6 1)] 0 2 1)]
def agn:AV:=(.ax [(I6 0),(I6 0)] 0 2 1)
theorem Zv:cq TP F0 D0 200 121 agm Heap.empty (cR false 20 agn)=true:=by kernel_rfl
def ago:List AV:=[(.ax [(I6 0),(I6 1)] 0 2 1),(.ax [(I6 0),(I6 1)] 0 2 1)]
def agp:AV:=(.ax [(I6 0),(I6 1)] 0 2 1)
theorem Zw:cq TP F0 D0 200 121 ago Heap.empty (cR false 20 agp)=true:=by kernel_rfl
def agq:List AV:=[(.ax [(I6 0),(I6 2)] 0 2 1),(.ax [(I6 0),(I6 1)] 0 2 1)]
def agr:AV:=(.ax [(I6 0),(I6 2)] 0 2 1)
theorem Zx:cq TP F0 D0 200 121 agq Heap.empty (cR false 20 agr)=true:=by kernel_rfl
def ags:List AV:=[(.ax [(I6 1),(I6 0)] 0 2 1),(.ax [(I6 0),(I6 1)] 0 2 1)]
def agt:AV:=(.ax [(I6 1),(I6 0)] 0 2 1)
theorem Zy:cq TP F0 D0 200 121 ags Heap.empty (cR false 20 agt)=true:=by kernel_rfl
def agu:List AV:=[(.ax [(I6 1),(I6 1)] 0 2 1),(.ax [(I6 0),(I6 1)] 0 2 1)]
def agv:AV:=(.ax [(I6 1),(I6 1)] 0 2 1)
theorem Zz:cq TP F0 D0 200 121 agu Heap.empty (cR false 20 agv)=true:=by kernel_rfl
def agw:List AV:=[(.ax [(I6 1),(I6 2)] 0 2 1),(.ax [(I6 0),(I6 1)] 0 2 1)]
def agx:AV:=(.ax [(I6 1),(I6 2)] 0 2 1)
theorem ZA:cq TP F0 D0 200 121 agw Heap.empty (cR false 20 agx)=true:=by kernel_rfl
def agy:List AV:=[(.ax [(I6 2),(I6 0)] 0 2 1),(.ax [(I6 0),(I6 1)] 0 2 1)]
def agz:AV:=(.ax [(I6 2),(I6 0)] 0 2 1)
theorem ZB:cq TP F0 D0 200 121 agy Heap.empty (cR false 20 agz)=true:=by kernel_rfl
def agA:List AV:=[(.ax [(I6 2),(I6 1)] 0 2 1),(.ax [(I6 0),(I6 1)] 0 2 1)]
def agB:AV:=(.ax [(I6 2),(I6 1)] 0 2 1)
theorem ZC:cq TP F0 D0 200 121 agA Heap.empty (cR false 20 agB)=true:=by kernel_rfl
def agC:List AV:=[(.ax [(I6 2),(I6 2)] 0 2 1),(.ax [(I6 0),(I6 1)] 0 2 1)]
def agD:AV:=(.ax [(I6 2),(I6 2)] 0 2 1)
theorem ZD:cq TP F0 D0 200 121 agC Heap.empty (cR false 20 agD)=true:=by kernel_rfl
def agE:List AV:=[(.ax [(I6 0),(I6 0),(I6 0)] 0 3 1),(.ax [(I6 0),(I6 2)] 0 2 1)]
def agF:AV:=(.ax [(I6 0),(I6 0)] 0 2 1)
theorem ZE:cq TP F0 D0 200 121 agE Heap.empty (cR false 20 agF)=true:=by kernel_rfl
def agG:List AV:=[(.ax [(I6 0),(I6 0),(I6 1)] 0 3 1),(.ax [(I6 0),(I6 2)] 0 2 1)]
def agH:AV:=(.ax [(I6 0),(I6 1)] 0 2 1)
theorem ZF:cq TP F0 D0 200 121 agG Heap.empty (cR false 20 agH)=true:=by kernel_rfl
def agI:List AV:=[(.ax [(I6 0),(I6 0),(I6 1)] 0 3 1),(.ax [(I6 2),(I6 1)] 0 2 1)]
def agJ:AV:=(.ax [(I6 1),(I6 0)] 0 2 1)
theorem ZG:cq TP F0 D0 200 121 agI Heap.empty (cR false 20 agJ)=true:=by kernel_rfl
def agK:List AV:=[(.ax [(I6 0),(I6 0),(I6 2)] 0 3 1),(.ax [(I6 0),(I6 2)] 0 2 1)]
def agL:AV:=(.ax [(I6 0),(I6 2)] 0 2 1)
theorem ZH:cq TP F0 D0 200 121 agK Heap.empty (cR false 20 agL)=true:=by kernel_rfl
def agM:List AV:=[(.ax [(I6 0),(I6 1),(I6 0)] 0 3 1),(.ax [(I6 0),(I6 2)] 0 2 1)]
def agN:AV:=(.ax [(I6 0),(I6 0)] 0 2 1)
theorem ZI:cq TP F0 D0 200 121 agM Heap.empty (cR false 20 agN)=true:=by kernel_rfl
def agO:List AV:=[(.ax [(I6 0),(I6 1),(I6 1)] 0 3 1),(.ax [(I6 0),(I6 2)] 0 2 1)]
def agP:AV:=(.ax [(I6 0),(I6 1)] 0 2 1)
theorem ZJ:cq TP F0 D0 200 121 agO Heap.empty (cR false 20 agP)=true:=by kernel_rfl
def agQ:List AV:=[(.ax [(I6 0),(I6 1),(I6 1)] 0 3 1),(.ax [(I6 2),(I6 1)] 0 2 1)]
def agR:AV:=(.ax [(I6 1),(I6 1)] 0 2 1)
theorem ZK:cq TP F0 D0 200 121 agQ Heap.empty (cR false 20 agR)=true:=by kernel_rfl
def agS:List AV:=[(.ax [(I6 0),(I6 1),(I6 2)] 0 3 1),(.ax [(I6 0),(I6 2)] 0 2 1)]
def agT:AV:=(.ax [(I6 0),(I6 2)] 0 2 1)
theorem ZL:cq TP F0 D0 200 121 agS Heap.empty (cR false 20 agT)=true:=by kernel_rfl
def agU:List AV:=[(.ax [(I6 0),(I6 2),(I6 0)] 0 3 1),(.ax [(I6 0),(I6 2)] 0 2 1)]
def agV:AV:=(.ax [(I6 0),(I6 0)] 0 2 1)
theorem ZM:cq TP F0 D0 200 121 agU Heap.empty (cR false 20 agV)=true:=by kernel_rfl
def agW:List AV:=[(.ax [(I6 0),(I6 2),(I6 1)] 0 3 1),(.ax [(I6 0),(I6 2)] 0 2 1)]
def agX:AV:=(.ax [(I6 0),(I6 1)] 0 2 1)
theorem ZN:cq TP F0 D0 200 121 agW Heap.empty (cR false 20 agX)=true:=by kernel_rfl
def agY:List AV:=[(.ax [(I6 0),(I6 2),(I6 1)] 0 3 1),(.ax [(I6 2),(I6 1)] 0 2 1)]
def agZ:AV:=(.ax [(I6 1),(I6 2)] 0 2 1)
theorem ZO:cq TP F0 D0 200 121 agY Heap.empty (cR false 20 agZ)=true:=by kernel_rfl
def ag0:List AV:=[(.ax [(I6 0),(I6 2),(I6 1)] 0 3 1),(.ax [(I6 0),(I6 1)] 0 2 1)]
def ag1:AV:=(.ax [(I6 0),(I6 2)] 0 2 1)
theorem ZP:cq TP F0 D0 200 121 ag0 Heap.empty (cR false 20 ag1)=true:=by kernel_rfl
def ag2:List AV:=[(.ax [(I6 0),(I6 2),(I6 2)] 0 3 1),(.ax [(I6 0),(I6 2)] 0 2 1)]
def ag3:AV:=(.ax [(I6 0),(I6 2)] 0 2 1)
theorem ZQ:cq TP F0 D0 200 121 ag2 Heap.empty (cR false 20 ag3)=true:=by kernel_rfl
def ag4:List AV:=[(.ax [(I6 1),(I6 0),(I6 0)] 0 3 1),(.ax [(I6 0),(I6 2)] 0 2 1)]
def ag5:AV:=(.ax [(I6 1),(I6 0)] 0 2 1)
theorem ZR:cq TP F0 D0 200 121 ag4 Heap.empty (cR false 20 ag5)=true:=by kernel_rfl
def ag6:List AV:=[(.ax [(I6 1),(I6 0),(I6 1)] 0 3 1),(.ax [(I6 0),(I6 2)] 0 2 1)]
def ag7:AV:=(.ax [(I6 1),(I6 1)] 0 2 1)
theorem ZS:cq TP F0 D0 200 121 ag6 Heap.empty (cR false 20 ag7)=true:=by kernel_rfl
def ag8:List AV:=[(.ax [(I6 1),(I6 0),(I6 2)] 0 3 1),(.ax [(I6 0),(I6 2)] 0 2 1)]
def ag9:AV:=(.ax [(I6 1),(I6 2)] 0 2 1)
theorem ZT:cq TP F0 D0 200 121 ag8 Heap.empty (cR false 20 ag9)=true:=by kernel_rfl
def aha:List AV:=[(.ax [(I6 1),(I6 0),(I6 2)] 0 3 1),(.ax [(I6 2),(I6 1)] 0 2 1)]
def ahb:AV:=(.ax [(I6 2),(I6 0)] 0 2 1)
theorem ZU:cq TP F0 D0 200 121 aha Heap.empty (cR false 20 ahb)=true:=by kernel_rfl
def ahc:List AV:=[(.ax [(I6 1),(I6 1),(I6 0)] 0 3 1),(.ax [(I6 0),(I6 2)] 0 2 1)]
def ahd:AV:=(.ax [(I6 1),(I6 0)] 0 2 1)
theorem ZV:cq TP F0 D0 200 121 ahc Heap.empty (cR false 20 ahd)=true:=by kernel_rfl
def ahe:List AV:=[(.ax [(I6 1),(I6 1),(I6 1)] 0 3 1),(.ax [(I6 0),(I6 2)] 0 2 1)]
def ahf:AV:=(.ax [(I6 1),(I6 1)] 0 2 1)
theorem ZW:cq TP F0 D0 200 121 ahe Heap.empty (cR false 20 ahf)=true:=by kernel_rfl
def ahg:List AV:=[(.ax [(I6 1),(I6 1),(I6 2)] 0 3 1),(.ax [(I6 0),(I6 2)] 0 2 1)]
def ahh:AV:=(.ax [(I6 1),(I6 2)] 0 2 1)
theorem ZX:cq TP F0 D0 200 121 ahg Heap.empty (cR false 20 ahh)=true:=by kernel_rfl
def ahi:List AV:=[(.ax [(I6 1),(I6 1),(I6 2)] 0 3 1),(.ax [(I6 2),(I6 1)] 0 2 1)]
def ahj:AV:=(.ax [(I6 2),(I6 1)] 0 2 1)
theorem ZY:cq TP F0 D0 200 121 ahi Heap.empty (cR false 20 ahj)=true:=by kernel_rfl
def ahk:List AV:=[(.ax [(I6 1),(I6 2),(I6 0)] 0 3 1),(.ax [(I6 0),(I6 2)] 0 2 1)]
def ahl:AV:=(.ax [(I6 1),(I6 0)] 0 2 1)
theorem ZZ:cq TP F0 D0 200 121 ahk Heap.empty (cR false 20 ahl)=true:=by kernel_rfl
def ahm:List AV:=[(.ax [(I6 1),(I6 2),(I6 1)] 0 3 1),(.ax [(I6 0),(I6 2)] 0 2 1)]
def ahn:AV:=(.ax [(I6 1),(I6 1)] 0 2 1)
theorem Z0:cq TP F0 D0 200 121 ahm Heap.empty (cR false 20 ahn)=true:=by kernel_rfl
def aho:List AV:=[(.ax [(I6 1),(I6 2),(I6 2)] 0 3 1),(.ax [(I6 0),(I6 2)] 0 2 1)]
def ahp:AV:=(.ax [(I6 1),(I6 2)] 0 2 1)
theorem Z1:cq TP F0 D0 200 121 aho Heap.empty (cR false 20 ahp)=true:=by kernel_rfl
def ahq:List AV:=[(.ax [(I6 1),(I6 2),(I6 2)] 0 3 1),(.ax [(I6 2),(I6 1)] 0 2 1)]
def ahr:AV:=(.ax [(I6 2),(I6 2)] 0 2 1)
theorem Z2:cq TP F0 D0 200 121 ahq Heap.empty (cR false 20 ahr)=true:=by kernel_rfl
def ahs:List AV:=[(.ax [(I6 2),(I6 0),(I6 0)] 0 3 1),(.ax [(I6 0),(I6 2)] 0 2 1)]
def aht:AV:=(.ax [(I6 2),(I6 0)] 0 2 1)
theorem Z3:cq TP F0 D0 200 121 ahs Heap.empty (cR false 20 aht)=true:=by kernel_rfl
def ahu:List AV:=[(.ax [(I6 2),(I6 0),(I6 1)] 0 3 1),(.ax [(I6 0),(I6 2)] 0 2 1)]
def ahv:AV:=(.ax [(I6 2),(I6 1)] 0 2 1)
theorem Z4:cq TP F0 D0 200 121 ahu Heap.empty (cR false 20 ahv)=true:=by kernel_rfl
def ahw:List AV:=[(.ax [(I6 2),(I6 0),(I6 2)] 0 3 1),(.ax [(I6 0),(I6 2)] 0 2 1)]
def ahx:AV:=(.ax [(I6 2),(I6 2)] 0 2 1)
theorem Z5:cq TP F0 D0 200 121 ahw Heap.empty (cR false 20 ahx)=true:=by kernel_rfl
def ahy:List AV:=[(.ax [(I6 2),(I6 1),(I6 0)] 0 3 1),(.ax [(I6 0),(I6 2)] 0 2 1)]
def ahz:AV:=(.ax [(I6 2),(I6 0)] 0 2 1)
theorem Z6:cq TP F0 D0 200 121 ahy Heap.empty (cR false 20 ahz)=true:=by kernel_rfl
def ahA:List AV:=[(.ax [(I6 2),(I6 1),(I6 1)] 0 3 1),(.ax [(I6 0),(I6 2)] 0 2 1)]
def ahB:AV:=(.ax [(I6 2),(I6 1)] 0 2 1)
theorem Z7:cq TP F0 D0 200 121 ahA Heap.empty (cR false 20 ahB)=true:=by kernel_rfl
def ahC:List AV:=[(.ax [(I6 2),(I6 1),(I6 2)] 0 3 1),(.ax [(I6 0),(I6 2)] 0 2 1)]
def ahD:AV:=(.ax [(I6 2),(I6 2)] 0 2 1)
theorem Z8:cq TP F0 D0 200 121 ahC Heap.empty (cR false 20 ahD)=true:=by kernel_rfl
def ahE:List AV:=[(.ax [(I6 2),(I6 2),(I6 0)] 0 3 1),(.ax [(I6 0),(I6 2)] 0 2 1)]
def ahF:AV:=(.ax [(I6 2),(I6 0)] 0 2 1)
theorem Z9:cq TP F0 D0 200 121 ahE Heap.empty (cR false 20 ahF)=true:=by kernel_rfl
def ahG:List AV:=[(.ax [(I6 2),(I6 2),(I6 1)] 0 3 1),(.ax [(I6 0),(I6 2)] 0 2 1)]
def ahH:AV:=(.ax [(I6 2),(I6 1)] 0 2 1)
theorem aaa:cq TP F0 D0 200 121 ahG Heap.empty (cR false 20 ahH)=true:=by kernel_rfl
end
end Go.AM