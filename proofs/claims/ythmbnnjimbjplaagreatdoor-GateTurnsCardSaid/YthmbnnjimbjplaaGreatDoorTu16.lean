/- Parts of the proof. Conditions: none. -/
import Derived.Test.YthmbnnjimbjplaaGreatDoorTu3
import Derived.Test.YthmbnnjimbjplaaGreatDoorTu9
import Derived.Test.YthmbnnjimbjplaaGreatDoorTu10
import Derived.Test.YthmbnnjimbjplaaGreatDoorTu12
import Derived.Test.YthmbnnjimbjplaaGreatDoorTu15
set_option linter.unusedSimpArgs false
set_option linter.unusedVariables false
set_option maxHeartbeats 1000000
namespace Go.Proofs
open Go.RowKit Go.Maps Go.Sort Go.Shelf
theorem Tryz.ug(m:Nat):AnyZ.SortsIn Tryz.prog Tryz.pe Fence.wide m:=
 ⟨fun BE off cap ss W hH Hh hsz=>callsIn_wide.2 (AnyM.slices_Sort_string Tryz.CS BE off cap ss W hH Hh hsz),
  fun p cap W=>callsIn_wide.2 (AnyM.slices_Sort_string_none Tryz.CS p cap W)⟩
theorem Tryz.AN:AM.rj Tryz.prog 89 148 94:=fun mb W=>callsIn_wide.1 (AnyZ.keys_in Tryz.BQ Fence.wide 5 trivial rfl mb W)
theorem Tryz.wS:AM.mB Tryz.prog 88 148 9:=by
 refine ⟨fun Bm b nn D0 w h1 h2 FB Hs Cj=>(callsIn_wide (n:=5)).1 ?_,fun Bm w h1 h2=>?_⟩
 ·have Ck:SeqGives Fence.wide 2 Tryz.prog 148 #[.pointer (some ⟨Bm,0,none⟩)] encStr (fun ss=>ss.Perm (strKeys D0)) (Maps.size D0) w:=
   AnyZ.keys_gives (ρ:=Tryz.nX) { Tryz.BQ with } Fence.wide _ trivial rfl (by omega) Bm b nn D0 w h1 h2 FB
  exact AnyZ.sorted_in Tryz.pg Fence.wide 5 trivial trivial trivial trivial rfl (by omega) (Tryz.ug _) (enters_of Tryz.func147 (by kernel_rfl) rfl) 148 #[.pointer (some ⟨Bm,0,none⟩)] trivial (enters_of Tryz.func148 (by kernel_rfl) rfl) _ _ Hs Cj w Ck
 ·have Ck:SeqGives Fence.wide 2 Tryz.prog 148 #[.pointer (some ⟨Bm,0,none⟩)] encStr (fun ss:List (List UInt8)=>ss = []) 0 w:=
   AnyZ.keys_gives_nil (ρ:=Tryz.nX) { Tryz.BQ with } Fence.wide _ trivial rfl Bm w h1 h2
  refine Calls.mono ((callsIn_wide (n:=5)).1 (AnyZ.sorted_in Tryz.pg Fence.wide 5 trivial trivial trivial trivial rfl (by omega) (Tryz.ug _) (enters_of Tryz.func147 (by kernel_rfl) rfl) 148 #[.pointer (some ⟨Bm,0,none⟩)] trivial (enters_of Tryz.func148 (by kernel_rfl) rfl) _ 0 (Nat.zero_le _) (by omega) w Ck)) fun e w' hR=>?_;obtain ⟨v,ss,rfl,s1,s2,s3,s4⟩:=hR;exact ⟨by rw [s3.2 s1],s4⟩
theorem Tryz.zg:AM.rj Tryz.prog 122 172 136:=fun mb W=>callsIn_wide.1 (AnyZ.keys_in Tryz.yL Fence.wide 5 trivial rfl mb W)
theorem Tryz.vh:AM.mB Tryz.prog 88 172 9:=by
 refine ⟨fun Bm b nn D0 w h1 h2 FB Hs Cj=>(callsIn_wide (n:=5)).1 ?_,fun Bm w h1 h2=>?_⟩
 ·have Ck:SeqGives Fence.wide 2 Tryz.prog 172 #[.pointer (some ⟨Bm,0,none⟩)] encStr (fun ss=>ss.Perm (strKeys D0)) (Maps.size D0) w:=
   AnyZ.keys_gives (ρ:=Tryz.l8) { Tryz.yL with } Fence.wide _ trivial rfl (by omega) Bm b nn D0 w h1 h2 FB
  exact AnyZ.sorted_in Tryz.pg Fence.wide 5 trivial trivial trivial trivial rfl (by omega) (Tryz.ug _) (enters_of Tryz.func147 (by kernel_rfl) rfl) 172 #[.pointer (some ⟨Bm,0,none⟩)] trivial (enters_of Tryz.func172 (by kernel_rfl) rfl) _ _ Hs Cj w Ck
 ·have Ck:SeqGives Fence.wide 2 Tryz.prog 172 #[.pointer (some ⟨Bm,0,none⟩)] encStr (fun ss:List (List UInt8)=>ss = []) 0 w:=
   AnyZ.keys_gives_nil (ρ:=Tryz.l8) { Tryz.yL with } Fence.wide _ trivial rfl Bm w h1 h2
  refine Calls.mono ((callsIn_wide (n:=5)).1 (AnyZ.sorted_in Tryz.pg Fence.wide 5 trivial trivial trivial trivial rfl (by omega) (Tryz.ug _) (enters_of Tryz.func147 (by kernel_rfl) rfl) 172 #[.pointer (some ⟨Bm,0,none⟩)] trivial (enters_of Tryz.func172 (by kernel_rfl) rfl) _ 0 (Nat.zero_le _) (by omega) w Ck)) fun e w' hR=>?_;obtain ⟨v,ss,rfl,s1,s2,s3,s4⟩:=hR;exact ⟨by rw [s3.2 s1],s4⟩
end Go.Proofs
namespace Go.AM
open Go Go.Proofs
noncomputable section
noncomputable abbrev TP:Go.Program:=Tryz.prog
noncomputable abbrev EV:=jB TP (aq TP)
variable {K:Out->Heap->Bool} {h:Heap} {a0 a1:AV} {e:Env} {J:AX->St->Bool} {n v:Int} {i b:Nat} {x:Sl Int}
theorem mixed:Tryz.prog.follows .mixedOrders=true:=by kernel_rfl
noncomputable abbrev RL (f:Go.Func):=BP TP OW f.results.toList
noncomputable abbrev LK (i:Nat) (f:Go.Func) (p:List Nat) (K:Out->Heap->Bool):=ej i (ox false (EV (partOf (aj f) p)) (RL f K))
theorem SB{f:FuncId}{fn:Go.Func}(Da:TP.funcs[f]?=some fn){args:List AV}{h:Heap}{K:Out->Heap->Bool}
  (hh:EV (aj fn) ⟨az args,fn.ntmps,[],h⟩ (RL fn K)=true) (hb:fn.body=some (aj fn):=by rfl) (hn:fn.name≠ "runtime.NumGoroutine":=by decide) (hl:Nat.ble args.length fn.ntmps=true:=by kernel_rfl):Sem TP f args h K:=Fy mixed (D2 _) Da hb hn (Nat.le_of_ble_eq_true hl) hh
abbrev I6(x:Int):AV:=.int .i64 x
abbrev bT:AV:=.bool true
abbrev bF:AV:=.bool false
abbrev sC(l:List AV):Option gh:=some (.cells l)
abbrev sM(e:Env)(n:Nat)(h:Heap):St:=⟨e,n,[],h⟩
abbrev pK(K:Out->Heap->Bool):AV->Heap->Bool:=fun v h=>K (.panic v) h
abbrev rK(K:Out->Heap->Bool):AV->Heap->Bool:=fun v h=>K (.ret v) h
abbrev pS(K:AX->St->Bool)(e:Env)(n:Nat):AV->Heap->Bool:=fun v h=>K (.panic v) ⟨e,n,[],h⟩
abbrev fF:AV->Heap->Bool:=fun _ _=>false
abbrev Th(x:Sl bI):AV:=cp encS 1 x
abbrev gr(x:Sl Int):AV:=cp AM.encI 1 x
noncomputable def LG:Code->List Oper
 |.seq (.region _ ops _) _=>ops.toList
 |_=>[]
noncomputable def Nz:Code->Nat
 |.seq (.region id _ _) _=>id
 |_=>0
noncomputable def FQ:List Oper->Oper
 |o :: _=>o
 |[]=>default
noncomputable def NA:Op->Array TypeId
 |.call c=>c.argTypes
 |_=>#[]
def F0:xG:=fun f=>if f=105 then some lf else if f=106 then some p7 else if f=89 then some (AE 148) else if f=122 then some (AE 172) else if f=88 then some (Ln (jV 172) (jV 148)) else none
theorem FR:Enters TP 89:=⟨_,_,Tryz.func89,rfl,by decide⟩
theorem Ea:Enters TP 122:=⟨_,_,Tryz.func122,rfl,by decide⟩
theorem AO:Enters TP 88:=⟨_,_,Tryz.func88,rfl,by decide⟩
theorem Eb:Enters TP 105:=⟨_,_,Tryz.func105,rfl,by decide⟩
theorem Ec:Enters TP 106:=⟨_,_,Tryz.func106,rfl,by decide⟩
theorem kH:gK TP F0:=by
 intro f g hg args h K hK;unfold F0 at hg;split at hg
 ·rename_i e;subst e;cases hg;exact wR Eb AL args h K hK
 split at hg
 ·rename_i e;subst e;cases hg;exact wQ Ec JJ args h K hK
 split at hg
 ·rename_i e;subst e;cases hg;exact sI FR Tryz.AN args h K hK
 split at hg
 ·rename_i e;subst e;cases hg;exact sI Ea Tryz.zg args h K hK
 split at hg
 ·rename_i e;subst e;cases hg;rcases Ju hK with hK|hK
  ·exact nO AO (by kernel_rfl) Tryz.vh args h K hK
  exact nO AO (by kernel_rfl) Tryz.wS args h K hK
 ·cases hg
noncomputable def qa:List Oper:=LG (aj Tryz.f72)
noncomputable def yc:Code:=partOf (aj Tryz.f72) [1]
def D0:j8:=fun f=>if f=72 then some (fun args zW h K=>Nat.ble args.length 2&&Ce TP 11 5 qa yc args zW h K) else none
theorem Ed:Dj TP 72 11 5 qa yc 2:=⟨⟨Tryz.f72,Nz (aj Tryz.f72),FQ qa,NA (FQ qa).op,Tryz.func72,by kernel_rfl,by kernel_rfl,by decide,by kernel_rfl,by decide,by decide,by kernel_rfl,by kernel_rfl,by kernel_rfl,by kernel_rfl⟩⟩
theorem AP:uU TP D0:=by
 intro f g hg;unfold D0 at hg;split at hg
 ·rename_i e;subst e;cases hg;refine ⟨⟨_,_,Tryz.func72,rfl,by decide⟩,fun args zW h K hh w0 μ w vs pv h1 h2 h3=>?_⟩;simp only [Bool.and_eq_true] at hh;exact (zb mixed Ed (Nat.le_of_ble_eq_true hh.1) hh.2).2 w0 μ w vs pv h1 h2 h3
 cases hg
theorem F.sX:EV (aj Tryz.f163) (sM (az [a0]) 17 h) (RL Tryz.f163 K)=(af (aC .geq a0 (.int .u8 97)) fun a=>ah a (af (aC .leq a0 (.int .u8 122)) fun b=>ah b (K (.ret bT) h) (af (aC .geq a0 (.int .u8 65)) fun c=>ah c (af (aC .leq a0 (.int .u8 90)) fun d=>K (.ret d) h) (K (.ret bF) h))) (af (aC .geq a0 (.int .u8 65)) fun f=>ah f (af (aC .leq a0 (.int .u8 90)) fun g=>K (.ret g) h) (K (.ret bF) h))):=by kernel_rfl
theorem F.rz(hh:EV (aj Tryz.f163) (sM (az [a0]) 17 h) (RL Tryz.f163 K)=true):Sem TP 163 [a0] h K:=
 SB Tryz.func163 hh
theorem F.wT:EV (aj Tryz.f164) (sM (az [a0]) 16 h) (RL Tryz.f164 K)=(af (fQ .string a0 (.str [97,110,100])) fun b=>ah b (ah b (K (.ret bT) h) (K (.ret bF) h)) (af (fQ .string a0 (.str [111,114])) fun c=>ah c (ah c (K (.ret bT) h) (K (.ret bF) h)) (af (fQ .string a0 (.str [110,111,116])) fun d=>ah d (ah d (K (.ret bT) h) (K (.ret bF) h)) (af (fQ .string a0 (.str [115,111,109,101])) fun f=>ah f (ah f (K (.ret bT) h) (K (.ret bF) h)) (af (fQ .string a0 (.str [97,108,108])) fun g=>ah g (ah g (K (.ret bT) h) (K (.ret bF) h)) (af (fQ .string a0 (.str [108,102,112])) fun i=>ah i (ah i (K (.ret bT) h) (K (.ret bF) h)) (af (fQ .string a0 (.str [112,102,112])) fun j=>ah j (ah j (K (.ret bT) h) (K (.ret bF) h)) (af (fQ .string a0 (.str [116,99])) fun k=>ah k (ah k (K (.ret bT) h) (K (.ret bF) h)) (af (fQ .string a0 (.str [101,120,105,115,116,115])) fun l=>ah l (ah l (K (.ret bT) h) (K (.ret bF) h)) (af (fQ .string a0 (.str [116,114,117,101])) fun m=>ah m (ah m (K (.ret bT) h) (K (.ret bF) h)) (af (fQ .string a0 (.str [102,97,108,115,101])) fun a=>ah a (K (.ret bT) h) (K (.ret bF) h)))))))))))):=by kernel_rfl
theorem F.vi(hh:EV (aj Tryz.f164) (sM (az [a0]) 16 h) (RL Tryz.f164 K)=true):Sem TP 164 [a0] h K:=
 SB Tryz.func164 hh
theorem F.vj:EV (aj Tryz.f165) (sM (az [a0]) 9 h) (RL Tryz.f165 K)=(af (aC .geq a0 (.int .u8 48)) fun a=>ah a (af (aC .leq a0 (.int .u8 57)) fun b=>K (.ret b) h) (K (.ret bF) h)):=by kernel_rfl
theorem F.sY(hh:EV (aj Tryz.f165) (sM (az [a0]) 9 h) (RL Tryz.f165 K)=true):Sem TP 165 [a0] h K:=
 SB Tryz.func165 hh
noncomputable def F.cG.L0:=partOf (aj Tryz.f107) [1,1,0,1,0,0]
noncomputable def F.cG.cB:=LK 0 Tryz.f107 [1,1,1]
theorem F.cG.aT:EV F.cG.L0 (sM e 40 h) J=(af (bB .str (e 0) h) fun f=>af (aC .lss (e 3) f) fun g=>let Q1:=(sL e [(22,e 3),(23,e 0),(24,f),(25,g)]);ah g (af (gE (e 0) (e 3)) fun a=>aq TP 163 [a] h (bH (fun i j=>af (j4 .not i) fun b=>let Q2:=(sL Q1 [(28,e 0),(29,e 3),(30,a),(31,i),(32,b),(33,b)]);ah b (af (gE (e 0) (e 3)) fun c=>aq TP 165 [c] j (bH (fun k l=>af (j4 .not k) fun d=>let Q3:=(sL Q2 [(33,bT),(34,e 0),(33,bT),(35,e 3),(33,bT),(36,c),(33,bT),(37,k),(33,bT),(38,d),(39,d)]);ah d (J .ret (sM (bZ Q3 2 bF) 40 l)) (af (aC .add (e 3) (I6 1)) fun m=>J .normal (sM (sL Q3 [(26,e 3),(27,m),(3,m)]) 40 l))) (pS J (sL Q2 [(33,bT),(34,e 0),(33,bT),(35,e 3),(33,bT),(36,c),(33,bT)]) 40))) (af (aC .add (e 3) (I6 1)) fun n=>J .normal (sM (sL Q2 [(33,bF),(34,aZ),(33,bF),(35,aZ),(33,bF),(36,aZ),(33,bF),(37,aZ),(33,bF),(38,aZ),(39,bF),(26,e 3),(27,n),(3,n)]) 40 j))) (pS J (sL Q1 [(28,e 0),(29,e 3),(30,a)]) 40))) (J (.exit 0) (sM Q1 40 h))):=by kernel_rfl
theorem F.cG.aF:F.cG.cB K (.exit 0) (sM e 40 h)=(K (.ret bT) h):=by kernel_rfl
theorem F.cG.bh:F.cG.cB K .ret (sM e 40 h)=(K (.ret (e 2)) h):=by kernel_rfl
theorem F.wU:EV (aj Tryz.f107) (sM (az [a0]) 40 h) (RL Tryz.f107 K)=(af (bB .str a0 h) fun j=>af (aC .lss j (I6 1)) fun f=>ah f (K (.ret bF) h) (af (bB .str a0 h) fun k=>af (aC .gtr k (I6 12)) fun c=>ah c (K (.ret bF) h) (af (gE a0 (I6 0)) fun l=>aq TP 163 [l] h (bH (fun m n=>af (j4 .not m) fun d=>ah d (K (.ret bF) n) (aq TP 164 [a0] n (bH (fun a b=>ah a (K (.ret bF) b) (bS (EV F.cG.L0) (sM (sL (az [a0]) [(2,bF),(4,a0),(5,j),(6,f),(7,f),(7,bF),(8,a0),(7,bF),(9,k),(7,bF),(10,c),(11,c),(12,c),(12,bF),(13,a0),(12,bF),(14,l),(12,bF),(15,m),(12,bF),(16,d),(17,d),(18,d),(18,bF),(19,a0),(18,bF),(20,a),(21,a),(3,I6 1)]) 40 b) (F.cG.cB K))) (pK K)))) (pK K))))):=by kernel_rfl
theorem F.vk(hh:EV (aj Tryz.f107) (sM (az [a0]) 40 h) (RL Tryz.f107 K)=true):Sem TP 107 [a0] h K:=
 SB Tryz.func107 hh
noncomputable def F.dK.L0:=partOf (aj Tryz.f108) [1,0,1,0,0]
noncomputable def F.dK.cB:=LK 0 Tryz.f108 [1,1]
theorem F.dK.aT:EV F.dK.L0 (sM e 25 h) J=(af (bB .slice (e 1) h) fun c=>af (aC .lss (e 5) c) fun d=>let Q1:=(sL e [(6,e 5),(7,e 1),(8,c),(9,d)]);ah d (il 1 (e 1) (e 5) h fun j f=>af (aC .lss f (I6 0)) fun a=>let Q2:=(sL Q1 [(12,e 1),(13,e 5),(14,j),(15,f),(16,a),(17,a)]);ah a (J .ret (sM (sL Q2 [(17,bT),(18,aZ),(17,bT),(19,aZ),(17,bT),(20,aZ),(17,bT),(21,aZ),(17,bT),(22,aZ),(17,bT),(23,aZ),(24,bT),(4,bF)]) 25 h)) (il 1 (e 1) (e 5) h fun k g=>af (aC .geq g (e 0)) fun b=>let Q3:=(sL Q2 [(17,bF),(18,e 1),(17,bF),(19,e 5),(17,bF),(20,k),(17,bF),(21,g),(17,bF),(22,e 0),(17,bF),(23,b),(24,b)]);ah b (J .ret (sM (bZ Q3 4 bF) 25 h)) (af (aC .add (e 5) (I6 1)) fun i=>J .normal (sM (sL Q3 [(10,e 5),(11,i),(5,i)]) 25 h)))) (J (.exit 0) (sM Q1 25 h))):=by kernel_rfl
theorem F.dK.aF:F.dK.cB K (.exit 0) (sM e 25 h)=(K (.ret bT) h):=by kernel_rfl
theorem F.dK.bh:F.dK.cB K .ret (sM e 25 h)=(K (.ret (e 4)) h):=by kernel_rfl
theorem F.AQ:EV (aj Tryz.f108) (sM (az [a0,a1]) 25 h) (RL Tryz.f108 K)=(bS (EV F.dK.L0) (sM (sL (az [a0,a1]) [(4,bF),(5,I6 0)]) 25 h) (F.dK.cB K)):=by kernel_rfl
theorem F.zh(hh:EV (aj Tryz.f108) (sM (az [a0,a1]) 25 h) (RL Tryz.f108 K)=true):Sem TP 108 [a0,a1] h K:=
 SB Tryz.func108 hh
theorem F.sZ:EV (aj Tryz.f191) (sM (az [a0]) 17 h) (RL Tryz.f191 K)=(af (aC .geq a0 (.int .u8 97)) fun a=>ah a (af (aC .leq a0 (.int .u8 122)) fun b=>ah b (K (.ret bT) h) (af (aC .geq a0 (.int .u8 65)) fun c=>ah c (af (aC .leq a0 (.int .u8 90)) fun d=>K (.ret d) h) (K (.ret bF) h))) (af (aC .geq a0 (.int .u8 65)) fun f=>ah f (af (aC .leq a0 (.int .u8 90)) fun g=>K (.ret g) h) (K (.ret bF) h))):=by kernel_rfl
theorem F.rA(hh:EV (aj Tryz.f191) (sM (az [a0]) 17 h) (RL Tryz.f191 K)=true):Sem TP 191 [a0] h K:=
 SB Tryz.func191 hh
theorem F.wV:EV (aj Tryz.f192) (sM (az [a0]) 16 h) (RL Tryz.f192 K)=(af (fQ .string a0 (.str [97,110,100])) fun b=>ah b (ah b (K (.ret bT) h) (K (.ret bF) h)) (af (fQ .string a0 (.str [111,114])) fun c=>ah c (ah c (K (.ret bT) h) (K (.ret bF) h)) (af (fQ .string a0 (.str [110,111,116])) fun d=>ah d (ah d (K (.ret bT) h) (K (.ret bF) h)) (af (fQ .string a0 (.str [115,111,109,101])) fun f=>ah f (ah f (K (.ret bT) h) (K (.ret bF) h)) (af (fQ .string a0 (.str [97,108,108])) fun g=>ah g (ah g (K (.ret bT) h) (K (.ret bF) h)) (af (fQ .string a0 (.str [108,102,112])) fun i=>ah i (ah i (K (.ret bT) h) (K (.ret bF) h)) (af (fQ .string a0 (.str [112,102,112])) fun j=>ah j (ah j (K (.ret bT) h) (K (.ret bF) h)) (af (fQ .string a0 (.str [116,99])) fun k=>ah k (ah k (K (.ret bT) h) (K (.ret bF) h)) (af (fQ .string a0 (.str [101,120,105,115,116,115])) fun l=>ah l (ah l (K (.ret bT) h) (K (.ret bF) h)) (af (fQ .string a0 (.str [116,114,117,101])) fun m=>ah m (ah m (K (.ret bT) h) (K (.ret bF) h)) (af (fQ .string a0 (.str [102,97,108,115,101])) fun a=>ah a (K (.ret bT) h) (K (.ret bF) h)))))))))))):=by kernel_rfl
theorem F.vl(hh:EV (aj Tryz.f192) (sM (az [a0]) 16 h) (RL Tryz.f192 K)=true):Sem TP 192 [a0] h K:=
 SB Tryz.func192 hh
theorem F.vm:EV (aj Tryz.f193) (sM (az [a0]) 9 h) (RL Tryz.f193 K)=(af (aC .geq a0 (.int .u8 48)) fun a=>ah a (af (aC .leq a0 (.int .u8 57)) fun b=>K (.ret b) h) (K (.ret bF) h)):=by kernel_rfl
theorem F.s5(hh:EV (aj Tryz.f193) (sM (az [a0]) 9 h) (RL Tryz.f193 K)=true):Sem TP 193 [a0] h K:=
 SB Tryz.func193 hh
noncomputable def F.cH.L0:=partOf (aj Tryz.f152) [1,1,0,1,0,0]
noncomputable def F.cH.cB:=LK 0 Tryz.f152 [1,1,1]
theorem F.cH.aT:EV F.cH.L0 (sM e 39 h) J=(af (aC .lss (e 23) (e 22)) fun f=>let Q1:=(bZ e 24 f);ah f (af (gE (e 0) (e 23)) fun a=>aq TP 191 [a] h (bH (fun g i=>af (j4 .not g) fun b=>let Q2:=(sL Q1 [(25,e 23),(3,e 23),(26,e 0),(27,e 23),(28,a),(29,g),(30,b),(31,b)]);ah b (af (gE (e 0) (e 23)) fun c=>aq TP 193 [c] i (bH (fun j k=>af (j4 .not j) fun d=>let Q3:=(sL Q2 [(31,bT),(32,e 0),(31,bT),(33,e 23),(31,bT),(34,c),(31,bT),(35,j),(31,bT),(36,d),(37,d)]);ah d (J .ret (sM (bZ Q3 2 bF) 39 k)) (af (aC .add (e 23) (I6 1)) fun l=>J .normal (sM (sL Q3 [(38,l),(23,l)]) 39 k))) (pS J (sL Q2 [(31,bT),(32,e 0),(31,bT),(33,e 23),(31,bT),(34,c),(31,bT)]) 39))) (af (aC .add (e 23) (I6 1)) fun m=>J .normal (sM (sL Q2 [(31,bF),(32,aZ),(31,bF),(33,aZ),(31,bF),(34,aZ),(31,bF),(35,aZ),(31,bF),(36,aZ),(37,bF),(38,m),(23,m)]) 39 i))) (pS J (sL Q1 [(25,e 23),(3,e 23),(26,e 0),(27,e 23),(28,a)]) 39))) (J (.exit 0) (sM Q1 39 h))):=by kernel_rfl
theorem F.cH.aF:F.cH.cB K (.exit 0) (sM e 39 h)=(K (.ret bT) h):=by kernel_rfl
theorem F.cH.bh:F.cH.cB K .ret (sM e 39 h)=(K (.ret (e 2)) h):=by kernel_rfl
theorem F.wW:EV (aj Tryz.f152) (sM (az [a0]) 39 h) (RL Tryz.f152 K)=(af (fQ .string a0 (.str [])) fun d=>ah d (K (.ret bF) h) (af (bB .str a0 h) fun k=>af (aC .gtr k (I6 12)) fun b=>ah b (K (.ret bF) h) (af (gE a0 (I6 0)) fun l=>aq TP 191 [l] h (bH (fun m n=>af (j4 .not m) fun c=>ah c (K (.ret bF) n) (aq TP 192 [a0] n (bH (fun f a=>ah f (K (.ret bF) a) (af (bB .str a0 a) fun g=>bS (EV F.cH.L0) (sM (sL (az [a0]) [(2,bF),(4,a0),(5,d),(6,d),(6,bF),(7,a0),(6,bF),(8,k),(6,bF),(9,b),(10,b),(11,b),(11,bF),(12,a0),(11,bF),(13,l),(11,bF),(14,m),(11,bF),(15,c),(16,c),(17,c),(17,bF),(18,a0),(17,bF),(19,f),(20,f),(21,a0),(22,g),(23,I6 0)]) 39 a) (F.cH.cB K))) (pK K)))) (pK K))))):=by kernel_rfl
theorem F.vo(hh:EV (aj Tryz.f152) (sM (az [a0]) 39 h) (RL Tryz.f152 K)=true):Sem TP 152 [a0] h K:=
 SB Tryz.func152 hh
noncomputable def F.aJ.L0:=partOf (aj Tryz.f168) [1,0,1,0,0]
noncomputable def F.aJ.cB:=LK 0 Tryz.f168 [1,1]
theorem F.aJ.aT:EV F.aJ.L0 (sM e 19 h) J=(af (aC .lss (e 8) (e 7)) fun b=>let Q1:=(bZ e 9 b);ah b (il 1 (e 0) (e 8) h fun c a=>Ay (e 1) fun f9 NB NC=>aq TP f9 (NB++([a]++NC)) h (bH (fun d f=>let Q2:=(sL Q1 [(10,e 8),(5,e 8),(11,e 1),(12,e 0),(13,e 8),(14,c),(15,a),(16,d)]);ah d (J .ret (sM (sL Q2 [(17,e 8),(4,e 8)]) 19 f)) (af (aC .add (e 8) (I6 1)) fun g=>J .normal (sM (sL Q2 [(18,g),(8,g)]) 19 f))) (pS J (sL Q1 [(10,e 8),(5,e 8),(11,e 1),(12,e 0),(13,e 8),(14,c),(15,a)]) 19))) (J (.exit 0) (sM Q1 19 h))):=by kernel_rfl
theorem F.aJ.aF:F.aJ.cB K (.exit 0) (sM e 19 h)=(K (.ret (I6 (-1))) h):=by kernel_rfl
theorem F.aJ.bh:F.aJ.cB K .ret (sM e 19 h)=(K (.ret (e 4)) h):=by kernel_rfl
theorem F.fe:EV (aj Tryz.f168) (sM (az [a0,a1]) 19 h) (RL Tryz.f168 K)=(af (bB .slice a0 h) fun a=>bS (EV F.aJ.L0) (sM (sL (az [a0,a1]) [(4,I6 0),(6,a0),(7,a),(8,I6 0)]) 19 h) (F.aJ.cB K)):=by kernel_rfl
theorem F.eZ(hh:EV (aj Tryz.f168) (sM (az [a0,a1]) 19 h) (RL Tryz.f168 K)=true):Sem TP 168 [a0,a1] h K:=
 SB Tryz.func168 hh
theorem F.eM:EV (aj Tryz.f112) (sM (az [a0,a1]) 9 h) (RL Tryz.f112 K)=(aq TP 168 [a0,a1] h (bH (fun a b=>af (aC .geq a (I6 0)) fun c=>K (.ret c) b) (pK K))):=by kernel_rfl
theorem F.eB(hh:EV (aj Tryz.f112) (sM (az [a0,a1]) 9 h) (RL Tryz.f112 K)=true):Sem TP 112 [a0,a1] h K:=
 SB Tryz.func112 hh
theorem F.qb:EV (aj Tryz.f166) (sM (az [a0,a1]) 11 h) (RL Tryz.f166 K)=(af (aC .lss a0 (I6 0)) fun a=>ah a (K (.ret bT) h) (af (au none a1 h) fun b=>af (aC .geq a0 b) fun c=>K (.ret c) h)):=by kernel_rfl
theorem F.oC(hh:EV (aj Tryz.f166) (sM (az [a0,a1]) 11 h) (RL Tryz.f166 K)=true):Sem TP 166 [a0,a1] h K:=
 SB Tryz.func166 hh
theorem F.qc:EV (aj Tryz.f167) (sM (az [a0,a1]) 11 h) (RL Tryz.f167 K)=(af (aC .lss a0 (I6 0)) fun a=>ah a (K (.ret bT) h) (af (au none a1 h) fun b=>af (aC .geq a0 b) fun c=>K (.ret c) h)):=by kernel_rfl
theorem F.oD(hh:EV (aj Tryz.f167) (sM (az [a0,a1]) 11 h) (RL Tryz.f167 K)=true):Sem TP 167 [a0,a1] h K:=
 SB Tryz.func167 hh
theorem F.s7{a2:AV}:EV (aj Tryz.f109) (sM (az [a0,a1,a2]) 77 h) (RL Tryz.f109 K)=(af (eR a0) fun c=>af (eR a1) fun d=>af (eR a2) fun f=>fl 0 (nP h) (hA (hA (hA h c) d) f) fun x3 x4=>af (aC .lss x4 (I6 0)) fun x5=>ah x5 (K (.ret bF) (hA (hA (hA h c) d) f)) (fl 0 (nP h) (hA (hA (hA h c) d) f) fun x6 x7=>af (aC .geq x7 (I6 5)) fun x8=>ah x8 (K (.ret bF) (hA (hA (hA h c) d) f)) (fl 3 (nP h) (hA (hA (hA h c) d) f) fun x9 g=>aq TP 112 [g,(.func 166 [] [(.ptr (Heap.next (hA h c)) 0)])] (hA (hA (hA h c) d) f) (bH (fun i a=>ah i (K (.ret bF) a) (fl 0 (nP h) a fun O4 j=>af (fQ (.int .i64) j (I6 1)) fun k=>ah k (fl 1 (nP h) a fun Ti l=>aq TP 152 [l] a (bH (fun m b=>ah m (fl 2 (nP h) b fun Tj n=>af (bB .slice n b) fun o=>af (aC .leq o (I6 12)) fun p=>ah p (fl 3 (nP h) b fun Tk q=>af (bB .slice q b) fun r=>af (fQ (.int .i64) r (I6 0)) fun s=>ah s (fl 2 (nP h) b fun O5 t=>aq TP 112 [t,(.func 167 [] [(.ptr (Heap.next (hA (hA h c) d)) 0)])] b (bH (fun u v=>af (j4 .not u) fun w=>K (.ret w) v) (pK K))) (K (.ret bF) b)) (K (.ret bF) b)) (K (.ret bF) b)) (pK K))) (fl 1 (nP h) a fun Tl B=>af (fQ .string B (.str [])) fun C=>ah C (fl 2 (nP h) a fun Tm D=>af (bB .slice D a) fun E=>af (fQ (.int .i64) E (I6 0)) fun G=>ah G (fl 0 (nP h) a fun O6 I=>af (jN (.int .i64) I (I6 0)) fun J=>ah J (fl 0 (nP h) a fun O7 L=>af (jN (.int .i64) L (I6 2)) fun M=>ah M (K (.ret bT) a) (fl 3 (nP h) a fun Tn N=>af (bB .slice N a) fun O=>af (fQ (.int .i64) O (I6 1)) fun P=>K (.ret P) a)) (fl 3 (nP h) a fun To R=>af (bB .slice R a) fun S=>af (fQ (.int .i64) S (I6 0)) fun T=>ah T (fl 0 (nP h) a fun O8 U=>af (jN (.int .i64) U (I6 2)) fun V=>ah V (K (.ret bT) a) (fl 3 (nP h) a fun O9 W=>af (bB .slice W a) fun X=>af (fQ (.int .i64) X (I6 1)) fun Y=>K (.ret Y) a)) (K (.ret bF) a))) (K (.ret bF) a)) (K (.ret bF) a)))) (pK K))))):=by kernel_rfl
theorem F.rB{a2:AV}(hh:EV (aj Tryz.f109) (sM (az [a0,a1,a2]) 77 h) (RL Tryz.f109 K)=true):Sem TP 109 [a0,a1,a2] h K:=
 SB Tryz.func109 hh
noncomputable def F.cq.L0:=partOf (aj Tryz.f54) [1,1,1,0,1,0,0]
noncomputable def F.cq.cB:=LK 0 Tryz.f54 [1,1,1,1]
theorem F.cq.aT:EV F.cq.L0 (sM e 70 h) J=(af (aC .lss (e 33) (e 32)) fun m=>let Q1:=(bZ e 34 m);ah m (af (iZ 4 (e 31) (e 33)) fun f=>af (au (some 4) f h) fun g=>af (bD 4 (nP h) g (hA h [(I6 0),(.str []),.aE,.aE])) fun i=>af (au (some 4) (nP h) i) fun j=>fl 0 (e 1) i fun n k=>aq TP 109 [j,(e 33),k] i (bH (fun o a=>af (j4 .not o) fun p=>let Q2:=(sL Q1 [(35,e 33),(36,f),(37,g),(6,nP h),(5,e 33),(38,j),(39,e 33),(40,n),(41,k),(42,o),(43,p)]);ah p (J .ret (sM (sL Q2 [(2,.dI),(3,bF)]) 70 a)) (fl 0 (nP h) a fun E q=>af (jN (.int .i64) q (I6 1)) fun r=>let Q3:=(sL Q2 [(44,E),(45,q),(46,r)]);ah r (af (aC .add (e 33) (I6 1)) fun s=>J .normal (sM (sL Q3 [(68,s),(33,s)]) 70 a)) (fl 1 (nP h) a fun G t=>af (dy .string (I6 0) true (e 4) t a) fun c=>af (aW c 0) fun d=>af (aW c 1) fun b=>let Q4:=(sL Q3 [(48,e 4),(49,G),(50,t),(51,c),(47,c),(52,d),(53,b),(7,d),(8,b),(54,b),(55,b)]);ah b (fl 2 (nP h) a fun I u=>af (bB .slice u a) fun v=>af (jN (.int .i64) d v) fun l=>let Q5:=(sL Q4 [(55,bT),(56,d),(55,bT),(57,I),(55,bT),(58,u),(55,bT),(59,v),(55,bT),(60,l),(61,l)]);ah l (J .ret (sM (sL Q5 [(2,.dI),(3,bF)]) 70 a)) (fl 1 (nP h) a fun L w=>fl 2 (nP h) a fun M x=>af (bB .slice x a) fun y=>af (cF .string (e 4) w y a) fun N=>af (aC .add (e 33) (I6 1)) fun z=>J .normal (sM (sL Q5 [(62,e 4),(63,L),(64,w),(65,M),(66,x),(67,y),(68,z),(33,z)]) 70 N))) (fl 1 (nP h) a fun O A=>fl 2 (nP h) a fun P B=>af (bB .slice B a) fun C=>af (cF .string (e 4) A C a) fun R=>af (aC .add (e 33) (I6 1)) fun D=>J .normal (sM (sL Q4 [(55,bF),(56,aZ),(55,bF),(57,aZ),(55,bF),(58,aZ),(55,bF),(59,aZ),(55,bF),(60,aZ),(61,bF),(62,e 4),(63,O),(64,A),(65,P),(66,B),(67,C),(68,D),(33,D)]) 70 R))))) (pS J (sL Q1 [(35,e 33),(36,f),(37,g),(6,nP h),(5,e 33),(38,j),(39,e 33),(40,n),(41,k)]) 70))) (J (.exit 0) (sM Q1 70 h))):=by kernel_rfl
theorem F.cq.aF:F.cq.cB K (.exit 0) (sM e 70 h)=(K (.ret (.tuple [(e 4),bT])) h):=by kernel_rfl
theorem F.cq.bh:F.cq.cB K .ret (sM e 70 h)=(K (.ret (.tuple [(e 2),(e 3)])) h):=by kernel_rfl
theorem F.s8:EV (aj Tryz.f54) (sM (az [a0]) 70 h) (RL Tryz.f54 K)=(af (eR a0) fun a=>fl 0 (nP h) (Heap.alloc (hA h a) (.map [] 0)) fun r n=>af (aC .lss n (I6 1)) fun j=>ah j (K (.ret (.tuple [.dI,bF])) (Heap.alloc (hA h a) (.map [] 0))) (fl 0 (nP h) (Heap.alloc (hA h a) (.map [] 0)) fun s o=>af (aC .gtr o (I6 64)) fun i=>ah i (K (.ret (.tuple [.dI,bF])) (Heap.alloc (hA h a) (.map [] 0))) (fl 1 (nP h) (Heap.alloc (hA h a) (.map [] 0)) fun t p=>af (bB .slice p (Heap.alloc (hA h a) (.map [] 0))) fun q=>af (aC .lss q (I6 1)) fun b=>ah b (K (.ret (.tuple [.dI,bF])) (Heap.alloc (hA h a) (.map [] 0))) (fl 1 (nP h) (Heap.alloc (hA h a) (.map [] 0)) fun k d=>af (bB .slice d (Heap.alloc (hA h a) (.map [] 0))) fun f=>af (aC .gtr f (I6 20000)) fun c=>ah c (K (.ret (.tuple [.dI,bF])) (Heap.alloc (hA h a) (.map [] 0))) (fl 1 (nP h) (Heap.alloc (hA h a) (.map [] 0)) fun l g=>af (bB .slice g (Heap.alloc (hA h a) (.map [] 0))) fun m=>bS (EV F.cq.L0) (sM (sL (az [a0]) [(1,nP h),(2,.dI),(3,bF),(9,.map (Heap.next (hA h a))),(4,.map (Heap.next (hA h a))),(10,r),(11,n),(12,j),(13,j),(13,bF),(14,s),(13,bF),(15,o),(13,bF),(16,i),(17,i),(18,i),(18,bF),(19,t),(18,bF),(20,p),(18,bF),(21,q),(18,bF),(22,b),(23,b),(24,b),(24,bF),(25,k),(24,bF),(26,d),(24,bF),(27,f),(24,bF),(28,c),(29,c),(30,l),(31,g),(32,m),(33,I6 0)]) 70 (Heap.alloc (hA h a) (.map [] 0))) (F.cq.cB K)))))):=by kernel_rfl
theorem F.rC(hh:EV (aj Tryz.f54) (sM (az [a0]) 70 h) (RL Tryz.f54 K)=true):Sem TP 54 [a0] h K:=
 SB Tryz.func54 hh
noncomputable def F.bX.L0:=partOf (aj Tryz.f53) [1,1,1,0,1,0,0]
noncomputable def F.bX.cB:=LK 0 Tryz.f53 [1,1,1,1]
theorem F.bX.aT:EV F.bX.L0 (sM e 89 h) J=(fl 3 (e 5) h fun m c=>af (bB .slice c h) fun d=>af (aC .lss (e 6) d) fun f=>let Q1:=(sL e [(26,e 6),(27,m),(28,c),(29,d),(30,f)]);ah f (fl 3 (e 5) h fun n g=>il 1 g (e 6) h fun o i=>af (aC .lss i (I6 0)) fun a=>let Q2:=(sL Q1 [(33,n),(34,g),(35,e 6),(36,o),(37,i),(38,a),(39,a)]);ah a (J .ret (sM (sL Q2 [(39,bT),(40,aZ),(39,bT),(41,aZ),(39,bT),(42,aZ),(39,bT),(43,aZ),(39,bT),(44,aZ),(39,bT),(45,aZ),(39,bT),(46,aZ),(47,bT),(4,bF)]) 89 h)) (fl 3 (e 5) h fun p j=>il 1 j (e 6) h fun q k=>af (aC .geq k (e 1)) fun b=>let Q3:=(sL Q2 [(39,bF),(40,p),(39,bF),(41,j),(39,bF),(42,e 6),(39,bF),(43,q),(39,bF),(44,k),(39,bF),(45,e 1),(39,bF),(46,b),(47,b)]);ah b (J .ret (sM (bZ Q3 4 bF) 89 h)) (af (aC .add (e 6) (I6 1)) fun l=>J .normal (sM (sL Q3 [(31,e 6),(32,l),(6,l)]) 89 h)))) (J (.exit 0) (sM Q1 89 h))):=by kernel_rfl
theorem F.bX.aF:F.bX.cB K (.exit 0) (sM e 89 h)=(fl 0 (e 5) h fun G b=>af (fQ (.int .i64) b (I6 0)) fun d=>ah d (fl 3 (e 5) h fun I f=>af (bB .slice f h) fun g=>af (fQ (.int .i64) g (I6 0)) fun i=>K (.ret i) h) (af (fQ (.int .i64) b (I6 1)) fun j=>ah j (fl 3 (e 5) h fun J k=>af (bB .slice k h) fun l=>af (fQ (.int .i64) l (I6 0)) fun m=>ah m (fl 1 (e 5) h fun L n=>aq TP 107 [n] h (bH (fun o a=>ah o (fl 2 (e 5) a fun M p=>af (bB .slice p a) fun q=>af (aC .leq q (I6 12)) fun r=>ah r (fl 0 (e 2) a fun N s=>fl 2 (e 5) a fun O t=>aq TP 108 [s,t] a (bH (rK K) (pK K))) (K (.ret bF) a)) (K (.ret bF) a)) (pK K))) (K (.ret bF) h)) (af (fQ (.int .i64) b (I6 2)) fun A=>ah A (fl 3 (e 5) h fun P B=>af (bB .slice B h) fun C=>af (fQ (.int .i64) C (I6 1)) fun D=>K (.ret D) h) (af (fQ (.int .i64) b (I6 3)) fun c=>ah c (ah c (K (.ret bT) h) (K (.ret bF) h)) (af (fQ (.int .i64) b (I6 4)) fun E=>ah E (K (.ret bT) h) (K (.ret bF) h)))))):=by kernel_rfl
theorem F.bX.bh:F.bX.cB K .ret (sM e 89 h)=(K (.ret (e 4)) h):=by kernel_rfl
theorem F.wX:EV (aj Tryz.f53) (sM (az [a0,a1]) 89 h) (RL Tryz.f53 K)=(af (eR a0) fun b=>fl 1 (nP h) (hA h b) fun p l=>af (iZ 4 l a1) fun m=>af (au (some 4) m (hA h b)) fun n=>af (bD 4 (.ptr (Heap.next (hA h b)) 0) n (hA (hA h b) [(I6 0),(.str []),.aE,.aE])) fun c=>fl 0 (.ptr (Heap.next (hA h b)) 0) c fun q o=>af (jN (.int .i64) o (I6 1)) fun j=>let Q1:=(sL (az [a0,a1]) [(2,nP h),(4,bF),(7,p),(8,l),(9,a1),(10,m),(11,n),(5,.ptr (Heap.next (hA h b)) 0),(12,q),(13,o),(14,j),(15,j)]);ah j (fl 1 (.ptr (Heap.next (hA h b)) 0) c fun r f=>af (jN .string f (.str [])) fun d=>ah d (K (.ret bF) c) (fl 2 (.ptr (Heap.next (hA h b)) 0) c fun k g=>af (bB .slice g c) fun i=>af (aC .gtr i (I6 0)) fun a=>ah a (K (.ret bF) c) (bS (EV F.bX.L0) (sM (sL Q1 [(15,bT),(16,r),(15,bT),(17,f),(15,bT),(18,d),(15,bT),(19,d),(19,bF),(20,k),(19,bF),(21,g),(19,bF),(22,i),(19,bF),(23,a),(15,bT),(24,a),(25,a),(6,I6 0)]) 89 c) (F.bX.cB K)))) (bS (EV F.bX.L0) (sM (sL Q1 [(15,bF),(16,aZ),(15,bF),(17,aZ),(15,bF),(18,aZ),(15,bF),(19,aZ),(20,aZ),(21,aZ),(22,aZ),(23,aZ),(15,bF),(24,aZ),(25,bF),(6,I6 0)]) 89 c) (F.bX.cB K))):=by kernel_rfl
theorem F.vp(hh:EV (aj Tryz.f53) (sM (az [a0,a1]) 89 h) (RL Tryz.f53 K)=true):Sem TP 53 [a0,a1] h K:=
 SB Tryz.func53 hh
noncomputable def F.cm.L0:=partOf (aj Tryz.f13) [1,1,1,0,1,0,0]
noncomputable def F.cm.cB:=LK 0 Tryz.f13 [1,1,1,1]
theorem F.cm.aT:EV F.cm.L0 (sM e 69 h) J=(fl 1 (e 1) h fun G j=>af (bB .slice j h) fun k=>af (aC .lss (e 4) k) fun l=>let Q1:=(sL e [(29,e 4),(30,G),(31,j),(32,k),(33,l)]);ah l (af (au (some 2) (e 1) h) fun g=>aq TP 53 [g,(e 4)] h (bH (fun m b=>af (j4 .not m) fun n=>let Q2:=(sL Q1 [(36,g),(37,e 4),(38,m),(39,n)]);ah n (J .ret (sM (bZ Q2 2 bF) 69 b)) (fl 1 (e 1) b fun I o=>af (iZ 4 o (e 4)) fun p=>af (au (some 4) p b) fun q=>af (bD 4 (nP b) q (hA b [(I6 0),(.str []),.aE,.aE])) fun a=>fl 0 (nP b) a fun L r=>af (fQ (.int .i64) r (I6 1)) fun s=>let Q3:=(sL Q2 [(40,I),(41,o),(42,e 4),(43,p),(44,q),(5,nP b),(45,L),(46,r),(47,s)]);ah s (fl 1 (nP b) a fun M t=>af (dy .string (I6 0) true (e 3) t a) fun d=>af (aW d 0) fun f=>af (aW d 1) fun c=>let Q4:=(sL Q3 [(49,e 3),(50,M),(51,t),(52,d),(48,d),(53,f),(54,c),(6,f),(7,c),(55,c),(56,c)]);ah c (fl 2 (nP b) a fun N u=>af (bB .slice u a) fun v=>af (jN (.int .i64) f v) fun i=>let Q5:=(sL Q4 [(56,bT),(57,f),(56,bT),(58,N),(56,bT),(59,u),(56,bT),(60,v),(56,bT),(61,i),(62,i)]);ah i (J .ret (sM (bZ Q5 2 bF) 69 a)) (fl 1 (nP b) a fun O w=>fl 2 (nP b) a fun P x=>af (bB .slice x a) fun y=>af (cF .string (e 3) w y a) fun R=>af (aC .add (e 4) (I6 1)) fun z=>J .normal (sM (sL Q5 [(63,e 3),(64,O),(65,w),(66,P),(67,x),(68,y),(34,e 4),(35,z),(4,z)]) 69 R))) (fl 1 (nP b) a fun S A=>fl 2 (nP b) a fun T B=>af (bB .slice B a) fun C=>af (cF .string (e 3) A C a) fun U=>af (aC .add (e 4) (I6 1)) fun D=>J .normal (sM (sL Q4 [(56,bF),(57,aZ),(56,bF),(58,aZ),(56,bF),(59,aZ),(56,bF),(60,aZ),(56,bF),(61,aZ),(62,bF),(63,e 3),(64,S),(65,A),(66,T),(67,B),(68,C),(34,e 4),(35,D),(4,D)]) 69 U))) (af (aC .add (e 4) (I6 1)) fun E=>J .normal (sM (sL Q3 [(34,e 4),(35,E),(4,E)]) 69 a)))) (pS J (sL Q1 [(36,g),(37,e 4)]) 69))) (J (.exit 0) (sM Q1 69 h))):=by kernel_rfl
theorem F.cm.aF:F.cm.cB K (.exit 0) (sM e 69 h)=(K (.ret bT) h):=by kernel_rfl
theorem F.cm.bh:F.cm.cB K .ret (sM e 69 h)=(K (.ret (e 2)) h):=by kernel_rfl
theorem F.vq:EV (aj Tryz.f13) (sM (az [a0]) 69 h) (RL Tryz.f13 K)=(af (eR a0) fun a=>fl 0 (nP h) (hA h a) fun o k=>af (aC .lss k (I6 1)) fun i=>ah i (K (.ret bF) (hA h a)) (fl 0 (nP h) (hA h a) fun p l=>af (aC .gtr l (I6 64)) fun g=>ah g (K (.ret bF) (hA h a)) (fl 1 (nP h) (hA h a) fun q m=>af (bB .slice m (hA h a)) fun n=>af (aC .lss n (I6 1)) fun b=>ah b (K (.ret bF) (hA h a)) (fl 1 (nP h) (hA h a) fun j d=>af (bB .slice d (hA h a)) fun f=>af (aC .gtr f (I6 20000)) fun c=>ah c (K (.ret bF) (hA h a)) (bS (EV F.cm.L0) (sM (sL (az [a0]) [(1,nP h),(2,bF),(8,o),(9,k),(10,i),(11,i),(11,bF),(12,p),(11,bF),(13,l),(11,bF),(14,g),(15,g),(16,g),(16,bF),(17,q),(16,bF),(18,m),(16,bF),(19,n),(16,bF),(20,b),(21,b),(22,b),(22,bF),(23,j),(22,bF),(24,d),(22,bF),(25,f),(22,bF),(26,c),(27,c),(28,.map (Heap.next (hA h a))),(3,.map (Heap.next (hA h a))),(4,I6 0)]) 69 (Heap.alloc (hA h a) (.map [] 0))) (F.cm.cB K)))))):=by kernel_rfl
theorem F.s9(hh:EV (aj Tryz.f13) (sM (az [a0]) 69 h) (RL Tryz.f13 K)=true):Sem TP 13 [a0] h K:=
 SB Tryz.func13 hh
noncomputable def F.eu.L0:=partOf (aj Tryz.f11) [1,1,0,1,0,0]
noncomputable def F.eu.cB:=LK 0 Tryz.f11 [1,1,1]
theorem F.eu.aT:EV F.eu.L0 (sM e 49 h) J=(fl 1 (e 2) h fun C y=>af (bB .slice y h) fun z=>af (aC .lss (e 6) z) fun p=>let Q1:=(sL e [(7,e 6),(8,C),(9,y),(10,z),(11,p),(12,p)]);ah p (af (aC .leq (e 5) (e 1)) fun q=>let Q2:=(sL Q1 [(12,bT),(13,e 5),(12,bT),(14,e 1),(12,bT),(15,q),(16,q)]);ah q (af (aC .add (e 5) (I6 1)) fun A=>fl 1 (e 2) h fun D B=>lP 4 B (e 6) 3 h fun E r a=>af (bB .slice a h) fun b=>af (aC .add A b) fun c=>fl 1 (e 2) h fun s d=>lP 4 d (e 6) 2 h fun t u f=>af (bB .slice f h) fun g=>af (aC .add c g) fun i=>fl 1 (e 2) h fun v j=>lP 4 j (e 6) 1 h fun w x k=>af (bB .str k h) fun l=>af (aC .quo l (I6 20)) fun m=>af (aC .add i m) fun n=>af (aC .add (e 6) (I6 1)) fun o=>J .normal (sM (sL Q2 [(19,e 5),(20,A),(21,D),(22,B),(23,e 6),(24,E),(25,r),(26,a),(27,b),(28,c),(29,s),(30,d),(31,e 6),(32,t),(33,u),(34,f),(35,g),(36,i),(37,v),(38,j),(39,e 6),(40,w),(41,x),(42,k),(43,l),(44,m),(45,n),(5,n),(17,e 6),(18,o),(6,o)]) 49 h)) (J (.exit 0) (sM Q2 49 h))) (J (.exit 0) (sM (sL Q1 [(12,bF),(13,aZ),(12,bF),(14,aZ),(12,bF),(15,aZ),(16,bF)]) 49 h))):=by kernel_rfl
theorem F.eu.aF:F.eu.cB K (.exit 0) (sM e 49 h)=(af (aC .leq (e 5) (e 1)) fun a=>K (.ret a) h):=by kernel_rfl
theorem F.zi:EV (aj Tryz.f11) (sM (az [a0,a1]) 49 h) (RL Tryz.f11 K)=(af (eR a0) fun a=>bS (EV F.eu.L0) (sM (sL (az [a0,a1]) [(2,nP h),(4,bF),(5,I6 0),(6,I6 0)]) 49 (hA h a)) (F.eu.cB K)):=by kernel_rfl
theorem F.wY(hh:EV (aj Tryz.f11) (sM (az [a0,a1]) 49 h) (RL Tryz.f11 K)=true):Sem TP 11 [a0,a1] h K:=
 SB Tryz.func11 hh
def iQ(n:Int):Bool:=(decide (97<=n)&&decide (n<=122))||(decide (65<=n)&&decide (n<=90))
def oE(n:Int):Bool:=decide (48<=n)&&decide (n<=57)
def words:List bI:=[[97,110,100],[111,114],[110,111,116],[115,111,109,101],[97,108,108],[108,102,112],[112,102,112],[116,99],[101,120,105,115,116,115],[116,114,117,101],[102,97,108,115,101]]
def vr(s:bI):Bool:=words.any fun w=>s==w
theorem qd(hK:K (.ret (.bool (iQ n))) h=true):Sem TP 163 [.int .u8 n] h K:=by
 refine F.rz ?_;rw [F.sX];simp only [k8,pY,cN,bC];unfold iQ at hK;by_cases h1:97<=n<;>by_cases h2:n<=122<;>by_cases h3:65<=n<;>by_cases h4:n<=90<;>simpa [h1,h2,h3,h4] using hK
theorem AR(hK:K (.ret (.bool (oE n))) h=true):Sem TP 165 [.int .u8 n] h K:=by
 refine F.sY ?_;rw [F.vj];simp only [k8,pY,cN,bC];unfold oE at hK;by_cases h1:48<=n<;>by_cases h2:n<=57<;>simpa [h1,h2] using hK
theorem qf(hK:K (.ret (.bool (iQ n))) h=true):Sem TP 191 [.int .u8 n] h K:=by
 refine F.rA ?_;rw [F.sZ];simp only [k8,pY,cN,bC];unfold iQ at hK;by_cases h1:97<=n<;>by_cases h2:n<=122<;>by_cases h3:65<=n<;>by_cases h4:n<=90<;>simpa [h1,h2,h3,h4] using hK
theorem AS(hK:K (.ret (.bool (oE n))) h=true):Sem TP 193 [.int .u8 n] h K:=by
 refine F.s5 ?_;rw [F.vm];simp only [k8,pY,cN,bC];unfold oE at hK;by_cases h1:48<=n<;>by_cases h2:n<=57<;>simpa [h1,h2] using hK
theorem Cl{s:bI}(hK:K (.ret (.bool (vr s))) h=true):Sem TP 164 [.str s] h K:=by
 refine F.vi ?_;rw [F.wT];simp only [q9,cN,bC];simp only [vr,words,List.any_cons,List.any_nil,Bool.or_false] at hK
 repeat (first|exact hK|(generalize (s==_)=b at hK ⊢;cases b<;>simp only [aA,ax,Bool.true_or,Bool.false_or] at hK ⊢<;>try exact hK))
theorem Cm{s:bI}(hK:K (.ret (.bool (vr s))) h=true):Sem TP 192 [.str s] h K:=by
 refine F.vl ?_;rw [F.wV];simp only [q9,cN,bC];simp only [vr,words,List.any_cons,List.any_nil,Bool.or_false] at hK
 repeat (first|exact hK|(generalize (s==_)=b at hK ⊢;cases b<;>simp only [aA,ax,Bool.true_or,Bool.false_or] at hK ⊢<;>try exact hK))
def okB(b:UInt8):Bool:=iQ b.toNat||oE b.toNat
def eU(s:bI):Bool:=match s with
 |[]=>false
 |c :: _=>decide (s.length<=12)&&(iQ c.toNat&&(!vr s&&s.all okB))
theorem jF{α:Type}{p:α->Bool}{l:List α}{a:α}(ha:l[i]?=some a)(ht:(l.take i).all p=true)(hp:p a=true):(l.take (i+1)).all p=true:=by
 rw [List.take_add_one,ha];simp [ht,hp]
theorem all_false{α:Type}{p:α->Bool}{l:List α}{a:α}(ha:l[i]?=some a)(hp:p a=false):l.all p=false:=by
 rw [Bool.eq_false_iff];intro h;rw [List.all_eq_true] at h;have:=h a (List.mem_of_getElem? ha);rw [hp] at this;cases this
theorem cG{s:bI}{h:Heap}{K:Out->Heap->Bool}(hK:K (.ret (.bool (eU s))) h=true):Sem TP 107 [.str s] h K:=by
 refine F.vk ?_;rw [F.wU]
 cases s with
 |nil=>simpa [eU,jj,jT,ah,af] using hK
 |cons c s'=>
  have h0:(c :: s')[0]?=some c:=rfl;simp only [jj,jT,y9,cN,bC];have h1:decide (((c :: s').length:Int)<1)=false:=by simp;omega
  simp only [h1,ax];by_cases h2:(c :: s').length<=12
  ·have h3:decide ((12:Int)<((c :: s').length:Int))=false:=by simp at h2 ⊢;omega
   simp only [h3,ax];rw [show gE (.str (c :: s')) (I6 0)=some (.int .u8 (c.toNat:Int)) from ud (i:=0) h0];simp only [cN];refine ag (qd ?_);simp only [bU,gD,cN,bC]
   cases hl:iQ c.toNat with
   |false=>simpa [eU,hl] using hK
   |true=>
    simp only [Bool.not_true,ax];refine ag (Cl ?_);simp only [bU,bC]
    cases hw:vr (c :: s') with
    |true=>simpa [eU,hl,hw] using hK
    |false=>
     simp only [ax];have hn:eU (c :: s')=(c :: s').all okB:=by simp only [eU,hl,hw,Bool.not_false,Bool.true_and];rw [decide_eq_true h2,Bool.true_and]
     rw [hn] at hK;have h4:((c :: s').take 1).all okB=true:=by simp [okB,hl]
     have h5:1<=(c :: s').length:=(by simp);clear h0 h1 h3 hl hw hn;generalize (c :: s')=s at hK h2 h4 h5 ⊢;refine aI 1 s.length h5 (fun i e h'=>h'=h/\e 0 = .str s/\e 3=I6 (i:Int)/\(s.take i).all okB=true) ⟨rfl,rfl,rfl,h4⟩ ?_ ?_
     ·rintro i e h' _ hi ⟨rfl,e0,e3,ht⟩ K' hn hx hr hp;have hb:s[i]?=some s[i]:=List.getElem?_eq_getElem hi;have hlt:decide ((i:Int)<(s.length:Int))=true:=by simp;omega
      rw [F.cG.aT];simp only [e0,e3,jj,jT,ud hb,cN,bC,hlt,aA];refine ag (qd ?_);simp only [bU,gD,cN,bC]
      cases hl:iQ s[i].toNat with
      |true=>
       simp only [Bool.not_true,ax,k7 (a:=(i:Int)) (b:=1) (by omega) (by omega),cN];exact hn _ _ ⟨rfl,e0,rfl,jF hb ht (by simp [okB,hl])⟩
      |false=>
       simp only [Bool.not_false,aA];refine ag (AR ?_);simp only [bU,gD,cN,bC]
       cases hd:oE s[i].toNat with
       |true=>
        simp only [Bool.not_true,ax,k7 (a:=(i:Int)) (b:=1) (by omega) (by omega),cN];exact hn _ _ ⟨rfl,e0,rfl,jF hb ht (by simp [okB,hd])⟩
       |false=>
        simp only [Bool.not_false,aA];rw [hr,F.cG.bh];have:s.all okB=false:=all_false hb (by simp [okB,hl,hd]);rw [this] at hK;exact hK
     ·rintro e h' ⟨rfl,e0,e3,ht⟩ K' hx;have hlt:decide ((s.length:Int)<(s.length:Int))=false:=by simp
      rw [F.cG.aT];simp only [e0,e3,jj,jT,cN,bC,hlt,ax];rw [hx,F.cG.aF];rw [List.take_of_length_le (Nat.le_refl _)] at ht;rw [ht] at hK;exact hK
  ·have h3:decide ((12:Int)<((c :: s').length:Int))=true:=by simp at h2 ⊢;omega
   simp only [h3,aA];have:eU (c :: s')=false:=by simp only [eU];rw [decide_eq_false h2];rfl
   rw [this] at hK;exact hK
theorem cH{s:bI}{h:Heap}{K:Out->Heap->Bool}(hK:K (.ret (.bool (eU s))) h=true):Sem TP 152 [.str s] h K:=by
 refine F.vo ?_;rw [F.wW]
 cases s with
 |nil=>simpa [eU,q9,ah,af] using hK
 |cons c s'=>
  have h0:(c :: s')[0]?=some c:=rfl;have h1:((c :: s')==([]:bI))=false:=rfl;simp only [jj,q9,y9,cN,bC,h1,ax];by_cases h2:(c :: s').length<=12
  ·have h3:decide ((12:Int)<((c :: s').length:Int))=false:=by simp at h2 ⊢;omega
   simp only [h3,ax];rw [show gE (.str (c :: s')) (I6 0)=some (.int .u8 (c.toNat:Int)) from ud (i:=0) h0];simp only [cN];refine ag (qf ?_);simp only [bU,gD,cN,bC]
   cases hl:iQ c.toNat with
   |false=>simpa [eU,hl] using hK
   |true=>
    simp only [Bool.not_true,ax];refine ag (Cm ?_);simp only [bU,bC]
    cases hw:vr (c :: s') with
    |true=>simpa [eU,hl,hw] using hK
    |false=>
     simp only [ax,jj,cN];have hn:eU (c :: s')=(c :: s').all okB:=by simp only [eU,hl,hw,Bool.not_false,Bool.true_and];rw [decide_eq_true h2,Bool.true_and]
     rw [hn] at hK;have h4:((c :: s').take 1).all okB=true:=by simp [okB,hl]
     have h5:1<=(c :: s').length:=(by simp);clear h0 h1 h3 hl hw hn;generalize (c :: s')=s at hK h2 h4 h5 ⊢;refine aI 0 s.length (Nat.zero_le _) (fun i e h'=>h'=h/\e 0 = .str s/\e 23=I6 (i:Int)/\e 22=I6 (s.length:Int)/\(s.take i).all okB=true) ⟨rfl,rfl,rfl,rfl,rfl⟩ ?_ ?_
     ·rintro i e h' _ hi ⟨rfl,e0,e3,GF,ht⟩ K' hn hx hr hp;have hb:s[i]?=some s[i]:=List.getElem?_eq_getElem hi;have hlt:decide ((i:Int)<(s.length:Int))=true:=by simp;omega
      rw [F.cH.aT];simp only [e0,e3,GF,jj,jT,ud hb,cN,bC,hlt,aA];refine ag (qf ?_);simp only [bU,gD,cN,bC]
      cases hl:iQ s[i].toNat with
      |true=>
       simp only [Bool.not_true,ax,k7 (a:=(i:Int)) (b:=1) (by omega) (by omega),cN];exact hn _ _ ⟨rfl,e0,rfl,GF,jF hb ht (by simp [okB,hl])⟩
      |false=>
       simp only [Bool.not_false,aA];refine ag (AS ?_);simp only [bU,gD,cN,bC]
       cases hd:oE s[i].toNat with
       |true=>
        simp only [Bool.not_true,ax,k7 (a:=(i:Int)) (b:=1) (by omega) (by omega),cN];exact hn _ _ ⟨rfl,e0,rfl,GF,jF hb ht (by simp [okB,hd])⟩
       |false=>
        simp only [Bool.not_false,aA];rw [hr,F.cH.bh];have:s.all okB=false:=all_false hb (by simp [okB,hl,hd]);rw [this] at hK;exact hK
     ·rintro e h' ⟨rfl,e0,e3,GF,ht⟩ K' hx;have hlt:decide ((s.length:Int)<(s.length:Int))=false:=by simp
      rw [F.cH.aT];simp only [e0,e3,GF,jj,jT,cN,bC,hlt,ax];rw [hx,F.cH.aF];rw [List.take_of_length_le (Nat.le_refl _)] at ht;rw [ht] at hK;exact hK
  ·have h3:decide ((12:Int)<((c :: s').length:Int))=true:=by simp at h2 ⊢;omega
   simp only [h3,aA];have:eU (c :: s')=false:=by simp only [eU];rw [decide_eq_false h2];rfl
   rw [this] at hK;exact hK
theorem eN(hv:x.l[i]?=some v):au none (.cS (x.l.flatMap encI) (i*1)) h=some (I6 v):=by
 rw [uZ Az hv];rfl
def gM(n:Int)(l:List Int):Bool:=l.all fun x=>!decide (x<0)&&!decide (n<=x)
theorem dK{n:Int}{x:Sl Int}(hx:x.l.length<=dx){h:Heap}{K:Out->Heap->Bool}(hK:K (.ret (.bool (gM n x.l))) h=true):Sem TP 108 [I6 n,gr x] h K:=by
 refine F.zh ?_;rw [F.AQ];refine aI 0 x.l.length (Nat.zero_le _) (fun i e h'=>h'=h/\e 0=I6 n/\e 1=gr x/\e 5=I6 (i:Int)/\gM n (x.l.take i)=true) ⟨rfl,rfl,rfl,rfl,rfl⟩ ?_ ?_
 ·rintro i e h' _ hi ⟨rfl,e0,e1,e5,ht⟩ K' hn gG hr hp;have hv:x.l[i]?=some x.l[i]:=List.getElem?_eq_getElem hi;rw [F.dK.aT];simp only [e0,e1,e5,br,Nat.reduceAdd,Nat.reduceEqDiff,reduceIte,bu hi,bt x hi,eN hv];by_cases h1:x.l[i]<0
  ·simp only [decide_eq_true h1,aA];rw [hr,F.dK.bh];have:gM n x.l=false:=all_false hv (by simp [h1]);rw [this] at hK;exact hK
  ·simp only [decide_eq_false h1,ax];by_cases h2:n<=x.l[i]
   ·simp only [decide_eq_true h2,aA];rw [hr,F.dK.bh];have:gM n x.l=false:=all_false hv (by simp [h2]);rw [this] at hK;exact hK
   ·simp only [decide_eq_false h2,ax,aN hi hx,cN];exact hn _ _ ⟨rfl,e0,e1,rfl,jF hv ht (by simp [h1,h2])⟩
 ·rintro e h' ⟨rfl,e0,e1,e5,ht⟩ K' gG;rw [F.dK.aT];simp only [e0,e1,e5,br,Nat.reduceAdd,Nat.reduceEqDiff,reduceIte,bf];rw [gG,F.dK.aF];rw [List.take_of_length_le (Nat.le_refl _)] at ht;rw [ht] at hK;exact hK
theorem wZ(hx:x.l.length<=dx){g:FuncId}{a b:List AV}{p:Int->Bool}(hp:∀ (v:Int) (K:Out->Heap->Bool),K (.ret (.bool (p v))) h=true->Sem TP g (a++([I6 v]++b)) h K)
  (hK:∀ n:Int,decide (0<=n)=x.l.any p->K (.ret (I6 n)) h=true):Sem TP 168 [gr x,.func g a b] h K:=by
 refine F.eZ ?_;rw [F.fe];simp only [br,Nat.reduceAdd,Nat.reduceEqDiff,reduceIte];refine aI 0 x.l.length (Nat.zero_le _) (fun i e h'=>h'=h/\e 0=gr x/\e 1 = .func g a b/\e 7=I6 (x.l.length:Int)/\e 8=I6 (i:Int)/\(x.l.take i).any p=false) ⟨rfl,rfl,rfl,rfl,rfl,rfl⟩ ?_ ?_
 ·rintro i e h' _ hi ⟨rfl,e0,e1,e7,e8,ht⟩ K' hn gG hr zP;have hv:x.l[i]?=some x.l[i]:=List.getElem?_eq_getElem hi;rw [F.aJ.aT];simp only [e0,e1,e7,e8,br,Nat.reduceAdd,Nat.reduceEqDiff,reduceIte,bu hi,bt x hi,eN hv,gL];refine ag (hp _ _ ?_);simp only [br,Nat.reduceAdd,Nat.reduceEqDiff,reduceIte]
  cases hq:p x.l[i] with
  |true=>
   simp only [aA];rw [hr,F.aJ.bh];refine hK (i:Int) ?_;rw [decide_eq_true (by omega:(0:Int)<=(i:Int))];exact (List.any_eq_true.2 ⟨_,List.mem_of_getElem? hv,hq⟩).symm
  |false=>
   simp only [ax,aN hi hx,cN];exact hn _ _ ⟨rfl,e0,e1,e7,rfl,by rw [List.take_add_one,hv,List.any_append,ht];simp [hq]⟩
 ·rintro e h' ⟨rfl,e0,e1,e7,e8,ht⟩ K' gG;rw [F.aJ.aT];simp only [e0,e1,e7,e8,br,Nat.reduceAdd,Nat.reduceEqDiff,reduceIte,bf];rw [gG,F.aJ.aF];rw [List.take_of_length_le (Nat.le_refl _)] at ht;exact hK (-1) (by rw [ht];rfl)
theorem iJ(hx:x.l.length<=dx){g:FuncId}{a b:List AV}{p:Int->Bool}(hp:∀ (v:Int) (K:Out->Heap->Bool),K (.ret (.bool (p v))) h=true->Sem TP g (a++([I6 v]++b)) h K)
  (hK:K (.ret (.bool (x.l.any p))) h=true):Sem TP 112 [gr x,.func g a b] h K:=by
 refine F.eB ?_;rw [F.eM];refine ag (wZ hx hp fun n hn=>?_);simp only [br,Nat.reduceAdd,Nat.reduceEqDiff,reduceIte];rw [hn];exact hK
structure Gate where
 kind:Int
 name:bI
 at_:Sl Int
 kids:Sl Int
def bz(g:Gate):List AV:=[I6 g.kind,.str g.name,gr g.at_,gr g.kids]
theorem fZ(g:Gate):(bz g).length=4:=rfl
theorem qg(g:Gate):AV.bQ (bz g)=true:=by simp [bz,AV.bQ,AV.pure,dU gT]
theorem gV(g:Gate):bw (bz g)=true:=by
 unfold bz;simp only [bw,nk,Bool.and_true];rfl
def Gate.ok(g:Gate):Prop:=g.name.length<=dx/\g.at_.l.length<=dx/\g.kids.l.length<=dx
structure fG where
 size:Int
 aU:Sl Gate
def an(c:fG):List AV:=[I6 c.size,cp bz 4 c.aU]
theorem eO(c:fG):AV.bQ (an c)=true:=by simp [an,AV.bQ,AV.pure,dU qg]
theorem dm(c:fG):bw (an c)=true:=by
 unfold an;simp only [bw,nk,Bool.and_true];rfl
def fG.ok(c:fG):Prop:=c.aU.l.length<=dx/\∀ g ∈ c.aU.l,g.ok
def zj(n:Int)(x:Int):Bool:=decide (x<0)||decide (n<=x)
theorem Ee(hb:h.get b=sC [I6 n])(v:Int)(K:Out->Heap->Bool)(hK:K (.ret (.bool (zj n v))) h=true):Sem TP 166 ([]++([I6 v]++[.ptr b 0])) h K:=by
 refine F.oC ?_;rw [F.qb];simp only [ai hb,br,Nat.reduceAdd,Nat.reduceEqDiff,reduceIte];unfold zj at hK;by_cases h1:v<0<;>by_cases h2:n<=v<;>simpa [h1,h2] using hK
theorem Ef(hb:h.get b=sC [I6 n])(v:Int)(K:Out->Heap->Bool)(hK:K (.ret (.bool (zj n v))) h=true):Sem TP 167 ([]++([I6 v]++[.ptr b 0])) h K:=by
 refine F.oD ?_;rw [F.qc];simp only [ai hb,br,Nat.reduceAdd,Nat.reduceEqDiff,reduceIte];unfold zj at hK;by_cases h1:v<0<;>by_cases h2:n<=v<;>simpa [h1,h2] using hK
theorem Cn(n:Int)(l:List Int):gM n l = !(l.any (zj n)):=by
 unfold gM zj
 induction l with
 |nil=>rfl
 |cons a l ih=>simp only [List.all_cons,List.any_cons,ih];cases decide (a<0)<;>cases decide (n<=a)<;>rfl
def ga(n:Int)(i:Nat)(g:Gate):Bool:=
 decide (0<=g.kind)&&(decide (g.kind<=4)&&(gM (i:Int) g.kids.l &&
  (if g.kind=1 then eU g.name&&(decide (g.at_.l.length<=12)&&(decide (g.kids.l.length=0)&&gM n g.at_.l))
  else decide (g.name = [])&&(decide (g.at_.l.length=0)&&((!decide (g.kind=0)||decide (g.kids.l.length=0))&&(!decide (g.kind=2)||decide (g.kids.l.length=1)))))))
theorem zk{g:Gate}(hg:g.ok)(hK:K (.ret (.bool (ga n i g))) h=true):Sem TP 109 [.agg (bz g),I6 (i:Int),I6 n] h K:=by
 refine Sem.data (r:=.bool (ga n i g)) ?_ (by simp [AV.bQ,AV.pure,qg]) hK;clear hK;refine F.rB ?_;rw [F.s7];simp only [cc (gV g),ue (x:=I6 _) rfl,cN,aV,Heap.aR];have g0:(Heap.alloc (Heap.alloc (Heap.alloc Heap.empty (.cells (bz g))) (.cells [I6 (i:Int)])) (.cells [I6 n])).get 0=sC (bz g):=by simp [Heap.aD,aV]
 have g1:(Heap.alloc (Heap.alloc (Heap.alloc Heap.empty (.cells (bz g))) (.cells [I6 (i:Int)])) (.cells [I6 n])).get 1=sC [I6 (i:Int)]:=by simp [Heap.aD,aV]
 have g2:(Heap.alloc (Heap.alloc (Heap.alloc Heap.empty (.cells (bz g))) (.cells [I6 (i:Int)])) (.cells [I6 n])).get 2=sC [I6 n]:=by simp [Heap.aD,aV]
 generalize (Heap.alloc (Heap.alloc (Heap.alloc Heap.empty (.cells (bz g))) (.cells [I6 (i:Int)])) (.cells [I6 n]))=H at g0 g1 g2 ⊢;have fin:∀ b:Bool,b=ga n i g->jD (.bool (ga n i g)) (.ret (.bool b)) H=true:=fun b hb=>by rw [hb];exact dO rfl
 simp only [br,Nat.reduceAdd,Nat.reduceEqDiff,reduceIte,ai g0,bz];by_cases k0:g.kind<0
 ·simp only [decide_eq_true k0,aA];exact fin _ (by simp only [ga];rw [decide_eq_false (by omega)];rfl)
 simp only [decide_eq_false k0,ax];by_cases k4:5<=g.kind
 ·simp only [decide_eq_true k4,aA];exact fin _ (by simp only [ga];rw [decide_eq_false (by omega:¬ g.kind<=4),Bool.false_and,Bool.and_false])
 simp only [decide_eq_false k4,ax]
 have hf:ga n i g=(gM (i:Int) g.kids.l &&
  (if g.kind=1 then eU g.name&&(decide (g.at_.l.length<=12)&&(decide (g.kids.l.length=0)&&gM n g.at_.l))
  else decide (g.name = [])&&(decide (g.at_.l.length=0)&&((!decide (g.kind=0)||decide (g.kids.l.length=0))&&(!decide (g.kind=2)||decide (g.kids.l.length=1)))))):=by
  simp only [ga];rw [decide_eq_true (by omega:0<=g.kind),decide_eq_true (by omega:g.kind<=4),Bool.true_and,Bool.true_and]
 rw [hf] at fin ⊢;clear hf;refine ag (iJ hg.2.2 (Ee g1) ?_);simp only [br,Nat.reduceAdd,Nat.reduceEqDiff,reduceIte];rw [Cn] at fin ⊢
 cases hq:g.kids.l.any (zj (i:Int)) with
 |true=>
  rw [hq] at fin;simp only [aA];exact fin _ (by simp)
 |false=>
  rw [hq] at fin;simp only [ax,Bool.not_false,Bool.true_and] at fin ⊢;simp only [ai g0,br,Nat.reduceAdd,Nat.reduceEqDiff,reduceIte,bz,b9];by_cases k1:g.kind=1
  ·simp only [decide_eq_true k1,aA];rw [if_pos k1] at fin ⊢;refine ag (cH ?_);simp only [br,Nat.reduceAdd,Nat.reduceEqDiff,reduceIte,ai g0,bz,b9];generalize eU g.name=nb at fin ⊢
   cases nb with
   |false=>simp only [ax];exact fin _ (by rw [Bool.false_and])
   |true=>
    simp only [aA,Bool.true_and] at fin ⊢;by_cases IK:g.at_.l.length<=12
    ·simp only [decide_eq_true (by omega:(g.at_.l.length:Int)<=12),aA];rw [decide_eq_true IK,Bool.true_and] at fin ⊢;by_cases hk:g.kids.l.length=0
     ·rw [decide_eq_true hk,Bool.true_and] at fin ⊢;simp only [decide_eq_true (by omega:(g.kids.l.length:Int)=0),aA];refine ag (iJ hg.2.1 (Ef g2) ?_);simp only [br,Nat.reduceAdd,Nat.reduceEqDiff,reduceIte];rw [Cn] at fin ⊢;exact fin _ rfl
     ·rw [decide_eq_false hk,Bool.false_and] at fin ⊢;simp only [decide_eq_false (by omega:¬ (g.kids.l.length:Int)=0),ax];exact fin _ rfl
    ·simp only [decide_eq_false (by omega:¬ (g.at_.l.length:Int)<=12),ax];rw [decide_eq_false IK,Bool.false_and] at fin ⊢;exact fin _ rfl
  ·simp only [decide_eq_false k1,ax];rw [if_neg k1] at fin ⊢;have e1:(g.name==([]:bI))=decide (g.name = []):=by cases g.name<;>simp
   have e2:decide ((g.at_.l.length:Int)=0)=decide (g.at_.l.length=0):=by simp
   have e3:decide ((g.kids.l.length:Int)=0)=decide (g.kids.l.length=0):=by simp
   have e4:decide ((g.kids.l.length:Int)=1)=decide (g.kids.l.length=1):=by simp;omega
   simp only [e1,e2,e3,e4];generalize decide (g.name = [])=b1 at fin ⊢;generalize decide (g.at_.l.length=0)=b2 at fin ⊢;generalize decide (g.kids.l.length=0)=b3 at fin ⊢;generalize decide (g.kids.l.length=1)=b4 at fin ⊢;generalize decide (g.kind=0)=b5 at fin ⊢;generalize decide (g.kind=2)=b6 at fin ⊢;cases b1<;>cases b2<;>cases b5<;>cases b6<;>simp only [aA,ax,Bool.not_true,Bool.not_false,Bool.true_and,Bool.false_and,Bool.true_or,Bool.false_or,Bool.and_true] at fin ⊢<;>(try exact fin _ rfl)<;>cases b3<;>simp only [aA,ax,Bool.true_and,Bool.false_and] at fin ⊢<;>exact fin _ rfl
theorem bX{c:fG}(hc:c.ok){i:Nat}{g:Gate}(hg:c.aU.l[i]?=some g){h:Heap}{K:Out->Heap->Bool}(hK:K (.ret (.bool (ga c.size i g))) h=true):Sem TP 53 [.agg (an c),I6 (i:Int)] h K:=by
 refine Sem.data (r:=.bool (ga c.size i g)) ?_ (by simp [AV.bQ,AV.pure,eO]) hK;clear hK;have hi:i<c.aU.l.length:=(List.getElem?_eq_some_iff.1 hg).1;have xJ:g.ok:=hc.2 g (List.mem_of_getElem? hg);refine F.vp ?_;rw [F.wX];have b0:(Heap.alloc Heap.empty (.cells (an c))).get 0=sC (an c):=ay _ _;have bn:(Heap.alloc Heap.empty (.cells (an c))).next=1:=rfl
 simp only [cc (dm c),cN,aV];generalize (Heap.alloc Heap.empty (.cells (an c)))=H0 at b0 bn ⊢;obtain ⟨H,hs,g1,go,gn⟩:=eG (h:=H0) (zs:=[I6 0,.str [],.aE,.aE]) (cs:=bz g) (n:=4) rfl rfl (gV g);rw [bn] at hs g1;have g0:H.get 0=sC (an c):=by rw [go 0 (by omega)];exact b0
 simp only [br,Nat.reduceAdd,Nat.reduceEqDiff,reduceIte,ai b0,an,bt c.aU hi,g8 fZ hg,bn,hs];simp only [br,Nat.reduceAdd,Nat.reduceEqDiff,reduceIte,ai g1,bz,b9];have fin:∀ b:Bool,b=ga c.size i g->jD (.bool (ga c.size i g)) (.ret (.bool b)) H=true:=fun b hb=>by rw [hb];exact dO rfl
 have L:∀ e0:Env,e0 1=I6 (i:Int)->e0 2 = .ptr 0 0->e0 5 = .ptr 1 0->e0 6=I6 0->(g.kind≠1->g.name = []/\g.at_.l.length=0) ->
   bS (EV F.bX.L0) (sM e0 89 H) (F.bX.cB (jD (.bool (ga c.size i g))))=true:=by
  intro e0 q1 q2 q5 q6 LH;refine aI 0 g.kids.l.length (Nat.zero_le _) (fun k e h'=>h'=H/\e 1=I6 (i:Int)/\e 2 = .ptr 0 0/\e 5 = .ptr 1 0/\e 6=I6 (k:Int)/\gM (i:Int) (g.kids.l.take k)=true) ⟨rfl,q1,q2,q5,q6,rfl⟩ ?_ ?_
  ·rintro k e h' _ hk ⟨rfl,e1,e2,e5,e6,ht⟩ K' hn hx hr hp;have hv:g.kids.l[k]?=some g.kids.l[k]:=List.getElem?_eq_getElem hk;rw [F.bX.aT];simp only [e1,e2,e5,e6,br,Nat.reduceAdd,Nat.reduceEqDiff,reduceIte,ai g1,bz,bu hk,bt g.kids hk,eN hv];by_cases h1:g.kids.l[k]<0
   ·simp only [decide_eq_true h1,aA];rw [hr,F.bX.bh];have:gM (i:Int) g.kids.l=false:=all_false hv (by simp [h1]);exact fin _ (by simp [ga,this])
   ·simp only [decide_eq_false h1,ax];by_cases h2:(i:Int)<=g.kids.l[k]
    ·simp only [decide_eq_true h2,aA];rw [hr,F.bX.bh];have:gM (i:Int) g.kids.l=false:=all_false hv (by simp [h2]);exact fin _ (by simp [ga,this])
    ·simp only [decide_eq_false h2,ax,aN hk xJ.2.2,cN];exact hn _ _ ⟨rfl,e1,e2,e5,rfl,jF hv ht (by simp [h1,h2])⟩
  ·rintro e h' ⟨rfl,e1,e2,e5,e6,ht⟩ K' hx;rw [F.bX.aT];simp only [e1,e2,e5,e6,br,Nat.reduceAdd,Nat.reduceEqDiff,reduceIte,ai g1,bz,bf];rw [hx,F.bX.aF];rw [List.take_of_length_le (Nat.le_refl _)] at ht;simp only [e1,e2,e5,e6,br,Nat.reduceAdd,Nat.reduceEqDiff,reduceIte,ai g1,bz,b9];simp only [ga,ht,Bool.true_and] at fin ⊢;have k3:decide ((g.kids.l.length:Int)=0)=decide (g.kids.l.length=0):=by simp
   have k4:decide ((g.kids.l.length:Int)=1)=decide (g.kids.l.length=1):=by simp;omega
   by_cases c0:g.kind=0
   ·simp only [c0,decide_true,aA] at fin ⊢;have:=LH (by omega);refine fin _ ?_;simp [this.1,this.2]
   by_cases c1:g.kind=1
   ·simp only [c1,decide_true,aA,if_true] at fin ⊢;simp only [show decide ((1:Int)=0)=false from rfl,show decide ((0:Int)<=1)=true from rfl,show decide ((1:Int)<=4)=true from rfl,ax,Bool.true_and,k3] at fin ⊢;by_cases z:g.kids.l.length=0
    ·simp only [decide_eq_true z,aA,Bool.true_and] at fin ⊢;refine ag (cG ?_);simp only [br,Nat.reduceAdd,Nat.reduceEqDiff,reduceIte,ai g1,bz];generalize eU g.name=nb at fin ⊢
     cases nb with
     |false=>simp only [ax,Bool.false_and] at fin ⊢;exact fin _ rfl
     |true=>
      simp only [aA,Bool.true_and] at fin ⊢;by_cases IK:g.at_.l.length<=12
      ·simp only [decide_eq_true (by omega:(g.at_.l.length:Int)<=12),aA,ai g0,an,br,Nat.reduceAdd,Nat.reduceEqDiff,reduceIte,ai g1,bz];refine ag (dK xJ.2.1 ?_);simp only [br,Nat.reduceAdd,Nat.reduceEqDiff,reduceIte];refine fin _ ?_;rw [decide_eq_true IK,Bool.true_and]
      ·simp only [decide_eq_false (by omega:¬ (g.at_.l.length:Int)<=12),ax];refine fin _ ?_;rw [decide_eq_false IK,Bool.false_and]
    ·simp only [decide_eq_false z,ax,Bool.false_and,Bool.and_false] at fin ⊢;exact fin _ rfl
   have pre:=LH c1;by_cases c2:g.kind=2
   ·simp only [c2,show decide ((2:Int)=0)=false from rfl,show decide ((2:Int)=1)=false from rfl,decide_true,aA,ax,k4] at fin ⊢;refine fin _ ?_;simp [pre.1,pre.2]
   by_cases c3:g.kind=3
   ·simp only [c3,show decide ((3:Int)=0)=false from rfl,show decide ((3:Int)=1)=false from rfl,show decide ((3:Int)=2)=false from rfl,decide_true,aA,ax] at fin ⊢;refine fin _ ?_;simp [pre.1,pre.2]
   by_cases c4:g.kind=4
   ·simp only [c4,show decide ((4:Int)=0)=false from rfl,show decide ((4:Int)=1)=false from rfl,show decide ((4:Int)=2)=false from rfl,show decide ((4:Int)=3)=false from rfl,decide_true,aA,ax] at fin ⊢;refine fin _ ?_;simp [pre.1,pre.2]
   ·simp only [decide_eq_false c0,decide_eq_false c1,decide_eq_false c2,decide_eq_false c3,decide_eq_false c4,ax] at fin ⊢;refine fin _ ?_;by_cases q:0<=g.kind
    ·rw [decide_eq_false (by omega:¬ g.kind<=4)];simp
    ·rw [decide_eq_false q];rfl
 by_cases c1:g.kind=1
 ·simp only [decide_eq_true c1,Bool.not_true,ax];exact L _ rfl rfl rfl rfl (fun h=>absurd c1 h)
 ·simp only [decide_eq_false c1,Bool.not_false,aA];by_cases hn:g.name = []
  ·have e1:(g.name==([]:bI))=true:=by rw [hn];rfl
   simp only [e1,Bool.not_true,ax];by_cases ha:g.at_.l.length=0
   ·simp only [decide_eq_false (by omega:¬ (0:Int)<(g.at_.l.length:Int)),ax];exact L _ rfl rfl rfl rfl (fun _=>⟨hn,ha⟩)
   ·simp only [decide_eq_true (by omega:(0:Int)<(g.at_.l.length:Int)),aA];exact fin _ (by simp only [ga,if_neg c1,decide_eq_false ha,Bool.false_and,Bool.and_false])
  ·have e1:(g.name==([]:bI))=false:=by cases hq:g.name with|nil=>exact absurd hq hn|cons a l=>rfl
   simp only [e1,Bool.not_false,aA];exact fin _ (by simp only [ga,if_neg c1,decide_eq_false hn,Bool.false_and,Bool.and_false])
theorem bJ{cs:List AV}{n:Nat}(h:cs.length=n):ir (some n) cs 0=some (.agg cs):=by
 simp [ir,h,List.take_of_length_le]
def cI(n:Int):List Gate->Nat->dV->Option dV
 |[],_,m=>some m
 |g :: gs,i,m=>bif ga n i g then
   (if g.kind=1 then
    (match m.find g.name with
     |some k=>if k=(g.at_.l.length:Int) then cI n gs (i+1) (m.lU g.name g.at_.l.length) else none
     |none=>cI n gs (i+1) (m.lU g.name g.at_.l.length))
   else cI n gs (i+1) m) else none
def g9(c:fG):Bool:=!decide (c.size<1)&&(!decide (64<c.size)&&(!decide ((c.aU.l.length:Int)<1)&&!decide (20000<(c.aU.l.length:Int))))
def cE(c:fG):Option dV:=bif g9 c then cI c.size c.aU.l 0 [] else none
theorem sN{l:List Gate}{g:Gate}(hg:l[i]?=some g)(m:dV):cI n (l.drop i) i m=cI n (g :: l.drop (i+1)) i m:=by
 have hi:i<l.length:=(List.getElem?_eq_some_iff.1 hg).1;rw [List.drop_eq_getElem_cons hi];rw [List.getElem?_eq_getElem hi] at hg;cases hg;rfl
def cU(c:fG):Bool:=(cE c).isSome
theorem cm{c:fG}(hc:c.ok){h:Heap}{K:Out->Heap->Bool}(hK:K (.ret (.bool (cU c))) h=true):Sem TP 13 [.agg (an c)] h K:=by
 refine Sem.data (r:=.bool (cU c)) ?_ (by simp [AV.bQ,AV.pure,eO]) hK;clear hK;have fin:∀ (b:Bool) (H:Heap),b=cU c->jD (.bool (cU c)) (.ret (.bool b)) H=true:=fun b H hb=>by rw [hb];exact dO rfl
 generalize jD (.bool (cU c))=K at fin ⊢;refine F.s9 ?_;rw [F.vq];have b0:(Heap.alloc Heap.empty (.cells (an c))).get 0=sC (an c):=ay _ _;have bn:(Heap.alloc Heap.empty (.cells (an c))).next=1:=rfl
 simp only [cc (dm c),cN,aV];generalize (Heap.alloc Heap.empty (.cells (an c)))=H0 at b0 bn ⊢;simp only [br,Nat.reduceAdd,Nat.reduceEqDiff,reduceIte,ai b0,an,bn]
 cases s1:decide (c.size<1) with
 |true=>simp only [aA];exact fin _ _ (by simp only [cU,cE,g9,s1];rfl)
 |false=>
 simp only [ax]
 cases s2:decide (64<c.size) with
 |true=>simp only [aA];exact fin _ _ (by simp only [cU,cE,g9,s1,s2];rfl)
 |false=>
 simp only [ax]
 cases s3:decide ((c.aU.l.length:Int)<1) with
 |true=>simp only [aA];exact fin _ _ (by simp only [cU,cE,g9,s1,s2,s3];rfl)
 |false=>
 simp only [ax]
 cases s4:decide (20000<(c.aU.l.length:Int)) with
 |true=>simp only [aA];exact fin _ _ (by simp only [cU,cE,g9,s1,s2,s3,s4];rfl)
 |false=>
 simp only [ax];have IL:cU c=(cI c.size c.aU.l 0 []).isSome:=by simp only [cU,cE,g9,s1,s2,s3,s4];rfl
 rw [IL] at fin
 refine aI 0 c.aU.l.length (Nat.zero_le _) (fun i e h'=>∃ m es ck,cI c.size c.aU.l 0 []=cI c.size (c.aU.l.drop i) i m/\gq es m/\h'.get 0=sC (an c)/\h'.get 1=some (.map es ck) /\
  2<=h'.next/\e 1 = .ptr 0 0/\e 3 = .map 1/\e 4=I6 (i:Int))
  ⟨[],[],0,rfl,trivial,by rw [Heap.aD,bn,if_neg (by omega)];exact b0,by rw [<- bn];exact ay _ _,by rw [Heap.aR,bn];omega,rfl,rfl,rfl⟩ ?_ ?_
 ·rintro i e h' _ hi ⟨m,es,ck,hm,he,q0,q1,qn,e1,e3,e4⟩ K' hn hx hr hp;have hg:c.aU.l[i]?=some c.aU.l[i]:=List.getElem?_eq_getElem hi;generalize c.aU.l[i]=g at hg;have xJ:g.ok:=hc.2 g (List.mem_of_getElem? hg);rw [sN hg] at hm;obtain ⟨H,hs,g1,go,gn⟩:=eG (h:=h') (zs:=[I6 0,.str [],.aE,.aE]) (cs:=bz g) (n:=4) rfl rfl (gV g);have p0:H.get 0=sC (an c):=by rw [go _ (by omega)];exact q0
  have p1:H.get 1=some (.map es ck):=by rw [go _ (by omega)];exact q1
  rw [F.cm.aT];simp only [e1,e3,e4,br,Nat.reduceAdd,Nat.reduceEqDiff,reduceIte,ai q0,bu hi,bJ (cs:=an c) (n:=2) rfl];rw [show (an c)[1]?=some (cp bz 4 c.aU) from rfl];simp only [br,Nat.reduceAdd,Nat.reduceEqDiff,reduceIte,bu hi];refine ag (bX hc hg ?_);simp only [br,Nat.reduceAdd,Nat.reduceEqDiff,reduceIte];simp only [cI] at hm
  cases hf:ga c.size i g with
  |false=>
   simp only [Bool.not_false,aA];rw [hf] at hm;rw [hr,F.cm.bh];exact fin _ _ (by rw [hm];rfl)
  |true=>
   rw [hf] at hm;simp only [Bool.not_true,ax,aA,e1,e4,ai q0,an,br,Nat.reduceAdd,Nat.reduceEqDiff,reduceIte,bt c.aU hi,g8 fZ hg,hs] at hm ⊢;simp only [ai g1,bz,br,Nat.reduceAdd,Nat.reduceEqDiff,reduceIte,b9];by_cases k1:g.kind=1
   ·rw [if_pos k1] at hm;simp only [decide_eq_true k1,aA,e3,u6 p1 he,br,Nat.reduceAdd,Nat.reduceEqDiff,reduceIte,b9];obtain ⟨kS,mA,hu,GG⟩:=u7 p1 he g.name g.at_.l.length
    have AT:cI c.size c.aU.l 0 []=cI c.size (c.aU.l.drop (i+1)) (i+1) (m.lU g.name g.at_.l.length)->∃ m es ck,cI c.size c.aU.l 0 []=cI c.size (c.aU.l.drop (i+1)) (i+1) m/\gq es m/\(H.set 1 (.map kS mA)).get 0=sC (an c)/\(H.set 1 (.map kS mA)).get 1=some (.map es ck)/\2<=(H.set 1 (.map kS mA)).next:=by
     intro hh;exact ⟨_,kS,mA,hh,GG,by rw [Heap.aK,if_neg (by omega)];exact p0,by rw [Heap.aK,if_pos rfl],by rw [Heap.bl];omega⟩
    cases LI:m.find g.name with
    |none=>
     rw [LI] at hm;simp only [Option.isSome_none,ax,ai g1,bz,br,Nat.reduceAdd,Nat.reduceEqDiff,reduceIte,e3,hu,e4,aN hi hc.1];obtain ⟨m',JK,JL,a1,a2,a3,a4,a6⟩:=AT hm;exact hn _ _ ⟨m',JK,JL,a1,a2,a3,a4,a6,e1,e3,rfl⟩
    |some k=>
     rw [LI] at hm;simp only [Option.isSome_some,aA,Option.getD_some,ai g1,bz,br,Nat.reduceAdd,Nat.reduceEqDiff,reduceIte,b9] at hm ⊢;by_cases hk:k=(g.at_.l.length:Int)
     ·rw [if_pos hk] at hm;simp only [decide_eq_true hk,Bool.not_true,ax,ai g1,bz,br,Nat.reduceAdd,Nat.reduceEqDiff,reduceIte,e3,hu,e4,aN hi hc.1];obtain ⟨m',JK,JL,a1,a2,a3,a4,a6⟩:=AT hm;exact hn _ _ ⟨m',JK,JL,a1,a2,a3,a4,a6,e1,e3,rfl⟩
     ·rw [if_neg hk] at hm;simp only [decide_eq_false hk,Bool.not_false,aA];rw [hr,F.cm.bh];exact fin _ _ (by rw [hm];rfl)
   ·rw [if_neg k1] at hm;simp only [decide_eq_false k1,ax,e4,aN hi hc.1,cN];exact hn _ _ ⟨m,es,ck,hm,he,p0,p1,by omega,e1,e3,rfl⟩
 ·rintro e h' ⟨m,es,ck,hm,he,q0,q1,qn,e1,e3,e4⟩ K' hx;rw [F.cm.aT];simp only [e1,e4,ai q0,br,Nat.reduceAdd,Nat.reduceEqDiff,reduceIte];rw [show (an c)[1]?=some (cp bz 4 c.aU) from rfl];simp only [br,Nat.reduceAdd,Nat.reduceEqDiff,reduceIte,bf];rw [hx,F.cm.aF];rw [List.drop_of_length_le (Nat.le_refl _)] at hm;exact fin _ _ (by rw [hm];rfl)
def iv(n:Int):AV:=I6 n
theorem mG(d:List Int):d.map iv=d.flatMap encI:=by
 induction d with
 |nil=>rfl
 |cons a d ih=>rw [List.map_cons,List.flatMap_cons,ih];rfl
theorem kI{n:Nat}{k:IntKind}(h:i<n):iZ 1 (.slice b 0 n 1) (.int k (i:Int))=some (.ptr b i):=by simp [iZ,asNat,h]
theorem FT{d:List Int}(hb:h.get b=sC (d.map iv))(hi:i<d.length):bD 1 (.ptr b i) (I6 v) h=some (h.set b (.cells ((d.set i v).map iv))):=by
 rw [fL (n:=1) hb rfl rfl (by simp;omega),List.map_set];rfl
theorem JM(n:Nat):ec [I6 0] n=(List.replicate n (0:Int)).map iv:=by
 induction n with
 |zero=>rfl
 |succ n ih=>rw [ec,ih];rfl
theorem Ht{n:Nat}(hn:n<=1000000)(h:Heap):dS 1 8 [I6 0] (I6 (n:Int)) (I6 (n:Int)) h=some (.slice h.next 0 n 1,h.alloc (.cells ((List.replicate n (0:Int)).map iv))):=by
 have:(8*(n:Int))<=140737488355328:=by omega
 simp [dS,nU,this,JM]
def mx(a b:Int):Int:=if b>a then b else a
theorem FU{d:List Int}(hb:h.get b=sC (d.map iv)):Fz true h (.slice b 0 d.length 1) (gr (some d)):=by
 refine .slice b 0 d.length 1 _ _ hb (by rw [mG]) fun i x y hx hy=>?_;rw [mG,hy] at hx;cases hx;rw [<- mG,List.getElem?_map] at hy;obtain ⟨v,hv,rfl⟩:=Option.map_eq_some_iff.1 hy;exact .scalar _ rfl
theorem Dq{n:Int}:∀ (l:List Gate) (i:Nat) (m m':dV),cI n l i m=some m'->∀ (j:Nat) (g:Gate),l[j]?=some g->ga n (i+j) g=true
 |[],_,_,_,_,j,g,h=>by simp at h
 |g0 :: l,i,m,m',hs,j,g,h=>by
  simp only [cI] at hs
  cases hf:ga n i g0 with
  |false=>rw [hf] at hs;cases hs
  |true=>
   rw [hf] at hs;simp only [aA] at hs
   cases j with
   |zero=>simp at h;subst h;exact hf
   |succ j=>
    have h':l[j]?=some g:=(by simpa using h);have ih:∀ m,cI n l (i+1) m=some m'->ga n (i+1+j) g=true:=fun m hs=>Dq l (i+1) m m' hs j g h';rw [show i+(j+1)=i+1+j by omega];split at hs
    ·split at hs
     ·split at hs
      ·exact ih _ hs
      ·cases hs
     ·exact ih _ hs
    ·exact ih _ hs
theorem AU{g:Gate}(hf:ga n i g=true){k:Nat}(hv:g.kids.l[k]?=some v):0<=v/\v<(i:Int):=by
 simp only [ga,Bool.and_eq_true] at hf;have:=List.all_eq_true.1 hf.2.2.1 v (List.mem_of_getElem? hv);simp at this;omega
def fG.fits(c:fG):Prop:=c.aU.l.length<=20000/\1<=c.aU.l.length/\∀ i g,c.aU.l[i]?=some g->ga c.size i g=true
theorem dW{c:fG}(h:cU c=true):c.fits:=by
 unfold cU cE at h
 cases hs:g9 c with
 |false=>rw [hs] at h;cases h
 |true=>
  rw [hs] at h;simp only [aA] at h;obtain ⟨m,hm⟩:=Option.isSome_iff_exists.1 h;simp only [g9,Bool.and_eq_true,Bool.not_eq_true',decide_eq_false_iff_not] at hs;exact ⟨by omega,by omega,fun i g hg=>by simpa using Dq _ 0 _ _ hm i g hg⟩
end
end Go.AM
namespace Go.AM
open Go
noncomputable section
def Pb:List AV:=[(.agg [(I6 7),(I6 0),(.str []),(.aL [(.str [120])] 0 1 1),.aE,(.aL [(I6 6),(I6 0),(.str []),(.aL [(.str [121])] 0 1 1),.aE,(.aL [(I6 0),(I6 0),(.str [69]),.aE,(.aL [(.str [120]),(.str [121])] 0 2 1),.aE] 0 1 6)] 0 1 6)]),(I6 2)]
def Pc:AV:=(.tuple [(.agg [(I6 2),(.aL [(I6 1),(.str [69]),(.aL [(I6 0),(I6 0)] 0 2 1),.aE,(I6 1),(.str [69]),(.aL [(I6 0),(I6 1)] 0 2 1),.aE,(I6 4),(.str []),.aE,(.aL [(I6 0),(I6 1)] 0 2 1),(I6 1),(.str [69]),(.aL [(I6 1),(I6 0)] 0 2 1),.aE,(I6 1),(.str [69]),(.aL [(I6 1),(I6 1)] 0 2 1),.aE,(I6 4),(.str []),.aE,(.aL [(I6 3),(I6 4)] 0 2 1),(I6 3),(.str []),.aE,(.aL [(I6 2),(I6 5)] 0 2 1)] 0 7 4)]),(I6 0)])
theorem JN:l7 TP F0 D0 200 24 Pb Heap.empty (sF false 20 Pc)=true:=by kernel_rfl
def Pd:List AV:=[(.agg [(I6 2),(.aL [(I6 1),(.str [69]),(.aL [(I6 0),(I6 0)] 0 2 1),.aE,(I6 1),(.str [69]),(.aL [(I6 0),(I6 1)] 0 2 1),.aE,(I6 4),(.str []),.aE,(.aL [(I6 0),(I6 1)] 0 2 1),(I6 1),(.str [69]),(.aL [(I6 1),(I6 0)] 0 2 1),.aE,(I6 1),(.str [69]),(.aL [(I6 1),(I6 1)] 0 2 1),.aE,(I6 4),(.str []),.aE,(.aL [(I6 3),(I6 4)] 0 2 1),(I6 3),(.str []),.aE,(.aL [(I6 2),(I6 5)] 0 2 1)] 0 7 4)]),(.agg [(I6 2),(.aL [(.str [69]),(I6 2),(.aL [(.aL [(I6 0),(I6 1)] 0 2 1),(.aL [(I6 1),(I6 0)] 0 2 1)] 0 2 1)] 0 1 3)])]
def Pe:AV:=(.tuple [bT,(I6 0)])
theorem JO:l7 TP F0 D0 200 18 Pd Heap.empty (sF false 20 Pe)=true:=by kernel_rfl
def Pf:List AV:=[(.agg [(I6 2),(.aL [(I6 1),(.str [69]),(.aL [(I6 0),(I6 0)] 0 2 1),.aE,(I6 1),(.str [69]),(.aL [(I6 0),(I6 1)] 0 2 1),.aE,(I6 4),(.str []),.aE,(.aL [(I6 0),(I6 1)] 0 2 1),(I6 1),(.str [69]),(.aL [(I6 1),(I6 0)] 0 2 1),.aE,(I6 1),(.str [69]),(.aL [(I6 1),(I6 1)] 0 2 1),.aE,(I6 4),(.str []),.aE,(.aL [(I6 3),(I6 4)] 0 2 1),(I6 3),(.str []),.aE,(.aL [(I6 2),(I6 5)] 0 2 1)] 0 7 4)]),(.agg [(I6 2),(.aL [(.str [69]),(I6 2),(.aL [(.aL [(I6 0),(I6 1)] 0 2 1),(.aL [(I6 1),(I6 0)] 0 2 1)] 0 2 1)] 0 1 3)])]
def Pg:AV:=(.tuple [(.aL [(.str [69]),(.aL [(I6 0),(I6 1)] 0 2 1),(.str [69]),(.aL [(I6 1),(I6 0)] 0 2 1)] 0 2 2),(I6 0)])
theorem JP:l7 TP F0 D0 200 38 Pf Heap.empty (sF false 20 Pg)=true:=by kernel_rfl
def Ph:List AV:=[(.agg [(I6 2),(.aL [(I6 1),(.str [69]),(.aL [(I6 0),(I6 0)] 0 2 1),.aE,(I6 1),(.str [69]),(.aL [(I6 0),(I6 1)] 0 2 1),.aE,(I6 4),(.str []),.aE,(.aL [(I6 0),(I6 1)] 0 2 1),(I6 1),(.str [69]),(.aL [(I6 1),(I6 0)] 0 2 1),.aE,(I6 1),(.str [69]),(.aL [(I6 1),(I6 1)] 0 2 1),.aE,(I6 4),(.str []),.aE,(.aL [(I6 3),(I6 4)] 0 2 1),(I6 3),(.str []),.aE,(.aL [(I6 2),(I6 5)] 0 2 1)] 0 7 4)])]
def Pj:AV:=(I6 2)
theorem JQ:l7 TP F0 D0 200 16 Ph Heap.empty (sF true 20 Pj)=true:=by kernel_rfl
def F1:xG:=fun x=>if x=24 then some (Aw 20 Pb Pc) else if x=18 then some (Aw 20 Pd Pe) else if x=38 then some (Aw 20 Pf Pg) else if x=16 then some (FD Ph Pj) else F0 x
theorem FV:gK TP F1:=by
 have hs:=kX mixed kH AP 200;intro f g hg args h K hK;unfold F1 at hg;split at hg
 ·rename_i e;subst e;cases hg;exact mz hs JN args h K hK
 split at hg
 ·rename_i e;subst e;cases hg;exact mz hs JO args h K hK
 split at hg
 ·rename_i e;subst e;cases hg;exact mz hs JP args h K hK
 split at hg
 ·rename_i e;subst e;cases hg;exact Ax hs (by kernel_rfl) JQ args h K hK
 exact kH f g hg args h K hK
end
end Go.AM
namespace Go.AM
open Go
theorem Co:l7 TP F1 D0 200 12 [] Heap.empty (ID true)=true:=by kernel_rfl
theorem kJ{h:Heap}{K:Out->Heap->Bool}(hK:K (.ret bT) h=true):Sem TP 12 [] h K:=
 As (kX mixed FV AP 200) Co [] h K hK
end Go.AM
namespace Go.AM
open Go Go.Proofs
noncomputable section
variable {K:Out->Heap->Bool} {J:AX->St->Bool} {h:Heap} {e:Env} {a0 a1:AV}
noncomputable def F.aS.L0:=partOf (aj Tryz.f35) [1,1,0,1,0,0]
noncomputable def F.aS.cB:=LK 0 Tryz.f35 [1,1,1]
noncomputable def F.aS.L1:=partOf (aj Tryz.f35) [1,1,0,1,0,0,1,0,0,1,0,1,0,0]
noncomputable def F.aS.oW(J:AX->St->Bool):=(ej 2 (ox false (EV (partOf (aj Tryz.f35) [1,1,0,1,0,0,1,0,0,1,1])) (ej 1 (ox false (EV (partOf (aj Tryz.f35) [1,1,0,1,0,0,1,1])) J))))
noncomputable def F.aS.L2:=partOf (aj Tryz.f35) [1,1,0,1,0,0,1,0,0,1,0,1,0,0,1,0,0,1,0,0]
noncomputable def F.aS.LJ(J:AX->St->Bool):=(ej 4 (ej 3 (ox false (EV (partOf (aj Tryz.f35) [1,1,0,1,0,0,1,0,0,1,0,1,0,0,1,1])) J)))
theorem F.aS.aT:EV F.aS.L0 (sM e 42 h) J=(af (aC .lss (e 6) (e 1)) fun a=>let Q1:=(sL e [(12,e 6),(13,e 1),(14,a)]);ah a (bS (EV F.aS.L1) (sM (sL Q1 [(7,.aE),(8,I6 0)]) 42 h) (F.aS.oW J)) (J (.exit 0) (sM Q1 42 h))):=by kernel_rfl
theorem F.aS.aF:F.aS.cB K (.exit 0) (sM e 42 h)=(K (.ret (e 5)) h):=by kernel_rfl
theorem F.aS.ff:EV F.aS.L1 (sM e 42 h) J=(af (bB .slice (e 5) h) fun a=>af (aC .lss (e 8) a) fun b=>let Q1:=(sL e [(17,e 8),(18,e 5),(19,a),(20,b)]);ah b (bS (EV F.aS.L2) (sM (bZ Q1 9 (I6 0)) 42 h) (F.aS.LJ J)) (J (.exit 2) (sM Q1 42 h))):=by kernel_rfl
theorem F.aS.dL:F.aS.oW J (.exit 2) (sM e 42 h)=(af (aC .add (e 6) (I6 1)) fun a=>J .normal (sM (sL e [(40,e 7),(5,e 7),(15,e 6),(16,a),(6,a)]) 42 h)):=by kernel_rfl
theorem F.aS.AW:EV F.aS.L2 (sM e 42 h) J=(af (aC .lss (e 9) (e 0)) fun l=>let Q1:=(sL e [(23,e 9),(24,e 0),(25,l)]);ah l (af (eY [] [] []) fun m=>il 1 (e 5) (e 8) (hA h m) fun o n=>cT (bP 1 8 (.slice (Heap.next h) 0 0 1) n (hA h m)) fun c a=>af (eY [(I6 0)] [(0,1)] [(e 9)]) fun i=>cT (bP 1 8 c (.slice (Heap.next a) 0 1 1) (hA a i)) fun d b=>af (eY [.aE] [(0,1)] [d]) fun j=>cT (bP 1 24 (e 7) (.slice (Heap.next b) 0 1 1) (hA b j)) fun f k=>af (aC .add (e 9) (I6 1)) fun g=>J .normal (sM (sL Q1 [(28,e 7),(29,.slice (Heap.next h) 0 0 1),(30,e 5),(31,e 8),(32,o),(33,n),(34,c),(35,e 9),(36,.slice (Heap.next a) 0 1 1),(37,d),(38,.slice (Heap.next b) 0 1 1),(39,f),(7,f),(26,e 9),(27,g),(9,g)]) 42 k)) (J (.exit 4) (sM Q1 42 h))):=by kernel_rfl
theorem F.aS.vt:F.aS.LJ J (.exit 4) (sM e 42 h)=(af (aC .add (e 8) (I6 1)) fun a=>J .normal (sM (sL e [(21,e 8),(22,a),(8,a)]) 42 h)):=by kernel_rfl
theorem F.ta:EV (aj Tryz.f35) (sM (az [a0,a1]) 42 h) (RL Tryz.f35 K)=(af (eY [] [] []) fun a=>af (eY [.aE] [(0,1)] [(.slice (Heap.next h) 0 0 1)]) fun b=>bS (EV F.aS.L0) (sM (sL (az [a0,a1]) [(4,.aE),(10,.slice (Heap.next h) 0 0 1),(11,.slice (Heap.next (hA h a)) 0 1 1),(5,.slice (Heap.next (hA h a)) 0 1 1),(6,I6 0)]) 42 (hA (hA h a) b)) (F.aS.cB K)):=by kernel_rfl
theorem F.rD(hh:EV (aj Tryz.f35) (sM (az [a0,a1]) 42 h) (RL Tryz.f35 K)=true):Sem TP 35 [a0,a1] h K:=
 SB Tryz.func35 hh
noncomputable def F.cx.L0:=partOf (aj Tryz.f52) [1,1,0,1,0,0]
noncomputable def F.cx.cB:=LK 0 Tryz.f52 [1,1,1]
theorem F.cx.aT:EV F.cx.L0 (sM e 26 h) J=(af (bB .slice (e 0) h) fun b=>af (aC .lss (e 5) b) fun c=>let Q1:=(sL e [(11,e 5),(12,e 0),(13,b),(14,c)]);ah c (il 1 (e 0) (e 5) h fun i d=>il 1 (e 1) (e 5) h fun j f=>af (jN (.int .i64) d f) fun g=>let Q2:=(sL Q1 [(17,e 0),(18,e 5),(19,i),(20,d),(21,e 1),(22,e 5),(23,j),(24,f),(25,g)]);ah g (J .ret (sM (bZ Q2 4 bF) 26 h)) (af (aC .add (e 5) (I6 1)) fun a=>J .normal (sM (sL Q2 [(15,e 5),(16,a),(5,a)]) 26 h))) (J (.exit 0) (sM Q1 26 h))):=by kernel_rfl
theorem F.cx.aF:F.cx.cB K (.exit 0) (sM e 26 h)=(K (.ret bT) h):=by kernel_rfl
theorem F.cx.bh:F.cx.cB K .ret (sM e 26 h)=(K (.ret (e 4)) h):=by kernel_rfl
theorem F.vu:EV (aj Tryz.f52) (sM (az [a0,a1]) 26 h) (RL Tryz.f52 K)=(af (bB .slice a0 h) fun a=>af (bB .slice a1 h) fun b=>af (jN (.int .i64) a b) fun c=>ah c (K (.ret bF) h) (bS (EV F.cx.L0) (sM (sL (az [a0,a1]) [(4,bF),(6,a0),(7,a),(8,a1),(9,b),(10,c),(5,I6 0)]) 26 h) (F.cx.cB K))):=by kernel_rfl
theorem F.tc(hh:EV (aj Tryz.f52) (sM (az [a0,a1]) 26 h) (RL Tryz.f52 K)=true):Sem TP 52 [a0,a1] h K:=
 SB Tryz.func52 hh
noncomputable def F.dr.L0:=partOf (aj Tryz.f37) [1,1,1,0,1,0,0]
noncomputable def F.dr.cB:=LK 0 Tryz.f37 [1,1,1,1]
theorem F.dr.aT:EV F.dr.L0 (sM e 25 h) J=(af (bB .slice (e 3) h) fun j=>af (aC .lss (e 5) j) fun k=>let Q1:=(sL e [(8,e 5),(9,e 3),(10,j),(11,k)]);ah k (fl 0 (e 1) h fun m l=>lP 2 (e 3) (e 5) 1 h fun f g a=>aq TP 87 [l,a] h (bH (fun b i=>af (aC .add (e 4) b) fun c=>af (aC .add (e 5) (I6 1)) fun d=>J .normal (sM (sL Q1 [(14,e 4),(15,m),(16,l),(17,e 3),(18,e 5),(19,f),(20,g),(21,a),(22,b),(23,c),(4,c),(12,e 5),(13,d),(5,d)]) 25 i)) fF)) (J (.exit 0) (sM Q1 25 h))):=by kernel_rfl
theorem F.dr.aF:F.dr.cB K (.exit 0) (sM e 25 h)=(K (.ret (e 4)) h):=by kernel_rfl
theorem F.vw:EV (aj Tryz.f37) (sM (az [a0]) 25 h) (RL Tryz.f37 K)=(af (eR a0) fun a=>af (au (some 2) (nP h) (hA h a)) fun b=>aq TP 29 [b] (hA h a) (bH (fun c d=>bS (EV F.dr.L0) (sM (sL (az [a0]) [(1,nP h),(2,I6 0),(6,b),(7,c),(3,c),(4,I6 0),(5,I6 0)]) 25 d) (F.dr.cB K)) (pK K))):=by kernel_rfl
theorem F.td(hh:EV (aj Tryz.f37) (sM (az [a0]) 25 h) (RL Tryz.f37 K)=true):Sem TP 37 [a0] h K:=
 SB Tryz.func37 hh
noncomputable def F.bL.L0:=partOf (aj Tryz.f38) [1,1,1,1,1,0,1,0,0]
noncomputable def F.bL.cB:=LK 0 Tryz.f38 [1,1,1,1,1,1]
noncomputable def F.bL.L1:=partOf (aj Tryz.f38) [1,1,1,1,1,0,1,0,0,1,1,0,0,1,1,1,0,0]
noncomputable def F.bL.oW(J:AX->St->Bool):=(ej 2 (ej 1 (ox false (EV (partOf (aj Tryz.f38) [1,1,1,1,1,0,1,0,0,1,1,1])) J)))
theorem F.bL.aT:EV F.bL.L0 (sM e 86 h) J=(af (aC .lss (e 34) (e 33)) fun c=>ah c (il 1 (e 32) (e 34) h fun d a=>af (dy .string .aE false (e 6) a h) fun b=>af (bB .slice b h) fun f=>bS (EV F.bL.L1) (sM (sL e [(35,c),(36,d),(37,a),(12,a),(38,e 6),(39,a),(40,b),(13,b),(41,b),(42,f),(43,I6 0)]) 86 h) (F.bL.oW J)) (J (.exit 0) (sM (bZ e 35 c) 86 h))):=by kernel_rfl
theorem F.bL.aF:F.bL.cB K (.exit 0) (sM e 86 h)=(K (.ret (.tuple [(e 10),(I6 0)])) h):=by kernel_rfl
theorem F.bL.ff:EV F.bL.L1 (sM e 86 h) J=(af (aC .lss (e 43) (e 42)) fun m=>let Q1:=(bZ e 44 m);ah m (il 1 (e 13) (e 43) h fun n d=>af (j4 .not d) fun f=>af (iZ 1 (e 13) (e 43)) fun g=>af (bD 1 g f h) fun o=>af (au (some 2) (e 2) o) fun i=>aq TP 57 [i,(e 6)] o (bH (fun p a=>af (jN .bool p (e 9)) fun q=>let Q2:=(sL Q1 [(45,e 43),(14,e 43),(46,e 13),(47,e 43),(48,e 13),(49,e 43),(50,n),(51,d),(52,f),(53,g),(54,i),(55,e 6),(56,p),(57,e 9),(58,q)]);ah q (fl 0 (e 3) a fun r j=>af (dy .string (I6 0) false (e 7) (e 12) a) fun k=>aq TP 90 [j,k,(e 43)] a (bH (fun b l=>af (aW b 0) fun c=>af (aW b 1) fun s=>af (ko [(.str []),.aE] [(0,1),(1,1)] [(e 12),c]) fun t=>af (eY [(.str []),.aE] [(0,2)] [t]) fun E=>cT (bP 2 40 (e 10) (.slice (Heap.next l) 0 1 2) (hA l E)) fun u v=>il 1 (e 13) (e 43) v fun G w=>af (j4 .not w) fun x=>af (iZ 1 (e 13) (e 43)) fun y=>af (bD 1 y x v) fun I=>af (aC .add (e 43) (I6 1)) fun z=>J .normal (sM (sL Q2 [(60,r),(61,j),(62,e 7),(63,e 12),(64,k),(65,e 43),(66,b),(59,b),(67,c),(68,s),(15,c),(16,s),(69,e 10),(70,e 12),(71,c),(72,t),(73,.slice (Heap.next l) 0 1 2),(74,u),(10,u),(75,e 13),(76,e 43),(77,e 13),(78,e 43),(79,G),(80,w),(81,x),(82,y),(83,z),(43,z)]) 86 I)) (pS J (sL Q2 [(60,r),(61,j),(62,e 7),(63,e 12),(64,k),(65,e 43)]) 86))) (il 1 (e 13) (e 43) a fun N A=>af (j4 .not A) fun B=>af (iZ 1 (e 13) (e 43)) fun C=>af (bD 1 C B a) fun O=>af (aC .add (e 43) (I6 1)) fun D=>J .normal (sM (sL Q2 [(75,e 13),(76,e 43),(77,e 13),(78,e 43),(79,N),(80,A),(81,B),(82,C),(83,D),(43,D)]) 86 O))) (pS J (sL Q1 [(45,e 43),(14,e 43),(46,e 13),(47,e 43),(48,e 13),(49,e 43),(50,n),(51,d),(52,f),(53,g),(54,i),(55,e 6)]) 86))) (J (.exit 2) (sM Q1 86 h))):=by kernel_rfl
theorem F.bL.dL:F.bL.oW J (.exit 2) (sM e 86 h)=(af (aC .add (e 34) (I6 1)) fun a=>J .normal (sM (sL e [(84,a),(34,a)]) 86 h)):=by kernel_rfl
theorem F.w8:EV (aj Tryz.f38) (sM (az [a0,a1]) 86 h) (RL Tryz.f38 K)=(af (eR a0) fun b=>af (eR a1) fun n=>af (au (some 2) (nP h) (hA (hA h b) n)) fun y=>af (au (some 2) (.ptr (Heap.next (hA h b)) 0) (hA (hA h b) n)) fun z=>aq TP 56 [y,z] (hA (hA h b) n) (bH (fun c o=>af (aW c 0) fun l=>af (aW c 1) fun m=>af (aW c 2) fun a=>af (jN (.int .i64) a (I6 0)) fun d=>ah d (K (.ret (.tuple [.aE,a])) o) (af (au (some 2) (nP h) o) fun f=>aq TP 57 [f,l] o (bH (fun g p=>aq TP 89 [m] p (bH (fun i q=>aq TP 88 [i] q (bH (fun j k=>af (bB .slice j k) fun r=>bS (EV F.bL.L0) (sM (sL (az [a0,a1]) [(2,nP h),(3,.ptr (Heap.next (hA h b)) 0),(4,.aE),(5,I6 0),(18,y),(19,z),(20,c),(17,c),(21,l),(22,m),(23,a),(6,l),(7,m),(8,a),(24,a),(25,d),(27,f),(28,l),(29,g),(9,g),(10,.aE),(30,m),(31,i),(32,j),(33,r),(34,I6 0)]) 86 k) (F.bL.cB K)) (pK K))) (pK K))) (pK K)))) (pK K))):=by kernel_rfl
theorem F.vz(hh:EV (aj Tryz.f38) (sM (az [a0,a1]) 86 h) (RL Tryz.f38 K)=true):Sem TP 38 [a0,a1] h K:=
 SB Tryz.func38 hh
noncomputable def F.dM.L0:=partOf (aj Tryz.f90) [1,1,1,1,1,0,1,0,0]
noncomputable def F.dM.cB:=LK 0 Tryz.f90 [1,1,1,1,1,1]
theorem F.dM.aT:EV F.dM.L0 (sM e 46 h) J=(af (aC .geq (e 11) (I6 0)) fun a=>let Q1:=(sL e [(32,e 11),(33,a)]);ah a (af (aC .rem (e 2) (e 0)) fun b=>af (aC .quo (e 2) (e 0)) fun c=>af (iZ 1 (e 10) (e 11)) fun d=>af (bD 1 d b h) fun g=>af (aC .sub (e 11) (I6 1)) fun f=>J .normal (sM (sL Q1 [(36,e 10),(37,e 11),(38,e 2),(39,e 0),(40,b),(41,e 2),(42,e 0),(43,c),(44,d),(2,c),(34,e 11),(35,f),(11,f)]) 46 g)) (J (.exit 0) (sM Q1 46 h))):=by kernel_rfl
theorem F.dM.aF:F.dM.cB K (.exit 0) (sM e 46 h)=(K (.ret (.tuple [(e 10),(I6 0)])) h):=by kernel_rfl
theorem F.vA{a2:AV}:EV (aj Tryz.f90) (sM (az [a0,a1,a2]) 46 h) (RL Tryz.f90 K)=(aq TP 110 [a0,a1] h (bH (fun c d=>af (aW c 0) fun f=>af (aW c 1) fun a=>af (jN (.int .i64) a (I6 0)) fun k=>ah k (K (.ret (.tuple [.aE,a])) d) (af (aC .lss a2 (I6 0)) fun g=>ah g (K (.ret (.tuple [.aE,(I6 2)])) d) (af (aC .geq a2 f) fun i=>ah i (K (.ret (.tuple [.aE,(I6 2)])) d) (cT (dS 1 8 [(I6 0)] a1 a1 d) fun l j=>af (aC .sub a1 (I6 1)) fun b=>bS (EV F.dM.L0) (sM (sL (az [a0,a1,a2]) [(6,.aE),(7,I6 0),(13,a0),(14,a1),(15,c),(12,c),(16,f),(17,a),(8,f),(9,a),(18,a),(19,k),(21,a2),(22,g),(23,g),(23,bF),(24,a2),(23,bF),(25,f),(23,bF),(26,i),(27,i),(28,a1),(29,l),(10,l),(30,a1),(31,b),(11,b)]) 46 j) (F.dM.cB K))))) (pK K))):=by kernel_rfl
theorem F.tf{a2:AV}(hh:EV (aj Tryz.f90) (sM (az [a0,a1,a2]) 46 h) (RL Tryz.f90 K)=true):Sem TP 90 [a0,a1,a2] h K:=
 SB Tryz.func90 hh
end
end Go.AM