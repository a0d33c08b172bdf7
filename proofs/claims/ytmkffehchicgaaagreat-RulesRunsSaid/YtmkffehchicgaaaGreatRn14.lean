/- Parts of a proof, merged out of smaller texts: the abstract machine and what functions do. Conditions: none. -/
import Derived.Test.YtmkffehchicgaaaGreatRn3
import Derived.Test.YtmkffehchicgaaaGreatRn8
import Derived.Test.YtmkffehchicgaaaGreatRn9
import Derived.Test.YtmkffehchicgaaaGreatRn10
import Derived.Test.YtmkffehchicgaaaGreatRn11
import Derived.KernelRfl
set_option linter.unusedVariables false
namespace Go.Proofs
open Go.RowKit Go.Maps Go.Sort Go.Shelf
theorem Tryz.G4(m:Nat):AnyZ.SortsIn Tryz.prog Tryz.tM Fence.wide m:=
 ⟨fun blk off cap ss W hH hblk hsz=>callsIn_wide.2 (AnyM.slices_Sort_string Tryz.GN blk off cap ss W hH hblk hsz),
  fun p cap W=>callsIn_wide.2 (AnyM.slices_Sort_string_none Tryz.GN p cap W)⟩
theorem Tryz.Ee:AM.B1 Tryz.prog 50 114 100:=fun mb W=>callsIn_wide.1 (AnyZ.keys_in Tryz.Fy Fence.wide 5 trivial rfl mb W)
set_option maxHeartbeats 1000000 in
theorem Tryz.A7:AM.wW Tryz.prog 49 114 9:=by
 refine ⟨fun Bm b nn D0 w h1 h2 hown hmax hbytes=>(callsIn_wide (n:=5)).1 ?_,fun Bm w h1 h2=>?_⟩
 ·have hseq:SeqGives Fence.wide 2 Tryz.prog 114 #[.pointer (some ⟨Bm,0,none⟩)] encStr (fun ss=>ss.Perm (strKeys D0)) (Maps.size D0) w:=
   AnyZ.keys_gives (ρ:=Tryz.sE) { Tryz.Fy with } Fence.wide _ trivial rfl (by omega) Bm b nn D0 w h1 h2 hown
  exact AnyZ.sorted_in Tryz.DH Fence.wide 5 trivial trivial trivial trivial rfl (by omega) (Tryz.G4 _) (enters_of Tryz.func113 (by kernel_rfl) rfl) 114 #[.pointer (some ⟨Bm,0,none⟩)] trivial (enters_of Tryz.func114 (by kernel_rfl) rfl) _ _ hmax hbytes w hseq
 ·have hseq:SeqGives Fence.wide 2 Tryz.prog 114 #[.pointer (some ⟨Bm,0,none⟩)] encStr (fun ss:List (List UInt8)=>ss = []) 0 w:=
   AnyZ.keys_gives_nil (ρ:=Tryz.sE) { Tryz.Fy with } Fence.wide _ trivial rfl Bm w h1 h2
  refine Calls.mono ((callsIn_wide (n:=5)).1 (AnyZ.sorted_in Tryz.DH Fence.wide 5 trivial trivial trivial trivial rfl (by omega) (Tryz.G4 _) (enters_of Tryz.func113 (by kernel_rfl) rfl) 114 #[.pointer (some ⟨Bm,0,none⟩)] trivial (enters_of Tryz.func114 (by kernel_rfl) rfl) _ 0 (Nat.zero_le _) (by omega) w hseq)) fun e w' hR=>?_
  obtain ⟨v,ss,rfl,s1,s2,s3,s4⟩:=hR
  exact ⟨by rw [s3.2 s1],s4⟩
end Go.Proofs
namespace Go.AM
open Go Go.Proofs
noncomputable section
theorem mixed:Tryz.prog.follows .mixedOrders=true:=by kernel_rfl
noncomputable def N9:Code→List Oper
 |.seq (.region _ ops _) _=>ops.toList
 |_=>[]
noncomputable def Rc:Code→Nat
 |.seq (.region id _ _) _=>id
 |_=>0
noncomputable def Jq:List Oper→Oper
 |o :: _=>o
 |[]=>default
noncomputable def Re:Op→Array TypeId
 |.call c=>c.argTypes
 |_=>#[]
def F0:tL:=fun f=>if f=50 then some (G1 114) else if f=49 then some (rB 114) else none
theorem Jr:Enters Tryz.prog 50:=⟨_,_,Tryz.func50,rfl,by decide⟩
theorem Js:Enters Tryz.prog 49:=⟨_,_,Tryz.func49,rfl,by decide⟩
theorem ug:iP Tryz.prog F0:=by
 intro f g hg args h K hK
 unfold F0 at hg
 split at hg
 ·rename_i e;subst e;cases hg;exact D9 Jr Tryz.Ee args h K hK
 split at hg
 ·rename_i e;subst e;cases hg
  exact A6 Js (by kernel_rfl) Tryz.A7 args h K hK
 ·cases hg
noncomputable def uh:List Oper:=N9 (aj Tryz.f97)
noncomputable def B4:Code:=partOf (aj Tryz.f97) [1]
def D0:nj:=fun f=>if f=97 then some (fun args pan h K=>Nat.ble args.length 2&&FQ Tryz.prog 10 5 uh B4 args pan h K) else none
theorem HS:G0 Tryz.prog 97 10 5 uh B4 2:=⟨⟨Tryz.f97,Rc (aj Tryz.f97),Jq uh,Re (Jq uh).op,Tryz.func97,by kernel_rfl,by kernel_rfl,by decide,by kernel_rfl,by decide,by decide,by kernel_rfl,by kernel_rfl,by kernel_rfl,by kernel_rfl⟩⟩
theorem qc:zk Tryz.prog D0:=by
 intro f g hg
 unfold D0 at hg
 split at hg
 ·rename_i e;subst e;cases hg
  refine ⟨⟨_,_,Tryz.func97,rfl,by decide⟩,fun args pan h K hh w0 μ w vs pv h1 h2 h3=>?_⟩
  simp only [Bool.and_eq_true] at hh
  exact (CW mixed HS (Nat.le_of_ble_eq_true hh.1) hh.2).2 w0 μ w vs pv h1 h2 h3
 cases hg
end
end Go.AM
namespace Go.AM
open Go Go.Proofs
noncomputable section
noncomputable def F.dK.L0:Code:=partOf (aj Tryz.f116) [1,1,0,1,0,0]
noncomputable def F.dK.b6(K:Out→ag→Bool):AX→St→Bool:=(aV 0 (cE false (au Tryz.prog (ah Tryz.prog) (partOf (aj Tryz.f116) [1,1,1])) (aK Tryz.prog dw Tryz.f116.results.toList K)))
theorem F.dK.aO{e:Env}{h:ag}{K:AX→St→Bool}:au Tryz.prog (ah Tryz.prog) F.dK.L0 ⟨e,40,[],h⟩ K=(af (bz .str (e 0) h) fun x14=>af (aA .lss (e 3) x14) fun x15=>ax x15 (af (iD (e 0) (e 3)) fun x16=>ah Tryz.prog 163 [x16] h (br (fun x17 h18=>af (iu .not x17) fun x21=>ax x21 (af (iD (e 0) (e 3)) fun x22=>ah Tryz.prog 165 [x22] h18 (br (fun x23 h24=>af (iu .not x23) fun x27=>ax x27 (K .ret ⟨(aa (aa (aa (aa (aa (aa (aa (aa (aa (aa (aa (aa (aa (aa (aa (aa (aa (aa (aa (aa (aa (aa e 22 (e 3)) 23 (e 0)) 24 x14) 25 x15) 28 (e 0)) 29 (e 3)) 30 x16) 31 x17) 32 x21) 33 x21) 33 (.bool true)) 34 (e 0)) 33 (.bool true)) 35 (e 3)) 33 (.bool true)) 36 x22) 33 (.bool true)) 37 x23) 33 (.bool true)) 38 x27) 39 x27) 2 (.bool false)),40,[],h24⟩) (af (aA .add (e 3) (.int .i64 1)) fun x28=>K .normal ⟨(aa (aa (aa (aa (aa (aa (aa (aa (aa (aa (aa (aa (aa (aa (aa (aa (aa (aa (aa (aa (aa (aa (aa (aa e 22 (e 3)) 23 (e 0)) 24 x14) 25 x15) 28 (e 0)) 29 (e 3)) 30 x16) 31 x17) 32 x21) 33 x21) 33 (.bool true)) 34 (e 0)) 33 (.bool true)) 35 (e 3)) 33 (.bool true)) 36 x22) 33 (.bool true)) 37 x23) 33 (.bool true)) 38 x27) 39 x27) 26 (e 3)) 27 x28) 3 x28),40,[],h24⟩)) (fun v25 h26=>K (.panic v25) ⟨(aa (aa (aa (aa (aa (aa (aa (aa (aa (aa (aa (aa (aa (aa (aa (aa (aa e 22 (e 3)) 23 (e 0)) 24 x14) 25 x15) 28 (e 0)) 29 (e 3)) 30 x16) 31 x17) 32 x21) 33 x21) 33 (.bool true)) 34 (e 0)) 33 (.bool true)) 35 (e 3)) 33 (.bool true)) 36 x22) 33 (.bool true)),40,[],h26⟩))) (af (aA .add (e 3) (.int .i64 1)) fun x29=>K .normal ⟨(aa (aa (aa (aa (aa (aa (aa (aa (aa (aa (aa (aa (aa (aa (aa (aa (aa (aa (aa (aa (aa (aa (aa (aa e 22 (e 3)) 23 (e 0)) 24 x14) 25 x15) 28 (e 0)) 29 (e 3)) 30 x16) 31 x17) 32 x21) 33 x21) 33 (.bool false)) 34 bK) 33 (.bool false)) 35 bK) 33 (.bool false)) 36 bK) 33 (.bool false)) 37 bK) 33 (.bool false)) 38 bK) 39 (.bool false)) 26 (e 3)) 27 x29) 3 x29),40,[],h18⟩)) (fun v19 h20=>K (.panic v19) ⟨(aa (aa (aa (aa (aa (aa (aa e 22 (e 3)) 23 (e 0)) 24 x14) 25 x15) 28 (e 0)) 29 (e 3)) 30 x16),40,[],h20⟩))) (K (.exit 0) ⟨(aa (aa (aa (aa e 22 (e 3)) 23 (e 0)) 24 x14) 25 x15),40,[],h⟩)):=by kernel_rfl
theorem F.dK.aD{e:Env}{h:ag}{K:Out→ag→Bool}:F.dK.b6 K (.exit 0) ⟨e,40,[],h⟩=(K (.ret (.bool true)) h):=by kernel_rfl
theorem F.dK.bt{e:Env}{h:ag}{K:Out→ag→Bool}:F.dK.b6 K .ret ⟨e,40,[],h⟩=(K (.ret (e 2)) h):=by kernel_rfl
theorem F.A8{a0:AV}{h:ag}{K:Out→ag→Bool}:au Tryz.prog (ah Tryz.prog) (aj Tryz.f116) ⟨aF [a0],40,[],h⟩ (aK Tryz.prog dw Tryz.f116.results.toList K)=(af (bz .str a0 h) fun x0=>af (aA .lss x0 (.int .i64 1)) fun x1=>ax x1 (K (.ret (.bool false)) h) (af (bz .str a0 h) fun x2=>af (aA .gtr x2 (.int .i64 12)) fun x3=>ax x3 (K (.ret (.bool false)) h) (af (iD a0 (.int .i64 0)) fun x4=>ah Tryz.prog 163 [x4] h (br (fun x5 h6=>af (iu .not x5) fun x9=>ax x9 (K (.ret (.bool false)) h6) (ah Tryz.prog 164 [a0] h6 (br (fun x10 h11=>ax x10 (K (.ret (.bool false)) h11) (aT (au Tryz.prog (ah Tryz.prog) F.dK.L0) ⟨(aa (aa (aa (aa (aa (aa (aa (aa (aa (aa (aa (aa (aa (aa (aa (aa (aa (aa (aa (aa (aa (aa (aa (aa (aa (aa (aa (aa (aa (aF [a0]) 2 (.bool false)) 4 a0) 5 x0) 6 x1) 7 x1) 7 (.bool false)) 8 a0) 7 (.bool false)) 9 x2) 7 (.bool false)) 10 x3) 11 x3) 12 x3) 12 (.bool false)) 13 a0) 12 (.bool false)) 14 x4) 12 (.bool false)) 15 x5) 12 (.bool false)) 16 x9) 17 x9) 18 x9) 18 (.bool false)) 19 a0) 18 (.bool false)) 20 x10) 21 x10) 3 (.int .i64 1)),40,[],h11⟩ (F.dK.b6 K))) (fun v12 h13=>K (.panic v12) h13)))) (fun v7 h8=>K (.panic v7) h8))))):=by kernel_rfl
theorem F.zw{a0:AV}{h:ag}{K:Out→ag→Bool}(hh:(af (bz .str a0 h) fun x0=>af (aA .lss x0 (.int .i64 1)) fun x1=>ax x1 (K (.ret (.bool false)) h) (af (bz .str a0 h) fun x2=>af (aA .gtr x2 (.int .i64 12)) fun x3=>ax x3 (K (.ret (.bool false)) h) (af (iD a0 (.int .i64 0)) fun x4=>ah Tryz.prog 163 [x4] h (br (fun x5 h6=>af (iu .not x5) fun x9=>ax x9 (K (.ret (.bool false)) h6) (ah Tryz.prog 164 [a0] h6 (br (fun x10 h11=>ax x10 (K (.ret (.bool false)) h11) (aT (au Tryz.prog (ah Tryz.prog) F.dK.L0) ⟨(aa (aa (aa (aa (aa (aa (aa (aa (aa (aa (aa (aa (aa (aa (aa (aa (aa (aa (aa (aa (aa (aa (aa (aa (aa (aa (aa (aa (aa (aF [a0]) 2 (.bool false)) 4 a0) 5 x0) 6 x1) 7 x1) 7 (.bool false)) 8 a0) 7 (.bool false)) 9 x2) 7 (.bool false)) 10 x3) 11 x3) 12 x3) 12 (.bool false)) 13 a0) 12 (.bool false)) 14 x4) 12 (.bool false)) 15 x5) 12 (.bool false)) 16 x9) 17 x9) 18 x9) 18 (.bool false)) 19 a0) 18 (.bool false)) 20 x10) 21 x10) 3 (.int .i64 1)),40,[],h11⟩ (F.dK.b6 K))) (fun v12 h13=>K (.panic v12) h13)))) (fun v7 h8=>K (.panic v7) h8)))))=true):Sem Tryz.prog 116 [a0] h K:=
 aP mixed (aL _) Tryz.func116 (c:=aj Tryz.f116) rfl (by decide) (of_decide_eq_true (by kernel_rfl)) (F.A8.trans hh)
noncomputable def F.dy.L0:Code:=partOf (aj Tryz.f135) [1,1,0,1,0,0]
noncomputable def F.dy.b6(K:Out→ag→Bool):AX→St→Bool:=(aV 0 (cE false (au Tryz.prog (ah Tryz.prog) (partOf (aj Tryz.f135) [1,1,1])) (aK Tryz.prog dw Tryz.f135.results.toList K)))
theorem F.dy.aO{e:Env}{h:ag}{K:AX→St→Bool}:au Tryz.prog (ah Tryz.prog) F.dy.L0 ⟨e,39,[],h⟩ K=(af (aA .lss (e 23) (e 22)) fun x14=>ax x14 (af (iD (e 0) (e 23)) fun x15=>ah Tryz.prog 170 [x15] h (br (fun x16 h17=>af (iu .not x16) fun x20=>ax x20 (af (iD (e 0) (e 23)) fun x21=>ah Tryz.prog 172 [x21] h17 (br (fun x22 h23=>af (iu .not x22) fun x26=>ax x26 (K .ret ⟨(aa (aa (aa (aa (aa (aa (aa (aa (aa (aa (aa (aa (aa (aa (aa (aa (aa (aa (aa (aa (aa e 24 x14) 25 (e 23)) 3 (e 23)) 26 (e 0)) 27 (e 23)) 28 x15) 29 x16) 30 x20) 31 x20) 31 (.bool true)) 32 (e 0)) 31 (.bool true)) 33 (e 23)) 31 (.bool true)) 34 x21) 31 (.bool true)) 35 x22) 31 (.bool true)) 36 x26) 37 x26) 2 (.bool false)),39,[],h23⟩) (af (aA .add (e 23) (.int .i64 1)) fun x27=>K .normal ⟨(aa (aa (aa (aa (aa (aa (aa (aa (aa (aa (aa (aa (aa (aa (aa (aa (aa (aa (aa (aa (aa (aa e 24 x14) 25 (e 23)) 3 (e 23)) 26 (e 0)) 27 (e 23)) 28 x15) 29 x16) 30 x20) 31 x20) 31 (.bool true)) 32 (e 0)) 31 (.bool true)) 33 (e 23)) 31 (.bool true)) 34 x21) 31 (.bool true)) 35 x22) 31 (.bool true)) 36 x26) 37 x26) 38 x27) 23 x27),39,[],h23⟩)) (fun v24 h25=>K (.panic v24) ⟨(aa (aa (aa (aa (aa (aa (aa (aa (aa (aa (aa (aa (aa (aa (aa (aa e 24 x14) 25 (e 23)) 3 (e 23)) 26 (e 0)) 27 (e 23)) 28 x15) 29 x16) 30 x20) 31 x20) 31 (.bool true)) 32 (e 0)) 31 (.bool true)) 33 (e 23)) 31 (.bool true)) 34 x21) 31 (.bool true)),39,[],h25⟩))) (af (aA .add (e 23) (.int .i64 1)) fun x28=>K .normal ⟨(aa (aa (aa (aa (aa (aa (aa (aa (aa (aa (aa (aa (aa (aa (aa (aa (aa (aa (aa (aa (aa (aa e 24 x14) 25 (e 23)) 3 (e 23)) 26 (e 0)) 27 (e 23)) 28 x15) 29 x16) 30 x20) 31 x20) 31 (.bool false)) 32 bK) 31 (.bool false)) 33 bK) 31 (.bool false)) 34 bK) 31 (.bool false)) 35 bK) 31 (.bool false)) 36 bK) 37 (.bool false)) 38 x28) 23 x28),39,[],h17⟩)) (fun v18 h19=>K (.panic v18) ⟨(aa (aa (aa (aa (aa (aa e 24 x14) 25 (e 23)) 3 (e 23)) 26 (e 0)) 27 (e 23)) 28 x15),39,[],h19⟩))) (K (.exit 0) ⟨(aa e 24 x14),39,[],h⟩)):=by kernel_rfl
theorem F.dy.aD{e:Env}{h:ag}{K:Out→ag→Bool}:F.dy.b6 K (.exit 0) ⟨e,39,[],h⟩=(K (.ret (.bool true)) h):=by kernel_rfl
theorem F.dy.bt{e:Env}{h:ag}{K:Out→ag→Bool}:F.dy.b6 K .ret ⟨e,39,[],h⟩=(K (.ret (e 2)) h):=by kernel_rfl
theorem F.A9{a0:AV}{h:ag}{K:Out→ag→Bool}:au Tryz.prog (ah Tryz.prog) (aj Tryz.f135) ⟨aF [a0],39,[],h⟩ (aK Tryz.prog dw Tryz.f135.results.toList K)=(af (fH .string a0 (.str [])) fun x0=>ax x0 (K (.ret (.bool false)) h) (af (bz .str a0 h) fun x1=>af (aA .gtr x1 (.int .i64 12)) fun x2=>ax x2 (K (.ret (.bool false)) h) (af (iD a0 (.int .i64 0)) fun x3=>ah Tryz.prog 170 [x3] h (br (fun x4 h5=>af (iu .not x4) fun x8=>ax x8 (K (.ret (.bool false)) h5) (ah Tryz.prog 171 [a0] h5 (br (fun x9 h10=>ax x9 (K (.ret (.bool false)) h10) (af (bz .str a0 h10) fun x13=>aT (au Tryz.prog (ah Tryz.prog) F.dy.L0) ⟨(aa (aa (aa (aa (aa (aa (aa (aa (aa (aa (aa (aa (aa (aa (aa (aa (aa (aa (aa (aa (aa (aa (aa (aa (aa (aa (aa (aa (aa (aa (aF [a0]) 2 (.bool false)) 4 a0) 5 x0) 6 x0) 6 (.bool false)) 7 a0) 6 (.bool false)) 8 x1) 6 (.bool false)) 9 x2) 10 x2) 11 x2) 11 (.bool false)) 12 a0) 11 (.bool false)) 13 x3) 11 (.bool false)) 14 x4) 11 (.bool false)) 15 x8) 16 x8) 17 x8) 17 (.bool false)) 18 a0) 17 (.bool false)) 19 x9) 20 x9) 21 a0) 22 x13) 23 (.int .i64 0)),39,[],h10⟩ (F.dy.b6 K))) (fun v11 h12=>K (.panic v11) h12)))) (fun v6 h7=>K (.panic v6) h7))))):=by kernel_rfl
theorem F.zx{a0:AV}{h:ag}{K:Out→ag→Bool}(hh:(af (fH .string a0 (.str [])) fun x0=>ax x0 (K (.ret (.bool false)) h) (af (bz .str a0 h) fun x1=>af (aA .gtr x1 (.int .i64 12)) fun x2=>ax x2 (K (.ret (.bool false)) h) (af (iD a0 (.int .i64 0)) fun x3=>ah Tryz.prog 170 [x3] h (br (fun x4 h5=>af (iu .not x4) fun x8=>ax x8 (K (.ret (.bool false)) h5) (ah Tryz.prog 171 [a0] h5 (br (fun x9 h10=>ax x9 (K (.ret (.bool false)) h10) (af (bz .str a0 h10) fun x13=>aT (au Tryz.prog (ah Tryz.prog) F.dy.L0) ⟨(aa (aa (aa (aa (aa (aa (aa (aa (aa (aa (aa (aa (aa (aa (aa (aa (aa (aa (aa (aa (aa (aa (aa (aa (aa (aa (aa (aa (aa (aa (aF [a0]) 2 (.bool false)) 4 a0) 5 x0) 6 x0) 6 (.bool false)) 7 a0) 6 (.bool false)) 8 x1) 6 (.bool false)) 9 x2) 10 x2) 11 x2) 11 (.bool false)) 12 a0) 11 (.bool false)) 13 x3) 11 (.bool false)) 14 x4) 11 (.bool false)) 15 x8) 16 x8) 17 x8) 17 (.bool false)) 18 a0) 17 (.bool false)) 19 x9) 20 x9) 21 a0) 22 x13) 23 (.int .i64 0)),39,[],h10⟩ (F.dy.b6 K))) (fun v11 h12=>K (.panic v11) h12)))) (fun v6 h7=>K (.panic v6) h7)))))=true):Sem Tryz.prog 135 [a0] h K:=
 aP mixed (aL _) Tryz.func135 (c:=aj Tryz.f135) rfl (by decide) (of_decide_eq_true (by kernel_rfl)) (F.A9.trans hh)
theorem F.xz{a0:AV}{h:ag}{K:Out→ag→Bool}:au Tryz.prog (ah Tryz.prog) (aj Tryz.f163) ⟨aF [a0],17,[],h⟩ (aK Tryz.prog dw Tryz.f163.results.toList K)=(af (aA .geq a0 (.int .u8 97)) fun x0=>ax x0 (af (aA .leq a0 (.int .u8 122)) fun x1=>ax x1 (K (.ret (.bool true)) h) (af (aA .geq a0 (.int .u8 65)) fun x2=>ax x2 (af (aA .leq a0 (.int .u8 90)) fun x3=>K (.ret x3) h) (K (.ret (.bool false)) h))) (af (aA .geq a0 (.int .u8 65)) fun x4=>ax x4 (af (aA .leq a0 (.int .u8 90)) fun x5=>K (.ret x5) h) (K (.ret (.bool false)) h))):=by kernel_rfl
theorem F.vo{a0:AV}{h:ag}{K:Out→ag→Bool}(hh:(af (aA .geq a0 (.int .u8 97)) fun x0=>ax x0 (af (aA .leq a0 (.int .u8 122)) fun x1=>ax x1 (K (.ret (.bool true)) h) (af (aA .geq a0 (.int .u8 65)) fun x2=>ax x2 (af (aA .leq a0 (.int .u8 90)) fun x3=>K (.ret x3) h) (K (.ret (.bool false)) h))) (af (aA .geq a0 (.int .u8 65)) fun x4=>ax x4 (af (aA .leq a0 (.int .u8 90)) fun x5=>K (.ret x5) h) (K (.ret (.bool false)) h)))=true):Sem Tryz.prog 163 [a0] h K:=
 aP mixed (aL _) Tryz.func163 (c:=aj Tryz.f163) rfl (by decide) (of_decide_eq_true (by kernel_rfl)) (F.xz.trans hh)
theorem F.Ba{a0:AV}{h:ag}{K:Out→ag→Bool}:au Tryz.prog (ah Tryz.prog) (aj Tryz.f164) ⟨aF [a0],16,[],h⟩ (aK Tryz.prog dw Tryz.f164.results.toList K)=(af (fH .string a0 (.str [97,110,100])) fun x0=>ax x0 (ax x0 (K (.ret (.bool true)) h) (K (.ret (.bool false)) h)) (af (fH .string a0 (.str [111,114])) fun x1=>ax x1 (ax x1 (K (.ret (.bool true)) h) (K (.ret (.bool false)) h)) (af (fH .string a0 (.str [110,111,116])) fun x2=>ax x2 (ax x2 (K (.ret (.bool true)) h) (K (.ret (.bool false)) h)) (af (fH .string a0 (.str [115,111,109,101])) fun x3=>ax x3 (ax x3 (K (.ret (.bool true)) h) (K (.ret (.bool false)) h)) (af (fH .string a0 (.str [97,108,108])) fun x4=>ax x4 (ax x4 (K (.ret (.bool true)) h) (K (.ret (.bool false)) h)) (af (fH .string a0 (.str [108,102,112])) fun x5=>ax x5 (ax x5 (K (.ret (.bool true)) h) (K (.ret (.bool false)) h)) (af (fH .string a0 (.str [112,102,112])) fun x6=>ax x6 (ax x6 (K (.ret (.bool true)) h) (K (.ret (.bool false)) h)) (af (fH .string a0 (.str [116,99])) fun x7=>ax x7 (ax x7 (K (.ret (.bool true)) h) (K (.ret (.bool false)) h)) (af (fH .string a0 (.str [101,120,105,115,116,115])) fun x8=>ax x8 (ax x8 (K (.ret (.bool true)) h) (K (.ret (.bool false)) h)) (af (fH .string a0 (.str [116,114,117,101])) fun x9=>ax x9 (ax x9 (K (.ret (.bool true)) h) (K (.ret (.bool false)) h)) (af (fH .string a0 (.str [102,97,108,115,101])) fun x10=>ax x10 (K (.ret (.bool true)) h) (K (.ret (.bool false)) h)))))))))))):=by kernel_rfl
theorem F.zy{a0:AV}{h:ag}{K:Out→ag→Bool}(hh:(af (fH .string a0 (.str [97,110,100])) fun x0=>ax x0 (ax x0 (K (.ret (.bool true)) h) (K (.ret (.bool false)) h)) (af (fH .string a0 (.str [111,114])) fun x1=>ax x1 (ax x1 (K (.ret (.bool true)) h) (K (.ret (.bool false)) h)) (af (fH .string a0 (.str [110,111,116])) fun x2=>ax x2 (ax x2 (K (.ret (.bool true)) h) (K (.ret (.bool false)) h)) (af (fH .string a0 (.str [115,111,109,101])) fun x3=>ax x3 (ax x3 (K (.ret (.bool true)) h) (K (.ret (.bool false)) h)) (af (fH .string a0 (.str [97,108,108])) fun x4=>ax x4 (ax x4 (K (.ret (.bool true)) h) (K (.ret (.bool false)) h)) (af (fH .string a0 (.str [108,102,112])) fun x5=>ax x5 (ax x5 (K (.ret (.bool true)) h) (K (.ret (.bool false)) h)) (af (fH .string a0 (.str [112,102,112])) fun x6=>ax x6 (ax x6 (K (.ret (.bool true)) h) (K (.ret (.bool false)) h)) (af (fH .string a0 (.str [116,99])) fun x7=>ax x7 (ax x7 (K (.ret (.bool true)) h) (K (.ret (.bool false)) h)) (af (fH .string a0 (.str [101,120,105,115,116,115])) fun x8=>ax x8 (ax x8 (K (.ret (.bool true)) h) (K (.ret (.bool false)) h)) (af (fH .string a0 (.str [116,114,117,101])) fun x9=>ax x9 (ax x9 (K (.ret (.bool true)) h) (K (.ret (.bool false)) h)) (af (fH .string a0 (.str [102,97,108,115,101])) fun x10=>ax x10 (K (.ret (.bool true)) h) (K (.ret (.bool false)) h))))))))))))=true):Sem Tryz.prog 164 [a0] h K:=
 aP mixed (aL _) Tryz.func164 (c:=aj Tryz.f164) rfl (by decide) (of_decide_eq_true (by kernel_rfl)) (F.Ba.trans hh)
theorem F.zA{a0:AV}{h:ag}{K:Out→ag→Bool}:au Tryz.prog (ah Tryz.prog) (aj Tryz.f165) ⟨aF [a0],9,[],h⟩ (aK Tryz.prog dw Tryz.f165.results.toList K)=(af (aA .geq a0 (.int .u8 48)) fun x0=>ax x0 (af (aA .leq a0 (.int .u8 57)) fun x1=>K (.ret x1) h) (K (.ret (.bool false)) h)):=by kernel_rfl
theorem F.xA{a0:AV}{h:ag}{K:Out→ag→Bool}(hh:(af (aA .geq a0 (.int .u8 48)) fun x0=>ax x0 (af (aA .leq a0 (.int .u8 57)) fun x1=>K (.ret x1) h) (K (.ret (.bool false)) h))=true):Sem Tryz.prog 165 [a0] h K:=
 aP mixed (aL _) Tryz.func165 (c:=aj Tryz.f165) rfl (by decide) (of_decide_eq_true (by kernel_rfl)) (F.zA.trans hh)
noncomputable def F.cR.L0:Code:=partOf (aj Tryz.f73) [1,0,1,0,0]
noncomputable def F.cR.b6(K:Out→ag→Bool):AX→St→Bool:=(aV 0 (cE false (au Tryz.prog (ah Tryz.prog) (partOf (aj Tryz.f73) [1,1])) (aK Tryz.prog dw Tryz.f73.results.toList K)))
theorem F.cR.aO{e:Env}{h:ag}{K:AX→St→Bool}:au Tryz.prog (ah Tryz.prog) F.cR.L0 ⟨e,18,[],h⟩ K=(af (bz .slice (e 0) h) fun x0=>af (aA .lss (e 5) x0) fun x1=>ax x1 (af (cS 1 (e 0) (e 5)) fun x2=>af (ai none x2 h) fun x3=>af (fH .string x3 (e 1)) fun x4=>ax x4 (K .ret ⟨(aa (aa (aa (aa (aa (aa (aa (aa (aa (aa (aa e 6 (e 5)) 7 (e 0)) 8 x0) 9 x1) 12 (e 0)) 13 (e 5)) 14 x2) 15 x3) 16 (e 1)) 17 x4) 4 (.bool true)),18,[],h⟩) (af (aA .add (e 5) (.int .i64 1)) fun x5=>K .normal ⟨(aa (aa (aa (aa (aa (aa (aa (aa (aa (aa (aa (aa (aa e 6 (e 5)) 7 (e 0)) 8 x0) 9 x1) 12 (e 0)) 13 (e 5)) 14 x2) 15 x3) 16 (e 1)) 17 x4) 10 (e 5)) 11 x5) 5 x5),18,[],h⟩)) (K (.exit 0) ⟨(aa (aa (aa (aa e 6 (e 5)) 7 (e 0)) 8 x0) 9 x1),18,[],h⟩)):=by kernel_rfl
theorem F.cR.aD{e:Env}{h:ag}{K:Out→ag→Bool}:F.cR.b6 K (.exit 0) ⟨e,18,[],h⟩=(K (.ret (.bool false)) h):=by kernel_rfl
theorem F.cR.bt{e:Env}{h:ag}{K:Out→ag→Bool}:F.cR.b6 K .ret ⟨e,18,[],h⟩=(K (.ret (e 4)) h):=by kernel_rfl
theorem F.zB{a0 a1:AV}{h:ag}{K:Out→ag→Bool}:au Tryz.prog (ah Tryz.prog) (aj Tryz.f73) ⟨aF [a0,a1],18,[],h⟩ (aK Tryz.prog dw Tryz.f73.results.toList K)=(aT (au Tryz.prog (ah Tryz.prog) F.cR.L0) ⟨(aa (aa (aF [a0,a1]) 4 (.bool false)) 5 (.int .i64 0)),18,[],h⟩ (F.cR.b6 K)):=by kernel_rfl
theorem F.oZ{a0 a1:AV}{h:ag}{K:Out→ag→Bool}(hh:(aT (au Tryz.prog (ah Tryz.prog) F.cR.L0) ⟨(aa (aa (aF [a0,a1]) 4 (.bool false)) 5 (.int .i64 0)),18,[],h⟩ (F.cR.b6 K))=true):Sem Tryz.prog 73 [a0,a1] h K:=
 aP mixed (aL _) Tryz.func73 (c:=aj Tryz.f73) rfl (by decide) (of_decide_eq_true (by kernel_rfl)) (F.zB.trans hh)
theorem F.xC{a0:AV}{h:ag}{K:Out→ag→Bool}:au Tryz.prog (ah Tryz.prog) (aj Tryz.f170) ⟨aF [a0],17,[],h⟩ (aK Tryz.prog dw Tryz.f170.results.toList K)=(af (aA .geq a0 (.int .u8 97)) fun x0=>ax x0 (af (aA .leq a0 (.int .u8 122)) fun x1=>ax x1 (K (.ret (.bool true)) h) (af (aA .geq a0 (.int .u8 65)) fun x2=>ax x2 (af (aA .leq a0 (.int .u8 90)) fun x3=>K (.ret x3) h) (K (.ret (.bool false)) h))) (af (aA .geq a0 (.int .u8 65)) fun x4=>ax x4 (af (aA .leq a0 (.int .u8 90)) fun x5=>K (.ret x5) h) (K (.ret (.bool false)) h))):=by kernel_rfl
theorem F.vp{a0:AV}{h:ag}{K:Out→ag→Bool}(hh:(af (aA .geq a0 (.int .u8 97)) fun x0=>ax x0 (af (aA .leq a0 (.int .u8 122)) fun x1=>ax x1 (K (.ret (.bool true)) h) (af (aA .geq a0 (.int .u8 65)) fun x2=>ax x2 (af (aA .leq a0 (.int .u8 90)) fun x3=>K (.ret x3) h) (K (.ret (.bool false)) h))) (af (aA .geq a0 (.int .u8 65)) fun x4=>ax x4 (af (aA .leq a0 (.int .u8 90)) fun x5=>K (.ret x5) h) (K (.ret (.bool false)) h)))=true):Sem Tryz.prog 170 [a0] h K:=
 aP mixed (aL _) Tryz.func170 (c:=aj Tryz.f170) rfl (by decide) (of_decide_eq_true (by kernel_rfl)) (F.xC.trans hh)
theorem F.Bb{a0:AV}{h:ag}{K:Out→ag→Bool}:au Tryz.prog (ah Tryz.prog) (aj Tryz.f171) ⟨aF [a0],16,[],h⟩ (aK Tryz.prog dw Tryz.f171.results.toList K)=(af (fH .string a0 (.str [97,110,100])) fun x0=>ax x0 (ax x0 (K (.ret (.bool true)) h) (K (.ret (.bool false)) h)) (af (fH .string a0 (.str [111,114])) fun x1=>ax x1 (ax x1 (K (.ret (.bool true)) h) (K (.ret (.bool false)) h)) (af (fH .string a0 (.str [110,111,116])) fun x2=>ax x2 (ax x2 (K (.ret (.bool true)) h) (K (.ret (.bool false)) h)) (af (fH .string a0 (.str [115,111,109,101])) fun x3=>ax x3 (ax x3 (K (.ret (.bool true)) h) (K (.ret (.bool false)) h)) (af (fH .string a0 (.str [97,108,108])) fun x4=>ax x4 (ax x4 (K (.ret (.bool true)) h) (K (.ret (.bool false)) h)) (af (fH .string a0 (.str [108,102,112])) fun x5=>ax x5 (ax x5 (K (.ret (.bool true)) h) (K (.ret (.bool false)) h)) (af (fH .string a0 (.str [112,102,112])) fun x6=>ax x6 (ax x6 (K (.ret (.bool true)) h) (K (.ret (.bool false)) h)) (af (fH .string a0 (.str [116,99])) fun x7=>ax x7 (ax x7 (K (.ret (.bool true)) h) (K (.ret (.bool false)) h)) (af (fH .string a0 (.str [101,120,105,115,116,115])) fun x8=>ax x8 (ax x8 (K (.ret (.bool true)) h) (K (.ret (.bool false)) h)) (af (fH .string a0 (.str [116,114,117,101])) fun x9=>ax x9 (ax x9 (K (.ret (.bool true)) h) (K (.ret (.bool false)) h)) (af (fH .string a0 (.str [102,97,108,115,101])) fun x10=>ax x10 (K (.ret (.bool true)) h) (K (.ret (.bool false)) h)))))))))))):=by kernel_rfl
theorem F.zC{a0:AV}{h:ag}{K:Out→ag→Bool}(hh:(af (fH .string a0 (.str [97,110,100])) fun x0=>ax x0 (ax x0 (K (.ret (.bool true)) h) (K (.ret (.bool false)) h)) (af (fH .string a0 (.str [111,114])) fun x1=>ax x1 (ax x1 (K (.ret (.bool true)) h) (K (.ret (.bool false)) h)) (af (fH .string a0 (.str [110,111,116])) fun x2=>ax x2 (ax x2 (K (.ret (.bool true)) h) (K (.ret (.bool false)) h)) (af (fH .string a0 (.str [115,111,109,101])) fun x3=>ax x3 (ax x3 (K (.ret (.bool true)) h) (K (.ret (.bool false)) h)) (af (fH .string a0 (.str [97,108,108])) fun x4=>ax x4 (ax x4 (K (.ret (.bool true)) h) (K (.ret (.bool false)) h)) (af (fH .string a0 (.str [108,102,112])) fun x5=>ax x5 (ax x5 (K (.ret (.bool true)) h) (K (.ret (.bool false)) h)) (af (fH .string a0 (.str [112,102,112])) fun x6=>ax x6 (ax x6 (K (.ret (.bool true)) h) (K (.ret (.bool false)) h)) (af (fH .string a0 (.str [116,99])) fun x7=>ax x7 (ax x7 (K (.ret (.bool true)) h) (K (.ret (.bool false)) h)) (af (fH .string a0 (.str [101,120,105,115,116,115])) fun x8=>ax x8 (ax x8 (K (.ret (.bool true)) h) (K (.ret (.bool false)) h)) (af (fH .string a0 (.str [116,114,117,101])) fun x9=>ax x9 (ax x9 (K (.ret (.bool true)) h) (K (.ret (.bool false)) h)) (af (fH .string a0 (.str [102,97,108,115,101])) fun x10=>ax x10 (K (.ret (.bool true)) h) (K (.ret (.bool false)) h))))))))))))=true):Sem Tryz.prog 171 [a0] h K:=
 aP mixed (aL _) Tryz.func171 (c:=aj Tryz.f171) rfl (by decide) (of_decide_eq_true (by kernel_rfl)) (F.Bb.trans hh)
theorem F.zD{a0:AV}{h:ag}{K:Out→ag→Bool}:au Tryz.prog (ah Tryz.prog) (aj Tryz.f172) ⟨aF [a0],9,[],h⟩ (aK Tryz.prog dw Tryz.f172.results.toList K)=(af (aA .geq a0 (.int .u8 48)) fun x0=>ax x0 (af (aA .leq a0 (.int .u8 57)) fun x1=>K (.ret x1) h) (K (.ret (.bool false)) h)):=by kernel_rfl
theorem F.xD{a0:AV}{h:ag}{K:Out→ag→Bool}(hh:(af (aA .geq a0 (.int .u8 48)) fun x0=>ax x0 (af (aA .leq a0 (.int .u8 57)) fun x1=>K (.ret x1) h) (K (.ret (.bool false)) h))=true):Sem Tryz.prog 172 [a0] h K:=
 aP mixed (aL _) Tryz.func172 (c:=aj Tryz.f172) rfl (by decide) (of_decide_eq_true (by kernel_rfl)) (F.zD.trans hh)
noncomputable def F.dO.L0:Code:=partOf (aj Tryz.f35) [1,1,0,1,0,0]
noncomputable def F.dO.b6(K:Out→ag→Bool):AX→St→Bool:=(aV 0 (cE false (au Tryz.prog (ah Tryz.prog) (partOf (aj Tryz.f35) [1,1,1])) (aK Tryz.prog dw Tryz.f35.results.toList K)))
theorem F.dO.aO{e:Env}{h:ag}{K:AX→St→Bool}:au Tryz.prog (ah Tryz.prog) F.dO.L0 ⟨e,26,[],h⟩ K=(af (bz .slice (e 0) h) fun x3=>af (aA .lss (e 5) x3) fun x4=>ax x4 (af (cS 1 (e 0) (e 5)) fun x5=>af (ai none x5 h) fun x6=>af (cS 1 (e 1) (e 5)) fun x7=>af (ai none x7 h) fun x8=>af (lC (.int .i64) x6 x8) fun x9=>ax x9 (K .ret ⟨(aa (aa (aa (aa (aa (aa (aa (aa (aa (aa (aa (aa (aa (aa e 11 (e 5)) 12 (e 0)) 13 x3) 14 x4) 17 (e 0)) 18 (e 5)) 19 x5) 20 x6) 21 (e 1)) 22 (e 5)) 23 x7) 24 x8) 25 x9) 4 (.bool false)),26,[],h⟩) (af (aA .add (e 5) (.int .i64 1)) fun x10=>K .normal ⟨(aa (aa (aa (aa (aa (aa (aa (aa (aa (aa (aa (aa (aa (aa (aa (aa e 11 (e 5)) 12 (e 0)) 13 x3) 14 x4) 17 (e 0)) 18 (e 5)) 19 x5) 20 x6) 21 (e 1)) 22 (e 5)) 23 x7) 24 x8) 25 x9) 15 (e 5)) 16 x10) 5 x10),26,[],h⟩)) (K (.exit 0) ⟨(aa (aa (aa (aa e 11 (e 5)) 12 (e 0)) 13 x3) 14 x4),26,[],h⟩)):=by kernel_rfl
theorem F.dO.aD{e:Env}{h:ag}{K:Out→ag→Bool}:F.dO.b6 K (.exit 0) ⟨e,26,[],h⟩=(K (.ret (.bool true)) h):=by kernel_rfl
theorem F.dO.bt{e:Env}{h:ag}{K:Out→ag→Bool}:F.dO.b6 K .ret ⟨e,26,[],h⟩=(K (.ret (e 4)) h):=by kernel_rfl
theorem F.zE{a0 a1:AV}{h:ag}{K:Out→ag→Bool}:au Tryz.prog (ah Tryz.prog) (aj Tryz.f35) ⟨aF [a0,a1],26,[],h⟩ (aK Tryz.prog dw Tryz.f35.results.toList K)=(af (bz .slice a0 h) fun x0=>af (bz .slice a1 h) fun x1=>af (lC (.int .i64) x0 x1) fun x2=>ax x2 (K (.ret (.bool false)) h) (aT (au Tryz.prog (ah Tryz.prog) F.dO.L0) ⟨(aa (aa (aa (aa (aa (aa (aa (aF [a0,a1]) 4 (.bool false)) 6 a0) 7 x0) 8 a1) 9 x1) 10 x2) 5 (.int .i64 0)),26,[],h⟩ (F.dO.b6 K))):=by kernel_rfl
theorem F.xE{a0 a1:AV}{h:ag}{K:Out→ag→Bool}(hh:(af (bz .slice a0 h) fun x0=>af (bz .slice a1 h) fun x1=>af (lC (.int .i64) x0 x1) fun x2=>ax x2 (K (.ret (.bool false)) h) (aT (au Tryz.prog (ah Tryz.prog) F.dO.L0) ⟨(aa (aa (aa (aa (aa (aa (aa (aF [a0,a1]) 4 (.bool false)) 6 a0) 7 x0) 8 a1) 9 x1) 10 x2) 5 (.int .i64 0)),26,[],h⟩ (F.dO.b6 K)))=true):Sem Tryz.prog 35 [a0,a1] h K:=
 aP mixed (aL _) Tryz.func35 (c:=aj Tryz.f35) rfl (by decide) (of_decide_eq_true (by kernel_rfl)) (F.zE.trans hh)
noncomputable def F.dF.L0:Code:=partOf (aj Tryz.f86) [1,1,0,0,0]
noncomputable def F.dF.b6(K:Out→ag→Bool):AX→St→Bool:=(aV 0 (cE false (au Tryz.prog (ah Tryz.prog) (partOf (aj Tryz.f86) [1,1,1])) (aK Tryz.prog dw Tryz.f86.results.toList K)))
theorem F.dF.aO{e:Env}{h:ag}{K:AX→St→Bool}:au Tryz.prog (ah Tryz.prog) F.dF.L0 ⟨e,45,[],h⟩ K=(af (bz .slice (e 0) h) fun x0=>af (aA .lss (e 5) x0) fun x1=>ax x1 (af (cS 1 (e 0) (e 5)) fun x2=>af (ai none x2 h) fun x3=>af (aA .lss x3 (e 1)) fun x4=>ax x4 (af (aA .add (e 5) (.int .i64 1)) fun x5=>K .normal ⟨(aa (aa (aa (aa (aa (aa (aa (aa (aa (aa (aa (aa (aa (aa (aa (aa (aa (aa (aa (aa (aa e 6 (e 5)) 7 (e 0)) 8 x0) 9 x1) 10 x1) 10 (.bool true)) 11 (e 0)) 10 (.bool true)) 12 (e 5)) 10 (.bool true)) 13 x2) 10 (.bool true)) 14 x3) 10 (.bool true)) 15 (e 1)) 10 (.bool true)) 16 x4) 17 x4) 18 (e 5)) 19 x5) 5 x5),45,[],h⟩) (K (.exit 0) ⟨(aa (aa (aa (aa (aa (aa (aa (aa (aa (aa (aa (aa (aa (aa (aa (aa (aa (aa e 6 (e 5)) 7 (e 0)) 8 x0) 9 x1) 10 x1) 10 (.bool true)) 11 (e 0)) 10 (.bool true)) 12 (e 5)) 10 (.bool true)) 13 x2) 10 (.bool true)) 14 x3) 10 (.bool true)) 15 (e 1)) 10 (.bool true)) 16 x4) 17 x4),45,[],h⟩)) (K (.exit 0) ⟨(aa (aa (aa (aa (aa (aa (aa (aa (aa (aa (aa (aa (aa (aa (aa (aa (aa (aa e 6 (e 5)) 7 (e 0)) 8 x0) 9 x1) 10 x1) 10 (.bool false)) 11 bK) 10 (.bool false)) 12 bK) 10 (.bool false)) 13 bK) 10 (.bool false)) 14 bK) 10 (.bool false)) 15 bK) 10 (.bool false)) 16 bK) 17 (.bool false)),45,[],h⟩)):=by kernel_rfl
theorem F.dF.aD{e:Env}{h:ag}{K:Out→ag→Bool}:F.dF.b6 K (.exit 0) ⟨e,45,[],h⟩=(af (bz .slice (e 0) h) fun x6=>af (aA .lss (e 5) x6) fun x7=>ax x7 (af (cS 1 (e 0) (e 5)) fun x8=>af (ai none x8 h) fun x9=>af (fH .string x9 (e 1)) fun x10=>ax x10 (K (.ret (e 0)) h) (af (fc [] [] []) fun c11=>af (gI (some 1) (e 0) none (some (e 5))) fun x12=>af (fc [(.str [])] [(0,1)] [(e 1)]) fun c13=>af (gI (some 1) (e 0) (some (e 5)) none) fun x14=>ct (cg 1 16 (.slice (ag.next h) 0 0 1) x12 (ag.alloc (ag.alloc h (.cells c11)) (.cells c13))) fun x15 h16=>ct (cg 1 16 x15 (.slice (ag.next (ag.alloc h (.cells c11))) 0 1 1) h16) fun x17 h18=>ct (cg 1 16 x17 x14 h18) fun x19 h20=>K (.ret x19) h20)) (af (fc [] [] []) fun c21=>af (gI (some 1) (e 0) none (some (e 5))) fun x22=>af (fc [(.str [])] [(0,1)] [(e 1)]) fun c23=>af (gI (some 1) (e 0) (some (e 5)) none) fun x24=>ct (cg 1 16 (.slice (ag.next h) 0 0 1) x22 (ag.alloc (ag.alloc h (.cells c21)) (.cells c23))) fun x25 h26=>ct (cg 1 16 x25 (.slice (ag.next (ag.alloc h (.cells c21))) 0 1 1) h26) fun x27 h28=>ct (cg 1 16 x27 x24 h28) fun x29 h30=>K (.ret x29) h30)):=by kernel_rfl
theorem F.xF{a0 a1:AV}{h:ag}{K:Out→ag→Bool}:au Tryz.prog (ah Tryz.prog) (aj Tryz.f86) ⟨aF [a0,a1],45,[],h⟩ (aK Tryz.prog dw Tryz.f86.results.toList K)=(aT (au Tryz.prog (ah Tryz.prog) F.dF.L0) ⟨(aa (aa (aF [a0,a1]) 4 .nils) 5 (.int .i64 0)),45,[],h⟩ (F.dF.b6 K)):=by kernel_rfl
theorem F.vq{a0 a1:AV}{h:ag}{K:Out→ag→Bool}(hh:(aT (au Tryz.prog (ah Tryz.prog) F.dF.L0) ⟨(aa (aa (aF [a0,a1]) 4 .nils) 5 (.int .i64 0)),45,[],h⟩ (F.dF.b6 K))=true):Sem Tryz.prog 86 [a0,a1] h K:=
 aP mixed (aL _) Tryz.func86 (c:=aj Tryz.f86) rfl (by decide) (of_decide_eq_true (by kernel_rfl)) (F.xF.trans hh)
noncomputable def F.cL.L0:Code:=partOf (aj Tryz.f34) [1,1,0,1,0,0]
noncomputable def F.cL.b6(K:Out→ag→Bool):AX→St→Bool:=(aV 0 (cE false (au Tryz.prog (ah Tryz.prog) (partOf (aj Tryz.f34) [1,1,1])) (aK Tryz.prog dw Tryz.f34.results.toList K)))
theorem F.cL.aO{e:Env}{h:ag}{K:AX→St→Bool}:au Tryz.prog (ah Tryz.prog) F.cL.L0 ⟨e,20,[],h⟩ K=(af (bz .slice (e 0) h) fun x0=>af (aA .lss (e 4) x0) fun x1=>ax x1 (af (cS 3 (e 0) (e 4)) fun x2=>af (bD 0 x2) fun x3=>af (bD 0 x3) fun x4=>af (ai none x4 h) fun x5=>ah Tryz.prog 86 [(e 3),x5] h (br (fun x6 h7=>af (aA .add (e 4) (.int .i64 1)) fun x10=>K .normal ⟨(aa (aa (aa (aa (aa (aa (aa (aa (aa (aa (aa (aa (aa (aa (aa (aa e 5 (e 4)) 6 (e 0)) 7 x0) 8 x1) 11 (e 3)) 12 (e 0)) 13 (e 4)) 14 x2) 15 x3) 16 x4) 17 x5) 18 x6) 3 x6) 9 (e 4)) 10 x10) 4 x10),20,[],h7⟩) (fun v8 h9=>K (.panic v8) ⟨(aa (aa (aa (aa (aa (aa (aa (aa (aa (aa (aa e 5 (e 4)) 6 (e 0)) 7 x0) 8 x1) 11 (e 3)) 12 (e 0)) 13 (e 4)) 14 x2) 15 x3) 16 x4) 17 x5),20,[],h9⟩))) (K (.exit 0) ⟨(aa (aa (aa (aa e 5 (e 4)) 6 (e 0)) 7 x0) 8 x1),20,[],h⟩)):=by kernel_rfl
theorem F.cL.aD{e:Env}{h:ag}{K:Out→ag→Bool}:F.cL.b6 K (.exit 0) ⟨e,20,[],h⟩=(K (.ret (e 3)) h):=by kernel_rfl
theorem F.vr{a0:AV}{h:ag}{K:Out→ag→Bool}:au Tryz.prog (ah Tryz.prog) (aj Tryz.f34) ⟨aF [a0],20,[],h⟩ (aK Tryz.prog dw Tryz.f34.results.toList K)=(aT (au Tryz.prog (ah Tryz.prog) F.cL.L0) ⟨(aa (aa (aa (aF [a0]) 2 .nils) 3 .nils) 4 (.int .i64 0)),20,[],h⟩ (F.cL.b6 K)):=by kernel_rfl
theorem F.uj{a0:AV}{h:ag}{K:Out→ag→Bool}(hh:(aT (au Tryz.prog (ah Tryz.prog) F.cL.L0) ⟨(aa (aa (aa (aF [a0]) 2 .nils) 3 .nils) 4 (.int .i64 0)),20,[],h⟩ (F.cL.b6 K))=true):Sem Tryz.prog 34 [a0] h K:=
 aP mixed (aL _) Tryz.func34 (c:=aj Tryz.f34) rfl (by decide) (of_decide_eq_true (by kernel_rfl)) (F.vr.trans hh)
noncomputable def F.dm.L0:Code:=partOf (aj Tryz.f58) [1,0,1,0,0]
noncomputable def F.dm.b6(K:Out→ag→Bool):AX→St→Bool:=(aV 0 (cE false (au Tryz.prog (ah Tryz.prog) (partOf (aj Tryz.f58) [1,1])) (aK Tryz.prog dw Tryz.f58.results.toList K)))
theorem F.dm.aO{e:Env}{h:ag}{K:AX→St→Bool}:au Tryz.prog (ah Tryz.prog) F.dm.L0 ⟨e,19,[],h⟩ K=(af (bz .slice (e 0) h) fun x0=>af (aA .lss (e 5) x0) fun x1=>ax x1 (af (cS 1 (e 0) (e 5)) fun x2=>af (ai none x2 h) fun x3=>af (fH .string x3 (e 1)) fun x4=>ax x4 (K .ret ⟨(aa (aa (aa (aa (aa (aa (aa (aa (aa (aa (aa (aa e 6 (e 5)) 7 (e 0)) 8 x0) 9 x1) 12 (e 0)) 13 (e 5)) 14 x2) 15 x3) 16 (e 1)) 17 x4) 18 (e 5)) 4 (e 5)),19,[],h⟩) (af (aA .add (e 5) (.int .i64 1)) fun x5=>K .normal ⟨(aa (aa (aa (aa (aa (aa (aa (aa (aa (aa (aa (aa (aa e 6 (e 5)) 7 (e 0)) 8 x0) 9 x1) 12 (e 0)) 13 (e 5)) 14 x2) 15 x3) 16 (e 1)) 17 x4) 10 (e 5)) 11 x5) 5 x5),19,[],h⟩)) (K (.exit 0) ⟨(aa (aa (aa (aa e 6 (e 5)) 7 (e 0)) 8 x0) 9 x1),19,[],h⟩)):=by kernel_rfl
theorem F.dm.aD{e:Env}{h:ag}{K:Out→ag→Bool}:F.dm.b6 K (.exit 0) ⟨e,19,[],h⟩=(K (.ret (.int .i64 (-1))) h):=by kernel_rfl
theorem F.dm.bt{e:Env}{h:ag}{K:Out→ag→Bool}:F.dm.b6 K .ret ⟨e,19,[],h⟩=(K (.ret (e 4)) h):=by kernel_rfl
theorem F.zF{a0 a1:AV}{h:ag}{K:Out→ag→Bool}:au Tryz.prog (ah Tryz.prog) (aj Tryz.f58) ⟨aF [a0,a1],19,[],h⟩ (aK Tryz.prog dw Tryz.f58.results.toList K)=(aT (au Tryz.prog (ah Tryz.prog) F.dm.L0) ⟨(aa (aa (aF [a0,a1]) 4 (.int .i64 0)) 5 (.int .i64 0)),19,[],h⟩ (F.dm.b6 K)):=by kernel_rfl
theorem F.xG{a0 a1:AV}{h:ag}{K:Out→ag→Bool}(hh:(aT (au Tryz.prog (ah Tryz.prog) F.dm.L0) ⟨(aa (aa (aF [a0,a1]) 4 (.int .i64 0)) 5 (.int .i64 0)),19,[],h⟩ (F.dm.b6 K))=true):Sem Tryz.prog 58 [a0,a1] h K:=
 aP mixed (aL _) Tryz.func58 (c:=aj Tryz.f58) rfl (by decide) (of_decide_eq_true (by kernel_rfl)) (F.zF.trans hh)
noncomputable def F.cu.L0:Code:=partOf (aj Tryz.f85) [1,1,0,1,0,0]
noncomputable def F.cu.b6(K:Out→ag→Bool):AX→St→Bool:=(aV 0 (cE false (au Tryz.prog (ah Tryz.prog) (partOf (aj Tryz.f85) [1,1,1])) (aK Tryz.prog dw Tryz.f85.results.toList K)))
noncomputable def F.cu.L1:Code:=partOf (aj Tryz.f85) [1,1,0,1,0,0,1,0,0,1,1,0,0]
noncomputable def F.cu.jd(K:AX→St→Bool):AX→St→Bool:=(aV 2 (aV 1 (cE false (au Tryz.prog (ah Tryz.prog) (partOf (aj Tryz.f85) [1,1,0,1,0,0,1,1])) K)))
theorem F.cu.aO{e:Env}{h:ag}{K:AX→St→Bool}:au Tryz.prog (ah Tryz.prog) F.cu.L0 ⟨e,63,[],h⟩ K=(af (bz .slice (e 0) h) fun x0=>af (aA .lss (e 4) x0) fun x1=>ax x1 (af (cS 3 (e 0) (e 4)) fun x2=>af (bD 0 x2) fun x3=>af (bD 0 x3) fun x4=>af (ai none x4 h) fun x5=>af (cS 3 (e 0) (e 4)) fun x6=>af (bD 0 x6) fun x7=>af (bD 1 x7) fun x8=>af (ai none x8 h) fun x9=>af (bz .slice x9 h) fun x10=>af (gw [(.str []),(.int .i64 0)] [(0,1),(1,1)] [x5,x10]) fun x11=>af (fc [(.str []),(.int .i64 0)] [(0,2)] [x11]) fun c12=>ct (cg 2 24 (e 3) (.slice (ag.next h) 0 1 2) (ag.alloc h (.cells c12))) fun x13 h14=>aT (au Tryz.prog (ah Tryz.prog) F.cu.L1) ⟨(aa (aa (aa (aa (aa (aa (aa (aa (aa (aa (aa (aa (aa (aa (aa (aa (aa (aa (aa (aa (aa (aa (aa e 7 (e 4)) 8 (e 0)) 9 x0) 10 x1) 13 (e 3)) 14 (e 0)) 15 (e 4)) 16 x2) 17 x3) 18 x4) 19 x5) 20 (e 0)) 21 (e 4)) 22 x6) 23 x7) 24 x8) 25 x9) 26 x10) 27 x11) 28 (.slice (ag.next h) 0 1 2)) 29 x13) 3 x13) 5 (.int .i64 0)),63,[],h14⟩ (F.cu.jd K)) (K (.exit 0) ⟨(aa (aa (aa (aa e 7 (e 4)) 8 (e 0)) 9 x0) 10 x1),63,[],h⟩)):=by kernel_rfl
theorem F.cu.aD{e:Env}{h:ag}{K:Out→ag→Bool}:F.cu.b6 K (.exit 0) ⟨e,63,[],h⟩=(K (.ret (e 3)) h):=by kernel_rfl
theorem F.cu.dx{e:Env}{h:ag}{K:AX→St→Bool}:au Tryz.prog (ah Tryz.prog) F.cu.L1 ⟨e,63,[],h⟩ K=(af (cS 3 (e 0) (e 4)) fun x15=>af (bD 2 x15) fun x16=>af (ai none x16 h) fun x17=>af (bz .slice x17 h) fun x18=>af (aA .lss (e 5) x18) fun x19=>ax x19 (af (cS 3 (e 0) (e 4)) fun x20=>af (bD 2 x20) fun x21=>af (ai none x21 h) fun x22=>af (cS 4 x22 (e 5)) fun x23=>af (ai (some 4) x23 h) fun x24=>af (bp 4 (.ptr (ag.next h) 0) x24 (ag.alloc h (.cells [(.int .i64 0),(.bool false),(.str []),.nils]))) fun h25=>af (bD 0 (.ptr (ag.next h) 0)) fun x26=>af (ai none x26 h25) fun x27=>af (fH (.int .i64) x27 (.int .i64 0)) fun x28=>ax x28 (af (bD 2 (.ptr (ag.next h) 0)) fun x29=>af (bD 0 x29) fun x30=>af (ai none x30 h25) fun x31=>af (bD 2 (.ptr (ag.next h) 0)) fun x32=>af (bD 1 x32) fun x33=>af (ai none x33 h25) fun x34=>af (bz .slice x34 h25) fun x35=>af (gw [(.str []),(.int .i64 0)] [(0,1),(1,1)] [x31,x35]) fun x36=>af (fc [(.str []),(.int .i64 0)] [(0,2)] [x36]) fun c37=>ct (cg 2 24 (e 3) (.slice (ag.next h25) 0 1 2) (ag.alloc h25 (.cells c37))) fun x38 h39=>af (aA .add (e 5) (.int .i64 1)) fun x40=>K .normal ⟨(aa (aa (aa (aa (aa (aa (aa (aa (aa (aa (aa (aa (aa (aa (aa (aa (aa (aa (aa (aa (aa (aa (aa (aa (aa (aa (aa (aa (aa (aa (aa (aa (aa (aa (aa e 30 (e 5)) 31 (e 0)) 32 (e 4)) 33 x15) 34 x16) 35 x17) 36 x18) 37 x19) 40 (e 0)) 41 (e 4)) 42 x20) 43 x21) 44 x22) 45 (e 5)) 46 x23) 47 x24) 6 (.ptr (ag.next h) 0)) 48 x26) 49 x27) 50 x28) 51 (e 3)) 52 x29) 53 x30) 54 x31) 55 x32) 56 x33) 57 x34) 58 x35) 59 x36) 60 (.slice (ag.next h25) 0 1 2)) 61 x38) 3 x38) 38 (e 5)) 39 x40) 5 x40),63,[],h39⟩) (af (aA .add (e 5) (.int .i64 1)) fun x41=>K .normal ⟨(aa (aa (aa (aa (aa (aa (aa (aa (aa (aa (aa (aa (aa (aa (aa (aa (aa (aa (aa (aa (aa (aa (aa e 30 (e 5)) 31 (e 0)) 32 (e 4)) 33 x15) 34 x16) 35 x17) 36 x18) 37 x19) 40 (e 0)) 41 (e 4)) 42 x20) 43 x21) 44 x22) 45 (e 5)) 46 x23) 47 x24) 6 (.ptr (ag.next h) 0)) 48 x26) 49 x27) 50 x28) 38 (e 5)) 39 x41) 5 x41),63,[],h25⟩)) (K (.exit 2) ⟨(aa (aa (aa (aa (aa (aa (aa (aa e 30 (e 5)) 31 (e 0)) 32 (e 4)) 33 x15) 34 x16) 35 x17) 36 x18) 37 x19),63,[],h⟩)):=by kernel_rfl
theorem F.cu.cw{e:Env}{h:ag}{K:AX→St→Bool}:F.cu.jd K (.exit 2) ⟨e,63,[],h⟩=(af (aA .add (e 4) (.int .i64 1)) fun x42=>K .normal ⟨(aa (aa (aa e 11 (e 4)) 12 x42) 4 x42),63,[],h⟩):=by kernel_rfl
theorem F.zG{a0:AV}{h:ag}{K:Out→ag→Bool}:au Tryz.prog (ah Tryz.prog) (aj Tryz.f85) ⟨aF [a0],63,[],h⟩ (aK Tryz.prog dw Tryz.f85.results.toList K)=(aT (au Tryz.prog (ah Tryz.prog) F.cu.L0) ⟨(aa (aa (aa (aF [a0]) 2 .nils) 3 .nils) 4 (.int .i64 0)),63,[],h⟩ (F.cu.b6 K)):=by kernel_rfl
theorem F.xI{a0:AV}{h:ag}{K:Out→ag→Bool}(hh:(aT (au Tryz.prog (ah Tryz.prog) F.cu.L0) ⟨(aa (aa (aa (aF [a0]) 2 .nils) 3 .nils) 4 (.int .i64 0)),63,[],h⟩ (F.cu.b6 K))=true):Sem Tryz.prog 85 [a0] h K:=
 aP mixed (aL _) Tryz.func85 (c:=aj Tryz.f85) rfl (by decide) (of_decide_eq_true (by kernel_rfl)) (F.zG.trans hh)
noncomputable def F.dr.L0:Code:=partOf (aj Tryz.f134) [1,0,1,0,0]
noncomputable def F.dr.b6(K:Out→ag→Bool):AX→St→Bool:=(aV 0 (cE false (au Tryz.prog (ah Tryz.prog) (partOf (aj Tryz.f134) [1,1])) (aK Tryz.prog dw Tryz.f134.results.toList K)))
theorem F.dr.aO{e:Env}{h:ag}{K:AX→St→Bool}:au Tryz.prog (ah Tryz.prog) F.dr.L0 ⟨e,19,[],h⟩ K=(af (bz .slice (e 0) h) fun x0=>af (aA .lss (e 3) x0) fun x1=>ax x1 (af (cS 1 (e 0) (e 3)) fun x2=>af (ai none x2 h) fun x3=>ah Tryz.prog 116 [x3] h (br (fun x4 h5=>af (iu .not x4) fun x8=>ax x8 (K .ret ⟨(aa (aa (aa (aa (aa (aa (aa (aa (aa (aa (aa e 4 (e 3)) 5 (e 0)) 6 x0) 7 x1) 10 (e 0)) 11 (e 3)) 12 x2) 13 x3) 14 x4) 15 x8) 2 (.bool false)),19,[],h5⟩) (af (aA .add (e 3) (.int .i64 1)) fun x9=>K .normal ⟨(aa (aa (aa (aa (aa (aa (aa (aa (aa (aa (aa (aa (aa e 4 (e 3)) 5 (e 0)) 6 x0) 7 x1) 10 (e 0)) 11 (e 3)) 12 x2) 13 x3) 14 x4) 15 x8) 8 (e 3)) 9 x9) 3 x9),19,[],h5⟩)) (fun v6 h7=>K (.panic v6) ⟨(aa (aa (aa (aa (aa (aa (aa (aa e 4 (e 3)) 5 (e 0)) 6 x0) 7 x1) 10 (e 0)) 11 (e 3)) 12 x2) 13 x3),19,[],h7⟩))) (K (.exit 0) ⟨(aa (aa (aa (aa e 4 (e 3)) 5 (e 0)) 6 x0) 7 x1),19,[],h⟩)):=by kernel_rfl
theorem F.dr.aD{e:Env}{h:ag}{K:Out→ag→Bool}:F.dr.b6 K (.exit 0) ⟨e,19,[],h⟩=(af (bz .slice (e 0) h) fun x10=>af (aA .leq x10 (.int .i64 12)) fun x11=>K (.ret x11) h):=by kernel_rfl
theorem F.dr.bt{e:Env}{h:ag}{K:Out→ag→Bool}:F.dr.b6 K .ret ⟨e,19,[],h⟩=(K (.ret (e 2)) h):=by kernel_rfl
theorem F.zH{a0:AV}{h:ag}{K:Out→ag→Bool}:au Tryz.prog (ah Tryz.prog) (aj Tryz.f134) ⟨aF [a0],19,[],h⟩ (aK Tryz.prog dw Tryz.f134.results.toList K)=(aT (au Tryz.prog (ah Tryz.prog) F.dr.L0) ⟨(aa (aa (aF [a0]) 2 (.bool false)) 3 (.int .i64 0)),19,[],h⟩ (F.dr.b6 K)):=by kernel_rfl
theorem F.xJ{a0:AV}{h:ag}{K:Out→ag→Bool}(hh:(aT (au Tryz.prog (ah Tryz.prog) F.dr.L0) ⟨(aa (aa (aF [a0]) 2 (.bool false)) 3 (.int .i64 0)),19,[],h⟩ (F.dr.b6 K))=true):Sem Tryz.prog 134 [a0] h K:=
 aP mixed (aL _) Tryz.func134 (c:=aj Tryz.f134) rfl (by decide) (of_decide_eq_true (by kernel_rfl)) (F.zH.trans hh)
theorem F.iT{a0 a1:AV}{h:ag}{K:Out→ag→Bool}:au Tryz.prog (ah Tryz.prog) (aj Tryz.f168) ⟨aF [a0,a1],9,[],h⟩ (aK Tryz.prog dw Tryz.f168.results.toList K)=(ah Tryz.prog 190 [a0,a1] h (br (fun x0 h1=>af (aA .geq x0 (.int .i64 0)) fun x4=>K (.ret x4) h1) (fun v2 h3=>K (.panic v2) h3))):=by kernel_rfl
theorem F.iI{a0 a1:AV}{h:ag}{K:Out→ag→Bool}(hh:(ah Tryz.prog 190 [a0,a1] h (br (fun x0 h1=>af (aA .geq x0 (.int .i64 0)) fun x4=>K (.ret x4) h1) (fun v2 h3=>K (.panic v2) h3)))=true):Sem Tryz.prog 168 [a0,a1] h K:=
 aP mixed (aL _) Tryz.func168 (c:=aj Tryz.f168) rfl (by decide) (of_decide_eq_true (by kernel_rfl)) (F.iT.trans hh)
noncomputable def F.bl.L0:Code:=partOf (aj Tryz.f190) [1,0,1,0,0]
noncomputable def F.bl.b6(K:Out→ag→Bool):AX→St→Bool:=(aV 0 (cE false (au Tryz.prog (ah Tryz.prog) (partOf (aj Tryz.f190) [1,1])) (aK Tryz.prog dw Tryz.f190.results.toList K)))
theorem F.bl.aO{e:Env}{h:ag}{K:AX→St→Bool}:au Tryz.prog (ah Tryz.prog) F.bl.L0 ⟨e,19,[],h⟩ K=(af (aA .lss (e 8) (e 7)) fun x1=>ax x1 (af (cS 1 (e 0) (e 8)) fun x2=>af (ai none x2 h) fun x3=>lJ (e 1) fun f9 a10 a11=>ah Tryz.prog f9 (a10++([x3]++a11)) h (br (fun x4 h5=>ax x4 (K .ret ⟨(aa (aa (aa (aa (aa (aa (aa (aa (aa (aa (aa e 9 x1) 10 (e 8)) 5 (e 8)) 11 (e 1)) 12 (e 0)) 13 (e 8)) 14 x2) 15 x3) 16 x4) 17 (e 8)) 4 (e 8)),19,[],h5⟩) (af (aA .add (e 8) (.int .i64 1)) fun x8=>K .normal ⟨(aa (aa (aa (aa (aa (aa (aa (aa (aa (aa (aa e 9 x1) 10 (e 8)) 5 (e 8)) 11 (e 1)) 12 (e 0)) 13 (e 8)) 14 x2) 15 x3) 16 x4) 18 x8) 8 x8),19,[],h5⟩)) (fun v6 h7=>K (.panic v6) ⟨(aa (aa (aa (aa (aa (aa (aa (aa e 9 x1) 10 (e 8)) 5 (e 8)) 11 (e 1)) 12 (e 0)) 13 (e 8)) 14 x2) 15 x3),19,[],h7⟩))) (K (.exit 0) ⟨(aa e 9 x1),19,[],h⟩)):=by kernel_rfl
theorem F.bl.aD{e:Env}{h:ag}{K:Out→ag→Bool}:F.bl.b6 K (.exit 0) ⟨e,19,[],h⟩=(K (.ret (.int .i64 (-1))) h):=by kernel_rfl
theorem F.bl.bt{e:Env}{h:ag}{K:Out→ag→Bool}:F.bl.b6 K .ret ⟨e,19,[],h⟩=(K (.ret (e 4)) h):=by kernel_rfl
theorem F.jt{a0 a1:AV}{h:ag}{K:Out→ag→Bool}:au Tryz.prog (ah Tryz.prog) (aj Tryz.f190) ⟨aF [a0,a1],19,[],h⟩ (aK Tryz.prog dw Tryz.f190.results.toList K)=(af (bz .slice a0 h) fun x0=>aT (au Tryz.prog (ah Tryz.prog) F.bl.L0) ⟨(aa (aa (aa (aa (aF [a0,a1]) 4 (.int .i64 0)) 6 a0) 7 x0) 8 (.int .i64 0)),19,[],h⟩ (F.bl.b6 K)):=by kernel_rfl
theorem F.jl{a0 a1:AV}{h:ag}{K:Out→ag→Bool}(hh:(af (bz .slice a0 h) fun x0=>aT (au Tryz.prog (ah Tryz.prog) F.bl.L0) ⟨(aa (aa (aa (aa (aF [a0,a1]) 4 (.int .i64 0)) 6 a0) 7 x0) 8 (.int .i64 0)),19,[],h⟩ (F.bl.b6 K))=true):Sem Tryz.prog 190 [a0,a1] h K:=
 aP mixed (aL _) Tryz.func190 (c:=aj Tryz.f190) rfl (by decide) (of_decide_eq_true (by kernel_rfl)) (F.jt.trans hh)
theorem F.jG{a0 a1:AV}{h:ag}{K:Out→ag→Bool}:au Tryz.prog (ah Tryz.prog) (aj Tryz.f155) ⟨aF [a0,a1],9,[],h⟩ (aK Tryz.prog dw Tryz.f155.results.toList K)=(ah Tryz.prog 157 [a0,a1] h (br (fun x0 h1=>af (aA .geq x0 (.int .i64 0)) fun x4=>K (.ret x4) h1) (fun v2 h3=>K (.panic v2) h3))):=by kernel_rfl
theorem F.ju{a0 a1:AV}{h:ag}{K:Out→ag→Bool}(hh:(ah Tryz.prog 157 [a0,a1] h (br (fun x0 h1=>af (aA .geq x0 (.int .i64 0)) fun x4=>K (.ret x4) h1) (fun v2 h3=>K (.panic v2) h3)))=true):Sem Tryz.prog 155 [a0,a1] h K:=
 aP mixed (aL _) Tryz.func155 (c:=aj Tryz.f155) rfl (by decide) (of_decide_eq_true (by kernel_rfl)) (F.jG.trans hh)
noncomputable def F.bq.L0:Code:=partOf (aj Tryz.f157) [1,0,1,0,0]
noncomputable def F.bq.b6(K:Out→ag→Bool):AX→St→Bool:=(aV 0 (cE false (au Tryz.prog (ah Tryz.prog) (partOf (aj Tryz.f157) [1,1])) (aK Tryz.prog dw Tryz.f157.results.toList K)))
theorem F.bq.aO{e:Env}{h:ag}{K:AX→St→Bool}:au Tryz.prog (ah Tryz.prog) F.bq.L0 ⟨e,19,[],h⟩ K=(af (aA .lss (e 8) (e 7)) fun x1=>ax x1 (af (cS 1 (e 0) (e 8)) fun x2=>af (ai none x2 h) fun x3=>af (fH .string (e 1) x3) fun x4=>ax x4 (K .ret ⟨(aa (aa (aa (aa (aa (aa (aa (aa (aa (aa (aa e 9 x1) 10 (e 8)) 5 (e 8)) 11 (e 1)) 12 (e 0)) 13 (e 8)) 14 x2) 15 x3) 16 x4) 17 (e 8)) 4 (e 8)),19,[],h⟩) (af (aA .add (e 8) (.int .i64 1)) fun x5=>K .normal ⟨(aa (aa (aa (aa (aa (aa (aa (aa (aa (aa (aa e 9 x1) 10 (e 8)) 5 (e 8)) 11 (e 1)) 12 (e 0)) 13 (e 8)) 14 x2) 15 x3) 16 x4) 18 x5) 8 x5),19,[],h⟩)) (K (.exit 0) ⟨(aa e 9 x1),19,[],h⟩)):=by kernel_rfl
theorem F.bq.aD{e:Env}{h:ag}{K:Out→ag→Bool}:F.bq.b6 K (.exit 0) ⟨e,19,[],h⟩=(K (.ret (.int .i64 (-1))) h):=by kernel_rfl
theorem F.bq.bt{e:Env}{h:ag}{K:Out→ag→Bool}:F.bq.b6 K .ret ⟨e,19,[],h⟩=(K (.ret (e 4)) h):=by kernel_rfl
theorem F.kg{a0 a1:AV}{h:ag}{K:Out→ag→Bool}:au Tryz.prog (ah Tryz.prog) (aj Tryz.f157) ⟨aF [a0,a1],19,[],h⟩ (aK Tryz.prog dw Tryz.f157.results.toList K)=(af (bz .slice a0 h) fun x0=>aT (au Tryz.prog (ah Tryz.prog) F.bq.L0) ⟨(aa (aa (aa (aa (aF [a0,a1]) 4 (.int .i64 0)) 6 a0) 7 x0) 8 (.int .i64 0)),19,[],h⟩ (F.bq.b6 K)):=by kernel_rfl
theorem F.gu{a0 a1:AV}{h:ag}{K:Out→ag→Bool}(hh:(af (bz .slice a0 h) fun x0=>aT (au Tryz.prog (ah Tryz.prog) F.bq.L0) ⟨(aa (aa (aa (aa (aF [a0,a1]) 4 (.int .i64 0)) 6 a0) 7 x0) 8 (.int .i64 0)),19,[],h⟩ (F.bq.b6 K))=true):Sem Tryz.prog 157 [a0,a1] h K:=
 aP mixed (aL _) Tryz.func157 (c:=aj Tryz.f157) rfl (by decide) (of_decide_eq_true (by kernel_rfl)) (F.kg.trans hh)
theorem F.xK{a0:AV}{h:ag}{K:Out→ag→Bool}:au Tryz.prog (ah Tryz.prog) (aj Tryz.f169) ⟨aF [a0],6,[],h⟩ (aK Tryz.prog dw Tryz.f169.results.toList K)=(ah Tryz.prog 135 [a0] h (br (fun x0 h1=>af (iu .not x0) fun x4=>K (.ret x4) h1) (fun v2 h3=>K (.panic v2) h3))):=by kernel_rfl
theorem F.vt{a0:AV}{h:ag}{K:Out→ag→Bool}(hh:(ah Tryz.prog 135 [a0] h (br (fun x0 h1=>af (iu .not x0) fun x4=>K (.ret x4) h1) (fun v2 h3=>K (.panic v2) h3)))=true):Sem Tryz.prog 169 [a0] h K:=
 aP mixed (aL _) Tryz.func169 (c:=aj Tryz.f169) rfl (by decide) (of_decide_eq_true (by kernel_rfl)) (F.xK.trans hh)
noncomputable def F.cV.L0:Code:=partOf (aj Tryz.f154) [1,0,0]
noncomputable def F.cV.b6(K:Out→ag→Bool):AX→St→Bool:=(aV 0 (aK Tryz.prog dw Tryz.f154.results.toList K))
theorem F.cV.aO{e:Env}{h:ag}{K:AX→St→Bool}:au Tryz.prog (ah Tryz.prog) F.cV.L0 ⟨e,20,[],h⟩ K=(af (aA .lss (e 7) (e 6)) fun x1=>ax x1 (af (cS 1 (e 5) (e 7)) fun x2=>af (ai none x2 h) fun x3=>af (ai none (e 1) h) fun x4=>ah Tryz.prog 155 [x4,x3] h (br (fun x5 h6=>af (iu .not x5) fun x9=>ax x9 (af (ai none (e 1) h6) fun x10=>af (fc [(.str [])] [(0,1)] [x3]) fun c11=>ct (cg 1 16 x10 (.slice (ag.next h6) 0 1 1) (ag.alloc h6 (.cells c11))) fun x12 h13=>af (bp 1 (e 1) x12 h13) fun h14=>af (aA .add (e 7) (.int .i64 1)) fun x15=>K .normal ⟨(aa (aa (aa (aa (aa (aa (aa (aa (aa (aa (aa (aa (aa (aa e 8 x1) 9 x2) 10 x3) 4 x3) 11 x4) 12 x3) 13 x5) 14 x9) 15 x10) 16 x3) 17 (.slice (ag.next h6) 0 1 1)) 18 x12) 19 x15) 7 x15),20,[],h14⟩) (af (aA .add (e 7) (.int .i64 1)) fun x16=>K .normal ⟨(aa (aa (aa (aa (aa (aa (aa (aa (aa (aa e 8 x1) 9 x2) 10 x3) 4 x3) 11 x4) 12 x3) 13 x5) 14 x9) 19 x16) 7 x16),20,[],h6⟩)) (fun v7 h8=>K (.panic v7) ⟨(aa (aa (aa (aa (aa (aa e 8 x1) 9 x2) 10 x3) 4 x3) 11 x4) 12 x3),20,[],h8⟩))) (K (.exit 0) ⟨(aa e 8 x1),20,[],h⟩)):=by kernel_rfl
theorem F.cV.aD{e:Env}{h:ag}{K:Out→ag→Bool}:F.cV.b6 K (.exit 0) ⟨e,20,[],h⟩=(K (.ret (.tuple [])) h):=by kernel_rfl
theorem F.qd{a0 a1:AV}{h:ag}{K:Out→ag→Bool}:au Tryz.prog (ah Tryz.prog) (aj Tryz.f154) ⟨aF [a0,a1],20,[],h⟩ (aK Tryz.prog dw Tryz.f154.results.toList K)=(af (bz .slice a0 h) fun x0=>aT (au Tryz.prog (ah Tryz.prog) F.cV.L0) ⟨(aa (aa (aa (aF [a0,a1]) 5 a0) 6 x0) 7 (.int .i64 0)),20,[],h⟩ (F.cV.b6 K)):=by kernel_rfl
theorem F.pF{a0 a1:AV}{h:ag}{K:Out→ag→Bool}(hh:(af (bz .slice a0 h) fun x0=>aT (au Tryz.prog (ah Tryz.prog) F.cV.L0) ⟨(aa (aa (aa (aF [a0,a1]) 5 a0) 6 x0) 7 (.int .i64 0)),20,[],h⟩ (F.cV.b6 K))=true):Sem Tryz.prog 154 [a0,a1] h K:=
 aP mixed (aL _) Tryz.func154 (c:=aj Tryz.f154) rfl (by decide) (of_decide_eq_true (by kernel_rfl)) (F.qd.trans hh)
theorem F.Bc{a0:AV}{h:ag}{K:Out→ag→Bool}:au Tryz.prog (ah Tryz.prog) (aj Tryz.f130) ⟨aF [a0],18,[],h⟩ (aK Tryz.prog dw Tryz.f130.results.toList K)=(af (cK a0) fun c0=>af (bD 0 (.ptr (ag.next h) 0)) fun x1=>af (ai none x1 (ag.alloc h (.cells c0))) fun x2=>ah Tryz.prog 135 [x2] (ag.alloc h (.cells c0)) (br (fun x3 h4=>ax x3 (af (bD 1 (.ptr (ag.next h) 0)) fun x7=>af (ai none x7 h4) fun x8=>af (bz .slice x8 h4) fun x9=>af (aA .leq x9 (.int .i64 12)) fun x10=>ax x10 (af (bD 1 (.ptr (ag.next h) 0)) fun x11=>af (ai none x11 h4) fun x12=>ah Tryz.prog 168 [x12,(.func 169 [] [])] h4 (br (fun x13 h14=>af (iu .not x13) fun x17=>K (.ret x17) h14) (fun v15 h16=>K (.panic v15) h16))) (K (.ret (.bool false)) h4)) (K (.ret (.bool false)) h4)) (fun v5 h6=>K (.panic v5) h6))):=by kernel_rfl
theorem F.zI{a0:AV}{h:ag}{K:Out→ag→Bool}(hh:(af (cK a0) fun c0=>af (bD 0 (.ptr (ag.next h) 0)) fun x1=>af (ai none x1 (ag.alloc h (.cells c0))) fun x2=>ah Tryz.prog 135 [x2] (ag.alloc h (.cells c0)) (br (fun x3 h4=>ax x3 (af (bD 1 (.ptr (ag.next h) 0)) fun x7=>af (ai none x7 h4) fun x8=>af (bz .slice x8 h4) fun x9=>af (aA .leq x9 (.int .i64 12)) fun x10=>ax x10 (af (bD 1 (.ptr (ag.next h) 0)) fun x11=>af (ai none x11 h4) fun x12=>ah Tryz.prog 168 [x12,(.func 169 [] [])] h4 (br (fun x13 h14=>af (iu .not x13) fun x17=>K (.ret x17) h14) (fun v15 h16=>K (.panic v15) h16))) (K (.ret (.bool false)) h4)) (K (.ret (.bool false)) h4)) (fun v5 h6=>K (.panic v5) h6)))=true):Sem Tryz.prog 130 [a0] h K:=
 aP mixed (aL _) Tryz.func130 (c:=aj Tryz.f130) rfl (by decide) (of_decide_eq_true (by kernel_rfl)) (F.Bc.trans hh)
theorem F.oD{a0 a1:AV}{h:ag}{K:Out→ag→Bool}:au Tryz.prog (ah Tryz.prog) (aj Tryz.f131) ⟨aF [a0,a1],35,[],h⟩ (aK Tryz.prog dw Tryz.f131.results.toList K)=(af (cK a1) fun c0=>af (bV a0) fun x1=>af (bD 1 x1) fun x2=>af (ai none x2 (ag.alloc h (.cells c0))) fun x3=>af (bD 0 (.ptr (ag.next h) 0)) fun x4=>af (ai none x4 (ag.alloc h (.cells c0))) fun x5=>af (dz .string (.int .i64 0) true x3 x5 (ag.alloc h (.cells c0))) fun x6=>af (bP x6 0) fun x7=>af (bP x6 1) fun x8=>af (bV a0) fun x9=>af (bD 1 x9) fun x10=>af (ai none x10 (ag.alloc h (.cells c0))) fun x11=>af (bD 0 (.ptr (ag.next h) 0)) fun x12=>af (ai none x12 (ag.alloc h (.cells c0))) fun x13=>af (bD 1 (.ptr (ag.next h) 0)) fun x14=>af (ai none x14 (ag.alloc h (.cells c0))) fun x15=>af (bz .slice x15 (ag.alloc h (.cells c0))) fun x16=>af (ep .string x11 x13 x16 (ag.alloc h (.cells c0))) fun h17=>af (iu .not x8) fun x18=>ax x18 (K (.ret (.bool true)) h17) (af (bD 1 (.ptr (ag.next h) 0)) fun x19=>af (ai none x19 h17) fun x20=>af (bz .slice x20 h17) fun x21=>af (fH (.int .i64) x7 x21) fun x22=>K (.ret x22) h17)):=by kernel_rfl
theorem F.nM{a0 a1:AV}{h:ag}{K:Out→ag→Bool}(hh:(af (cK a1) fun c0=>af (bV a0) fun x1=>af (bD 1 x1) fun x2=>af (ai none x2 (ag.alloc h (.cells c0))) fun x3=>af (bD 0 (.ptr (ag.next h) 0)) fun x4=>af (ai none x4 (ag.alloc h (.cells c0))) fun x5=>af (dz .string (.int .i64 0) true x3 x5 (ag.alloc h (.cells c0))) fun x6=>af (bP x6 0) fun x7=>af (bP x6 1) fun x8=>af (bV a0) fun x9=>af (bD 1 x9) fun x10=>af (ai none x10 (ag.alloc h (.cells c0))) fun x11=>af (bD 0 (.ptr (ag.next h) 0)) fun x12=>af (ai none x12 (ag.alloc h (.cells c0))) fun x13=>af (bD 1 (.ptr (ag.next h) 0)) fun x14=>af (ai none x14 (ag.alloc h (.cells c0))) fun x15=>af (bz .slice x15 (ag.alloc h (.cells c0))) fun x16=>af (ep .string x11 x13 x16 (ag.alloc h (.cells c0))) fun h17=>af (iu .not x8) fun x18=>ax x18 (K (.ret (.bool true)) h17) (af (bD 1 (.ptr (ag.next h) 0)) fun x19=>af (ai none x19 h17) fun x20=>af (bz .slice x20 h17) fun x21=>af (fH (.int .i64) x7 x21) fun x22=>K (.ret x22) h17))=true):Sem Tryz.prog 131 [a0,a1] h K:=
 aP mixed (aL _) Tryz.func131 (c:=aj Tryz.f131) rfl (by decide) (of_decide_eq_true (by kernel_rfl)) (F.oD.trans hh)
noncomputable def F.cG.L0:Code:=partOf (aj Tryz.f108) [1,1,1,1,0,1,0,0]
noncomputable def F.cG.b6(K:Out→ag→Bool):AX→St→Bool:=(aV 0 (cE false (au Tryz.prog (ah Tryz.prog) (partOf (aj Tryz.f108) [1,1,1,1,1])) (aK Tryz.prog dw Tryz.f108.results.toList K)))
theorem F.cG.aO{e:Env}{h:ag}{K:AX→St→Bool}:au Tryz.prog (ah Tryz.prog) F.cG.L0 ⟨e,27,[],h⟩ K=(af (aA .lss (e 16) (e 15)) fun x11=>ax x11 (af (cS 4 (e 14) (e 16)) fun x12=>af (ai (some 4) x12 h) fun x13=>af (bp 4 (.ptr (ag.next h) 0) x13 (ag.alloc h (.cells [(.int .i64 0),(.bool false),(.str []),.nils]))) fun h14=>af (bD 2 (.ptr (ag.next h) 0)) fun x15=>af (bD 1 x15) fun x16=>af (ai none x16 h14) fun x17=>lJ (e 4) fun f23 a24 a25=>ah Tryz.prog f23 (a24++([x17]++a25)) h14 (br (fun x18 h19=>af (aA .add (e 16) (.int .i64 1)) fun x22=>K .normal ⟨(aa (aa (aa (aa (aa (aa (aa (aa (aa (aa (aa e 17 x11) 18 x12) 19 x13) 6 (.ptr (ag.next h) 0)) 20 (e 4)) 21 x15) 22 x16) 23 x17) 24 x18) 25 x22) 16 x22),27,[],h19⟩) (fun v20 h21=>K (.panic v20) ⟨(aa (aa (aa (aa (aa (aa (aa (aa e 17 x11) 18 x12) 19 x13) 6 (.ptr (ag.next h) 0)) 20 (e 4)) 21 x15) 22 x16) 23 x17),27,[],h21⟩))) (K (.exit 0) ⟨(aa e 17 x11),27,[],h⟩)):=by kernel_rfl
theorem F.cG.aD{e:Env}{h:ag}{K:Out→ag→Bool}:F.cG.b6 K (.exit 0) ⟨e,27,[],h⟩=(af (ai none (e 3) h) fun x26=>K (.ret x26) h):=by kernel_rfl
theorem F.sU{a0:AV}{h:ag}{K:Out→ag→Bool}:au Tryz.prog (ah Tryz.prog) (aj Tryz.f108) ⟨aF [a0],27,[],h⟩ (aK Tryz.prog dw Tryz.f108.results.toList K)=(af (cK a0) fun c0=>af (bD 0 (.ptr (ag.next h) 0)) fun x1=>af (bD 1 x1) fun x2=>af (ai none x2 (ag.alloc (ag.alloc h (.cells c0)) (.cells [.nils]))) fun x3=>ah Tryz.prog 154 [x3,(.ptr (ag.next (ag.alloc h (.cells c0))) 0)] (ag.alloc (ag.alloc h (.cells c0)) (.cells [.nils])) (br (fun x4 h5=>af (bD 2 (.ptr (ag.next h) 0)) fun x8=>af (ai none x8 h5) fun x9=>af (bz .slice x9 h5) fun x10=>aT (au Tryz.prog (ah Tryz.prog) F.cG.L0) ⟨(aa (aa (aa (aa (aa (aa (aa (aa (aa (aa (aa (aa (aa (aa (aF [a0]) 1 (.ptr (ag.next h) 0)) 2 .nils) 3 (.ptr (ag.next (ag.alloc h (.cells c0))) 0)) 7 (.func 154 [] [(.ptr (ag.next (ag.alloc h (.cells c0))) 0)])) 4 (.func 154 [] [(.ptr (ag.next (ag.alloc h (.cells c0))) 0)])) 8 (.func 154 [] [(.ptr (ag.next (ag.alloc h (.cells c0))) 0)])) 9 x1) 10 x2) 11 x3) 12 x4) 13 x8) 14 x9) 15 x10) 16 (.int .i64 0)),27,[],h5⟩ (F.cG.b6 K)) (fun v6 h7=>K (.panic v6) h7))):=by kernel_rfl
theorem F.rN{a0:AV}{h:ag}{K:Out→ag→Bool}(hh:(af (cK a0) fun c0=>af (bD 0 (.ptr (ag.next h) 0)) fun x1=>af (bD 1 x1) fun x2=>af (ai none x2 (ag.alloc (ag.alloc h (.cells c0)) (.cells [.nils]))) fun x3=>ah Tryz.prog 154 [x3,(.ptr (ag.next (ag.alloc h (.cells c0))) 0)] (ag.alloc (ag.alloc h (.cells c0)) (.cells [.nils])) (br (fun x4 h5=>af (bD 2 (.ptr (ag.next h) 0)) fun x8=>af (ai none x8 h5) fun x9=>af (bz .slice x9 h5) fun x10=>aT (au Tryz.prog (ah Tryz.prog) F.cG.L0) ⟨(aa (aa (aa (aa (aa (aa (aa (aa (aa (aa (aa (aa (aa (aa (aF [a0]) 1 (.ptr (ag.next h) 0)) 2 .nils) 3 (.ptr (ag.next (ag.alloc h (.cells c0))) 0)) 7 (.func 154 [] [(.ptr (ag.next (ag.alloc h (.cells c0))) 0)])) 4 (.func 154 [] [(.ptr (ag.next (ag.alloc h (.cells c0))) 0)])) 8 (.func 154 [] [(.ptr (ag.next (ag.alloc h (.cells c0))) 0)])) 9 x1) 10 x2) 11 x3) 12 x4) 13 x8) 14 x9) 15 x10) 16 (.int .i64 0)),27,[],h5⟩ (F.cG.b6 K)) (fun v6 h7=>K (.panic v6) h7)))=true):Sem Tryz.prog 108 [a0] h K:=
 aP mixed (aL _) Tryz.func108 (c:=aj Tryz.f108) rfl (by decide) (of_decide_eq_true (by kernel_rfl)) (F.sU.trans hh)
noncomputable def F.eB.J0(K:Out→ag→Bool)(s:St):Bool:=HL (au Tryz.prog (ah Tryz.prog) (partOf (aj Tryz.f132) [1,0,1,0,1,1,1])) s (aV 0 (cE false (au Tryz.prog (ah Tryz.prog) (partOf (aj Tryz.f132) [1,1])) (aK Tryz.prog dw Tryz.f132.results.toList K)))
theorem F.eB.zJ{e:Env}{h:ag}{K:Out→ag→Bool}:F.eB.J0 K ⟨e,40,[],h⟩=(ax (e 10) (af (bD 2 (e 1)) fun x12=>af (bD 0 x12) fun x13=>af (ai none x13 h) fun x14=>af (fH .string x14 (.str [])) fun x15=>ax x15 (af (bD 2 (e 1)) fun x16=>af (bD 1 x16) fun x17=>af (ai none x17 h) fun x18=>af (bz .slice x18 h) fun x19=>af (fH (.int .i64) x19 (.int .i64 2)) fun x20=>ax x20 (af (bD 2 (e 1)) fun x21=>af (bD 1 x21) fun x22=>af (ai none x22 h) fun x23=>af (cS 1 x23 (.int .i64 0)) fun x24=>af (ai none x24 h) fun x25=>ah Tryz.prog 135 [x25] h (br (fun x26 h27=>ax x26 (af (bD 2 (e 1)) fun x30=>af (bD 1 x30) fun x31=>af (ai none x31 h27) fun x32=>af (cS 1 x32 (.int .i64 1)) fun x33=>af (ai none x33 h27) fun x34=>ah Tryz.prog 135 [x34] h27 (br (fun x35 h36=>K (.ret x35) h36) (fun v37 h38=>K (.panic v37) h38))) (K (.ret (.bool false)) h27)) (fun v28 h29=>K (.panic v28) h29))) (K (.ret (.bool false)) h)) (K (.ret (.bool false)) h)) (K (.ret (.bool false)) h)):=(ua _ _ _).trans (by kernel_rfl)
theorem F.sV{a0:AV}{h:ag}{K:Out→ag→Bool}:au Tryz.prog (ah Tryz.prog) (aj Tryz.f132) ⟨aF [a0],40,[],h⟩ (aK Tryz.prog dw Tryz.f132.results.toList K)=(af (cK a0) fun c0=>af (bD 0 (.ptr (ag.next h) 0)) fun x1=>af (ai none x1 (ag.alloc h (.cells c0))) fun x2=>af (fH (.int .i64) x2 (.int .i64 0)) fun x3=>ax x3 (af (bD 2 (.ptr (ag.next h) 0)) fun x4=>af (ai (some 2) x4 (ag.alloc h (.cells c0))) fun x5=>ah Tryz.prog 130 [x5] (ag.alloc h (.cells c0)) (br (fun x6 h7=>K (.ret x6) h7) (fun v8 h9=>K (.panic v8) h9))) (af (fH (.int .i64) x2 (.int .i64 1)) fun x10=>ax x10 (F.eB.J0 K ⟨(aa (aa (aa (aa (aa (aa (aa (aa (aF [a0]) 1 (.ptr (ag.next h) 0)) 2 (.bool false)) 3 x1) 4 x2) 6 x3) 5 x3) 11 x10) 10 x10),40,[],(ag.alloc h (.cells c0))⟩) (af (fH (.int .i64) x2 (.int .i64 2)) fun x11=>F.eB.J0 K ⟨(aa (aa (aa (aa (aa (aa (aa (aa (aa (aa (aF [a0]) 1 (.ptr (ag.next h) 0)) 2 (.bool false)) 3 x1) 4 x2) 6 x3) 5 x3) 11 x10) 10 x10) 12 x11) 10 x11),40,[],(ag.alloc h (.cells c0))⟩))):=by kernel_rfl
theorem F.rO{a0:AV}{h:ag}{K:Out→ag→Bool}(hh:(af (cK a0) fun c0=>af (bD 0 (.ptr (ag.next h) 0)) fun x1=>af (ai none x1 (ag.alloc h (.cells c0))) fun x2=>af (fH (.int .i64) x2 (.int .i64 0)) fun x3=>ax x3 (af (bD 2 (.ptr (ag.next h) 0)) fun x4=>af (ai (some 2) x4 (ag.alloc h (.cells c0))) fun x5=>ah Tryz.prog 130 [x5] (ag.alloc h (.cells c0)) (br (fun x6 h7=>K (.ret x6) h7) (fun v8 h9=>K (.panic v8) h9))) (af (fH (.int .i64) x2 (.int .i64 1)) fun x10=>ax x10 (F.eB.J0 K ⟨(aa (aa (aa (aa (aa (aa (aa (aa (aF [a0]) 1 (.ptr (ag.next h) 0)) 2 (.bool false)) 3 x1) 4 x2) 6 x3) 5 x3) 11 x10) 10 x10),40,[],(ag.alloc h (.cells c0))⟩) (af (fH (.int .i64) x2 (.int .i64 2)) fun x11=>F.eB.J0 K ⟨(aa (aa (aa (aa (aa (aa (aa (aa (aa (aa (aF [a0]) 1 (.ptr (ag.next h) 0)) 2 (.bool false)) 3 x1) 4 x2) 6 x3) 5 x3) 11 x10) 10 x10) 12 x11) 10 x11),40,[],(ag.alloc h (.cells c0))⟩)))=true):Sem Tryz.prog 132 [a0] h K:=
 aP mixed (aL _) Tryz.func132 (c:=aj Tryz.f132) rfl (by decide) (of_decide_eq_true (by kernel_rfl)) (F.sV.trans hh)
noncomputable def F.bE.L0:Code:=partOf (aj Tryz.f44) [1,1,0,1,0,0]
noncomputable def F.bE.b6(K:Out→ag→Bool):AX→St→Bool:=(aV 0 (cE false (au Tryz.prog (ah Tryz.prog) (partOf (aj Tryz.f44) [1,1,1])) (aK Tryz.prog dw Tryz.f44.results.toList K)))
noncomputable def F.bE.L1:Code:=partOf (aj Tryz.f44) [1,1,1,1,0,1,0,0]
noncomputable def F.bE.jd(K:Out→ag→Bool):AX→St→Bool:=(aV 2 (cE false (au Tryz.prog (ah Tryz.prog) (partOf (aj Tryz.f44) [1,1,1,1,1])) (aK Tryz.prog dw Tryz.f44.results.toList K)))
theorem F.bE.aO{e:Env}{h:ag}{K:AX→St→Bool}:au Tryz.prog (ah Tryz.prog) F.bE.L0 ⟨e,49,[],h⟩ K=(af (bD 2 (e 1)) fun x7=>af (ai none x7 h) fun x8=>af (bz .slice x8 h) fun x9=>af (aA .lss (e 4) x9) fun x10=>ax x10 (af (bD 2 (e 1)) fun x11=>af (ai none x11 h) fun x12=>af (cS 4 x12 (e 4)) fun x13=>af (bD 2 x13) fun x14=>af (bD 1 x14) fun x15=>af (ai none x15 h) fun x16=>ct (cg 1 16 (e 3) x16 h) fun x17 h18=>af (aA .add (e 4) (.int .i64 1)) fun x19=>K .normal ⟨(aa (aa (aa (aa (aa (aa (aa (aa (aa (aa (aa (aa (aa (aa (aa (aa (aa (aa e 12 (e 4)) 13 x7) 14 x8) 15 x9) 16 x10) 19 (e 3)) 20 x11) 21 x12) 22 (e 4)) 23 x13) 24 x14) 25 x15) 26 x16) 27 x17) 3 x17) 17 (e 4)) 18 x19) 4 x19),49,[],h18⟩) (K (.exit 0) ⟨(aa (aa (aa (aa (aa e 12 (e 4)) 13 x7) 14 x8) 15 x9) 16 x10),49,[],h⟩)):=by kernel_rfl
theorem F.bE.aD{e:Env}{h:ag}{K:Out→ag→Bool}:F.bE.b6 K (.exit 0) ⟨e,49,[],h⟩=(aT (au Tryz.prog (ah Tryz.prog) F.bE.L1) ⟨(aa (aa e 5 .nils) 6 (.int .i64 0)),49,[],h⟩ (F.bE.jd K)):=by kernel_rfl
theorem F.bE.dx{e:Env}{h:ag}{K:AX→St→Bool}:au Tryz.prog (ah Tryz.prog) F.bE.L1 ⟨e,49,[],h⟩ K=(af (bz .slice (e 3) h) fun x20=>af (aA .lss (e 6) x20) fun x21=>ax x21 (af (cS 1 (e 3) (e 6)) fun x22=>af (ai none x22 h) fun x23=>ah Tryz.prog 73 [(e 5),x23] h (br (fun x24 h25=>af (iu .not x24) fun x28=>ax x28 (af (cS 1 (e 3) (e 6)) fun x29=>af (ai none x29 h25) fun x30=>af (fc [(.str [])] [(0,1)] [x30]) fun c31=>ct (cg 1 16 (e 5) (.slice (ag.next h25) 0 1 1) (ag.alloc h25 (.cells c31))) fun x32 h33=>af (aA .add (e 6) (.int .i64 1)) fun x34=>K .normal ⟨(aa (aa (aa (aa (aa (aa (aa (aa (aa (aa (aa (aa (aa (aa (aa (aa (aa (aa (aa (aa (aa (aa e 28 (e 6)) 29 (e 3)) 30 x20) 31 x21) 34 (e 5)) 35 (e 3)) 36 (e 6)) 37 x22) 38 x23) 39 x24) 40 x28) 41 (e 5)) 42 (e 3)) 43 (e 6)) 44 x29) 45 x30) 46 (.slice (ag.next h25) 0 1 1)) 47 x32) 5 x32) 32 (e 6)) 33 x34) 6 x34),49,[],h33⟩) (af (aA .add (e 6) (.int .i64 1)) fun x35=>K .normal ⟨(aa (aa (aa (aa (aa (aa (aa (aa (aa (aa (aa (aa (aa (aa e 28 (e 6)) 29 (e 3)) 30 x20) 31 x21) 34 (e 5)) 35 (e 3)) 36 (e 6)) 37 x22) 38 x23) 39 x24) 40 x28) 32 (e 6)) 33 x35) 6 x35),49,[],h25⟩)) (fun v26 h27=>K (.panic v26) ⟨(aa (aa (aa (aa (aa (aa (aa (aa (aa e 28 (e 6)) 29 (e 3)) 30 x20) 31 x21) 34 (e 5)) 35 (e 3)) 36 (e 6)) 37 x22) 38 x23),49,[],h27⟩))) (K (.exit 2) ⟨(aa (aa (aa (aa e 28 (e 6)) 29 (e 3)) 30 x20) 31 x21),49,[],h⟩)):=by kernel_rfl
theorem F.bE.cw{e:Env}{h:ag}{K:Out→ag→Bool}:F.bE.jd K (.exit 2) ⟨e,49,[],h⟩=(K (.ret (e 5)) h):=by kernel_rfl
theorem F.sW{a0:AV}{h:ag}{K:Out→ag→Bool}:au Tryz.prog (ah Tryz.prog) (aj Tryz.f44) ⟨aF [a0],49,[],h⟩ (aK Tryz.prog dw Tryz.f44.results.toList K)=(af (cK a0) fun c0=>af (fc [] [] []) fun c1=>af (bD 0 (.ptr (ag.next h) 0)) fun x2=>af (bD 1 x2) fun x3=>af (ai none x3 (ag.alloc (ag.alloc h (.cells c0)) (.cells c1))) fun x4=>ct (cg 1 16 (.slice (ag.next (ag.alloc h (.cells c0))) 0 0 1) x4 (ag.alloc (ag.alloc h (.cells c0)) (.cells c1))) fun x5 h6=>aT (au Tryz.prog (ah Tryz.prog) F.bE.L0) ⟨(aa (aa (aa (aa (aa (aa (aa (aa (aa (aF [a0]) 1 (.ptr (ag.next h) 0)) 2 .nils) 7 (.slice (ag.next (ag.alloc h (.cells c0))) 0 0 1)) 8 x2) 9 x3) 10 x4) 11 x5) 3 x5) 4 (.int .i64 0)),49,[],h6⟩ (F.bE.b6 K)):=by kernel_rfl
theorem F.rP{a0:AV}{h:ag}{K:Out→ag→Bool}(hh:(af (cK a0) fun c0=>af (fc [] [] []) fun c1=>af (bD 0 (.ptr (ag.next h) 0)) fun x2=>af (bD 1 x2) fun x3=>af (ai none x3 (ag.alloc (ag.alloc h (.cells c0)) (.cells c1))) fun x4=>ct (cg 1 16 (.slice (ag.next (ag.alloc h (.cells c0))) 0 0 1) x4 (ag.alloc (ag.alloc h (.cells c0)) (.cells c1))) fun x5 h6=>aT (au Tryz.prog (ah Tryz.prog) F.bE.L0) ⟨(aa (aa (aa (aa (aa (aa (aa (aa (aa (aF [a0]) 1 (.ptr (ag.next h) 0)) 2 .nils) 7 (.slice (ag.next (ag.alloc h (.cells c0))) 0 0 1)) 8 x2) 9 x3) 10 x4) 11 x5) 3 x5) 4 (.int .i64 0)),49,[],h6⟩ (F.bE.b6 K))=true):Sem Tryz.prog 44 [a0] h K:=
 aP mixed (aL _) Tryz.func44 (c:=aj Tryz.f44) rfl (by decide) (of_decide_eq_true (by kernel_rfl)) (F.sW.trans hh)
noncomputable def F.cz.L0:Code:=partOf (aj Tryz.f84) [1,1,0,1,0,0]
noncomputable def F.cz.b6(K:Out→ag→Bool):AX→St→Bool:=(aV 0 (cE false (au Tryz.prog (ah Tryz.prog) (partOf (aj Tryz.f84) [1,1,1])) (aK Tryz.prog dw Tryz.f84.results.toList K)))
noncomputable def F.cz.J0(K:AX→St→Bool)(s:St):Bool:=HL (au Tryz.prog (ah Tryz.prog) (partOf (aj Tryz.f84) [1,1,0,1,0,0,1,0,0,1,0,1,0,1,1,1])) s (aV 2 (cE false (au Tryz.prog (ah Tryz.prog) (partOf (aj Tryz.f84) [1,1,0,1,0,0,1,0,0,1,1])) (aV 1 (cE false (au Tryz.prog (ah Tryz.prog) (partOf (aj Tryz.f84) [1,1,0,1,0,0,1,1])) K))))
theorem F.cz.aO{e:Env}{h:ag}{K:AX→St→Bool}:au Tryz.prog (ah Tryz.prog) F.cz.L0 ⟨e,67,[],h⟩ K=(af (bD 2 (e 1)) fun x21=>af (ai none x21 h) fun x22=>af (bz .slice x22 h) fun x23=>af (aA .lss (e 3) x23) fun x24=>ax x24 (af (bD 2 (e 1)) fun x25=>af (ai none x25 h) fun x26=>af (cS 4 x26 (e 3)) fun x27=>af (ai (some 4) x27 h) fun x28=>af (bp 4 (.ptr (ag.next h) 0) x28 (ag.alloc h (.cells [(.int .i64 0),(.bool false),(.str []),.nils]))) fun h29=>af (bD 0 (.ptr (ag.next h) 0)) fun x30=>af (ai none x30 h29) fun x31=>af (fH (.int .i64) x31 (.int .i64 0)) fun x32=>ax x32 (af (bD 2 (.ptr (ag.next h) 0)) fun x33=>af (bD 0 x33) fun x34=>af (ai none x34 h29) fun x35=>ah Tryz.prog 116 [x35] h29 (br (fun x36 h37=>af (iu .not x36) fun x40=>ax x40 (K .ret ⟨(aa (aa (aa (aa (aa (aa (aa (aa (aa (aa (aa (aa (aa (aa (aa (aa (aa (aa (aa (aa (aa e 23 (e 3)) 24 x21) 25 x22) 26 x23) 27 x24) 30 x25) 31 x26) 32 (e 3)) 33 x27) 34 x28) 4 (.ptr (ag.next h) 0)) 35 x30) 36 x31) 38 x32) 37 x32) 39 x33) 40 x34) 41 x35) 42 x36) 43 x40) 2 (.bool false)),67,[],h37⟩) (af (bD 2 (.ptr (ag.next h) 0)) fun x41=>af (bD 1 x41) fun x42=>af (ai none x42 h37) fun x43=>ah Tryz.prog 134 [x43] h37 (br (fun x44 h45=>af (iu .not x44) fun x48=>ax x48 (K .ret ⟨(aa (aa (aa (aa (aa (aa (aa (aa (aa (aa (aa (aa (aa (aa (aa (aa (aa (aa (aa (aa (aa (aa (aa (aa (aa (aa e 23 (e 3)) 24 x21) 25 x22) 26 x23) 27 x24) 30 x25) 31 x26) 32 (e 3)) 33 x27) 34 x28) 4 (.ptr (ag.next h) 0)) 35 x30) 36 x31) 38 x32) 37 x32) 39 x33) 40 x34) 41 x35) 42 x36) 43 x40) 58 x41) 59 x42) 60 x43) 61 x44) 62 x48) 2 (.bool false)),67,[],h45⟩) (af (aA .add (e 3) (.int .i64 1)) fun x49=>K .normal ⟨(aa (aa (aa (aa (aa (aa (aa (aa (aa (aa (aa (aa (aa (aa (aa (aa (aa (aa (aa (aa (aa (aa (aa (aa (aa (aa (aa (aa e 23 (e 3)) 24 x21) 25 x22) 26 x23) 27 x24) 30 x25) 31 x26) 32 (e 3)) 33 x27) 34 x28) 4 (.ptr (ag.next h) 0)) 35 x30) 36 x31) 38 x32) 37 x32) 39 x33) 40 x34) 41 x35) 42 x36) 43 x40) 58 x41) 59 x42) 60 x43) 61 x44) 62 x48) 28 (e 3)) 29 x49) 3 x49),67,[],h45⟩)) (fun v46 h47=>K (.panic v46) ⟨(aa (aa (aa (aa (aa (aa (aa (aa (aa (aa (aa (aa (aa (aa (aa (aa (aa (aa (aa (aa (aa (aa (aa e 23 (e 3)) 24 x21) 25 x22) 26 x23) 27 x24) 30 x25) 31 x26) 32 (e 3)) 33 x27) 34 x28) 4 (.ptr (ag.next h) 0)) 35 x30) 36 x31) 38 x32) 37 x32) 39 x33) 40 x34) 41 x35) 42 x36) 43 x40) 58 x41) 59 x42) 60 x43),67,[],h47⟩)))) (fun v38 h39=>K (.panic v38) ⟨(aa (aa (aa (aa (aa (aa (aa (aa (aa (aa (aa (aa (aa (aa (aa (aa (aa (aa e 23 (e 3)) 24 x21) 25 x22) 26 x23) 27 x24) 30 x25) 31 x26) 32 (e 3)) 33 x27) 34 x28) 4 (.ptr (ag.next h) 0)) 35 x30) 36 x31) 38 x32) 37 x32) 39 x33) 40 x34) 41 x35),67,[],h39⟩))) (af (fH (.int .i64) x31 (.int .i64 1)) fun x50=>ax x50 (F.cz.J0 K ⟨(aa (aa (aa (aa (aa (aa (aa (aa (aa (aa (aa (aa (aa (aa (aa (aa (aa e 23 (e 3)) 24 x21) 25 x22) 26 x23) 27 x24) 30 x25) 31 x26) 32 (e 3)) 33 x27) 34 x28) 4 (.ptr (ag.next h) 0)) 35 x30) 36 x31) 38 x32) 37 x32) 45 x50) 44 x50),67,[],h29⟩) (af (fH (.int .i64) x31 (.int .i64 2)) fun x51=>F.cz.J0 K ⟨(aa (aa (aa (aa (aa (aa (aa (aa (aa (aa (aa (aa (aa (aa (aa (aa (aa (aa (aa e 23 (e 3)) 24 x21) 25 x22) 26 x23) 27 x24) 30 x25) 31 x26) 32 (e 3)) 33 x27) 34 x28) 4 (.ptr (ag.next h) 0)) 35 x30) 36 x31) 38 x32) 37 x32) 45 x50) 44 x50) 46 x51) 44 x51),67,[],h29⟩))) (K (.exit 0) ⟨(aa (aa (aa (aa (aa e 23 (e 3)) 24 x21) 25 x22) 26 x23) 27 x24),67,[],h⟩)):=by kernel_rfl
theorem F.cz.aD{e:Env}{h:ag}{K:Out→ag→Bool}:F.cz.b6 K (.exit 0) ⟨e,67,[],h⟩=(af (ai (some 3) (e 1) h) fun x52=>ah Tryz.prog 44 [x52] h (br (fun x53 h54=>af (bz .slice x53 h54) fun x57=>af (aA .leq x57 (.int .i64 12)) fun x58=>K (.ret x58) h54) (fun v55 h56=>K (.panic v55) h56))):=by kernel_rfl
theorem F.cz.bt{e:Env}{h:ag}{K:Out→ag→Bool}:F.cz.b6 K .ret ⟨e,67,[],h⟩=(K (.ret (e 2)) h):=by kernel_rfl
theorem F.cz.zJ{e:Env}{h:ag}{K:AX→St→Bool}:F.cz.J0 K ⟨e,67,[],h⟩=(ax (e 44) (af (bD 2 (e 4)) fun x59=>af (bD 0 x59) fun x60=>af (ai none x60 h) fun x61=>af (lC .string x61 (.str [])) fun x62=>ax x62 (K .ret ⟨(aa (aa (aa (aa (aa (aa (aa (aa (aa (aa (aa (aa (aa (aa (aa (aa (aa e 47 x59) 48 x60) 49 x61) 50 x62) 51 x62) 51 (.bool true)) 52 bK) 51 (.bool true)) 53 bK) 51 (.bool true)) 54 bK) 51 (.bool true)) 55 bK) 51 (.bool true)) 56 bK) 57 (.bool true)) 2 (.bool false)),67,[],h⟩) (af (bD 2 (e 4)) fun x63=>af (bD 1 x63) fun x64=>af (ai none x64 h) fun x65=>af (bz .slice x65 h) fun x66=>af (lC (.int .i64) x66 (.int .i64 2)) fun x67=>ax x67 (K .ret ⟨(aa (aa (aa (aa (aa (aa (aa (aa (aa (aa (aa (aa (aa (aa (aa (aa (aa e 47 x59) 48 x60) 49 x61) 50 x62) 51 x62) 51 (.bool false)) 52 x63) 51 (.bool false)) 53 x64) 51 (.bool false)) 54 x65) 51 (.bool false)) 55 x66) 51 (.bool false)) 56 x67) 57 x67) 2 (.bool false)),67,[],h⟩) (af (bD 2 (e 4)) fun x68=>af (bD 1 x68) fun x69=>af (ai none x69 h) fun x70=>ah Tryz.prog 134 [x70] h (br (fun x71 h72=>af (iu .not x71) fun x75=>ax x75 (K .ret ⟨(aa (aa (aa (aa (aa (aa (aa (aa (aa (aa (aa (aa (aa (aa (aa (aa (aa (aa (aa (aa (aa (aa e 47 x59) 48 x60) 49 x61) 50 x62) 51 x62) 51 (.bool false)) 52 x63) 51 (.bool false)) 53 x64) 51 (.bool false)) 54 x65) 51 (.bool false)) 55 x66) 51 (.bool false)) 56 x67) 57 x67) 58 x68) 59 x69) 60 x70) 61 x71) 62 x75) 2 (.bool false)),67,[],h72⟩) (af (aA .add (e 3) (.int .i64 1)) fun x76=>K .normal ⟨(aa (aa (aa (aa (aa (aa (aa (aa (aa (aa (aa (aa (aa (aa (aa (aa (aa (aa (aa (aa (aa (aa (aa (aa e 47 x59) 48 x60) 49 x61) 50 x62) 51 x62) 51 (.bool false)) 52 x63) 51 (.bool false)) 53 x64) 51 (.bool false)) 54 x65) 51 (.bool false)) 55 x66) 51 (.bool false)) 56 x67) 57 x67) 58 x68) 59 x69) 60 x70) 61 x71) 62 x75) 28 (e 3)) 29 x76) 3 x76),67,[],h72⟩)) (fun v73 h74=>K (.panic v73) ⟨(aa (aa (aa (aa (aa (aa (aa (aa (aa (aa (aa (aa (aa (aa (aa (aa (aa (aa (aa e 47 x59) 48 x60) 49 x61) 50 x62) 51 x62) 51 (.bool false)) 52 x63) 51 (.bool false)) 53 x64) 51 (.bool false)) 54 x65) 51 (.bool false)) 55 x66) 51 (.bool false)) 56 x67) 57 x67) 58 x68) 59 x69) 60 x70),67,[],h74⟩))))) (K .ret ⟨(aa e 2 (.bool false)),67,[],h⟩)):=(ua _ _ _).trans (by kernel_rfl)
theorem F.Bd{a0:AV}{h:ag}{K:Out→ag→Bool}:au Tryz.prog (ah Tryz.prog) (aj Tryz.f84) ⟨aF [a0],67,[],h⟩ (aK Tryz.prog dw Tryz.f84.results.toList K)=(af (cK a0) fun c0=>af (bD 0 (.ptr (ag.next h) 0)) fun x1=>af (bD 0 x1) fun x2=>af (ai none x2 (ag.alloc h (.cells c0))) fun x3=>ah Tryz.prog 116 [x3] (ag.alloc h (.cells c0)) (br (fun x4 h5=>af (iu .not x4) fun x8=>ax x8 (K (.ret (.bool false)) h5) (af (bD 0 (.ptr (ag.next h) 0)) fun x9=>af (bD 1 x9) fun x10=>af (ai none x10 h5) fun x11=>ah Tryz.prog 134 [x11] h5 (br (fun x12 h13=>af (iu .not x12) fun x16=>ax x16 (K (.ret (.bool false)) h13) (af (bD 2 (.ptr (ag.next h) 0)) fun x17=>af (ai none x17 h13) fun x18=>af (bz .slice x18 h13) fun x19=>af (aA .gtr x19 (.int .i64 20)) fun x20=>ax x20 (K (.ret (.bool false)) h13) (aT (au Tryz.prog (ah Tryz.prog) F.cz.L0) ⟨(aa (aa (aa (aa (aa (aa (aa (aa (aa (aa (aa (aa (aa (aa (aa (aa (aa (aa (aa (aa (aa (aa (aa (aa (aa (aa (aa (aa (aa (aa (aF [a0]) 1 (.ptr (ag.next h) 0)) 2 (.bool false)) 5 x1) 6 x2) 7 x3) 8 x4) 9 x8) 10 x8) 10 (.bool false)) 11 x9) 10 (.bool false)) 12 x10) 10 (.bool false)) 13 x11) 10 (.bool false)) 14 x12) 10 (.bool false)) 15 x16) 16 x16) 17 x16) 17 (.bool false)) 18 x17) 17 (.bool false)) 19 x18) 17 (.bool false)) 20 x19) 17 (.bool false)) 21 x20) 22 x20) 3 (.int .i64 0)),67,[],h13⟩ (F.cz.b6 K)))) (fun v14 h15=>K (.panic v14) h15)))) (fun v6 h7=>K (.panic v6) h7))):=by kernel_rfl
theorem F.zK{a0:AV}{h:ag}{K:Out→ag→Bool}(hh:(af (cK a0) fun c0=>af (bD 0 (.ptr (ag.next h) 0)) fun x1=>af (bD 0 x1) fun x2=>af (ai none x2 (ag.alloc h (.cells c0))) fun x3=>ah Tryz.prog 116 [x3] (ag.alloc h (.cells c0)) (br (fun x4 h5=>af (iu .not x4) fun x8=>ax x8 (K (.ret (.bool false)) h5) (af (bD 0 (.ptr (ag.next h) 0)) fun x9=>af (bD 1 x9) fun x10=>af (ai none x10 h5) fun x11=>ah Tryz.prog 134 [x11] h5 (br (fun x12 h13=>af (iu .not x12) fun x16=>ax x16 (K (.ret (.bool false)) h13) (af (bD 2 (.ptr (ag.next h) 0)) fun x17=>af (ai none x17 h13) fun x18=>af (bz .slice x18 h13) fun x19=>af (aA .gtr x19 (.int .i64 20)) fun x20=>ax x20 (K (.ret (.bool false)) h13) (aT (au Tryz.prog (ah Tryz.prog) F.cz.L0) ⟨(aa (aa (aa (aa (aa (aa (aa (aa (aa (aa (aa (aa (aa (aa (aa (aa (aa (aa (aa (aa (aa (aa (aa (aa (aa (aa (aa (aa (aa (aa (aF [a0]) 1 (.ptr (ag.next h) 0)) 2 (.bool false)) 5 x1) 6 x2) 7 x3) 8 x4) 9 x8) 10 x8) 10 (.bool false)) 11 x9) 10 (.bool false)) 12 x10) 10 (.bool false)) 13 x11) 10 (.bool false)) 14 x12) 10 (.bool false)) 15 x16) 16 x16) 17 x16) 17 (.bool false)) 18 x17) 17 (.bool false)) 19 x18) 17 (.bool false)) 20 x19) 17 (.bool false)) 21 x20) 22 x20) 3 (.int .i64 0)),67,[],h13⟩ (F.cz.b6 K)))) (fun v14 h15=>K (.panic v14) h15)))) (fun v6 h7=>K (.panic v6) h7)))=true):Sem Tryz.prog 84 [a0] h K:=
 aP mixed (aL _) Tryz.func84 (c:=aj Tryz.f84) rfl (by decide) (of_decide_eq_true (by kernel_rfl)) (F.Bd.trans hh)
end
end Go.AM
namespace Go.AM
open Go Go.Proofs
noncomputable section
noncomputable def F.dg.L0:Code:=partOf (aj Tryz.f29) [1,1,1,0,1,0,0]
noncomputable def F.dg.b6(K:Out→ag→Bool):AX→St→Bool:=(aV 0 (cE false (au Tryz.prog (ah Tryz.prog) (partOf (aj Tryz.f29) [1,1,1,1])) (aK Tryz.prog dw Tryz.f29.results.toList K)))
noncomputable def F.dg.L1:Code:=partOf (aj Tryz.f29) [1,1,1,0,1,0,0,1,0,0,1,1,0,0]
noncomputable def F.dg.jd(K:AX→St→Bool):AX→St→Bool:=(aV 2 (aV 1 (cE false (au Tryz.prog (ah Tryz.prog) (partOf (aj Tryz.f29) [1,1,1,0,1,0,0,1,1])) K)))
theorem F.dg.aO{e:Env}{h:ag}{K:AX→St→Bool}:au Tryz.prog (ah Tryz.prog) F.dg.L0 ⟨e,62,[],h⟩ K=(af (bz .slice (e 0) h) fun x2=>af (aA .lss (e 6) x2) fun x3=>ax x3 (af (aA .leq (e 5) (e 1)) fun x4=>ax x4 (af (aA .add (e 5) (.int .i64 1)) fun x5=>af (cS 3 (e 0) (e 6)) fun x6=>af (bD 0 x6) fun x7=>af (ai (some 2) x7 h) fun x8=>ah Tryz.prog 82 [x8] h (br (fun x9 h10=>af (aA .add x5 x9) fun x13=>aT (au Tryz.prog (ah Tryz.prog) F.dg.L1) ⟨(aa (aa (aa (aa (aa (aa (aa (aa (aa (aa (aa (aa (aa (aa (aa (aa (aa (aa (aa (aa (aa (aa (aa e 11 (e 6)) 12 (e 0)) 13 x2) 14 x3) 15 x3) 15 (.bool true)) 16 (e 5)) 15 (.bool true)) 17 (e 1)) 15 (.bool true)) 18 x4) 19 x4) 22 (e 5)) 23 x5) 24 (e 0)) 25 (e 6)) 26 x6) 27 x7) 28 x8) 29 x9) 30 x13) 5 x13) 7 (.int .i64 0)),62,[],h10⟩ (F.dg.jd K)) (fun v11 h12=>K (.panic v11) ⟨(aa (aa (aa (aa (aa (aa (aa (aa (aa (aa (aa (aa (aa (aa (aa (aa (aa (aa (aa e 11 (e 6)) 12 (e 0)) 13 x2) 14 x3) 15 x3) 15 (.bool true)) 16 (e 5)) 15 (.bool true)) 17 (e 1)) 15 (.bool true)) 18 x4) 19 x4) 22 (e 5)) 23 x5) 24 (e 0)) 25 (e 6)) 26 x6) 27 x7) 28 x8),62,[],h12⟩))) (K (.exit 0) ⟨(aa (aa (aa (aa (aa (aa (aa (aa (aa (aa (aa (aa e 11 (e 6)) 12 (e 0)) 13 x2) 14 x3) 15 x3) 15 (.bool true)) 16 (e 5)) 15 (.bool true)) 17 (e 1)) 15 (.bool true)) 18 x4) 19 x4),62,[],h⟩)) (K (.exit 0) ⟨(aa (aa (aa (aa (aa (aa (aa (aa (aa (aa (aa (aa e 11 (e 6)) 12 (e 0)) 13 x2) 14 x3) 15 x3) 15 (.bool false)) 16 bK) 15 (.bool false)) 17 bK) 15 (.bool false)) 18 bK) 19 (.bool false)),62,[],h⟩)):=by kernel_rfl
theorem F.dg.aD{e:Env}{h:ag}{K:Out→ag→Bool}:F.dg.b6 K (.exit 0) ⟨e,62,[],h⟩=(af (aA .leq (e 5) (e 1)) fun x14=>K (.ret x14) h):=by kernel_rfl
theorem F.dg.dx{e:Env}{h:ag}{K:AX→St→Bool}:au Tryz.prog (ah Tryz.prog) F.dg.L1 ⟨e,62,[],h⟩ K=(af (cS 3 (e 0) (e 6)) fun x15=>af (bD 2 x15) fun x16=>af (ai none x16 h) fun x17=>af (bz .slice x17 h) fun x18=>af (aA .lss (e 7) x18) fun x19=>ax x19 (af (aA .leq (e 5) (e 1)) fun x20=>ax x20 (af (aA .add (e 5) (.int .i64 1)) fun x21=>af (cS 3 (e 0) (e 6)) fun x22=>af (bD 2 x22) fun x23=>af (ai none x23 h) fun x24=>af (cS 4 x24 (e 7)) fun x25=>af (bD 2 x25) fun x26=>af (ai (some 2) x26 h) fun x27=>ah Tryz.prog 82 [x27] h (br (fun x28 h29=>af (aA .add x21 x28) fun x32=>af (aA .add (e 7) (.int .i64 1)) fun x33=>K .normal ⟨(aa (aa (aa (aa (aa (aa (aa (aa (aa (aa (aa (aa (aa (aa (aa (aa (aa (aa (aa (aa (aa (aa (aa (aa (aa (aa (aa (aa (aa (aa (aa (aa (aa e 31 (e 7)) 32 (e 0)) 33 (e 6)) 34 x15) 35 x16) 36 x17) 37 x18) 38 x19) 39 x19) 39 (.bool true)) 40 (e 5)) 39 (.bool true)) 41 (e 1)) 39 (.bool true)) 42 x20) 43 x20) 46 (e 5)) 47 x21) 48 (e 0)) 49 (e 6)) 50 x22) 51 x23) 52 x24) 53 (e 7)) 54 x25) 55 x26) 56 x27) 57 x28) 58 x32) 5 x32) 44 (e 7)) 45 x33) 7 x33),62,[],h29⟩) (fun v30 h31=>K (.panic v30) ⟨(aa (aa (aa (aa (aa (aa (aa (aa (aa (aa (aa (aa (aa (aa (aa (aa (aa (aa (aa (aa (aa (aa (aa (aa (aa (aa (aa e 31 (e 7)) 32 (e 0)) 33 (e 6)) 34 x15) 35 x16) 36 x17) 37 x18) 38 x19) 39 x19) 39 (.bool true)) 40 (e 5)) 39 (.bool true)) 41 (e 1)) 39 (.bool true)) 42 x20) 43 x20) 46 (e 5)) 47 x21) 48 (e 0)) 49 (e 6)) 50 x22) 51 x23) 52 x24) 53 (e 7)) 54 x25) 55 x26) 56 x27),62,[],h31⟩))) (K (.exit 2) ⟨(aa (aa (aa (aa (aa (aa (aa (aa (aa (aa (aa (aa (aa (aa (aa (aa e 31 (e 7)) 32 (e 0)) 33 (e 6)) 34 x15) 35 x16) 36 x17) 37 x18) 38 x19) 39 x19) 39 (.bool true)) 40 (e 5)) 39 (.bool true)) 41 (e 1)) 39 (.bool true)) 42 x20) 43 x20),62,[],h⟩)) (K (.exit 2) ⟨(aa (aa (aa (aa (aa (aa (aa (aa (aa (aa (aa (aa (aa (aa (aa (aa e 31 (e 7)) 32 (e 0)) 33 (e 6)) 34 x15) 35 x16) 36 x17) 37 x18) 38 x19) 39 x19) 39 (.bool false)) 40 bK) 39 (.bool false)) 41 bK) 39 (.bool false)) 42 bK) 43 (.bool false)),62,[],h⟩)):=by kernel_rfl
theorem F.dg.cw{e:Env}{h:ag}{K:AX→St→Bool}:F.dg.jd K (.exit 2) ⟨e,62,[],h⟩=(af (aA .add (e 6) (.int .i64 1)) fun x34=>K .normal ⟨(aa (aa (aa e 20 (e 6)) 21 x34) 6 x34),62,[],h⟩):=by kernel_rfl
theorem F.CZ{a0 a1:AV}{h:ag}{K:Out→ag→Bool}:au Tryz.prog (ah Tryz.prog) (aj Tryz.f29) ⟨aF [a0,a1],62,[],h⟩ (aK Tryz.prog dw Tryz.f29.results.toList K)=(af (bz .slice a0 h) fun x0=>af (aA .gtr x0 (.int .i64 70)) fun x1=>ax x1 (K (.ret (.bool false)) h) (aT (au Tryz.prog (ah Tryz.prog) F.dg.L0) ⟨(aa (aa (aa (aa (aa (aa (aF [a0,a1]) 4 (.bool false)) 8 a0) 9 x0) 10 x1) 5 (.int .i64 0)) 6 (.int .i64 0)),62,[],h⟩ (F.dg.b6 K))):=by kernel_rfl
theorem F.Be{a0 a1:AV}{h:ag}{K:Out→ag→Bool}(hh:(af (bz .slice a0 h) fun x0=>af (aA .gtr x0 (.int .i64 70)) fun x1=>ax x1 (K (.ret (.bool false)) h) (aT (au Tryz.prog (ah Tryz.prog) F.dg.L0) ⟨(aa (aa (aa (aa (aa (aa (aF [a0,a1]) 4 (.bool false)) 8 a0) 9 x0) 10 x1) 5 (.int .i64 0)) 6 (.int .i64 0)),62,[],h⟩ (F.dg.b6 K)))=true):Sem Tryz.prog 29 [a0,a1] h K:=
 aP mixed (aL _) Tryz.func29 (c:=aj Tryz.f29) rfl (by decide) (of_decide_eq_true (by kernel_rfl)) (F.CZ.trans hh)
noncomputable def F.eH.L0:Code:=partOf (aj Tryz.f82) [1,1,0,1,0,0]
noncomputable def F.eH.b6(K:Out→ag→Bool):AX→St→Bool:=(aV 0 (cE false (au Tryz.prog (ah Tryz.prog) (partOf (aj Tryz.f82) [1,1,1])) (aK Tryz.prog dw Tryz.f82.results.toList K)))
theorem F.eH.aO{e:Env}{h:ag}{K:AX→St→Bool}:au Tryz.prog (ah Tryz.prog) F.eH.L0 ⟨e,34,[],h⟩ K=(af (bD 1 (e 1)) fun x9=>af (ai none x9 h) fun x10=>af (bz .slice x10 h) fun x11=>af (aA .lss (e 4) x11) fun x12=>ax x12 (af (aA .lss (e 3) (.int .i64 10000)) fun x13=>ax x13 (af (bD 1 (e 1)) fun x14=>af (ai none x14 h) fun x15=>af (cS 1 x15 (e 4)) fun x16=>af (ai none x16 h) fun x17=>af (bz .str x17 h) fun x18=>af (aA .quo x18 (.int .i64 20)) fun x19=>af (aA .add (e 3) x19) fun x20=>af (aA .add (e 4) (.int .i64 1)) fun x21=>K .normal ⟨(aa (aa (aa (aa (aa (aa (aa (aa (aa (aa (aa (aa (aa (aa (aa (aa (aa (aa (aa (aa (aa (aa (aa (aa e 13 (e 4)) 14 x9) 15 x10) 16 x11) 17 x12) 18 x12) 18 (.bool true)) 19 (e 3)) 18 (.bool true)) 20 x13) 21 x13) 24 (e 3)) 25 x14) 26 x15) 27 (e 4)) 28 x16) 29 x17) 30 x18) 31 x19) 32 x20) 3 x20) 22 (e 4)) 23 x21) 4 x21),34,[],h⟩) (K (.exit 0) ⟨(aa (aa (aa (aa (aa (aa (aa (aa (aa (aa (aa e 13 (e 4)) 14 x9) 15 x10) 16 x11) 17 x12) 18 x12) 18 (.bool true)) 19 (e 3)) 18 (.bool true)) 20 x13) 21 x13),34,[],h⟩)) (K (.exit 0) ⟨(aa (aa (aa (aa (aa (aa (aa (aa (aa (aa (aa e 13 (e 4)) 14 x9) 15 x10) 16 x11) 17 x12) 18 x12) 18 (.bool false)) 19 bK) 18 (.bool false)) 20 bK) 21 (.bool false)),34,[],h⟩)):=by kernel_rfl
theorem F.eH.aD{e:Env}{h:ag}{K:Out→ag→Bool}:F.eH.b6 K (.exit 0) ⟨e,34,[],h⟩=(K (.ret (e 3)) h):=by kernel_rfl
theorem F.Bf{a0:AV}{h:ag}{K:Out→ag→Bool}:au Tryz.prog (ah Tryz.prog) (aj Tryz.f82) ⟨aF [a0],34,[],h⟩ (aK Tryz.prog dw Tryz.f82.results.toList K)=(af (cK a0) fun c0=>af (bD 1 (.ptr (ag.next h) 0)) fun x1=>af (ai none x1 (ag.alloc h (.cells c0))) fun x2=>af (bz .slice x2 (ag.alloc h (.cells c0))) fun x3=>af (bD 0 (.ptr (ag.next h) 0)) fun x4=>af (ai none x4 (ag.alloc h (.cells c0))) fun x5=>af (bz .str x5 (ag.alloc h (.cells c0))) fun x6=>af (aA .quo x6 (.int .i64 20)) fun x7=>af (aA .add x3 x7) fun x8=>aT (au Tryz.prog (ah Tryz.prog) F.eH.L0) ⟨(aa (aa (aa (aa (aa (aa (aa (aa (aa (aa (aa (aa (aF [a0]) 1 (.ptr (ag.next h) 0)) 2 (.int .i64 0)) 5 x1) 6 x2) 7 x3) 8 x4) 9 x5) 10 x6) 11 x7) 12 x8) 3 x8) 4 (.int .i64 0)),34,[],(ag.alloc h (.cells c0))⟩ (F.eH.b6 K)):=by kernel_rfl
theorem F.zL{a0:AV}{h:ag}{K:Out→ag→Bool}(hh:(af (cK a0) fun c0=>af (bD 1 (.ptr (ag.next h) 0)) fun x1=>af (ai none x1 (ag.alloc h (.cells c0))) fun x2=>af (bz .slice x2 (ag.alloc h (.cells c0))) fun x3=>af (bD 0 (.ptr (ag.next h) 0)) fun x4=>af (ai none x4 (ag.alloc h (.cells c0))) fun x5=>af (bz .str x5 (ag.alloc h (.cells c0))) fun x6=>af (aA .quo x6 (.int .i64 20)) fun x7=>af (aA .add x3 x7) fun x8=>aT (au Tryz.prog (ah Tryz.prog) F.eH.L0) ⟨(aa (aa (aa (aa (aa (aa (aa (aa (aa (aa (aa (aa (aF [a0]) 1 (.ptr (ag.next h) 0)) 2 (.int .i64 0)) 5 x1) 6 x2) 7 x3) 8 x4) 9 x5) 10 x6) 11 x7) 12 x8) 3 x8) 4 (.int .i64 0)),34,[],(ag.alloc h (.cells c0))⟩ (F.eH.b6 K))=true):Sem Tryz.prog 82 [a0] h K:=
 aP mixed (aL _) Tryz.func82 (c:=aj Tryz.f82) rfl (by decide) (of_decide_eq_true (by kernel_rfl)) (F.Bf.trans hh)
noncomputable def F.b7.L0:Code:=partOf (aj Tryz.f83) [1,1,1,0,1,0,0]
noncomputable def F.b7.b6(K:Out→ag→Bool):AX→St→Bool:=(aV 0 (cE false (au Tryz.prog (ah Tryz.prog) (partOf (aj Tryz.f83) [1,1,1,1])) (aK Tryz.prog dw Tryz.f83.results.toList K)))
noncomputable def F.b7.L1:Code:=partOf (aj Tryz.f83) [1,1,1,0,1,0,0,1,1,0,0,1,1,0,1,0,0]
noncomputable def F.b7.jd(K:AX→St→Bool):AX→St→Bool:=(aV 2 (cE false (au Tryz.prog (ah Tryz.prog) (partOf (aj Tryz.f83) [1,1,1,0,1,0,0,1,1,0,0,1,1,1])) (aV 1 (cE false (au Tryz.prog (ah Tryz.prog) (partOf (aj Tryz.f83) [1,1,1,0,1,0,0,1,1,1])) K))))
noncomputable def F.b7.L2:Code:=partOf (aj Tryz.f83) [1,1,1,1,0,1,0,0]
noncomputable def F.b7.rC(K:Out→ag→Bool):AX→St→Bool:=(aV 4 (cE false (au Tryz.prog (ah Tryz.prog) (partOf (aj Tryz.f83) [1,1,1,1,1])) (aK Tryz.prog dw Tryz.f83.results.toList K)))
theorem F.b7.aO{e:Env}{h:ag}{K:AX→St→Bool}:au Tryz.prog (ah Tryz.prog) F.b7.L0 ⟨e,90,[],h⟩ K=(af (aA .lss (e 19) (e 18)) fun x5=>ax x5 (af (cS 3 (e 17) (e 19)) fun x6=>af (ai (some 3) x6 h) fun x7=>af (bp 3 (.ptr (ag.next h) 0) x7 (ag.alloc h (.cells [(.str []),.nils,.nils]))) fun h8=>af (bD 0 (.ptr (ag.next h) 0)) fun x9=>af (ai (some 2) x9 h8) fun x10=>ah Tryz.prog 130 [x10] h8 (br (fun x11 h12=>af (iu .not x11) fun x15=>ax x15 (K .ret ⟨(aa (aa (aa (aa (aa (aa (aa (aa (aa (aa (aa (aa (aa (aa (aa (aa (aa (aa (aa (aa (aa (aa (aa (aa (aa (aa (aa (aa (aa (aa (aa (aa (aa (aa (aa (aa (aa (aa (aa (aa (aa (aa e 20 x5) 21 x6) 22 x7) 6 (.ptr (ag.next h) 0)) 23 x9) 24 x10) 25 x11) 26 x15) 27 x15) 27 (.bool true)) 28 bK) 27 (.bool true)) 29 bK) 27 (.bool true)) 30 bK) 27 (.bool true)) 31 bK) 27 (.bool true)) 32 bK) 33 (.bool true)) 34 (.bool true)) 34 (.bool true)) 35 bK) 34 (.bool true)) 36 bK) 34 (.bool true)) 37 bK) 34 (.bool true)) 38 bK) 39 (.bool true)) 40 (.bool true)) 40 (.bool true)) 41 bK) 40 (.bool true)) 42 bK) 40 (.bool true)) 43 bK) 40 (.bool true)) 44 bK) 45 (.bool true)) 2 .nilp) 3 (.bool false)),90,[],h12⟩) (af (bD 0 (.ptr (ag.next h) 0)) fun x16=>af (ai (some 2) x16 h12) fun x17=>ah Tryz.prog 131 [(e 4),x17] h12 (br (fun x18 h19=>af (iu .not x18) fun x22=>ax x22 (K .ret ⟨(aa (aa (aa (aa (aa (aa (aa (aa (aa (aa (aa (aa (aa (aa (aa (aa (aa (aa (aa (aa (aa (aa (aa (aa (aa (aa (aa (aa (aa (aa (aa (aa (aa (aa (aa (aa (aa (aa (aa (aa (aa (aa e 20 x5) 21 x6) 22 x7) 6 (.ptr (ag.next h) 0)) 23 x9) 24 x10) 25 x11) 26 x15) 27 x15) 27 (.bool false)) 28 (e 4)) 27 (.bool false)) 29 x16) 27 (.bool false)) 30 x17) 27 (.bool false)) 31 x18) 27 (.bool false)) 32 x22) 33 x22) 34 x22) 34 (.bool true)) 35 bK) 34 (.bool true)) 36 bK) 34 (.bool true)) 37 bK) 34 (.bool true)) 38 bK) 39 (.bool true)) 40 (.bool true)) 40 (.bool true)) 41 bK) 40 (.bool true)) 42 bK) 40 (.bool true)) 43 bK) 40 (.bool true)) 44 bK) 45 (.bool true)) 2 .nilp) 3 (.bool false)),90,[],h19⟩) (af (bD 2 (.ptr (ag.next h) 0)) fun x23=>af (ai none x23 h19) fun x24=>af (bz .slice x24 h19) fun x25=>af (aA .gtr x25 (.int .i64 20)) fun x26=>ax x26 (K .ret ⟨(aa (aa (aa (aa (aa (aa (aa (aa (aa (aa (aa (aa (aa (aa (aa (aa (aa (aa (aa (aa (aa (aa (aa (aa (aa (aa (aa (aa (aa (aa (aa (aa (aa (aa (aa (aa (aa (aa (aa (aa (aa (aa e 20 x5) 21 x6) 22 x7) 6 (.ptr (ag.next h) 0)) 23 x9) 24 x10) 25 x11) 26 x15) 27 x15) 27 (.bool false)) 28 (e 4)) 27 (.bool false)) 29 x16) 27 (.bool false)) 30 x17) 27 (.bool false)) 31 x18) 27 (.bool false)) 32 x22) 33 x22) 34 x22) 34 (.bool false)) 35 x23) 34 (.bool false)) 36 x24) 34 (.bool false)) 37 x25) 34 (.bool false)) 38 x26) 39 x26) 40 x26) 40 (.bool true)) 41 bK) 40 (.bool true)) 42 bK) 40 (.bool true)) 43 bK) 40 (.bool true)) 44 bK) 45 (.bool true)) 2 .nilp) 3 (.bool false)),90,[],h19⟩) (af (ai (some 3) (.ptr (ag.next h) 0) h19) fun x27=>ah Tryz.prog 108 [x27] h19 (br (fun x28 h29=>af (bz .slice x28 h29) fun x32=>af (aA .gtr x32 (.int .i64 12)) fun x33=>ax x33 (K .ret ⟨(aa (aa (aa (aa (aa (aa (aa (aa (aa (aa (aa (aa (aa (aa (aa (aa (aa (aa (aa (aa (aa (aa (aa (aa (aa (aa (aa (aa (aa (aa (aa (aa (aa (aa (aa (aa (aa (aa (aa (aa (aa (aa e 20 x5) 21 x6) 22 x7) 6 (.ptr (ag.next h) 0)) 23 x9) 24 x10) 25 x11) 26 x15) 27 x15) 27 (.bool false)) 28 (e 4)) 27 (.bool false)) 29 x16) 27 (.bool false)) 30 x17) 27 (.bool false)) 31 x18) 27 (.bool false)) 32 x22) 33 x22) 34 x22) 34 (.bool false)) 35 x23) 34 (.bool false)) 36 x24) 34 (.bool false)) 37 x25) 34 (.bool false)) 38 x26) 39 x26) 40 x26) 40 (.bool false)) 41 x27) 40 (.bool false)) 42 x28) 40 (.bool false)) 43 x32) 40 (.bool false)) 44 x33) 45 x33) 2 .nilp) 3 (.bool false)),90,[],h29⟩) (af (bD 2 (.ptr (ag.next h) 0)) fun x34=>af (ai none x34 h29) fun x35=>af (bz .slice x35 h29) fun x36=>aT (au Tryz.prog (ah Tryz.prog) F.b7.L1) ⟨(aa (aa (aa (aa (aa (aa (aa (aa (aa (aa (aa (aa (aa (aa (aa (aa (aa (aa (aa (aa (aa (aa (aa (aa (aa (aa (aa (aa (aa (aa (aa (aa (aa (aa (aa (aa (aa (aa (aa (aa (aa (aa (aa (aa e 20 x5) 21 x6) 22 x7) 6 (.ptr (ag.next h) 0)) 23 x9) 24 x10) 25 x11) 26 x15) 27 x15) 27 (.bool false)) 28 (e 4)) 27 (.bool false)) 29 x16) 27 (.bool false)) 30 x17) 27 (.bool false)) 31 x18) 27 (.bool false)) 32 x22) 33 x22) 34 x22) 34 (.bool false)) 35 x23) 34 (.bool false)) 36 x24) 34 (.bool false)) 37 x25) 34 (.bool false)) 38 x26) 39 x26) 40 x26) 40 (.bool false)) 41 x27) 40 (.bool false)) 42 x28) 40 (.bool false)) 43 x32) 40 (.bool false)) 44 x33) 45 x33) 46 x34) 47 x35) 48 x36) 49 (.int .i64 0)),90,[],h29⟩ (F.b7.jd K))) (fun v30 h31=>K (.panic v30) ⟨(aa (aa (aa (aa (aa (aa (aa (aa (aa (aa (aa (aa (aa (aa (aa (aa (aa (aa (aa (aa (aa (aa (aa (aa (aa (aa (aa (aa (aa (aa (aa (aa (aa (aa e 20 x5) 21 x6) 22 x7) 6 (.ptr (ag.next h) 0)) 23 x9) 24 x10) 25 x11) 26 x15) 27 x15) 27 (.bool false)) 28 (e 4)) 27 (.bool false)) 29 x16) 27 (.bool false)) 30 x17) 27 (.bool false)) 31 x18) 27 (.bool false)) 32 x22) 33 x22) 34 x22) 34 (.bool false)) 35 x23) 34 (.bool false)) 36 x24) 34 (.bool false)) 37 x25) 34 (.bool false)) 38 x26) 39 x26) 40 x26) 40 (.bool false)) 41 x27) 40 (.bool false)),90,[],h31⟩))))) (fun v20 h21=>K (.panic v20) ⟨(aa (aa (aa (aa (aa (aa (aa (aa (aa (aa (aa (aa (aa (aa (aa (aa e 20 x5) 21 x6) 22 x7) 6 (.ptr (ag.next h) 0)) 23 x9) 24 x10) 25 x11) 26 x15) 27 x15) 27 (.bool false)) 28 (e 4)) 27 (.bool false)) 29 x16) 27 (.bool false)) 30 x17) 27 (.bool false)),90,[],h21⟩)))) (fun v13 h14=>K (.panic v13) ⟨(aa (aa (aa (aa (aa (aa e 20 x5) 21 x6) 22 x7) 6 (.ptr (ag.next h) 0)) 23 x9) 24 x10),90,[],h14⟩))) (K (.exit 0) ⟨(aa e 20 x5),90,[],h⟩)):=by kernel_rfl
theorem F.b7.aD{e:Env}{h:ag}{K:Out→ag→Bool}:F.b7.b6 K (.exit 0) ⟨e,90,[],h⟩=(af (bV (e 4)) fun x37=>af (bD 2 x37) fun x38=>af (ai none x38 h) fun x39=>af (bz .map x39 h) fun x40=>af (aA .add x40 (.int .i64 1)) fun x41=>aT (au Tryz.prog (ah Tryz.prog) F.b7.L2) ⟨(aa (aa (aa (aa (aa (aa (aa e 77 (e 4)) 78 x37) 79 x38) 80 x39) 81 x40) 82 x41) 83 (.int .i64 0)),90,[],h⟩ (F.b7.rC K)):=by kernel_rfl
theorem F.b7.bt{e:Env}{h:ag}{K:Out→ag→Bool}:F.b7.b6 K .ret ⟨e,90,[],h⟩=(K (.ret (.tuple [(e 2),(e 3)])) h):=by kernel_rfl
theorem F.b7.dx{e:Env}{h:ag}{K:AX→St→Bool}:au Tryz.prog (ah Tryz.prog) F.b7.L1 ⟨e,90,[],h⟩ K=(af (aA .lss (e 49) (e 48)) fun x42=>ax x42 (af (cS 4 (e 47) (e 49)) fun x43=>af (ai (some 4) x43 h) fun x44=>af (bp 4 (.ptr (ag.next h) 0) x44 (ag.alloc h (.cells [(.int .i64 0),(.bool false),(.str []),.nils]))) fun h45=>af (ai (some 4) (.ptr (ag.next h) 0) h45) fun x46=>ah Tryz.prog 132 [x46] h45 (br (fun x47 h48=>af (iu .not x47) fun x51=>ax x51 (K .ret ⟨(aa (aa (aa (aa (aa (aa (aa (aa (aa (aa (aa (aa (aa (aa (aa (aa (aa (aa (aa (aa (aa (aa (aa (aa (aa (aa e 50 x42) 51 x43) 52 x44) 8 (.ptr (ag.next h) 0)) 53 x46) 54 x47) 55 x51) 56 x51) 56 (.bool true)) 57 bK) 56 (.bool true)) 58 bK) 56 (.bool true)) 59 bK) 56 (.bool true)) 60 bK) 61 bK) 62 bK) 63 bK) 64 bK) 65 bK) 56 (.bool true)) 66 bK) 67 (.bool true)) 2 .nilp) 3 (.bool false)),90,[],h48⟩) (af (bD 0 (.ptr (ag.next h) 0)) fun x52=>af (ai none x52 h48) fun x53=>af (fH (.int .i64) x53 (.int .i64 0)) fun x54=>ax x54 (af (bD 2 (.ptr (ag.next h) 0)) fun x55=>af (ai (some 2) x55 h48) fun x56=>ah Tryz.prog 131 [(e 4),x56] h48 (br (fun x57 h58=>af (iu .not x57) fun x61=>ax x61 (K .ret ⟨(aa (aa (aa (aa (aa (aa (aa (aa (aa (aa (aa (aa (aa (aa (aa (aa (aa (aa (aa (aa (aa (aa (aa (aa (aa (aa (aa (aa (aa (aa (aa e 50 x42) 51 x43) 52 x44) 8 (.ptr (ag.next h) 0)) 53 x46) 54 x47) 55 x51) 56 x51) 56 (.bool false)) 57 x52) 56 (.bool false)) 58 x53) 56 (.bool false)) 59 x54) 56 (.bool false)) 60 x54) 60 (.bool true)) 61 (e 4)) 60 (.bool true)) 62 x55) 60 (.bool true)) 63 x56) 60 (.bool true)) 64 x57) 60 (.bool true)) 65 x61) 56 (.bool false)) 66 x61) 67 x61) 2 .nilp) 3 (.bool false)),90,[],h58⟩) (af (aA .add (e 49) (.int .i64 1)) fun x62=>K .normal ⟨(aa (aa (aa (aa (aa (aa (aa (aa (aa (aa (aa (aa (aa (aa (aa (aa (aa (aa (aa (aa (aa (aa (aa (aa (aa (aa (aa (aa (aa (aa (aa e 50 x42) 51 x43) 52 x44) 8 (.ptr (ag.next h) 0)) 53 x46) 54 x47) 55 x51) 56 x51) 56 (.bool false)) 57 x52) 56 (.bool false)) 58 x53) 56 (.bool false)) 59 x54) 56 (.bool false)) 60 x54) 60 (.bool true)) 61 (e 4)) 60 (.bool true)) 62 x55) 60 (.bool true)) 63 x56) 60 (.bool true)) 64 x57) 60 (.bool true)) 65 x61) 56 (.bool false)) 66 x61) 67 x61) 68 x62) 49 x62),90,[],h58⟩)) (fun v59 h60=>K (.panic v59) ⟨(aa (aa (aa (aa (aa (aa (aa (aa (aa (aa (aa (aa (aa (aa (aa (aa (aa (aa (aa (aa (aa (aa (aa e 50 x42) 51 x43) 52 x44) 8 (.ptr (ag.next h) 0)) 53 x46) 54 x47) 55 x51) 56 x51) 56 (.bool false)) 57 x52) 56 (.bool false)) 58 x53) 56 (.bool false)) 59 x54) 56 (.bool false)) 60 x54) 60 (.bool true)) 61 (e 4)) 60 (.bool true)) 62 x55) 60 (.bool true)) 63 x56) 60 (.bool true)),90,[],h60⟩))) (af (aA .add (e 49) (.int .i64 1)) fun x63=>K .normal ⟨(aa (aa (aa (aa (aa (aa (aa (aa (aa (aa (aa (aa (aa (aa (aa (aa (aa (aa (aa (aa (aa (aa (aa (aa (aa (aa (aa (aa (aa (aa (aa e 50 x42) 51 x43) 52 x44) 8 (.ptr (ag.next h) 0)) 53 x46) 54 x47) 55 x51) 56 x51) 56 (.bool false)) 57 x52) 56 (.bool false)) 58 x53) 56 (.bool false)) 59 x54) 56 (.bool false)) 60 x54) 60 (.bool false)) 61 bK) 60 (.bool false)) 62 bK) 60 (.bool false)) 63 bK) 60 (.bool false)) 64 bK) 60 (.bool false)) 65 bK) 56 (.bool false)) 66 (.bool false)) 67 (.bool false)) 68 x63) 49 x63),90,[],h48⟩))) (fun v49 h50=>K (.panic v49) ⟨(aa (aa (aa (aa (aa e 50 x42) 51 x43) 52 x44) 8 (.ptr (ag.next h) 0)) 53 x46),90,[],h50⟩))) (K (.exit 2) ⟨(aa e 50 x42),90,[],h⟩)):=by kernel_rfl
theorem F.b7.cw{e:Env}{h:ag}{K:AX→St→Bool}:F.b7.jd K (.exit 2) ⟨e,90,[],h⟩=(af (bV (e 4)) fun x64=>af (bD 2 x64) fun x65=>af (ai none x65 h) fun x66=>af (bD 0 (e 6)) fun x67=>af (bD 0 x67) fun x68=>af (ai none x68 h) fun x69=>af (ep .string x66 x69 (.int .i64 0) h) fun h70=>af (aA .add (e 19) (.int .i64 1)) fun x71=>K .normal ⟨(aa (aa (aa (aa (aa (aa (aa (aa (aa e 69 (e 4)) 70 x64) 71 x65) 72 x66) 73 x67) 74 x68) 75 x69) 76 x71) 19 x71),90,[],h70⟩):=by kernel_rfl
theorem F.b7.iE{e:Env}{h:ag}{K:AX→St→Bool}:F.b7.jd K .ret ⟨e,90,[],h⟩=(K .ret ⟨e,90,[],h⟩):=by kernel_rfl
theorem F.b7.iF{e:Env}{h:ag}{K:AX→St→Bool}:au Tryz.prog (ah Tryz.prog) F.b7.L2 ⟨e,90,[],h⟩ K=(af (aA .lss (e 83) (e 82)) fun x72=>ax x72 (ah Tryz.prog 133 [(e 4)] h (br (fun x73 h74=>af (iu .not x73) fun x77=>ax x77 (K .ret ⟨(aa (aa (aa (aa (aa (aa (aa e 84 x72) 85 (e 4)) 86 x73) 87 x77) 88 (e 4)) 2 (e 4)) 3 (.bool true)),90,[],h74⟩) (af (aA .add (e 83) (.int .i64 1)) fun x78=>K .normal ⟨(aa (aa (aa (aa (aa (aa e 84 x72) 85 (e 4)) 86 x73) 87 x77) 89 x78) 83 x78),90,[],h74⟩)) (fun v75 h76=>K (.panic v75) ⟨(aa (aa e 84 x72) 85 (e 4)),90,[],h76⟩))) (K (.exit 4) ⟨(aa e 84 x72),90,[],h⟩)):=by kernel_rfl
theorem F.b7.fY{e:Env}{h:ag}{K:Out→ag→Bool}:F.b7.rC K (.exit 4) ⟨e,90,[],h⟩=(K (.ret (.tuple [.nilp,(.bool false)])) h):=by kernel_rfl
theorem F.b7.uk{e:Env}{h:ag}{K:Out→ag→Bool}:F.b7.rC K .ret ⟨e,90,[],h⟩=(K (.ret (.tuple [(e 2),(e 3)])) h):=by kernel_rfl
theorem F.Ef{a0:AV}{h:ag}{K:Out→ag→Bool}:au Tryz.prog (ah Tryz.prog) (aj Tryz.f83) ⟨aF [a0],90,[],h⟩ (aK Tryz.prog dw Tryz.f83.results.toList K)=(af (gw [.nils,.nilm,.nilm] [(0,1),(1,1),(2,1)] [a0,(.map (ag.next h)),(.map (ag.next (ag.alloc h (.map [] 0))))]) fun x0=>af (cK x0) fun c1=>af (bz .slice a0 (ag.alloc (ag.alloc (ag.alloc h (.map [] 0)) (.map [] 0)) (.cells c1))) fun x2=>af (aA .gtr x2 (.int .i64 60)) fun x3=>ax x3 (K (.ret (.tuple [.nilp,(.bool false)])) (ag.alloc (ag.alloc (ag.alloc h (.map [] 0)) (.map [] 0)) (.cells c1))) (af (bz .slice a0 (ag.alloc (ag.alloc (ag.alloc h (.map [] 0)) (.map [] 0)) (.cells c1))) fun x4=>aT (au Tryz.prog (ah Tryz.prog) F.b7.L0) ⟨(aa (aa (aa (aa (aa (aa (aa (aa (aa (aa (aa (aa (aa (aa (aF [a0]) 2 .nilp) 3 (.bool false)) 9 a0) 10 (.map (ag.next h))) 11 (.map (ag.next (ag.alloc h (.map [] 0))))) 12 x0) 13 (.ptr (ag.next (ag.alloc (ag.alloc h (.map [] 0)) (.map [] 0))) 0)) 4 (.ptr (ag.next (ag.alloc (ag.alloc h (.map [] 0)) (.map [] 0))) 0)) 14 a0) 15 x2) 16 x3) 17 a0) 18 x4) 19 (.int .i64 0)),90,[],(ag.alloc (ag.alloc (ag.alloc h (.map [] 0)) (.map [] 0)) (.cells c1))⟩ (F.b7.b6 K))):=by kernel_rfl
theorem F.C0{a0:AV}{h:ag}{K:Out→ag→Bool}(hh:(af (gw [.nils,.nilm,.nilm] [(0,1),(1,1),(2,1)] [a0,(.map (ag.next h)),(.map (ag.next (ag.alloc h (.map [] 0))))]) fun x0=>af (cK x0) fun c1=>af (bz .slice a0 (ag.alloc (ag.alloc (ag.alloc h (.map [] 0)) (.map [] 0)) (.cells c1))) fun x2=>af (aA .gtr x2 (.int .i64 60)) fun x3=>ax x3 (K (.ret (.tuple [.nilp,(.bool false)])) (ag.alloc (ag.alloc (ag.alloc h (.map [] 0)) (.map [] 0)) (.cells c1))) (af (bz .slice a0 (ag.alloc (ag.alloc (ag.alloc h (.map [] 0)) (.map [] 0)) (.cells c1))) fun x4=>aT (au Tryz.prog (ah Tryz.prog) F.b7.L0) ⟨(aa (aa (aa (aa (aa (aa (aa (aa (aa (aa (aa (aa (aa (aa (aF [a0]) 2 .nilp) 3 (.bool false)) 9 a0) 10 (.map (ag.next h))) 11 (.map (ag.next (ag.alloc h (.map [] 0))))) 12 x0) 13 (.ptr (ag.next (ag.alloc (ag.alloc h (.map [] 0)) (.map [] 0))) 0)) 4 (.ptr (ag.next (ag.alloc (ag.alloc h (.map [] 0)) (.map [] 0))) 0)) 14 a0) 15 x2) 16 x3) 17 a0) 18 x4) 19 (.int .i64 0)),90,[],(ag.alloc (ag.alloc (ag.alloc h (.map [] 0)) (.map [] 0)) (.cells c1))⟩ (F.b7.b6 K)))=true):Sem Tryz.prog 83 [a0] h K:=
 aP mixed (aL _) Tryz.func83 (c:=aj Tryz.f83) rfl (by decide) (of_decide_eq_true (by kernel_rfl)) (F.Ef.trans hh)
noncomputable def F.aZ.L0:Code:=partOf (aj Tryz.f133) [1,1,0,1,0,0]
noncomputable def F.aZ.b6(K:Out→ag→Bool):AX→St→Bool:=(aV 0 (cE false (au Tryz.prog (ah Tryz.prog) (partOf (aj Tryz.f133) [1,1,1])) (aK Tryz.prog dw Tryz.f133.results.toList K)))
noncomputable def F.aZ.L1:Code:=partOf (aj Tryz.f133) [1,1,0,1,0,0,1,1,0,0,1,1,0,0]
noncomputable def F.aZ.jd(K:AX→St→Bool):AX→St→Bool:=(aV 2 (aV 1 (cE false (au Tryz.prog (ah Tryz.prog) (partOf (aj Tryz.f133) [1,1,0,1,0,0,1,1,1])) K)))
noncomputable def F.aZ.J0(K:AX→St→Bool)(s:St):Bool:=HL (au Tryz.prog (ah Tryz.prog) (partOf (aj Tryz.f133) [1,1,0,1,0,0,1,1,0,0,1,1,0,0,1,1,0,0,1,1,1,1])) s (aV 3 (cE false (au Tryz.prog (ah Tryz.prog) (partOf (aj Tryz.f133) [1,1,0,1,0,0,1,1,0,0,1,1,0,0,1,1,1])) K))
theorem F.aZ.aO{e:Env}{h:ag}{K:AX→St→Bool}:au Tryz.prog (ah Tryz.prog) F.aZ.L0 ⟨e,71,[],h⟩ K=(af (aA .lss (e 15) (e 14)) fun x4=>ax x4 (af (cS 3 (e 13) (e 15)) fun x5=>af (ai (some 3) x5 h) fun x6=>af (bp 3 (.ptr (ag.next h) 0) x6 (ag.alloc h (.cells [(.str []),.nils,.nils]))) fun h7=>af (bD 2 (.ptr (ag.next h) 0)) fun x8=>af (ai none x8 h7) fun x9=>af (bz .slice x9 h7) fun x10=>aT (au Tryz.prog (ah Tryz.prog) F.aZ.L1) ⟨(aa (aa (aa (aa (aa (aa (aa (aa e 16 x4) 17 x5) 18 x6) 5 (.ptr (ag.next h) 0)) 19 x8) 20 x9) 21 x10) 22 (.int .i64 0)),71,[],h7⟩ (F.aZ.jd K)) (K (.exit 0) ⟨(aa e 16 x4),71,[],h⟩)):=by kernel_rfl
theorem F.aZ.aD{e:Env}{h:ag}{K:Out→ag→Bool}:F.aZ.b6 K (.exit 0) ⟨e,71,[],h⟩=(K (.ret (e 3)) h):=by kernel_rfl
theorem F.aZ.dx{e:Env}{h:ag}{K:AX→St→Bool}:au Tryz.prog (ah Tryz.prog) F.aZ.L1 ⟨e,71,[],h⟩ K=(af (aA .lss (e 22) (e 21)) fun x11=>ax x11 (af (cS 4 (e 20) (e 22)) fun x12=>af (ai (some 4) x12 h) fun x13=>af (bp 4 (.ptr (ag.next h) 0) x13 (ag.alloc h (.cells [(.int .i64 0),(.bool false),(.str []),.nils]))) fun h14=>af (bV (e 0)) fun x15=>af (bD 2 x15) fun x16=>af (ai none x16 h14) fun x17=>af (bD 2 (.ptr (ag.next h) 0)) fun x18=>af (bD 0 x18) fun x19=>af (ai none x19 h14) fun x20=>af (dz .string (.int .i64 0) true x17 x20 h14) fun x21=>af (bP x21 0) fun x22=>af (bP x21 1) fun x23=>af (bD 0 (.ptr (ag.next h) 0)) fun x24=>af (ai none x24 h14) fun x25=>af (lC (.int .i64) x25 (.int .i64 0)) fun x26=>ax x26 (af (aA .add (e 22) (.int .i64 1)) fun x27=>K .normal ⟨(aa (aa (aa (aa (aa (aa (aa (aa (aa (aa (aa (aa (aa (aa (aa (aa (aa (aa (aa (aa (aa (aa (aa (aa (aa (aa (aa (aa e 23 x11) 24 x12) 25 x13) 7 (.ptr (ag.next h) 0)) 27 (e 0)) 28 x15) 29 x16) 30 x17) 31 x18) 32 x19) 33 x20) 34 x21) 26 x21) 35 x22) 36 x23) 8 x22) 9 x23) 37 x24) 38 x25) 39 x26) 40 x26) 40 (.bool true)) 41 bK) 40 (.bool true)) 42 bK) 43 (.bool true)) 68 x27) 22 x27),71,[],h14⟩) (af (iu .not x23) fun x28=>ax x28 (af (aA .add (e 22) (.int .i64 1)) fun x29=>K .normal ⟨(aa (aa (aa (aa (aa (aa (aa (aa (aa (aa (aa (aa (aa (aa (aa (aa (aa (aa (aa (aa (aa (aa (aa (aa (aa (aa (aa (aa e 23 x11) 24 x12) 25 x13) 7 (.ptr (ag.next h) 0)) 27 (e 0)) 28 x15) 29 x16) 30 x17) 31 x18) 32 x19) 33 x20) 34 x21) 26 x21) 35 x22) 36 x23) 8 x22) 9 x23) 37 x24) 38 x25) 39 x26) 40 x26) 40 (.bool false)) 41 x23) 40 (.bool false)) 42 x28) 43 x28) 68 x29) 22 x29),71,[],h14⟩) (af (bD 1 (.ptr (ag.next h) 0)) fun x30=>af (ai none x30 h14) fun x31=>ax x31 (af (aA .add x22 (.int .i64 1)) fun x32=>F.aZ.J0 K ⟨(aa (aa (aa (aa (aa (aa (aa (aa (aa (aa (aa (aa (aa (aa (aa (aa (aa (aa (aa (aa (aa (aa (aa (aa (aa (aa (aa (aa (aa (aa (aa e 23 x11) 24 x12) 25 x13) 7 (.ptr (ag.next h) 0)) 27 (e 0)) 28 x15) 29 x16) 30 x17) 31 x18) 32 x19) 33 x20) 34 x21) 26 x21) 35 x22) 36 x23) 8 x22) 9 x23) 37 x24) 38 x25) 39 x26) 40 x26) 40 (.bool false)) 41 x23) 40 (.bool false)) 42 x28) 43 x28) 44 x30) 45 x31) 46 x22) 47 x32) 8 x32),71,[],h14⟩) (F.aZ.J0 K ⟨(aa (aa (aa (aa (aa (aa (aa (aa (aa (aa (aa (aa (aa (aa (aa (aa (aa (aa (aa (aa (aa (aa (aa (aa (aa (aa (aa (aa e 23 x11) 24 x12) 25 x13) 7 (.ptr (ag.next h) 0)) 27 (e 0)) 28 x15) 29 x16) 30 x17) 31 x18) 32 x19) 33 x20) 34 x21) 26 x21) 35 x22) 36 x23) 8 x22) 9 x23) 37 x24) 38 x25) 39 x26) 40 x26) 40 (.bool false)) 41 x23) 40 (.bool false)) 42 x28) 43 x28) 44 x30) 45 x31),71,[],h14⟩)))) (K (.exit 2) ⟨(aa e 23 x11),71,[],h⟩)):=by kernel_rfl
theorem F.aZ.cw{e:Env}{h:ag}{K:AX→St→Bool}:F.aZ.jd K (.exit 2) ⟨e,71,[],h⟩=(af (aA .add (e 15) (.int .i64 1)) fun x33=>K .normal ⟨(aa (aa e 69 x33) 15 x33),71,[],h⟩):=by kernel_rfl
theorem F.aZ.zJ{e:Env}{h:ag}{K:AX→St→Bool}:F.aZ.J0 K ⟨e,71,[],h⟩=(af (bV (e 0)) fun x34=>af (bD 2 x34) fun x35=>af (ai none x35 h) fun x36=>af (bD 0 (e 5)) fun x37=>af (bD 0 x37) fun x38=>af (ai none x38 h) fun x39=>af (dz .string (.int .i64 0) false x36 x39 h) fun x40=>af (aA .gtr (e 8) x40) fun x41=>ax x41 (af (bV (e 0)) fun x42=>af (bD 2 x42) fun x43=>af (ai none x43 h) fun x44=>af (bD 0 (e 5)) fun x45=>af (bD 0 x45) fun x46=>af (ai none x46 h) fun x47=>ct (jJ .string (.int .i64 0) x44 x47 h) fun x48 h49=>af (bP x48 1) fun x50=>af (gX x44 x50 (e 8) h49) fun h51=>af (aA .add (e 22) (.int .i64 1)) fun x52=>K .normal ⟨(aa (aa (aa (aa (aa (aa (aa (aa (aa (aa (aa (aa (aa (aa (aa (aa (aa (aa (aa (aa (aa (aa (aa e 48 (e 8)) 49 (e 0)) 50 x34) 51 x35) 52 x36) 53 x37) 54 x38) 55 x39) 56 x40) 57 x41) 58 (e 0)) 59 x42) 60 x43) 61 x44) 62 x45) 63 x46) 64 x47) 65 (e 8)) 66 x48) 67 x50) 3 (.bool true)) 68 x52) 22 x52),71,[],h51⟩) (af (aA .add (e 22) (.int .i64 1)) fun x53=>K .normal ⟨(aa (aa (aa (aa (aa (aa (aa (aa (aa (aa (aa (aa e 48 (e 8)) 49 (e 0)) 50 x34) 51 x35) 52 x36) 53 x37) 54 x38) 55 x39) 56 x40) 57 x41) 68 x53) 22 x53),71,[],h⟩)):=(ua _ _ _).trans (by kernel_rfl)
theorem F.pG{a0:AV}{h:ag}{K:Out→ag→Bool}:au Tryz.prog (ah Tryz.prog) (aj Tryz.f133) ⟨aF [a0],71,[],h⟩ (aK Tryz.prog dw Tryz.f133.results.toList K)=(af (bV a0) fun x0=>af (bD 0 x0) fun x1=>af (ai none x1 h) fun x2=>af (bz .slice x2 h) fun x3=>aT (au Tryz.prog (ah Tryz.prog) F.aZ.L0) ⟨(aa (aa (aa (aa (aa (aa (aa (aa (aF [a0]) 2 (.bool false)) 3 (.bool false)) 10 a0) 11 x0) 12 x1) 13 x2) 14 x3) 15 (.int .i64 0)),71,[],h⟩ (F.aZ.b6 K)):=by kernel_rfl
theorem F.oE{a0:AV}{h:ag}{K:Out→ag→Bool}(hh:(af (bV a0) fun x0=>af (bD 0 x0) fun x1=>af (ai none x1 h) fun x2=>af (bz .slice x2 h) fun x3=>aT (au Tryz.prog (ah Tryz.prog) F.aZ.L0) ⟨(aa (aa (aa (aa (aa (aa (aa (aa (aF [a0]) 2 (.bool false)) 3 (.bool false)) 10 a0) 11 x0) 12 x1) 13 x2) 14 x3) 15 (.int .i64 0)),71,[],h⟩ (F.aZ.b6 K))=true):Sem Tryz.prog 133 [a0] h K:=
 aP mixed (aL _) Tryz.func133 (c:=aj Tryz.f133) rfl (by decide) (of_decide_eq_true (by kernel_rfl)) (F.pG.trans hh)
noncomputable def F.bA.L0:Code:=partOf (aj Tryz.f31) [1,1,0,1,0,0]
noncomputable def F.bA.b6(K:Out→ag→Bool):AX→St→Bool:=(aV 0 (cE false (au Tryz.prog (ah Tryz.prog) (partOf (aj Tryz.f31) [1,1,1])) (aK Tryz.prog dw Tryz.f31.results.toList K)))
noncomputable def F.bA.L1:Code:=partOf (aj Tryz.f31) [1,1,1,1,0,1,0,0]
noncomputable def F.bA.jd(K:Out→ag→Bool):AX→St→Bool:=(aV 2 (cE false (au Tryz.prog (ah Tryz.prog) (partOf (aj Tryz.f31) [1,1,1,1,1])) (aK Tryz.prog dw Tryz.f31.results.toList K)))
noncomputable def F.bA.L2:Code:=partOf (aj Tryz.f31) [1,1,1,1,0,1,0,0,1,0,0,1,0,0]
noncomputable def F.bA.rC(K:AX→St→Bool):AX→St→Bool:=(aV 4 (aV 3 (cE false (au Tryz.prog (ah Tryz.prog) (partOf (aj Tryz.f31) [1,1,1,1,0,1,0,0,1,1])) K)))
theorem F.bA.aO{e:Env}{h:ag}{K:AX→St→Bool}:au Tryz.prog (ah Tryz.prog) F.bA.L0 ⟨e,67,[],h⟩ K=(af (bz .slice (e 0) h) fun x2=>af (aA .lss (e 3) x2) fun x3=>ax x3 (af (cS 3 (e 0) (e 3)) fun x4=>af (ai (some 3) x4 h) fun x5=>ah Tryz.prog 84 [x5] h (br (fun x6 h7=>af (iu .not x6) fun x10=>ax x10 (K .ret ⟨(aa (aa (aa (aa (aa (aa (aa (aa (aa (aa (aa e 12 (e 3)) 13 (e 0)) 14 x2) 15 x3) 18 (e 0)) 19 (e 3)) 20 x4) 21 x5) 22 x6) 23 x10) 2 (.bool false)),67,[],h7⟩) (af (aA .add (e 3) (.int .i64 1)) fun x11=>K .normal ⟨(aa (aa (aa (aa (aa (aa (aa (aa (aa (aa (aa (aa (aa e 12 (e 3)) 13 (e 0)) 14 x2) 15 x3) 18 (e 0)) 19 (e 3)) 20 x4) 21 x5) 22 x6) 23 x10) 16 (e 3)) 17 x11) 3 x11),67,[],h7⟩)) (fun v8 h9=>K (.panic v8) ⟨(aa (aa (aa (aa (aa (aa (aa (aa e 12 (e 3)) 13 (e 0)) 14 x2) 15 x3) 18 (e 0)) 19 (e 3)) 20 x4) 21 x5),67,[],h9⟩))) (K (.exit 0) ⟨(aa (aa (aa (aa e 12 (e 3)) 13 (e 0)) 14 x2) 15 x3),67,[],h⟩)):=by kernel_rfl
theorem F.bA.aD{e:Env}{h:ag}{K:Out→ag→Bool}:F.bA.b6 K (.exit 0) ⟨e,67,[],h⟩=(ah Tryz.prog 85 [(e 0)] h (br (fun x12 h13=>aT (au Tryz.prog (ah Tryz.prog) F.bA.L1) ⟨(aa (aa (aa (aa e 24 (e 0)) 25 x12) 4 x12) 5 (.int .i64 0)),67,[],h13⟩ (F.bA.jd K)) (fun v14 h15=>K (.panic v14) h15))):=by kernel_rfl
theorem F.bA.bt{e:Env}{h:ag}{K:Out→ag→Bool}:F.bA.b6 K .ret ⟨e,67,[],h⟩=(K (.ret (e 2)) h):=by kernel_rfl
theorem F.bA.dx{e:Env}{h:ag}{K:AX→St→Bool}:au Tryz.prog (ah Tryz.prog) F.bA.L1 ⟨e,67,[],h⟩ K=(af (bz .slice (e 4) h) fun x16=>af (aA .lss (e 5) x16) fun x17=>ax x17 (aT (au Tryz.prog (ah Tryz.prog) F.bA.L2) ⟨(aa (aa (aa (aa (aa e 26 (e 5)) 27 (e 4)) 28 x16) 29 x17) 6 (.int .i64 0)),67,[],h⟩ (F.bA.rC K)) (K (.exit 2) ⟨(aa (aa (aa (aa e 26 (e 5)) 27 (e 4)) 28 x16) 29 x17),67,[],h⟩)):=by kernel_rfl
theorem F.bA.cw{e:Env}{h:ag}{K:Out→ag→Bool}:F.bA.jd K (.exit 2) ⟨e,67,[],h⟩=(ah Tryz.prog 32 [(e 0)] h (br (fun x18 h19=>af (bP x18 0) fun x22=>af (bP x18 1) fun x23=>K (.ret x23) h19) (fun v20 h21=>K (.panic v20) h21))):=by kernel_rfl
theorem F.bA.iE{e:Env}{h:ag}{K:Out→ag→Bool}:F.bA.jd K .ret ⟨e,67,[],h⟩=(K (.ret (e 2)) h):=by kernel_rfl
theorem F.bA.iF{e:Env}{h:ag}{K:AX→St→Bool}:au Tryz.prog (ah Tryz.prog) F.bA.L2 ⟨e,67,[],h⟩ K=(af (aA .lss (e 6) (e 5)) fun x24=>ax x24 (af (cS 2 (e 4) (e 6)) fun x25=>af (bD 0 x25) fun x26=>af (ai none x26 h) fun x27=>af (cS 2 (e 4) (e 5)) fun x28=>af (bD 0 x28) fun x29=>af (ai none x29 h) fun x30=>af (fH .string x27 x30) fun x31=>ax x31 (af (cS 2 (e 4) (e 6)) fun x32=>af (bD 1 x32) fun x33=>af (ai none x33 h) fun x34=>af (cS 2 (e 4) (e 5)) fun x35=>af (bD 1 x35) fun x36=>af (ai none x36 h) fun x37=>af (lC (.int .i64) x34 x37) fun x38=>ax x38 (K .ret ⟨(aa (aa (aa (aa (aa (aa (aa (aa (aa (aa (aa (aa (aa (aa (aa (aa (aa (aa (aa (aa (aa (aa (aa (aa (aa (aa (aa (aa (aa (aa (aa (aa (aa (aa (aa (aa (aa (aa (aa e 32 (e 6)) 33 (e 5)) 34 x24) 37 (e 4)) 38 (e 6)) 39 x25) 40 x26) 41 x27) 42 (e 4)) 43 (e 5)) 44 x28) 45 x29) 46 x30) 47 x31) 48 x31) 48 (.bool true)) 49 (e 4)) 48 (.bool true)) 50 (e 6)) 48 (.bool true)) 51 x32) 48 (.bool true)) 52 x33) 48 (.bool true)) 53 x34) 48 (.bool true)) 54 (e 4)) 48 (.bool true)) 55 (e 5)) 48 (.bool true)) 56 x35) 48 (.bool true)) 57 x36) 48 (.bool true)) 58 x37) 48 (.bool true)) 59 x38) 60 x38) 2 (.bool false)),67,[],h⟩) (af (aA .add (e 6) (.int .i64 1)) fun x39=>K .normal ⟨(aa (aa (aa (aa (aa (aa (aa (aa (aa (aa (aa (aa (aa (aa (aa (aa (aa (aa (aa (aa (aa (aa (aa (aa (aa (aa (aa (aa (aa (aa (aa (aa (aa (aa (aa (aa (aa (aa (aa (aa (aa e 32 (e 6)) 33 (e 5)) 34 x24) 37 (e 4)) 38 (e 6)) 39 x25) 40 x26) 41 x27) 42 (e 4)) 43 (e 5)) 44 x28) 45 x29) 46 x30) 47 x31) 48 x31) 48 (.bool true)) 49 (e 4)) 48 (.bool true)) 50 (e 6)) 48 (.bool true)) 51 x32) 48 (.bool true)) 52 x33) 48 (.bool true)) 53 x34) 48 (.bool true)) 54 (e 4)) 48 (.bool true)) 55 (e 5)) 48 (.bool true)) 56 x35) 48 (.bool true)) 57 x36) 48 (.bool true)) 58 x37) 48 (.bool true)) 59 x38) 60 x38) 35 (e 6)) 36 x39) 6 x39),67,[],h⟩)) (af (aA .add (e 6) (.int .i64 1)) fun x40=>K .normal ⟨(aa (aa (aa (aa (aa (aa (aa (aa (aa (aa (aa (aa (aa (aa (aa (aa (aa (aa (aa (aa (aa (aa (aa (aa (aa (aa (aa (aa (aa (aa (aa (aa (aa (aa (aa (aa (aa (aa (aa (aa (aa e 32 (e 6)) 33 (e 5)) 34 x24) 37 (e 4)) 38 (e 6)) 39 x25) 40 x26) 41 x27) 42 (e 4)) 43 (e 5)) 44 x28) 45 x29) 46 x30) 47 x31) 48 x31) 48 (.bool false)) 49 bK) 48 (.bool false)) 50 bK) 48 (.bool false)) 51 bK) 48 (.bool false)) 52 bK) 48 (.bool false)) 53 bK) 48 (.bool false)) 54 bK) 48 (.bool false)) 55 bK) 48 (.bool false)) 56 bK) 48 (.bool false)) 57 bK) 48 (.bool false)) 58 bK) 48 (.bool false)) 59 bK) 60 (.bool false)) 35 (e 6)) 36 x40) 6 x40),67,[],h⟩)) (K (.exit 4) ⟨(aa (aa (aa e 32 (e 6)) 33 (e 5)) 34 x24),67,[],h⟩)):=by kernel_rfl
theorem F.bA.fY{e:Env}{h:ag}{K:AX→St→Bool}:F.bA.rC K (.exit 4) ⟨e,67,[],h⟩=(af (aA .add (e 5) (.int .i64 1)) fun x41=>K .normal ⟨(aa (aa (aa e 30 (e 5)) 31 x41) 5 x41),67,[],h⟩):=by kernel_rfl
theorem F.bA.uk{e:Env}{h:ag}{K:AX→St→Bool}:F.bA.rC K .ret ⟨e,67,[],h⟩=(K .ret ⟨e,67,[],h⟩):=by kernel_rfl
theorem F.zM{a0:AV}{h:ag}{K:Out→ag→Bool}:au Tryz.prog (ah Tryz.prog) (aj Tryz.f31) ⟨aF [a0],67,[],h⟩ (aK Tryz.prog dw Tryz.f31.results.toList K)=(af (bz .slice a0 h) fun x0=>af (aA .gtr x0 (.int .i64 60)) fun x1=>ax x1 (K (.ret (.bool false)) h) (aT (au Tryz.prog (ah Tryz.prog) F.bA.L0) ⟨(aa (aa (aa (aa (aa (aF [a0]) 2 (.bool false)) 9 a0) 10 x0) 11 x1) 3 (.int .i64 0)),67,[],h⟩ (F.bA.b6 K))):=by kernel_rfl
theorem F.xL{a0:AV}{h:ag}{K:Out→ag→Bool}(hh:(af (bz .slice a0 h) fun x0=>af (aA .gtr x0 (.int .i64 60)) fun x1=>ax x1 (K (.ret (.bool false)) h) (aT (au Tryz.prog (ah Tryz.prog) F.bA.L0) ⟨(aa (aa (aa (aa (aa (aF [a0]) 2 (.bool false)) 9 a0) 10 x0) 11 x1) 3 (.int .i64 0)),67,[],h⟩ (F.bA.b6 K)))=true):Sem Tryz.prog 31 [a0] h K:=
 aP mixed (aL _) Tryz.func31 (c:=aj Tryz.f31) rfl (by decide) (of_decide_eq_true (by kernel_rfl)) (F.zM.trans hh)
noncomputable def F.aY.L0:Code:=partOf (aj Tryz.f32) [1,1,1,0,1,0,0]
noncomputable def F.aY.b6(K:Out→ag→Bool):AX→St→Bool:=(aV 0 (cE false (au Tryz.prog (ah Tryz.prog) (partOf (aj Tryz.f32) [1,1,1,1])) (aK Tryz.prog dw Tryz.f32.results.toList K)))
noncomputable def F.aY.L1:Code:=partOf (aj Tryz.f32) [1,1,1,0,1,0,0,1,0,1,1,0,0]
noncomputable def F.aY.jd(K:AX→St→Bool):AX→St→Bool:=(aV 2 (aV 1 K))
noncomputable def F.aY.L2:Code:=partOf (aj Tryz.f32) [1,1,1,0,1,0,0,1,0,1,1,0,0,1,0,0,1,0,1,0,0]
noncomputable def F.aY.rC(K:AX→St→Bool):AX→St→Bool:=(aV 4 (cE false (au Tryz.prog (ah Tryz.prog) (partOf (aj Tryz.f32) [1,1,1,0,1,0,0,1,0,1,1,0,0,1,0,0,1,1])) (aV 3 (cE false (au Tryz.prog (ah Tryz.prog) (partOf (aj Tryz.f32) [1,1,1,0,1,0,0,1,0,1,1,0,0,1,1])) K))))
noncomputable def F.aY.J0(K:AX→St→Bool)(s:St):Bool:=HL (au Tryz.prog (ah Tryz.prog) (partOf (aj Tryz.f32) [1,1,1,0,1,0,0,1,0,1,1,0,0,1,0,0,1,0,1,0,0,1,0,0,1,1,1,0,1,1])) s (aV 5 (cE false (au Tryz.prog (ah Tryz.prog) (partOf (aj Tryz.f32) [1,1,1,0,1,0,0,1,0,1,1,0,0,1,0,0,1,0,1,0,0,1,1])) K))
theorem F.aY.aO{e:Env}{h:ag}{K:AX→St→Bool}:au Tryz.prog (ah Tryz.prog) F.aY.L0 ⟨e,89,[],h⟩ K=(ax (e 6) (aT (au Tryz.prog (ah Tryz.prog) F.aY.L1) ⟨(aa (aa (aa e 18 (e 6)) 6 (.bool false)) 7 (.int .i64 0)),89,[],h⟩ (F.aY.jd K)) (K (.exit 0) ⟨(aa e 18 (e 6)),89,[],h⟩)):=by kernel_rfl
theorem F.aY.aD{e:Env}{h:ag}{K:Out→ag→Bool}:F.aY.b6 K (.exit 0) ⟨e,89,[],h⟩=(K (.ret (.tuple [(e 5),(.bool true)])) h):=by kernel_rfl
theorem F.aY.bt{e:Env}{h:ag}{K:Out→ag→Bool}:F.aY.b6 K .ret ⟨e,89,[],h⟩=(K (.ret (.tuple [(e 2),(e 3)])) h):=by kernel_rfl
theorem F.aY.dx{e:Env}{h:ag}{K:AX→St→Bool}:au Tryz.prog (ah Tryz.prog) F.aY.L1 ⟨e,89,[],h⟩ K=(af (bz .slice (e 0) h) fun x7=>af (aA .lss (e 7) x7) fun x8=>ax x8 (af (cS 3 (e 0) (e 7)) fun x9=>af (bD 0 x9) fun x10=>af (bD 0 x10) fun x11=>af (ai none x11 h) fun x12=>ah Tryz.prog 58 [(e 4),x12] h (br (fun x13 h14=>aT (au Tryz.prog (ah Tryz.prog) F.aY.L2) ⟨(aa (aa (aa (aa (aa (aa (aa (aa (aa (aa (aa (aa (aa (aa e 19 (e 7)) 20 (e 0)) 21 x7) 22 x8) 25 (e 4)) 26 (e 0)) 27 (e 7)) 28 x9) 29 x10) 30 x11) 31 x12) 32 x13) 8 x13) 9 (.int .i64 0)),89,[],h14⟩ (F.aY.rC K)) (fun v15 h16=>K (.panic v15) ⟨(aa (aa (aa (aa (aa (aa (aa (aa (aa (aa (aa e 19 (e 7)) 20 (e 0)) 21 x7) 22 x8) 25 (e 4)) 26 (e 0)) 27 (e 7)) 28 x9) 29 x10) 30 x11) 31 x12),89,[],h16⟩))) (K (.exit 2) ⟨(aa (aa (aa (aa e 19 (e 7)) 20 (e 0)) 21 x7) 22 x8),89,[],h⟩)):=by kernel_rfl
theorem F.aY.cw{e:Env}{h:ag}{K:AX→St→Bool}:F.aY.jd K (.exit 2) ⟨e,89,[],h⟩=(K .normal ⟨e,89,[],h⟩):=by kernel_rfl
theorem F.aY.iE{e:Env}{h:ag}{K:AX→St→Bool}:F.aY.jd K .ret ⟨e,89,[],h⟩=(K .ret ⟨e,89,[],h⟩):=by kernel_rfl
theorem F.aY.iF{e:Env}{h:ag}{K:AX→St→Bool}:au Tryz.prog (ah Tryz.prog) F.aY.L2 ⟨e,89,[],h⟩ K=(af (cS 3 (e 0) (e 7)) fun x17=>af (bD 2 x17) fun x18=>af (ai none x18 h) fun x19=>af (bz .slice x19 h) fun x20=>af (aA .lss (e 9) x20) fun x21=>ax x21 (af (cS 3 (e 0) (e 7)) fun x22=>af (bD 2 x22) fun x23=>af (ai none x23 h) fun x24=>af (cS 4 x24 (e 9)) fun x25=>af (ai (some 4) x25 h) fun x26=>af (bp 4 (.ptr (ag.next h) 0) x26 (ag.alloc h (.cells [(.int .i64 0),(.bool false),(.str []),.nils]))) fun h27=>af (bD 2 (.ptr (ag.next h) 0)) fun x28=>af (bD 0 x28) fun x29=>af (ai none x29 h27) fun x30=>ah Tryz.prog 58 [(e 4),x30] h27 (br (fun x31 h32=>af (bD 0 (.ptr (ag.next h) 0)) fun x35=>af (ai none x35 h32) fun x36=>af (fH (.int .i64) x36 (.int .i64 0)) fun x37=>ax x37 (af (aA .geq x31 (.int .i64 0)) fun x38=>ax x38 (af (cS 1 (e 5) x31) fun x39=>af (ai none x39 h32) fun x40=>af (bD 1 (.ptr (ag.next h) 0)) fun x41=>af (ai none x41 h32) fun x42=>ax x42 (af (aA .add x40 (.int .i64 1)) fun x43=>F.aY.J0 K ⟨(aa (aa (aa (aa (aa (aa (aa (aa (aa (aa (aa (aa (aa (aa (aa (aa (aa (aa (aa (aa (aa (aa (aa (aa (aa (aa (aa (aa (aa (aa (aa (aa (aa (aa (aa (aa (aa (aa (aa (aa (aa (aa e 33 (e 9)) 34 (e 0)) 35 (e 7)) 36 x17) 37 x18) 38 x19) 39 x20) 40 x21) 43 (e 0)) 44 (e 7)) 45 x22) 46 x23) 47 x24) 48 (e 9)) 49 x25) 50 x26) 10 (.ptr (ag.next h) 0)) 51 (e 4)) 52 x28) 53 x29) 54 x30) 55 x31) 11 x31) 56 x35) 57 x36) 58 x37) 59 x37) 59 (.bool true)) 60 x31) 59 (.bool true)) 61 x38) 62 x38) 63 (e 5)) 64 x31) 65 x39) 66 x40) 12 x40) 67 x41) 68 x42) 69 x40) 70 x43) 12 x43),89,[],h32⟩) (F.aY.J0 K ⟨(aa (aa (aa (aa (aa (aa (aa (aa (aa (aa (aa (aa (aa (aa (aa (aa (aa (aa (aa (aa (aa (aa (aa (aa (aa (aa (aa (aa (aa (aa (aa (aa (aa (aa (aa (aa (aa (aa (aa e 33 (e 9)) 34 (e 0)) 35 (e 7)) 36 x17) 37 x18) 38 x19) 39 x20) 40 x21) 43 (e 0)) 44 (e 7)) 45 x22) 46 x23) 47 x24) 48 (e 9)) 49 x25) 50 x26) 10 (.ptr (ag.next h) 0)) 51 (e 4)) 52 x28) 53 x29) 54 x30) 55 x31) 11 x31) 56 x35) 57 x36) 58 x37) 59 x37) 59 (.bool true)) 60 x31) 59 (.bool true)) 61 x38) 62 x38) 63 (e 5)) 64 x31) 65 x39) 66 x40) 12 x40) 67 x41) 68 x42),89,[],h32⟩)) (af (aA .add (e 9) (.int .i64 1)) fun x44=>K .normal ⟨(aa (aa (aa (aa (aa (aa (aa (aa (aa (aa (aa (aa (aa (aa (aa (aa (aa (aa (aa (aa (aa (aa (aa (aa (aa (aa (aa (aa (aa (aa (aa (aa (aa (aa (aa e 33 (e 9)) 34 (e 0)) 35 (e 7)) 36 x17) 37 x18) 38 x19) 39 x20) 40 x21) 43 (e 0)) 44 (e 7)) 45 x22) 46 x23) 47 x24) 48 (e 9)) 49 x25) 50 x26) 10 (.ptr (ag.next h) 0)) 51 (e 4)) 52 x28) 53 x29) 54 x30) 55 x31) 11 x31) 56 x35) 57 x36) 58 x37) 59 x37) 59 (.bool true)) 60 x31) 59 (.bool true)) 61 x38) 62 x38) 41 (e 9)) 42 x44) 9 x44),89,[],h32⟩)) (af (aA .add (e 9) (.int .i64 1)) fun x45=>K .normal ⟨(aa (aa (aa (aa (aa (aa (aa (aa (aa (aa (aa (aa (aa (aa (aa (aa (aa (aa (aa (aa (aa (aa (aa (aa (aa (aa (aa (aa (aa (aa (aa (aa (aa (aa (aa e 33 (e 9)) 34 (e 0)) 35 (e 7)) 36 x17) 37 x18) 38 x19) 39 x20) 40 x21) 43 (e 0)) 44 (e 7)) 45 x22) 46 x23) 47 x24) 48 (e 9)) 49 x25) 50 x26) 10 (.ptr (ag.next h) 0)) 51 (e 4)) 52 x28) 53 x29) 54 x30) 55 x31) 11 x31) 56 x35) 57 x36) 58 x37) 59 x37) 59 (.bool false)) 60 bK) 59 (.bool false)) 61 bK) 62 (.bool false)) 41 (e 9)) 42 x45) 9 x45),89,[],h32⟩)) (fun v33 h34=>K (.panic v33) ⟨(aa (aa (aa (aa (aa (aa (aa (aa (aa (aa (aa (aa (aa (aa (aa (aa (aa (aa (aa (aa (aa e 33 (e 9)) 34 (e 0)) 35 (e 7)) 36 x17) 37 x18) 38 x19) 39 x20) 40 x21) 43 (e 0)) 44 (e 7)) 45 x22) 46 x23) 47 x24) 48 (e 9)) 49 x25) 50 x26) 10 (.ptr (ag.next h) 0)) 51 (e 4)) 52 x28) 53 x29) 54 x30),89,[],h34⟩))) (K (.exit 4) ⟨(aa (aa (aa (aa (aa (aa (aa (aa e 33 (e 9)) 34 (e 0)) 35 (e 7)) 36 x17) 37 x18) 38 x19) 39 x20) 40 x21),89,[],h⟩)):=by kernel_rfl
theorem F.aY.fY{e:Env}{h:ag}{K:AX→St→Bool}:F.aY.rC K (.exit 4) ⟨e,89,[],h⟩=(af (cS 1 (e 5) (e 8)) fun x46=>af (ai none x46 h) fun x47=>af (bz .slice (e 4) h) fun x48=>af (aA .gtr x47 x48) fun x49=>ax x49 (K .ret ⟨(aa (aa (aa (aa (aa (aa (aa (aa (aa e 81 (e 5)) 82 (e 8)) 83 x46) 84 x47) 85 (e 4)) 86 x48) 87 x49) 2 .nils) 3 (.bool false)),89,[],h⟩) (af (aA .add (e 7) (.int .i64 1)) fun x50=>K .normal ⟨(aa (aa (aa (aa (aa (aa (aa (aa (aa (aa e 81 (e 5)) 82 (e 8)) 83 x46) 84 x47) 85 (e 4)) 86 x48) 87 x49) 23 (e 7)) 24 x50) 7 x50),89,[],h⟩)):=by kernel_rfl
theorem F.aY.zJ{e:Env}{h:ag}{K:AX→St→Bool}:F.aY.J0 K ⟨e,89,[],h⟩=(af (cS 1 (e 5) (e 8)) fun x51=>af (ai none x51 h) fun x52=>af (aA .gtr (e 12) x52) fun x53=>ax x53 (af (cS 1 (e 5) (e 8)) fun x54=>af (bp 1 x54 (e 12) h) fun h55=>af (aA .add (e 9) (.int .i64 1)) fun x56=>K .normal ⟨(aa (aa (aa (aa (aa (aa (aa (aa (aa (aa (aa (aa (aa (aa e 71 (e 12)) 72 (e 5)) 73 (e 8)) 74 x51) 75 x52) 76 x53) 77 (e 5)) 78 (e 8)) 79 (e 12)) 80 x54) 6 (.bool true)) 41 (e 9)) 42 x56) 9 x56),89,[],h55⟩) (af (aA .add (e 9) (.int .i64 1)) fun x57=>K .normal ⟨(aa (aa (aa (aa (aa (aa (aa (aa (aa e 71 (e 12)) 72 (e 5)) 73 (e 8)) 74 x51) 75 x52) 76 x53) 41 (e 9)) 42 x57) 9 x57),89,[],h⟩)):=(ua _ _ _).trans (by kernel_rfl)
theorem F.xM{a0:AV}{h:ag}{K:Out→ag→Bool}:au Tryz.prog (ah Tryz.prog) (aj Tryz.f32) ⟨aF [a0],89,[],h⟩ (aK Tryz.prog dw Tryz.f32.results.toList K)=(ah Tryz.prog 34 [a0] h (br (fun x0 h1=>af (bz .slice x0 h1) fun x4=>ct (c8 1 8 [(.int .i64 0)] x4 x4 h1) fun x5 h6=>aT (au Tryz.prog (ah Tryz.prog) F.aY.L0) ⟨(aa (aa (aa (aa (aa (aa (aa (aa (aa (aa (aF [a0]) 2 .nils) 3 (.bool false)) 13 a0) 14 x0) 4 x0) 15 x0) 16 x4) 17 x5) 5 x5) 6 (.bool true)),89,[],h6⟩ (F.aY.b6 K)) (fun v2 h3=>K (.panic v2) h3))):=by kernel_rfl
theorem F.vu{a0:AV}{h:ag}{K:Out→ag→Bool}(hh:(ah Tryz.prog 34 [a0] h (br (fun x0 h1=>af (bz .slice x0 h1) fun x4=>ct (c8 1 8 [(.int .i64 0)] x4 x4 h1) fun x5 h6=>aT (au Tryz.prog (ah Tryz.prog) F.aY.L0) ⟨(aa (aa (aa (aa (aa (aa (aa (aa (aa (aa (aF [a0]) 2 .nils) 3 (.bool false)) 13 a0) 14 x0) 4 x0) 15 x0) 16 x4) 17 x5) 5 x5) 6 (.bool true)),89,[],h6⟩ (F.aY.b6 K)) (fun v2 h3=>K (.panic v2) h3)))=true):Sem Tryz.prog 32 [a0] h K:=
 aP mixed (aL _) Tryz.func32 (c:=aj Tryz.f32) rfl (by decide) (of_decide_eq_true (by kernel_rfl)) (F.xM.trans hh)
end
end Go.AM
namespace Go.AM
open Go Go.Proofs
noncomputable section
noncomputable def F.cF.L0:Code:=partOf (aj Tryz.f69) [1,1,0,1,0,0]
noncomputable def F.cF.b6(K:Out→ag→Bool):AX→St→Bool:=(aV 0 (cE false (au Tryz.prog (ah Tryz.prog) (partOf (aj Tryz.f69) [1,1,1])) (aK Tryz.prog dw Tryz.f69.results.toList K)))
theorem F.cF.aO{e:Env}{h:ag}{K:AX→St→Bool}:au Tryz.prog (ah Tryz.prog) F.cF.L0 ⟨e,24,[],h⟩ K=(af (aA .lss (e 10) (e 9)) fun x1=>ax x1 (af (cS 1 (e 8) (e 10)) fun x2=>af (ai none x2 h) fun x3=>af (bV (e 0)) fun x4=>af (bD 0 x4) fun x5=>af (ai none x5 h) fun x6=>af (aA .mul (e 5) x6) fun x7=>af (aA .add x7 x3) fun x8=>af (aA .add (e 10) (.int .i64 1)) fun x9=>K .normal ⟨(aa (aa (aa (aa (aa (aa (aa (aa (aa (aa (aa (aa (aa (aa (aa e 11 x1) 12 x2) 13 x3) 7 x3) 14 (e 5)) 15 (e 0)) 16 x4) 17 x5) 18 x6) 19 x7) 20 x3) 21 x8) 5 x8) 22 x9) 10 x9),24,[],h⟩) (K (.exit 0) ⟨(aa e 11 x1),24,[],h⟩)):=by kernel_rfl
theorem F.cF.aD{e:Env}{h:ag}{K:Out→ag→Bool}:F.cF.b6 K (.exit 0) ⟨e,24,[],h⟩=(K (.ret (e 5)) h):=by kernel_rfl
theorem F.rQ{a0 a1:AV}{h:ag}{K:Out→ag→Bool}:au Tryz.prog (ah Tryz.prog) (aj Tryz.f69) ⟨aF [a0,a1],24,[],h⟩ (aK Tryz.prog dw Tryz.f69.results.toList K)=(af (bz .slice a1 h) fun x0=>aT (au Tryz.prog (ah Tryz.prog) F.cF.L0) ⟨(aa (aa (aa (aa (aa (aF [a0,a1]) 4 (.int .i64 0)) 5 (.int .i64 0)) 8 a1) 9 x0) 10 (.int .i64 0)),24,[],h⟩ (F.cF.b6 K)):=by kernel_rfl
theorem F.k7{a0 a1:AV}{h:ag}{K:Out→ag→Bool}(hh:(af (bz .slice a1 h) fun x0=>aT (au Tryz.prog (ah Tryz.prog) F.cF.L0) ⟨(aa (aa (aa (aa (aa (aF [a0,a1]) 4 (.int .i64 0)) 5 (.int .i64 0)) 8 a1) 9 x0) 10 (.int .i64 0)),24,[],h⟩ (F.cF.b6 K))=true):Sem Tryz.prog 69 [a0,a1] h K:=
 aP mixed (aL _) Tryz.func69 (c:=aj Tryz.f69) rfl (by decide) (of_decide_eq_true (by kernel_rfl)) (F.rQ.trans hh)
noncomputable def F.fO.L0:Code:=partOf (aj Tryz.f124) [1,1,0,1,0,0]
noncomputable def F.fO.b6(K:Out→ag→Bool):AX→St→Bool:=(aV 0 (cE false (au Tryz.prog (ah Tryz.prog) (partOf (aj Tryz.f124) [1,1,1])) (aK Tryz.prog dw Tryz.f124.results.toList K)))
theorem F.fO.aO{e:Env}{h:ag}{K:AX→St→Bool}:au Tryz.prog (ah Tryz.prog) F.fO.L0 ⟨e,27,[],h⟩ K=(af (aA .lss (e 13) (e 12)) fun x4=>ax x4 (af (cS 1 (e 11) (e 13)) fun x5=>af (ai none x5 h) fun x6=>af (cS 1 (e 0) x6) fun x7=>af (ai none x7 h) fun x8=>af (cS 1 (e 5) (e 13)) fun x9=>af (bp 1 x9 x8 h) fun h10=>af (aA .add (e 13) (.int .i64 1)) fun x11=>K .normal ⟨(aa (aa (aa (aa (aa (aa (aa (aa (aa (aa (aa (aa (aa (aa (aa e 14 x4) 15 (e 13)) 16 x5) 17 x6) 6 (e 13)) 7 x6) 18 (e 5)) 19 (e 13)) 20 (e 0)) 21 x6) 22 x7) 23 x8) 24 x9) 25 x11) 13 x11),27,[],h10⟩) (K (.exit 0) ⟨(aa e 14 x4),27,[],h⟩)):=by kernel_rfl
theorem F.fO.aD{e:Env}{h:ag}{K:Out→ag→Bool}:F.fO.b6 K (.exit 0) ⟨e,27,[],h⟩=(K (.ret (e 5)) h):=by kernel_rfl
theorem F.Bg{a0 a1:AV}{h:ag}{K:Out→ag→Bool}:au Tryz.prog (ah Tryz.prog) (aj Tryz.f124) ⟨aF [a0,a1],27,[],h⟩ (aK Tryz.prog dw Tryz.f124.results.toList K)=(af (bz .slice a1 h) fun x0=>ct (c8 1 8 [(.int .i64 0)] x0 x0 h) fun x1 h2=>af (bz .slice a1 h2) fun x3=>aT (au Tryz.prog (ah Tryz.prog) F.fO.L0) ⟨(aa (aa (aa (aa (aa (aa (aa (aa (aF [a0,a1]) 4 .nils) 8 a1) 9 x0) 10 x1) 5 x1) 11 a1) 12 x3) 13 (.int .i64 0)),27,[],h2⟩ (F.fO.b6 K)):=by kernel_rfl
theorem F.zN{a0 a1:AV}{h:ag}{K:Out→ag→Bool}(hh:(af (bz .slice a1 h) fun x0=>ct (c8 1 8 [(.int .i64 0)] x0 x0 h) fun x1 h2=>af (bz .slice a1 h2) fun x3=>aT (au Tryz.prog (ah Tryz.prog) F.fO.L0) ⟨(aa (aa (aa (aa (aa (aa (aa (aa (aF [a0,a1]) 4 .nils) 8 a1) 9 x0) 10 x1) 5 x1) 11 a1) 12 x3) 13 (.int .i64 0)),27,[],h2⟩ (F.fO.b6 K))=true):Sem Tryz.prog 124 [a0,a1] h K:=
 aP mixed (aL _) Tryz.func124 (c:=aj Tryz.f124) rfl (by decide) (of_decide_eq_true (by kernel_rfl)) (F.Bg.trans hh)
theorem F.qh{a0 a1 a2:AV}{h:ag}{K:Out→ag→Bool}:au Tryz.prog (ah Tryz.prog) (aj Tryz.f129) ⟨aF [a0,a1,a2],47,[],h⟩ (aK Tryz.prog dw Tryz.f129.results.toList K)=(af (cK a1) fun c0=>af (bD 0 (.ptr (ag.next h) 0)) fun x1=>af (ai none x1 (ag.alloc h (.cells c0))) fun x2=>af (fH (.int .i64) x2 (.int .i64 0)) fun x3=>ax x3 (af (bV a0) fun x4=>af (bD 1 x4) fun x5=>af (ai none x5 (ag.alloc h (.cells c0))) fun x6=>af (bD 2 (.ptr (ag.next h) 0)) fun x7=>af (bD 0 x7) fun x8=>af (ai none x8 (ag.alloc h (.cells c0))) fun x9=>af (dz .string .nils false x6 x9 (ag.alloc h (.cells c0))) fun x10=>ah Tryz.prog 69 [a0,a2] (ag.alloc h (.cells c0)) (br (fun x11 h12=>if ((af (dz .string .nils false x6 x9 h12) fun x13=>AV.beq x13 x10)&&((af (ai none x8 h12) fun x14=>AV.beq x14 x9)&&((af (ai none x5 h12) fun x15=>AV.beq x15 x6)&&true)))=true then (af (cS 1 x10 x11) fun x16=>af (ai none x16 h12) fun x17=>af (bD 1 (.ptr (ag.next h) 0)) fun x18=>af (ai none x18 h12) fun x19=>af (lC .bool x17 x19) fun x20=>K (.ret x20) h12) else false) (fun _ _=>false))) (af (fH (.int .i64) x2 (.int .i64 1)) fun x21=>ax x21 (af (cS 1 a2 (.int .i64 0)) fun x22=>af (ai none x22 (ag.alloc h (.cells c0))) fun x23=>af (cS 1 a2 (.int .i64 1)) fun x24=>af (ai none x24 (ag.alloc h (.cells c0))) fun x25=>af (fH (.int .i64) x23 x25) fun x26=>af (bD 1 (.ptr (ag.next h) 0)) fun x27=>af (ai none x27 (ag.alloc h (.cells c0))) fun x28=>af (lC .bool x26 x28) fun x29=>K (.ret x29) (ag.alloc h (.cells c0))) (af (fH (.int .i64) x2 (.int .i64 2)) fun x30=>ax x30 (af (cS 1 a2 (.int .i64 0)) fun x31=>af (ai none x31 (ag.alloc h (.cells c0))) fun x32=>af (cS 1 a2 (.int .i64 1)) fun x33=>af (ai none x33 (ag.alloc h (.cells c0))) fun x34=>af (aA .lss x32 x34) fun x35=>af (bD 1 (.ptr (ag.next h) 0)) fun x36=>af (ai none x36 (ag.alloc h (.cells c0))) fun x37=>af (lC .bool x35 x37) fun x38=>K (.ret x38) (ag.alloc h (.cells c0))) (af (bD 1 (.ptr (ag.next h) 0)) fun x39=>af (ai none x39 (ag.alloc h (.cells c0))) fun x40=>af (lC .bool (.bool false) x40) fun x41=>K (.ret x41) (ag.alloc h (.cells c0)))))):=by kernel_rfl
theorem F.pH{a0 a1 a2:AV}{h:ag}{K:Out→ag→Bool}(hh:(af (cK a1) fun c0=>af (bD 0 (.ptr (ag.next h) 0)) fun x1=>af (ai none x1 (ag.alloc h (.cells c0))) fun x2=>af (fH (.int .i64) x2 (.int .i64 0)) fun x3=>ax x3 (af (bV a0) fun x4=>af (bD 1 x4) fun x5=>af (ai none x5 (ag.alloc h (.cells c0))) fun x6=>af (bD 2 (.ptr (ag.next h) 0)) fun x7=>af (bD 0 x7) fun x8=>af (ai none x8 (ag.alloc h (.cells c0))) fun x9=>af (dz .string .nils false x6 x9 (ag.alloc h (.cells c0))) fun x10=>ah Tryz.prog 69 [a0,a2] (ag.alloc h (.cells c0)) (br (fun x11 h12=>if ((af (dz .string .nils false x6 x9 h12) fun x13=>AV.beq x13 x10)&&((af (ai none x8 h12) fun x14=>AV.beq x14 x9)&&((af (ai none x5 h12) fun x15=>AV.beq x15 x6)&&true)))=true then (af (cS 1 x10 x11) fun x16=>af (ai none x16 h12) fun x17=>af (bD 1 (.ptr (ag.next h) 0)) fun x18=>af (ai none x18 h12) fun x19=>af (lC .bool x17 x19) fun x20=>K (.ret x20) h12) else false) (fun _ _=>false))) (af (fH (.int .i64) x2 (.int .i64 1)) fun x21=>ax x21 (af (cS 1 a2 (.int .i64 0)) fun x22=>af (ai none x22 (ag.alloc h (.cells c0))) fun x23=>af (cS 1 a2 (.int .i64 1)) fun x24=>af (ai none x24 (ag.alloc h (.cells c0))) fun x25=>af (fH (.int .i64) x23 x25) fun x26=>af (bD 1 (.ptr (ag.next h) 0)) fun x27=>af (ai none x27 (ag.alloc h (.cells c0))) fun x28=>af (lC .bool x26 x28) fun x29=>K (.ret x29) (ag.alloc h (.cells c0))) (af (fH (.int .i64) x2 (.int .i64 2)) fun x30=>ax x30 (af (cS 1 a2 (.int .i64 0)) fun x31=>af (ai none x31 (ag.alloc h (.cells c0))) fun x32=>af (cS 1 a2 (.int .i64 1)) fun x33=>af (ai none x33 (ag.alloc h (.cells c0))) fun x34=>af (aA .lss x32 x34) fun x35=>af (bD 1 (.ptr (ag.next h) 0)) fun x36=>af (ai none x36 (ag.alloc h (.cells c0))) fun x37=>af (lC .bool x35 x37) fun x38=>K (.ret x38) (ag.alloc h (.cells c0))) (af (bD 1 (.ptr (ag.next h) 0)) fun x39=>af (ai none x39 (ag.alloc h (.cells c0))) fun x40=>af (lC .bool (.bool false) x40) fun x41=>K (.ret x41) (ag.alloc h (.cells c0))))))=true):Sem Tryz.prog 129 [a0,a1,a2] h K:=
 aP mixed (aL _) Tryz.func129 (c:=aj Tryz.f129) rfl (by decide) (of_decide_eq_true (by kernel_rfl)) (F.qh.trans hh)
noncomputable def F.cq.L0:Code:=partOf (aj Tryz.f109) [1,1,1,1,0,1,0,0]
noncomputable def F.cq.b6(K:Out→ag→Bool):AX→St→Bool:=(aV 0 (cE false (au Tryz.prog (ah Tryz.prog) (partOf (aj Tryz.f109) [1,1,1,1,1])) (aK Tryz.prog dw Tryz.f109.results.toList K)))
noncomputable def F.cq.L1:Code:=partOf (aj Tryz.f109) [1,1,1,1,0,1,0,0,1,1,0,0,1,1,1,0,1,0,0]
noncomputable def F.cq.jd(K:AX→St→Bool):AX→St→Bool:=(aV 2 (cE false (au Tryz.prog (ah Tryz.prog) (partOf (aj Tryz.f109) [1,1,1,1,0,1,0,0,1,1,0,0,1,1,1,1])) (aV 1 (cE false (au Tryz.prog (ah Tryz.prog) (partOf (aj Tryz.f109) [1,1,1,1,0,1,0,0,1,1,1])) K))))
theorem F.cq.aO{e:Env}{h:ag}{K:AX→St→Bool}:au Tryz.prog (ah Tryz.prog) F.cq.L0 ⟨e,63,[],h⟩ K=(af (aA .lss (e 30) (e 29)) fun x23=>ax x23 (af (cS 4 (e 28) (e 30)) fun x24=>af (ai (some 4) x24 h) fun x25=>af (bp 4 (.ptr (ag.next h) 0) x25 (ag.alloc h (.cells [(.int .i64 0),(.bool false),(.str []),.nils]))) fun h26=>af (bD 2 (.ptr (ag.next h) 0)) fun x27=>af (bD 1 x27) fun x28=>af (ai none x28 h26) fun x29=>lJ (e 6) fun f35 a36 a37=>ah Tryz.prog f35 (a36++([x29]++a37)) h26 (br (fun x30 h31=>af (bz .slice x30 h31) fun x34=>aT (au Tryz.prog (ah Tryz.prog) F.cq.L1) ⟨(aa (aa (aa (aa (aa (aa (aa (aa (aa (aa (aa (aa (aa (aa e 31 x23) 32 x24) 33 x25) 9 (.ptr (ag.next h) 0)) 34 (e 6)) 35 x27) 36 x28) 37 x29) 38 x30) 10 x30) 11 (.int .i64 (-1))) 39 x30) 40 x34) 41 (.int .i64 0)),63,[],h31⟩ (F.cq.jd K)) (fun v32 h33=>K (.panic v32) ⟨(aa (aa (aa (aa (aa (aa (aa (aa e 31 x23) 32 x24) 33 x25) 9 (.ptr (ag.next h) 0)) 34 (e 6)) 35 x27) 36 x28) 37 x29),63,[],h33⟩))) (K (.exit 0) ⟨(aa e 31 x23),63,[],h⟩)):=by kernel_rfl
theorem F.cq.aD{e:Env}{h:ag}{K:Out→ag→Bool}:F.cq.b6 K (.exit 0) ⟨e,63,[],h⟩=(af (ai (some 8) (e 7) h) fun x38=>af (bp 8 (e 4) x38 h) fun h39=>af (eO Tryz.prog ⟨(aa e 62 x38),63,[],h39⟩ Tryz.f109.results.toList) fun vs=>K (.ret (oneOf vs)) h39):=by kernel_rfl
theorem F.cq.dx{e:Env}{h:ag}{K:AX→St→Bool}:au Tryz.prog (ah Tryz.prog) F.cq.L1 ⟨e,63,[],h⟩ K=(af (aA .lss (e 41) (e 40)) fun x40=>ax x40 (af (cS 1 (e 39) (e 41)) fun x41=>af (ai none x41 h) fun x42=>af (rY true (e 11) [x42]) fun x43=>af (aA .add (e 41) (.int .i64 1)) fun x44=>K .normal ⟨(aa (aa (aa (aa (aa (aa (aa (aa (aa (aa e 42 x40) 43 x41) 44 x42) 13 x42) 45 (e 11)) 46 x42) 47 x43) 11 x43) 48 x44) 41 x44),63,[],h⟩) (K (.exit 2) ⟨(aa e 42 x40),63,[],h⟩)):=by kernel_rfl
theorem F.cq.cw{e:Env}{h:ag}{K:AX→St→Bool}:F.cq.jd K (.exit 2) ⟨e,63,[],h⟩=(af (bD 6 (e 7)) fun x45=>af (ai none x45 h) fun x46=>af (fc [.nils] [(0,1)] [(e 10)]) fun c47=>af (bD 7 (e 7)) fun x48=>af (ai none x48 (ag.alloc h (.cells c47))) fun x49=>af (fc [(.int .i64 0)] [(0,1)] [(e 11)]) fun c50=>ct (cg 1 24 x46 (.slice (ag.next h) 0 1 1) (ag.alloc (ag.alloc h (.cells c47)) (.cells c50))) fun x51 h52=>if ((af (ai none x48 h52) fun x53=>AV.beq x53 x49)&&true)=true then (af (bD 6 (e 7)) fun x54=>ct (cg 1 8 x49 (.slice (ag.next (ag.alloc h (.cells c47))) 0 1 1) h52) fun x55 h56=>af (bp 1 x54 x51 h56) fun h57=>af (bD 7 (e 7)) fun x58=>af (bp 1 x58 x55 h57) fun h59=>af (aA .add (e 30) (.int .i64 1)) fun x60=>K .normal ⟨(aa (aa (aa (aa (aa (aa (aa (aa (aa (aa (aa (aa (aa (aa e 49 x45) 50 x46) 51 (e 10)) 52 (.slice (ag.next h) 0 1 1)) 54 x48) 55 x49) 56 (e 11)) 57 (.slice (ag.next (ag.alloc h (.cells c47))) 0 1 1)) 53 x51) 59 x54) 58 x55) 60 x58) 61 x60) 30 x60),63,[],h59⟩) else false):=by kernel_rfl
theorem F.xN{a0 a1:AV}{h:ag}{K:Out→ag→Bool}:au Tryz.prog (ah Tryz.prog) (aj Tryz.f109) ⟨aF [a0,a1],63,[],h⟩ (aK Tryz.prog dw Tryz.f109.results.toList K)=(af (cK a1) fun c0=>af (ai (some 3) (.ptr (ag.next h) 0) (ag.alloc (ag.alloc h (.cells c0)) (.cells [(.int .i64 0),(.str []),.nils,.nils,(.int .i64 0),.nils,.nils,.nils]))) fun x1=>ah Tryz.prog 108 [x1] (ag.alloc (ag.alloc h (.cells c0)) (.cells [(.int .i64 0),(.str []),.nils,.nils,(.int .i64 0),.nils,.nils,.nils])) (br (fun x2 h3=>af (bp 1 (.ptr (ag.next h3) 0) x2 (ag.alloc h3 (.cells [.nils]))) fun h6=>af (ai (some 3) (.ptr (ag.next h) 0) h6) fun x7=>af (ai none (.ptr (ag.next h3) 0) h6) fun x8=>af (bz .slice x8 h6) fun x9=>af (bD 0 (.ptr (ag.next h) 0)) fun x10=>af (bD 1 x10) fun x11=>af (ai none x11 h6) fun x12=>ah Tryz.prog 156 [x12,(.ptr (ag.next h3) 0)] (ag.alloc h6 (.cells [(.int .i64 0),(.str []),.nils,.nils,(.int .i64 0),.nils,.nils,.nils])) (br (fun x13 h14=>if ((af (bz .slice x8 h14) fun x15=>AV.beq x15 x9)&&((af (ai none (.ptr (ag.next h3) 0) h14) fun x16=>AV.beq x16 x8)&&((af (ai (some 3) (.ptr (ag.next h) 0) h14) fun x17=>AV.beq x17 x7)&&true)))=true then (af (gw [(.int .i64 0),(.str []),.nils,.nils,(.int .i64 0),.nils,.nils,.nils] [(0,1),(1,3),(4,1),(5,1)] [a0,x7,x9,x13]) fun x18=>af (bp 8 (.ptr (ag.next h6) 0) x18 h14) fun h19=>af (bD 2 (.ptr (ag.next h) 0)) fun x20=>af (ai none x20 h19) fun x21=>af (bz .slice x21 h19) fun x22=>aT (au Tryz.prog (ah Tryz.prog) F.cq.L0) ⟨(aa (aa (aa (aa (aa (aa (aa (aa (aa (aa (aa (aa (aa (aa (aa (aa (aa (aa (aa (aa (aa (aa (aF [a0,a1]) 3 (.ptr (ag.next h) 0)) 4 (.ptr (ag.next (ag.alloc h (.cells c0))) 0)) 14 x1) 15 x2) 5 (.ptr (ag.next h3) 0)) 16 (.func 156 [] [(.ptr (ag.next h3) 0)])) 6 (.func 156 [] [(.ptr (ag.next h3) 0)])) 17 a0) 18 x7) 19 x8) 20 x9) 21 (.func 156 [] [(.ptr (ag.next h3) 0)])) 22 x10) 23 x11) 24 x12) 7 (.ptr (ag.next h6) 0)) 25 x13) 26 x18) 27 x20) 28 x21) 29 x22) 30 (.int .i64 0)),63,[],h19⟩ (F.cq.b6 K)) else false) (fun _ _=>false))) (fun v4 h5=>K (.panic v4) h5))):=by kernel_rfl
theorem F.vw{a0 a1:AV}{h:ag}{K:Out→ag→Bool}(hh:(af (cK a1) fun c0=>af (ai (some 3) (.ptr (ag.next h) 0) (ag.alloc (ag.alloc h (.cells c0)) (.cells [(.int .i64 0),(.str []),.nils,.nils,(.int .i64 0),.nils,.nils,.nils]))) fun x1=>ah Tryz.prog 108 [x1] (ag.alloc (ag.alloc h (.cells c0)) (.cells [(.int .i64 0),(.str []),.nils,.nils,(.int .i64 0),.nils,.nils,.nils])) (br (fun x2 h3=>af (bp 1 (.ptr (ag.next h3) 0) x2 (ag.alloc h3 (.cells [.nils]))) fun h6=>af (ai (some 3) (.ptr (ag.next h) 0) h6) fun x7=>af (ai none (.ptr (ag.next h3) 0) h6) fun x8=>af (bz .slice x8 h6) fun x9=>af (bD 0 (.ptr (ag.next h) 0)) fun x10=>af (bD 1 x10) fun x11=>af (ai none x11 h6) fun x12=>ah Tryz.prog 156 [x12,(.ptr (ag.next h3) 0)] (ag.alloc h6 (.cells [(.int .i64 0),(.str []),.nils,.nils,(.int .i64 0),.nils,.nils,.nils])) (br (fun x13 h14=>if ((af (bz .slice x8 h14) fun x15=>AV.beq x15 x9)&&((af (ai none (.ptr (ag.next h3) 0) h14) fun x16=>AV.beq x16 x8)&&((af (ai (some 3) (.ptr (ag.next h) 0) h14) fun x17=>AV.beq x17 x7)&&true)))=true then (af (gw [(.int .i64 0),(.str []),.nils,.nils,(.int .i64 0),.nils,.nils,.nils] [(0,1),(1,3),(4,1),(5,1)] [a0,x7,x9,x13]) fun x18=>af (bp 8 (.ptr (ag.next h6) 0) x18 h14) fun h19=>af (bD 2 (.ptr (ag.next h) 0)) fun x20=>af (ai none x20 h19) fun x21=>af (bz .slice x21 h19) fun x22=>aT (au Tryz.prog (ah Tryz.prog) F.cq.L0) ⟨(aa (aa (aa (aa (aa (aa (aa (aa (aa (aa (aa (aa (aa (aa (aa (aa (aa (aa (aa (aa (aa (aa (aF [a0,a1]) 3 (.ptr (ag.next h) 0)) 4 (.ptr (ag.next (ag.alloc h (.cells c0))) 0)) 14 x1) 15 x2) 5 (.ptr (ag.next h3) 0)) 16 (.func 156 [] [(.ptr (ag.next h3) 0)])) 6 (.func 156 [] [(.ptr (ag.next h3) 0)])) 17 a0) 18 x7) 19 x8) 20 x9) 21 (.func 156 [] [(.ptr (ag.next h3) 0)])) 22 x10) 23 x11) 24 x12) 7 (.ptr (ag.next h6) 0)) 25 x13) 26 x18) 27 x20) 28 x21) 29 x22) 30 (.int .i64 0)),63,[],h19⟩ (F.cq.b6 K)) else false) (fun _ _=>false))) (fun v4 h5=>K (.panic v4) h5)))=true):Sem Tryz.prog 109 [a0,a1] h K:=
 aP mixed (aL _) Tryz.func109 (c:=aj Tryz.f109) rfl (by decide) (of_decide_eq_true (by kernel_rfl)) (F.xN.trans hh)
noncomputable def F.dV.L0:Code:=partOf (aj Tryz.f156) [1,1,0,1,0,0]
noncomputable def F.dV.b6(K:Out→ag→Bool):AX→St→Bool:=(aV 0 (cE false (au Tryz.prog (ah Tryz.prog) (partOf (aj Tryz.f156) [1,1,1])) (aK Tryz.prog dw Tryz.f156.results.toList K)))
theorem F.dV.aO{e:Env}{h:ag}{K:AX→St→Bool}:au Tryz.prog (ah Tryz.prog) F.dV.L0 ⟨e,21,[],h⟩ K=(af (aA .lss (e 9) (e 8)) fun x1=>ax x1 (af (cS 1 (e 7) (e 9)) fun x2=>af (ai none x2 h) fun x3=>af (ai none (e 1) h) fun x4=>ah Tryz.prog 157 [x4,x3] h (br (fun x5 h6=>af (fc [(.int .i64 0)] [(0,1)] [x5]) fun c9=>ct (cg 1 8 (e 4) (.slice (ag.next h6) 0 1 1) (ag.alloc h6 (.cells c9))) fun x10 h11=>af (aA .add (e 9) (.int .i64 1)) fun x12=>K .normal ⟨(aa (aa (aa (aa (aa (aa (aa (aa (aa (aa (aa (aa (aa e 10 x1) 11 x2) 12 x3) 6 x3) 13 (e 4)) 14 x4) 15 x3) 16 x5) 17 (.slice (ag.next h6) 0 1 1)) 18 x10) 4 x10) 19 x12) 9 x12),21,[],h11⟩) (fun v7 h8=>K (.panic v7) ⟨(aa (aa (aa (aa (aa (aa (aa e 10 x1) 11 x2) 12 x3) 6 x3) 13 (e 4)) 14 x4) 15 x3),21,[],h8⟩))) (K (.exit 0) ⟨(aa e 10 x1),21,[],h⟩)):=by kernel_rfl
theorem F.dV.aD{e:Env}{h:ag}{K:Out→ag→Bool}:F.dV.b6 K (.exit 0) ⟨e,21,[],h⟩=(K (.ret (e 4)) h):=by kernel_rfl
theorem F.um{a0 a1:AV}{h:ag}{K:Out→ag→Bool}:au Tryz.prog (ah Tryz.prog) (aj Tryz.f156) ⟨aF [a0,a1],21,[],h⟩ (aK Tryz.prog dw Tryz.f156.results.toList K)=(af (bz .slice a0 h) fun x0=>aT (au Tryz.prog (ah Tryz.prog) F.dV.L0) ⟨(aa (aa (aa (aa (aa (aF [a0,a1]) 3 .nils) 4 .nils) 7 a0) 8 x0) 9 (.int .i64 0)),21,[],h⟩ (F.dV.b6 K)):=by kernel_rfl
theorem F.sX{a0 a1:AV}{h:ag}{K:Out→ag→Bool}(hh:(af (bz .slice a0 h) fun x0=>aT (au Tryz.prog (ah Tryz.prog) F.dV.L0) ⟨(aa (aa (aa (aa (aa (aF [a0,a1]) 3 .nils) 4 .nils) 7 a0) 8 x0) 9 (.int .i64 0)),21,[],h⟩ (F.dV.b6 K))=true):Sem Tryz.prog 156 [a0,a1] h K:=
 aP mixed (aL _) Tryz.func156 (c:=aj Tryz.f156) rfl (by decide) (of_decide_eq_true (by kernel_rfl)) (F.um.trans hh)
theorem F.rR{a0 a1 a2:AV}{h:ag}{K:Out→ag→Bool}:au Tryz.prog (ah Tryz.prog) (aj Tryz.f122) ⟨aF [a0,a1,a2],18,[],h⟩ (aK Tryz.prog dw Tryz.f122.results.toList K)=(af (cK a0) fun c0=>af (cK a1) fun c1=>af (cK a2) fun c2=>af (bD 4 (.ptr (ag.next (ag.alloc h (.cells c0))) 0)) fun x3=>af (ai none x3 (ag.alloc (ag.alloc (ag.alloc h (.cells c0)) (.cells c1)) (.cells c2))) fun x4=>ct (c8 1 8 [(.int .i64 0)] x4 x4 (ag.alloc (ag.alloc (ag.alloc h (.cells c0)) (.cells c1)) (.cells c2))) fun x5 h6=>af (bp 1 (.ptr (ag.next h6) 0) x5 (ag.alloc h6 (.cells [.nils]))) fun h7=>af (bp 1 (.ptr (ag.next h7) 0) (.func 166 [] [(.ptr (ag.next (ag.alloc h (.cells c0))) 0),(.ptr (ag.next h) 0),(.ptr (ag.next h6) 0)]) (ag.alloc h7 (.cells [.nilf]))) fun h8=>af (bp 1 (.ptr (ag.next h8) 0) (.func 167 [] [(.ptr (ag.next (ag.alloc h (.cells c0))) 0),(.ptr (ag.next (ag.alloc (ag.alloc h (.cells c0)) (.cells c1))) 0),(.ptr (ag.next h6) 0),(.ptr (ag.next h) 0),(.ptr (ag.next h7) 0),(.ptr (ag.next h8) 0)]) (ag.alloc h8 (.cells [.nilf]))) fun h9=>af (ai none (.ptr (ag.next h7) 0) h9) fun x10=>lJ x10 fun f23 a24 a25=>ah Tryz.prog f23 (a24++([(.int .i64 (-1))]++a25)) h9 (br (fun x11 h12=>ax x11 (af (ai none (.ptr (ag.next h8) 0) h12) fun x15=>lJ x15 fun f20 a21 a22=>ah Tryz.prog f20 (a21++([(.int .i64 0)]++a22)) h12 (br (fun x16 h17=>K (.ret (.tuple [])) h17) (fun v18 h19=>K (.panic v18) h19))) (K (.ret (.tuple [])) h12)) (fun v13 h14=>K (.panic v13) h14))):=by kernel_rfl
theorem F.qi{a0 a1 a2:AV}{h:ag}{K:Out→ag→Bool}(hh:(af (cK a0) fun c0=>af (cK a1) fun c1=>af (cK a2) fun c2=>af (bD 4 (.ptr (ag.next (ag.alloc h (.cells c0))) 0)) fun x3=>af (ai none x3 (ag.alloc (ag.alloc (ag.alloc h (.cells c0)) (.cells c1)) (.cells c2))) fun x4=>ct (c8 1 8 [(.int .i64 0)] x4 x4 (ag.alloc (ag.alloc (ag.alloc h (.cells c0)) (.cells c1)) (.cells c2))) fun x5 h6=>af (bp 1 (.ptr (ag.next h6) 0) x5 (ag.alloc h6 (.cells [.nils]))) fun h7=>af (bp 1 (.ptr (ag.next h7) 0) (.func 166 [] [(.ptr (ag.next (ag.alloc h (.cells c0))) 0),(.ptr (ag.next h) 0),(.ptr (ag.next h6) 0)]) (ag.alloc h7 (.cells [.nilf]))) fun h8=>af (bp 1 (.ptr (ag.next h8) 0) (.func 167 [] [(.ptr (ag.next (ag.alloc h (.cells c0))) 0),(.ptr (ag.next (ag.alloc (ag.alloc h (.cells c0)) (.cells c1))) 0),(.ptr (ag.next h6) 0),(.ptr (ag.next h) 0),(.ptr (ag.next h7) 0),(.ptr (ag.next h8) 0)]) (ag.alloc h8 (.cells [.nilf]))) fun h9=>af (ai none (.ptr (ag.next h7) 0) h9) fun x10=>lJ x10 fun f23 a24 a25=>ah Tryz.prog f23 (a24++([(.int .i64 (-1))]++a25)) h9 (br (fun x11 h12=>ax x11 (af (ai none (.ptr (ag.next h8) 0) h12) fun x15=>lJ x15 fun f20 a21 a22=>ah Tryz.prog f20 (a21++([(.int .i64 0)]++a22)) h12 (br (fun x16 h17=>K (.ret (.tuple [])) h17) (fun v18 h19=>K (.panic v18) h19))) (K (.ret (.tuple [])) h12)) (fun v13 h14=>K (.panic v13) h14)))=true):Sem Tryz.prog 122 [a0,a1,a2] h K:=
 aP mixed (aL _) Tryz.func122 (c:=aj Tryz.f122) rfl (by decide) (of_decide_eq_true (by kernel_rfl)) (F.rR.trans hh)
noncomputable def F.cr.L0:Code:=partOf (aj Tryz.f166) [1,0,1,0,0]
noncomputable def F.cr.b6(K:Out→ag→Bool):AX→St→Bool:=(aV 0 (cE false (au Tryz.prog (ah Tryz.prog) (partOf (aj Tryz.f166) [1,1])) (aK Tryz.prog dw Tryz.f166.results.toList K)))
theorem F.cr.aO{e:Env}{h:ag}{K:AX→St→Bool}:au Tryz.prog (ah Tryz.prog) F.cr.L0 ⟨e,38,[],h⟩ K=(af (aA .lss (e 12) (e 11)) fun x4=>ax x4 (af (cS 4 (e 10) (e 12)) fun x5=>af (ai (some 4) x5 h) fun x6=>af (bp 4 (.ptr (ag.next h) 0) x6 (ag.alloc h (.cells [(.int .i64 0),(.bool false),(.str []),.nils]))) fun h7=>af (bD 7 (e 1)) fun x8=>af (ai none x8 h7) fun x9=>af (cS 1 x9 (e 12)) fun x10=>af (ai none x10 h7) fun x11=>af (fH (.int .i64) x11 (e 0)) fun x12=>ax x12 (af (ai none (e 2) h7) fun x13=>af (ai (some 4) (.ptr (ag.next h) 0) h7) fun x14=>af (ai none (e 3) h7) fun x15=>af (bD 6 (e 1)) fun x16=>af (ai none x16 h7) fun x17=>af (cS 1 x17 (e 12)) fun x18=>af (ai none x18 h7) fun x19=>ah Tryz.prog 124 [x15,x19] h7 (br (fun x20 h21=>if ((af (ai (some 4) (.ptr (ag.next h) 0) h21) fun x22=>AV.beq x22 x14)&&((af (ai none (e 2) h21) fun x23=>AV.beq x23 x13)&&true))=true then (ah Tryz.prog 129 [x13,x14,x20] h21 (br (fun x24 h25=>af (iu .not x24) fun x26=>ax x26 (K .ret ⟨(aa (aa (aa (aa (aa (aa (aa (aa (aa (aa (aa (aa (aa (aa (aa (aa (aa (aa (aa (aa (aa (aa (aa (aa (aa (aa (aa (aa (aa (aa (aa (aa (aa (aa (aa (aa (aa (aa e 13 x4) 14 (e 12)) 15 x5) 16 x6) 7 (.ptr (ag.next h) 0)) 6 (e 12)) 17 x8) 18 x9) 19 (e 12)) 20 x10) 21 x11) 22 (e 0)) 23 x12) 24 x12) 24 (.bool true)) 25 x13) 24 (.bool true)) 26 x14) 24 (.bool true)) 27 x15) 24 (.bool true)) 28 x16) 24 (.bool true)) 29 x17) 24 (.bool true)) 30 (e 12)) 24 (.bool true)) 31 x18) 24 (.bool true)) 32 x19) 24 (.bool true)) 33 x20) 24 (.bool true)) 34 x24) 24 (.bool true)) 35 x26) 36 x26) 5 (.bool false)),38,[],h25⟩) (af (aA .add (e 12) (.int .i64 1)) fun x27=>K .normal ⟨(aa (aa (aa (aa (aa (aa (aa (aa (aa (aa (aa (aa (aa (aa (aa (aa (aa (aa (aa (aa (aa (aa (aa (aa (aa (aa (aa (aa (aa (aa (aa (aa (aa (aa (aa (aa (aa (aa (aa e 13 x4) 14 (e 12)) 15 x5) 16 x6) 7 (.ptr (ag.next h) 0)) 6 (e 12)) 17 x8) 18 x9) 19 (e 12)) 20 x10) 21 x11) 22 (e 0)) 23 x12) 24 x12) 24 (.bool true)) 25 x13) 24 (.bool true)) 26 x14) 24 (.bool true)) 27 x15) 24 (.bool true)) 28 x16) 24 (.bool true)) 29 x17) 24 (.bool true)) 30 (e 12)) 24 (.bool true)) 31 x18) 24 (.bool true)) 32 x19) 24 (.bool true)) 33 x20) 24 (.bool true)) 34 x24) 24 (.bool true)) 35 x26) 36 x26) 37 x27) 12 x27),38,[],h25⟩)) (fun _ _=>false))) else false) (fun _ _=>false))) (af (aA .add (e 12) (.int .i64 1)) fun x28=>K .normal ⟨(aa (aa (aa (aa (aa (aa (aa (aa (aa (aa (aa (aa (aa (aa (aa (aa (aa (aa (aa (aa (aa (aa (aa (aa (aa (aa (aa (aa (aa (aa (aa (aa (aa (aa (aa (aa (aa (aa (aa e 13 x4) 14 (e 12)) 15 x5) 16 x6) 7 (.ptr (ag.next h) 0)) 6 (e 12)) 17 x8) 18 x9) 19 (e 12)) 20 x10) 21 x11) 22 (e 0)) 23 x12) 24 x12) 24 (.bool false)) 25 bK) 24 (.bool false)) 26 bK) 24 (.bool false)) 27 bK) 24 (.bool false)) 28 bK) 24 (.bool false)) 29 bK) 24 (.bool false)) 30 bK) 24 (.bool false)) 31 bK) 24 (.bool false)) 32 bK) 24 (.bool false)) 33 bK) 24 (.bool false)) 34 bK) 24 (.bool false)) 35 bK) 36 (.bool false)) 37 x28) 12 x28),38,[],h7⟩)) (K (.exit 0) ⟨(aa e 13 x4),38,[],h⟩)):=by kernel_rfl
theorem F.cr.aD{e:Env}{h:ag}{K:Out→ag→Bool}:F.cr.b6 K (.exit 0) ⟨e,38,[],h⟩=(K (.ret (.bool true)) h):=by kernel_rfl
theorem F.cr.bt{e:Env}{h:ag}{K:Out→ag→Bool}:F.cr.b6 K .ret ⟨e,38,[],h⟩=(K (.ret (e 5)) h):=by kernel_rfl
theorem F.pI{a0 a1 a2 a3:AV}{h:ag}{K:Out→ag→Bool}:au Tryz.prog (ah Tryz.prog) (aj Tryz.f166) ⟨aF [a0,a1,a2,a3],38,[],h⟩ (aK Tryz.prog dw Tryz.f166.results.toList K)=(af (bD 1 a1) fun x0=>af (bD 2 x0) fun x1=>af (ai none x1 h) fun x2=>af (bz .slice x2 h) fun x3=>aT (au Tryz.prog (ah Tryz.prog) F.cr.L0) ⟨(aa (aa (aa (aa (aa (aa (aF [a0,a1,a2,a3]) 5 (.bool false)) 8 x0) 9 x1) 10 x2) 11 x3) 12 (.int .i64 0)),38,[],h⟩ (F.cr.b6 K)):=by kernel_rfl
theorem F.oG{a0 a1 a2 a3:AV}{h:ag}{K:Out→ag→Bool}(hh:(af (bD 1 a1) fun x0=>af (bD 2 x0) fun x1=>af (ai none x1 h) fun x2=>af (bz .slice x2 h) fun x3=>aT (au Tryz.prog (ah Tryz.prog) F.cr.L0) ⟨(aa (aa (aa (aa (aa (aa (aF [a0,a1,a2,a3]) 5 (.bool false)) 8 x0) 9 x1) 10 x2) 11 x3) 12 (.int .i64 0)),38,[],h⟩ (F.cr.b6 K))=true):Sem Tryz.prog 166 [a0,a1,a2,a3] h K:=
 aP mixed (aL _) Tryz.func166 (c:=aj Tryz.f166) rfl (by decide) (of_decide_eq_true (by kernel_rfl)) (F.pI.trans hh)
noncomputable def F.cM.L0:Code:=partOf (aj Tryz.f167) [1,1,0,1,0,0]
noncomputable def F.cM.b6(K:Out→ag→Bool):AX→St→Bool:=(aV 0 (cE false (au Tryz.prog (ah Tryz.prog) (partOf (aj Tryz.f167) [1,1,1])) (aK Tryz.prog dw Tryz.f167.results.toList K)))
theorem F.cM.aO{e:Env}{h:ag}{K:AX→St→Bool}:au Tryz.prog (ah Tryz.prog) F.cM.L0 ⟨e,39,[],h⟩ K=(af (aA .lss (e 21) (e 20)) fun x16=>ax x16 (af (ai none (e 3) h) fun x17=>af (cS 1 x17 (e 0)) fun x18=>af (bp 1 x18 (e 21) h) fun h19=>af (ai none (e 5) h19) fun x20=>lJ x20 fun f37 a38 a39=>ah Tryz.prog f37 (a38++([(e 0)]++a39)) h19 (br (fun x21 h22=>ax x21 (af (ai none (e 6) h22) fun x25=>af (aA .add (e 0) (.int .i64 1)) fun x26=>lJ x25 fun f33 a34 a35=>ah Tryz.prog f33 (a34++([x26]++a35)) h22 (br (fun x27 h28=>af (iu .not x27) fun x31=>ax x31 (K .ret ⟨(aa (aa (aa (aa (aa (aa (aa (aa (aa (aa (aa (aa (aa (aa (aa (aa (aa (aa (aa (aa (aa (aa (aa e 22 x16) 23 (e 21)) 9 (e 21)) 24 x17) 25 (e 0)) 26 (e 21)) 27 x18) 28 x20) 29 (e 0)) 30 x21) 31 x21) 31 (.bool true)) 32 x25) 31 (.bool true)) 33 (e 0)) 31 (.bool true)) 34 x26) 31 (.bool true)) 35 x27) 31 (.bool true)) 36 x31) 37 x31) 8 (.bool false)),39,[],h28⟩) (af (aA .add (e 21) (.int .i64 1)) fun x32=>K .normal ⟨(aa (aa (aa (aa (aa (aa (aa (aa (aa (aa (aa (aa (aa (aa (aa (aa (aa (aa (aa (aa (aa (aa (aa (aa e 22 x16) 23 (e 21)) 9 (e 21)) 24 x17) 25 (e 0)) 26 (e 21)) 27 x18) 28 x20) 29 (e 0)) 30 x21) 31 x21) 31 (.bool true)) 32 x25) 31 (.bool true)) 33 (e 0)) 31 (.bool true)) 34 x26) 31 (.bool true)) 35 x27) 31 (.bool true)) 36 x31) 37 x31) 38 x32) 21 x32),39,[],h28⟩)) (fun v29 h30=>K (.panic v29) ⟨(aa (aa (aa (aa (aa (aa (aa (aa (aa (aa (aa (aa (aa (aa (aa (aa (aa (aa e 22 x16) 23 (e 21)) 9 (e 21)) 24 x17) 25 (e 0)) 26 (e 21)) 27 x18) 28 x20) 29 (e 0)) 30 x21) 31 x21) 31 (.bool true)) 32 x25) 31 (.bool true)) 33 (e 0)) 31 (.bool true)) 34 x26) 31 (.bool true)),39,[],h30⟩))) (af (aA .add (e 21) (.int .i64 1)) fun x36=>K .normal ⟨(aa (aa (aa (aa (aa (aa (aa (aa (aa (aa (aa (aa (aa (aa (aa (aa (aa (aa (aa (aa (aa (aa (aa (aa e 22 x16) 23 (e 21)) 9 (e 21)) 24 x17) 25 (e 0)) 26 (e 21)) 27 x18) 28 x20) 29 (e 0)) 30 x21) 31 x21) 31 (.bool false)) 32 bK) 31 (.bool false)) 33 bK) 31 (.bool false)) 34 bK) 31 (.bool false)) 35 bK) 31 (.bool false)) 36 bK) 37 (.bool false)) 38 x36) 21 x36),39,[],h22⟩)) (fun v23 h24=>K (.panic v23) ⟨(aa (aa (aa (aa (aa (aa (aa (aa (aa e 22 x16) 23 (e 21)) 9 (e 21)) 24 x17) 25 (e 0)) 26 (e 21)) 27 x18) 28 x20) 29 (e 0)),39,[],h24⟩))) (K (.exit 0) ⟨(aa e 22 x16),39,[],h⟩)):=by kernel_rfl
theorem F.cM.aD{e:Env}{h:ag}{K:Out→ag→Bool}:F.cM.b6 K (.exit 0) ⟨e,39,[],h⟩=(K (.ret (.bool true)) h):=by kernel_rfl
theorem F.pJ{a0 a1 a2 a3 a4 a5 a6:AV}{h:ag}{K:Out→ag→Bool}:au Tryz.prog (ah Tryz.prog) (aj Tryz.f167) ⟨aF [a0,a1,a2,a3,a4,a5,a6],39,[],h⟩ (aK Tryz.prog dw Tryz.f167.results.toList K)=(af (bD 4 a1) fun x0=>af (ai none x0 h) fun x1=>af (fH (.int .i64) a0 x1) fun x2=>ax x2 (af (ai none a2 h) fun x3=>af (ai none a3 h) fun x4=>lJ x3 fun f9 a10 a11=>ah Tryz.prog f9 (a10++([x4]++a11)) h (br (fun x5 h6=>K (.ret x5) h6) (fun v7 h8=>K (.panic v7) h8))) (af (ai none a4 h) fun x12=>af (bV x12) fun x13=>af (bD 0 x13) fun x14=>af (ai none x14 h) fun x15=>aT (au Tryz.prog (ah Tryz.prog) F.cM.L0) ⟨(aa (aa (aa (aa (aa (aa (aa (aa (aa (aa (aF [a0,a1,a2,a3,a4,a5,a6]) 8 (.bool false)) 10 a0) 11 x0) 12 x1) 13 x2) 17 x12) 18 x13) 19 x14) 20 x15) 21 (.int .i64 0)),39,[],h⟩ (F.cM.b6 K))):=by kernel_rfl
theorem F.jW{a0 a1 a2 a3 a4 a5 a6:AV}{h:ag}{K:Out→ag→Bool}(hh:(af (bD 4 a1) fun x0=>af (ai none x0 h) fun x1=>af (fH (.int .i64) a0 x1) fun x2=>ax x2 (af (ai none a2 h) fun x3=>af (ai none a3 h) fun x4=>lJ x3 fun f9 a10 a11=>ah Tryz.prog f9 (a10++([x4]++a11)) h (br (fun x5 h6=>K (.ret x5) h6) (fun v7 h8=>K (.panic v7) h8))) (af (ai none a4 h) fun x12=>af (bV x12) fun x13=>af (bD 0 x13) fun x14=>af (ai none x14 h) fun x15=>aT (au Tryz.prog (ah Tryz.prog) F.cM.L0) ⟨(aa (aa (aa (aa (aa (aa (aa (aa (aa (aa (aF [a0,a1,a2,a3,a4,a5,a6]) 8 (.bool false)) 10 a0) 11 x0) 12 x1) 13 x2) 17 x12) 18 x13) 19 x14) 20 x15) 21 (.int .i64 0)),39,[],h⟩ (F.cM.b6 K)))=true):Sem Tryz.prog 167 [a0,a1,a2,a3,a4,a5,a6] h K:=
 aP mixed (aL _) Tryz.func167 (c:=aj Tryz.f167) rfl (by decide) (of_decide_eq_true (by kernel_rfl)) (F.pJ.trans hh)
noncomputable def F.bS.L0:Code:=partOf (aj Tryz.f110) [1,1,0,0]
noncomputable def F.bS.b6(K:Out→ag→Bool):AX→St→Bool:=(aV 0 (aK Tryz.prog dw Tryz.f110.results.toList K))
noncomputable def F.bS.L1:Code:=partOf (aj Tryz.f110) [1,1,0,0,1,0,0,1,1,0,0]
noncomputable def F.bS.jd(K:AX→St→Bool):AX→St→Bool:=(aV 2 (aV 1 (cE false (au Tryz.prog (ah Tryz.prog) (partOf (aj Tryz.f110) [1,1,0,0,1,1])) K)))
theorem F.bS.aO{e:Env}{h:ag}{K:AX→St→Bool}:au Tryz.prog (ah Tryz.prog) F.bS.L0 ⟨e,22,[],h⟩ K=(af (ai none (e 6) h) fun x3=>ax x3 (af (bp 1 (e 6) (.bool false) h) fun h4=>af (bz .slice (e 1) h4) fun x5=>aT (au Tryz.prog (ah Tryz.prog) F.bS.L1) ⟨(aa (aa (aa (aa e 9 x3) 10 (e 1)) 11 x5) 12 (.int .i64 0)),22,[],h4⟩ (F.bS.jd K)) (K (.exit 0) ⟨(aa e 9 x3),22,[],h⟩)):=by kernel_rfl
theorem F.bS.aD{e:Env}{h:ag}{K:Out→ag→Bool}:F.bS.b6 K (.exit 0) ⟨e,22,[],h⟩=(K (.ret (.tuple [])) h):=by kernel_rfl
theorem F.bS.dx{e:Env}{h:ag}{K:AX→St→Bool}:au Tryz.prog (ah Tryz.prog) F.bS.L1 ⟨e,22,[],h⟩ K=(af (aA .lss (e 12) (e 11)) fun x6=>ax x6 (af (cS 8 (e 10) (e 12)) fun x7=>af (ai (some 8) x7 h) fun x8=>af (bp 8 (.ptr (ag.next h) 0) x8 (ag.alloc h (.cells [(.int .i64 0),(.str []),.nils,.nils,(.int .i64 0),.nils,.nils,.nils]))) fun h9=>af (ai none (e 3) h9) fun x10=>af (ai (some 8) (.ptr (ag.next h) 0) h9) fun x11=>ah Tryz.prog 122 [x10,x11,(.func 158 [] [(.ptr (ag.next h) 0),(e 3),(e 6),(e 5)])] h9 (br (fun x12 h13=>af (aA .add (e 12) (.int .i64 1)) fun x16=>K .normal ⟨(aa (aa (aa (aa (aa (aa (aa (aa (aa (aa e 13 x6) 14 x7) 15 x8) 8 (.ptr (ag.next h) 0)) 16 x10) 17 x11) 18 (.func 158 [] [(.ptr (ag.next h) 0),(e 3),(e 6),(e 5)])) 19 x12) 20 x16) 12 x16),22,[],h13⟩) (fun v14 h15=>K (.panic v14) ⟨(aa (aa (aa (aa (aa (aa (aa e 13 x6) 14 x7) 15 x8) 8 (.ptr (ag.next h) 0)) 16 x10) 17 x11) 18 (.func 158 [] [(.ptr (ag.next h) 0),(e 3),(e 6),(e 5)])),22,[],h15⟩))) (K (.exit 2) ⟨(aa e 13 x6),22,[],h⟩)):=by kernel_rfl
theorem F.bS.cw{e:Env}{h:ag}{K:AX→St→Bool}:F.bS.jd K (.exit 2) ⟨e,22,[],h⟩=(af (ai none (e 6) h) fun x17=>af (bp 1 (.ptr (ag.next h) 0) x17 (ag.alloc h (.cells [(.bool false)]))) fun h18=>K .normal ⟨(aa (aa e 21 x17) 6 (.ptr (ag.next h) 0)),22,[],h18⟩):=by kernel_rfl
theorem F.qj{a0 a1 a2:AV}{h:ag}{K:Out→ag→Bool}:au Tryz.prog (ah Tryz.prog) (aj Tryz.f110) ⟨aF [a0,a1,a2],22,[],h⟩ (aK Tryz.prog dw Tryz.f110.results.toList K)=(af (cK a0) fun c0=>af (cK a2) fun c1=>af (bp 1 (.ptr (ag.next (ag.alloc (ag.alloc h (.cells c0)) (.cells c1))) 0) (.bool true) (ag.alloc (ag.alloc (ag.alloc h (.cells c0)) (.cells c1)) (.cells [(.bool false)]))) fun h2=>aT (au Tryz.prog (ah Tryz.prog) F.bS.L0) ⟨(aa (aa (aa (aF [a0,a1,a2]) 3 (.ptr (ag.next h) 0)) 5 (.ptr (ag.next (ag.alloc h (.cells c0))) 0)) 6 (.ptr (ag.next (ag.alloc (ag.alloc h (.cells c0)) (.cells c1))) 0)),22,[],h2⟩ (F.bS.b6 K)):=by kernel_rfl
theorem F.pK{a0 a1 a2:AV}{h:ag}{K:Out→ag→Bool}(hh:(af (cK a0) fun c0=>af (cK a2) fun c1=>af (bp 1 (.ptr (ag.next (ag.alloc (ag.alloc h (.cells c0)) (.cells c1))) 0) (.bool true) (ag.alloc (ag.alloc (ag.alloc h (.cells c0)) (.cells c1)) (.cells [(.bool false)]))) fun h2=>aT (au Tryz.prog (ah Tryz.prog) F.bS.L0) ⟨(aa (aa (aa (aF [a0,a1,a2]) 3 (.ptr (ag.next h) 0)) 5 (.ptr (ag.next (ag.alloc h (.cells c0))) 0)) 6 (.ptr (ag.next (ag.alloc (ag.alloc h (.cells c0)) (.cells c1))) 0)),22,[],h2⟩ (F.bS.b6 K))=true):Sem Tryz.prog 110 [a0,a1,a2] h K:=
 aP mixed (aL _) Tryz.func110 (c:=aj Tryz.f110) rfl (by decide) (of_decide_eq_true (by kernel_rfl)) (F.qj.trans hh)
theorem F.oI{a0 a1 a2 a3 a4:AV}{h:ag}{K:Out→ag→Bool}:au Tryz.prog (ah Tryz.prog) (aj Tryz.f158) ⟨aF [a0,a1,a2,a3,a4],38,[],h⟩ (aK Tryz.prog dw Tryz.f158.results.toList K)=(af (bD 5 a1) fun x0=>af (ai none x0 h) fun x1=>ah Tryz.prog 124 [a0,x1] h (br (fun x2 h3=>af (ai none a2 h3) fun x6=>af (bV x6) fun x7=>af (bD 1 x7) fun x8=>af (ai none x8 h3) fun x9=>af (bD 1 a1) fun x10=>af (bD 0 x10) fun x11=>af (bD 0 x11) fun x12=>af (ai none x12 h3) fun x13=>af (dz .string .nils false x9 x13 h3) fun x14=>af (ai none a2 h3) fun x15=>ah Tryz.prog 69 [x15,x2] h3 (br (fun x16 h17=>af (cS 1 x14 x16) fun x20=>af (ai none x20 h17) fun x21=>af (iu .not x21) fun x22=>ax x22 (af (ai none a2 h17) fun x23=>ah Tryz.prog 69 [x23,x2] h17 (br (fun x24 h25=>af (cS 1 x14 x24) fun x28=>af (bp 1 x28 (.bool true) h25) fun h29=>af (bp 1 a3 (.bool true) h29) fun h30=>af (ai none a4 h30) fun x31=>af (ai (some 8) a1 h30) fun x32=>lJ x31 fun f37 a38 a39=>ah Tryz.prog f37 (a38++([x32,a0]++a39)) h30 (br (fun x33 h34=>K (.ret (.bool true)) h34) (fun v35 h36=>K (.panic v35) h36))) (fun v26 h27=>K (.panic v26) h27))) (K (.ret (.bool true)) h17)) (fun v18 h19=>K (.panic v18) h19))) (fun v4 h5=>K (.panic v4) h5))):=by kernel_rfl
theorem F.nN{a0 a1 a2 a3 a4:AV}{h:ag}{K:Out→ag→Bool}(hh:(af (bD 5 a1) fun x0=>af (ai none x0 h) fun x1=>ah Tryz.prog 124 [a0,x1] h (br (fun x2 h3=>af (ai none a2 h3) fun x6=>af (bV x6) fun x7=>af (bD 1 x7) fun x8=>af (ai none x8 h3) fun x9=>af (bD 1 a1) fun x10=>af (bD 0 x10) fun x11=>af (bD 0 x11) fun x12=>af (ai none x12 h3) fun x13=>af (dz .string .nils false x9 x13 h3) fun x14=>af (ai none a2 h3) fun x15=>ah Tryz.prog 69 [x15,x2] h3 (br (fun x16 h17=>af (cS 1 x14 x16) fun x20=>af (ai none x20 h17) fun x21=>af (iu .not x21) fun x22=>ax x22 (af (ai none a2 h17) fun x23=>ah Tryz.prog 69 [x23,x2] h17 (br (fun x24 h25=>af (cS 1 x14 x24) fun x28=>af (bp 1 x28 (.bool true) h25) fun h29=>af (bp 1 a3 (.bool true) h29) fun h30=>af (ai none a4 h30) fun x31=>af (ai (some 8) a1 h30) fun x32=>lJ x31 fun f37 a38 a39=>ah Tryz.prog f37 (a38++([x32,a0]++a39)) h30 (br (fun x33 h34=>K (.ret (.bool true)) h34) (fun v35 h36=>K (.panic v35) h36))) (fun v26 h27=>K (.panic v26) h27))) (K (.ret (.bool true)) h17)) (fun v18 h19=>K (.panic v18) h19))) (fun v4 h5=>K (.panic v4) h5)))=true):Sem Tryz.prog 158 [a0,a1,a2,a3,a4] h K:=
 aP mixed (aL _) Tryz.func158 (c:=aj Tryz.f158) rfl (by decide) (of_decide_eq_true (by kernel_rfl)) (F.oI.trans hh)
noncomputable def F.aS.L0:Code:=partOf (aj Tryz.f46) [1,0,1,0,0]
noncomputable def F.aS.b6(K:Out→ag→Bool):AX→St→Bool:=(aV 0 (cE false (au Tryz.prog (ah Tryz.prog) (partOf (aj Tryz.f46) [1,1])) (aK Tryz.prog dw Tryz.f46.results.toList K)))
noncomputable def F.aS.L1:Code:=partOf (aj Tryz.f46) [1,1,1,0,0]
noncomputable def F.aS.jd(K:Out→ag→Bool):AX→St→Bool:=(aV 2 (aK Tryz.prog dw Tryz.f46.results.toList K))
noncomputable def F.aS.L2:Code:=partOf (aj Tryz.f46) [1,1,1,0,0,1,1,0,0,1,1,0,1,0,0]
noncomputable def F.aS.rC(K:AX→St→Bool):AX→St→Bool:=(aV 4 (cE false (au Tryz.prog (ah Tryz.prog) (partOf (aj Tryz.f46) [1,1,1,0,0,1,1,0,0,1,1,1])) (aV 3 (cE false (au Tryz.prog (ah Tryz.prog) (partOf (aj Tryz.f46) [1,1,1,0,0,1,1,1])) K))))
theorem F.aS.aO{e:Env}{h:ag}{K:AX→St→Bool}:au Tryz.prog (ah Tryz.prog) F.aS.L0 ⟨e,62,[],h⟩ K=(af (tG false (e 17) h) (jU [] (CT (fun x5 h6=>af (bP x5 0) fun x9=>ax x9 (af (pT (e 17) h6) fun x10=>af (bP x10 1) fun x11=>af (rY true (e 6) [x11]) fun x12=>K .normal ⟨(aa (aa (aa (aa (aa (aa (aa (aa (aa e 18 x5) 19 x9) 20 x10) 21 x11) 8 x11) 22 (e 6)) 23 x11) 24 x12) 6 x12),62,[],h6⟩) (K (.exit 0) ⟨(aa (aa e 18 x5) 19 x9),62,[],h6⟩)) (fun v7 h8=>K (.panic v7) ⟨e,62,[],h8⟩)))):=by kernel_rfl
theorem F.aS.aD{e:Env}{h:ag}{K:Out→ag→Bool}:F.aS.b6 K (.exit 0) ⟨e,62,[],h⟩=(af (aA .add (e 6) (.int .i64 1)) fun x13=>aT (au Tryz.prog (ah Tryz.prog) F.aS.L1) ⟨(aa (aa (aa e 25 (e 6)) 26 x13) 27 (.int .i64 0)),62,[],h⟩ (F.aS.jd K)):=by kernel_rfl
theorem F.aS.dx{e:Env}{h:ag}{K:AX→St→Bool}:au Tryz.prog (ah Tryz.prog) F.aS.L1 ⟨e,62,[],h⟩ K=(af (aA .lss (e 27) (e 26)) fun x14=>ax x14 (af (bV (e 0)) fun x15=>af (bD 0 x15) fun x16=>af (ai none x16 h) fun x17=>af (bz .slice x17 h) fun x18=>aT (au Tryz.prog (ah Tryz.prog) F.aS.L2) ⟨(aa (aa (aa (aa (aa (aa (aa (aa (aa (aa e 28 x14) 29 (e 27)) 9 (e 27)) 10 .nils) 30 (e 0)) 31 x15) 32 x16) 33 x17) 34 x18) 35 (.int .i64 0)),62,[],h⟩ (F.aS.rC K)) (K (.exit 2) ⟨(aa e 28 x14),62,[],h⟩)):=by kernel_rfl
theorem F.aS.cw{e:Env}{h:ag}{K:Out→ag→Bool}:F.aS.jd K (.exit 2) ⟨e,62,[],h⟩=(K (.ret (.tuple [])) h):=by kernel_rfl
theorem F.aS.iF{e:Env}{h:ag}{K:AX→St→Bool}:au Tryz.prog (ah Tryz.prog) F.aS.L2 ⟨e,62,[],h⟩ K=(af (aA .lss (e 35) (e 34)) fun x19=>ax x19 (af (cS 3 (e 33) (e 35)) fun x20=>af (ai (some 3) x20 h) fun x21=>af (bp 3 (.ptr (ag.next h) 0) x21 (ag.alloc h (.cells [(.str []),.nils,.nils]))) fun h22=>af (bV (e 0)) fun x23=>af (bD 2 x23) fun x24=>af (ai none x24 h22) fun x25=>af (bD 0 (.ptr (ag.next h) 0)) fun x26=>af (bD 0 x26) fun x27=>af (ai none x27 h22) fun x28=>af (dz .string (.int .i64 0) false x25 x28 h22) fun x29=>af (fH (.int .i64) x29 (e 9)) fun x30=>ax x30 (af (ai (some 3) (.ptr (ag.next h) 0) h22) fun x31=>ah Tryz.prog 109 [(e 35),x31] h22 (br (fun x32 h33=>af (fc [(.int .i64 0),(.str []),.nils,.nils,(.int .i64 0),.nils,.nils,.nils] [(0,8)] [x32]) fun c36=>ct (cg 8 152 (e 10) (.slice (ag.next h33) 0 1 8) (ag.alloc h33 (.cells c36))) fun x37 h38=>af (aA .add (e 35) (.int .i64 1)) fun x39=>K .normal ⟨(aa (aa (aa (aa (aa (aa (aa (aa (aa (aa (aa (aa (aa (aa (aa (aa (aa (aa (aa (aa (aa (aa (aa (aa (aa e 36 x19) 37 (e 35)) 38 x20) 39 x21) 12 (.ptr (ag.next h) 0)) 11 (e 35)) 40 (e 0)) 41 x23) 42 x24) 43 x25) 44 x26) 45 x27) 46 x28) 47 x29) 48 (e 9)) 49 x30) 50 (e 10)) 51 (e 35)) 52 x31) 53 x32) 54 (.slice (ag.next h33) 0 1 8)) 55 x37) 10 x37) 56 x39) 35 x39),62,[],h38⟩) (fun v34 h35=>K (.panic v34) ⟨(aa (aa (aa (aa (aa (aa (aa (aa (aa (aa (aa (aa (aa (aa (aa (aa (aa (aa (aa e 36 x19) 37 (e 35)) 38 x20) 39 x21) 12 (.ptr (ag.next h) 0)) 11 (e 35)) 40 (e 0)) 41 x23) 42 x24) 43 x25) 44 x26) 45 x27) 46 x28) 47 x29) 48 (e 9)) 49 x30) 50 (e 10)) 51 (e 35)) 52 x31),62,[],h35⟩))) (af (aA .add (e 35) (.int .i64 1)) fun x40=>K .normal ⟨(aa (aa (aa (aa (aa (aa (aa (aa (aa (aa (aa (aa (aa (aa (aa (aa (aa (aa e 36 x19) 37 (e 35)) 38 x20) 39 x21) 12 (.ptr (ag.next h) 0)) 11 (e 35)) 40 (e 0)) 41 x23) 42 x24) 43 x25) 44 x26) 45 x27) 46 x28) 47 x29) 48 (e 9)) 49 x30) 56 x40) 35 x40),62,[],h22⟩)) (K (.exit 4) ⟨(aa e 36 x19),62,[],h⟩)):=by kernel_rfl
theorem F.aS.fY{e:Env}{h:ag}{K:AX→St→Bool}:F.aS.rC K (.exit 4) ⟨e,62,[],h⟩=(ah Tryz.prog 110 [(e 1),(e 10),(e 2)] h (br (fun x41 h42=>af (aA .add (e 27) (.int .i64 1)) fun x45=>K .normal ⟨(aa (aa (aa (aa (aa (aa e 57 (e 1)) 58 (e 10)) 59 (e 2)) 60 x41) 61 x45) 27 x45),62,[],h42⟩) (fun v43 h44=>K (.panic v43) ⟨(aa (aa (aa e 57 (e 1)) 58 (e 10)) 59 (e 2)),62,[],h44⟩))):=by kernel_rfl
theorem F.qm{a0 a1 a2:AV}{h:ag}{K:Out→ag→Bool}:au Tryz.prog (ah Tryz.prog) (aj Tryz.f46) ⟨aF [a0,a1,a2],62,[],h⟩ (aK Tryz.prog dw Tryz.f46.results.toList K)=(af (bV a0) fun x0=>af (bD 2 x0) fun x1=>af (ai none x1 h) fun x2=>ct (jD .map x2 h) fun x3 h4=>aT (au Tryz.prog (ah Tryz.prog) F.aS.L0) ⟨(aa (aa (aa (aa (aa (aa (aF [a0,a1,a2]) 6 (.int .i64 0)) 13 a0) 14 x0) 15 x1) 16 x2) 17 x3),62,[],h4⟩ (F.aS.b6 K)):=by kernel_rfl
theorem F.pL{a0 a1 a2:AV}{h:ag}{K:Out→ag→Bool}(hh:(af (bV a0) fun x0=>af (bD 2 x0) fun x1=>af (ai none x1 h) fun x2=>ct (jD .map x2 h) fun x3 h4=>aT (au Tryz.prog (ah Tryz.prog) F.aS.L0) ⟨(aa (aa (aa (aa (aa (aa (aF [a0,a1,a2]) 6 (.int .i64 0)) 13 a0) 14 x0) 15 x1) 16 x2) 17 x3),62,[],h4⟩ (F.aS.b6 K))=true):Sem Tryz.prog 46 [a0,a1,a2] h K:=
 aP mixed (aL _) Tryz.func46 (c:=aj Tryz.f46) rfl (by decide) (of_decide_eq_true (by kernel_rfl)) (F.qm.trans hh)
noncomputable def F.ay.L0:Code:=partOf (aj Tryz.f45) [1,1,1,0,1,0,0]
noncomputable def F.ay.b6(K:Out→ag→Bool):AX→St→Bool:=(aV 0 (cE false (au Tryz.prog (ah Tryz.prog) (partOf (aj Tryz.f45) [1,1,1,1])) (aK Tryz.prog dw Tryz.f45.results.toList K)))
noncomputable def F.ay.L1:Code:=partOf (aj Tryz.f45) [1,1,1,1,0,1,0,0]
noncomputable def F.ay.jd(K:Out→ag→Bool):AX→St→Bool:=(aV 2 (cE false (au Tryz.prog (ah Tryz.prog) (partOf (aj Tryz.f45) [1,1,1,1,1])) (aK Tryz.prog dw Tryz.f45.results.toList K)))
noncomputable def F.ay.L2:Code:=partOf (aj Tryz.f45) [1,1,1,1,1,1,1,0,1,0,0]
noncomputable def F.ay.rC(K:Out→ag→Bool):AX→St→Bool:=(aV 4 (cE false (au Tryz.prog (ah Tryz.prog) (partOf (aj Tryz.f45) [1,1,1,1,1,1,1,1])) (aK Tryz.prog dw Tryz.f45.results.toList K)))
noncomputable def F.ay.L3:Code:=partOf (aj Tryz.f45) [1,1,1,1,1,1,1,1,0,1,0,0]
noncomputable def F.ay.MY(K:Out→ag→Bool):AX→St→Bool:=(aV 6 (cE false (au Tryz.prog (ah Tryz.prog) (partOf (aj Tryz.f45) [1,1,1,1,1,1,1,1,1])) (aK Tryz.prog dw Tryz.f45.results.toList K)))
noncomputable def F.ay.L4:Code:=partOf (aj Tryz.f45) [1,1,1,1,1,1,1,1,0,1,0,0,1,1,0,0,1,1,1,0,0]
noncomputable def F.ay.NX(K:AX→St→Bool):AX→St→Bool:=(aV 8 (aV 7 (cE false (au Tryz.prog (ah Tryz.prog) (partOf (aj Tryz.f45) [1,1,1,1,1,1,1,1,0,1,0,0,1,1,1])) K)))
noncomputable def F.ay.L5:Code:=partOf (aj Tryz.f45) [1,1,1,1,1,1,1,1,1,0,1,0,0]
noncomputable def F.ay.Rf(K:Out→ag→Bool):AX→St→Bool:=(aV 10 (cE false (au Tryz.prog (ah Tryz.prog) (partOf (aj Tryz.f45) [1,1,1,1,1,1,1,1,1,1])) (aK Tryz.prog dw Tryz.f45.results.toList K)))
noncomputable def F.ay.L6:Code:=partOf (aj Tryz.f45) [1,1,1,1,1,1,1,1,1,0,1,0,0,1,1,0,0,1,1,1,1,0,0]
noncomputable def F.ay.Rv(K:AX→St→Bool):AX→St→Bool:=(aV 12 (aV 11 (cE false (au Tryz.prog (ah Tryz.prog) (partOf (aj Tryz.f45) [1,1,1,1,1,1,1,1,1,0,1,0,0,1,1,1])) K)))
theorem F.ay.aO{e:Env}{h:ag}{K:AX→St→Bool}:au Tryz.prog (ah Tryz.prog) F.ay.L0 ⟨e,198,[],h⟩ K=(af (tG false (e 46) h) (jU [] (CT (fun x19 h20=>af (bP x19 0) fun x23=>ax x23 (af (pT (e 46) h20) fun x24=>af (bP x24 0) fun x25=>af (bP x24 1) fun x26=>af (bV (e 7)) fun x27=>af (bD 2 x27) fun x28=>af (ai none x28 h20) fun x29=>af (dz .string (.int .i64 0) true x29 x25 h20) fun x30=>af (bP x30 0) fun x31=>af (bP x30 1) fun x32=>af (iu .not x32) fun x33=>ax x33 (af (ai (some 2) (e 3) h20) fun x34=>ah Tryz.prog 88 [x34,x25,x26] h20 (br (fun x35 h36=>af (aA .lss x35 (.int .i64 0)) fun x39=>ax x39 (K .ret ⟨(aa (aa (aa (aa (aa (aa (aa (aa (aa (aa (aa (aa (aa (aa (aa (aa (aa (aa (aa (aa (aa (aa (aa (aa (aa (aa (aa (aa (aa (aa (aa (aa (aa (aa (aa e 47 x19) 48 x23) 49 x24) 50 x25) 51 x26) 9 x25) 10 x26) 53 (e 7)) 54 x27) 55 x28) 56 x29) 57 x25) 58 x30) 52 x30) 59 x31) 60 x32) 11 x31) 12 x32) 61 x32) 62 x33) 63 x33) 63 (.bool true)) 64 x34) 63 (.bool true)) 65 x25) 63 (.bool true)) 66 x26) 63 (.bool true)) 67 x35) 63 (.bool true)) 68 x39) 69 x39) 4 .nilp) 5 .nilp) 6 (.int .i64 4)),198,[],h36⟩) (K .normal ⟨(aa (aa (aa (aa (aa (aa (aa (aa (aa (aa (aa (aa (aa (aa (aa (aa (aa (aa (aa (aa (aa (aa (aa (aa (aa (aa (aa (aa (aa (aa (aa (aa e 47 x19) 48 x23) 49 x24) 50 x25) 51 x26) 9 x25) 10 x26) 53 (e 7)) 54 x27) 55 x28) 56 x29) 57 x25) 58 x30) 52 x30) 59 x31) 60 x32) 11 x31) 12 x32) 61 x32) 62 x33) 63 x33) 63 (.bool true)) 64 x34) 63 (.bool true)) 65 x25) 63 (.bool true)) 66 x26) 63 (.bool true)) 67 x35) 63 (.bool true)) 68 x39) 69 x39),198,[],h36⟩)) (fun v37 h38=>K (.panic v37) ⟨(aa (aa (aa (aa (aa (aa (aa (aa (aa (aa (aa (aa (aa (aa (aa (aa (aa (aa (aa (aa (aa (aa (aa (aa (aa (aa (aa (aa e 47 x19) 48 x23) 49 x24) 50 x25) 51 x26) 9 x25) 10 x26) 53 (e 7)) 54 x27) 55 x28) 56 x29) 57 x25) 58 x30) 52 x30) 59 x31) 60 x32) 11 x31) 12 x32) 61 x32) 62 x33) 63 x33) 63 (.bool true)) 64 x34) 63 (.bool true)) 65 x25) 63 (.bool true)) 66 x26) 63 (.bool true)),198,[],h38⟩))) (K .normal ⟨(aa (aa (aa (aa (aa (aa (aa (aa (aa (aa (aa (aa (aa (aa (aa (aa (aa (aa (aa (aa (aa (aa (aa (aa (aa (aa (aa (aa (aa (aa (aa (aa e 47 x19) 48 x23) 49 x24) 50 x25) 51 x26) 9 x25) 10 x26) 53 (e 7)) 54 x27) 55 x28) 56 x29) 57 x25) 58 x30) 52 x30) 59 x31) 60 x32) 11 x31) 12 x32) 61 x32) 62 x33) 63 x33) 63 (.bool false)) 64 bK) 63 (.bool false)) 65 bK) 63 (.bool false)) 66 bK) 63 (.bool false)) 67 bK) 63 (.bool false)) 68 bK) 69 (.bool false)),198,[],h20⟩)) (K (.exit 0) ⟨(aa (aa e 47 x19) 48 x23),198,[],h20⟩)) (fun v21 h22=>K (.panic v21) ⟨e,198,[],h22⟩)))):=by kernel_rfl
theorem F.ay.aD{e:Env}{h:ag}{K:Out→ag→Bool}:F.ay.b6 K (.exit 0) ⟨e,198,[],h⟩=(af (bD 1 (e 3)) fun x40=>af (ai none x40 h) fun x41=>af (bz .slice x41 h) fun x42=>aT (au Tryz.prog (ah Tryz.prog) F.ay.L1) ⟨(aa (aa (aa (aa e 70 x40) 71 x41) 72 x42) 73 (.int .i64 0)),198,[],h⟩ (F.ay.jd K)):=by kernel_rfl
theorem F.ay.bt{e:Env}{h:ag}{K:Out→ag→Bool}:F.ay.b6 K .ret ⟨e,198,[],h⟩=(K (.ret (.tuple [(e 4),(e 5),(e 6)])) h):=by kernel_rfl
theorem F.ay.dx{e:Env}{h:ag}{K:AX→St→Bool}:au Tryz.prog (ah Tryz.prog) F.ay.L1 ⟨e,198,[],h⟩ K=(af (aA .lss (e 73) (e 72)) fun x43=>ax x43 (af (cS 3 (e 71) (e 73)) fun x44=>af (ai (some 3) x44 h) fun x45=>af (bp 3 (.ptr (ag.next h) 0) x45 (ag.alloc h (.cells [(.str []),(.int .i64 0),.nils]))) fun h46=>af (bV (e 7)) fun x47=>af (bD 2 x47) fun x48=>af (ai none x48 h46) fun x49=>af (bD 0 (.ptr (ag.next h) 0)) fun x50=>af (ai none x50 h46) fun x51=>af (dz .string (.int .i64 0) true x49 x51 h46) fun x52=>af (bP x52 0) fun x53=>af (bP x52 1) fun x54=>ax x54 (K .ret ⟨(aa (aa (aa (aa (aa (aa (aa (aa (aa (aa (aa (aa (aa (aa (aa (aa (aa (aa (aa (aa e 74 x43) 75 x44) 76 x45) 14 (.ptr (ag.next h) 0)) 78 (e 7)) 79 x47) 80 x48) 81 x49) 82 x50) 83 x51) 84 x52) 77 x52) 85 x53) 86 x54) 15 x53) 16 x54) 87 x54) 4 .nilp) 5 .nilp) 6 (.int .i64 4)),198,[],h46⟩) (af (aA .add (e 73) (.int .i64 1)) fun x55=>K .normal ⟨(aa (aa (aa (aa (aa (aa (aa (aa (aa (aa (aa (aa (aa (aa (aa (aa (aa (aa (aa e 74 x43) 75 x44) 76 x45) 14 (.ptr (ag.next h) 0)) 78 (e 7)) 79 x47) 80 x48) 81 x49) 82 x50) 83 x51) 84 x52) 77 x52) 85 x53) 86 x54) 15 x53) 16 x54) 87 x54) 88 x55) 73 x55),198,[],h46⟩)) (K (.exit 2) ⟨(aa e 74 x43),198,[],h⟩)):=by kernel_rfl
theorem F.ay.cw{e:Env}{h:ag}{K:Out→ag→Bool}:F.ay.jd K (.exit 2) ⟨e,198,[],h⟩=(af (bD 1 (e 3)) fun x56=>af (ai none x56 h) fun x57=>af (bz .slice x57 h) fun x58=>af (bV (e 7)) fun x59=>af (bD 2 x59) fun x60=>af (ai none x60 h) fun x61=>af (bz .map x61 h) fun x62=>af (aA .add x58 x62) fun x63=>af (aA .gtr x63 (.int .i64 8)) fun x64=>ax x64 (K (.ret (.tuple [.nilp,.nilp,(.int .i64 5)])) h) (af (bD 0 (e 3)) fun x65=>af (ai none x65 h) fun x66=>af (gw [(.int .i64 0),.nilm] [(0,1),(1,1)] [x66,(.map (ag.next h))]) fun x67=>af (cK x67) fun c68=>af (bV (e 7)) fun x69=>af (bD 2 x69) fun x70=>af (ai none x70 (ag.alloc (ag.alloc h (.map [] 0)) (.cells c68))) fun x71=>ct (jD .map x71 (ag.alloc (ag.alloc h (.map [] 0)) (.cells c68))) fun x72 h73=>aT (au Tryz.prog (ah Tryz.prog) F.ay.L2) ⟨(aa (aa (aa (aa (aa (aa (aa (aa (aa (aa (aa (aa (aa (aa (aa (aa (aa (aa (aa (aa (aa e 89 x56) 90 x57) 91 x58) 92 (e 7)) 93 x59) 94 x60) 95 x61) 96 x62) 97 x63) 98 x64) 99 x65) 100 x66) 101 (.map (ag.next h))) 102 x67) 103 (.ptr (ag.next (ag.alloc h (.map [] 0))) 0)) 17 (.ptr (ag.next (ag.alloc h (.map [] 0))) 0)) 104 (e 7)) 105 x69) 106 x70) 107 x71) 108 x72),198,[],h73⟩ (F.ay.rC K))):=by kernel_rfl
theorem F.ay.iE{e:Env}{h:ag}{K:Out→ag→Bool}:F.ay.jd K .ret ⟨e,198,[],h⟩=(K (.ret (.tuple [(e 4),(e 5),(e 6)])) h):=by kernel_rfl
theorem F.ay.iF{e:Env}{h:ag}{K:AX→St→Bool}:au Tryz.prog (ah Tryz.prog) F.ay.L2 ⟨e,198,[],h⟩ K=(af (tG false (e 108) h) (jU [] (CT (fun x74 h75=>af (bP x74 0) fun x78=>ax x78 (af (pT (e 108) h75) fun x79=>af (bP x79 0) fun x80=>af (bD 0 (e 3)) fun x81=>af (ai none x81 h75) fun x82=>af (bV (e 7)) fun x83=>af (bD 1 x83) fun x84=>af (ai none x84 h75) fun x85=>af (dz .string (.int .i64 0) false x85 x80 h75) fun x86=>ah Tryz.prog 107 [x82,x86] h75 (br (fun x87 h88=>af (bP x87 0) fun x89=>af (bP x87 1) fun x90=>af (lC (.int .i64) x90 (.int .i64 0)) fun x91=>ax x91 (K .ret ⟨(aa (aa (aa (aa (aa (aa (aa (aa (aa (aa (aa (aa (aa (aa (aa (aa (aa (aa (aa (aa (aa (aa (aa (aa e 109 x74) 110 x78) 111 x79) 112 x80) 18 x80) 114 x81) 115 x82) 116 (e 7)) 117 x83) 118 x84) 119 x85) 120 x80) 121 x86) 122 x87) 113 x87) 123 x89) 124 x90) 19 x89) 20 x90) 125 x90) 126 x91) 4 .nilp) 5 .nilp) 6 (.int .i64 5)),198,[],h88⟩) (af (bV (e 17)) fun x92=>af (bD 1 x92) fun x93=>af (ai none x93 h88) fun x94=>ct (c8 1 1 [(.bool false)] x89 x89 h88) fun x95 h96=>af (ep .string x94 x80 x95 h96) fun h97=>K .normal ⟨(aa (aa (aa (aa (aa (aa (aa (aa (aa (aa (aa (aa (aa (aa (aa (aa (aa (aa (aa (aa (aa (aa (aa (aa (aa (aa (aa (aa e 109 x74) 110 x78) 111 x79) 112 x80) 18 x80) 114 x81) 115 x82) 116 (e 7)) 117 x83) 118 x84) 119 x85) 120 x80) 121 x86) 122 x87) 113 x87) 123 x89) 124 x90) 19 x89) 20 x90) 125 x90) 126 x91) 127 (e 17)) 128 x92) 129 x93) 130 x94) 131 x80) 132 x89) 133 x95),198,[],h97⟩)) (fun _ _=>false))) (K (.exit 4) ⟨(aa (aa e 109 x74) 110 x78),198,[],h75⟩)) (fun v76 h77=>K (.panic v76) ⟨e,198,[],h77⟩)))):=by kernel_rfl
theorem F.ay.fY{e:Env}{h:ag}{K:Out→ag→Bool}:F.ay.rC K (.exit 4) ⟨e,198,[],h⟩=(af (bz .slice (e 0) h) fun x98=>aT (au Tryz.prog (ah Tryz.prog) F.ay.L3) ⟨(aa (aa (aa e 134 (e 0)) 135 x98) 136 (.int .i64 0)),198,[],h⟩ (F.ay.MY K)):=by kernel_rfl
theorem F.ay.uk{e:Env}{h:ag}{K:Out→ag→Bool}:F.ay.rC K .ret ⟨e,198,[],h⟩=(K (.ret (.tuple [(e 4),(e 5),(e 6)])) h):=by kernel_rfl
theorem F.ay.Eg{e:Env}{h:ag}{K:AX→St→Bool}:au Tryz.prog (ah Tryz.prog) F.ay.L3 ⟨e,198,[],h⟩ K=(af (aA .lss (e 136) (e 135)) fun x99=>ax x99 (af (cS 3 (e 134) (e 136)) fun x100=>af (ai (some 3) x100 h) fun x101=>af (bp 3 (.ptr (ag.next h) 0) x101 (ag.alloc h (.cells [(.str []),.nils,.nils]))) fun h102=>af (ai (some 3) (.ptr (ag.next h) 0) h102) fun x103=>ah Tryz.prog 108 [x103] h102 (br (fun x104 h105=>af (bz .slice x104 h105) fun x108=>aT (au Tryz.prog (ah Tryz.prog) F.ay.L4) ⟨(aa (aa (aa (aa (aa (aa (aa (aa (aa e 137 x99) 138 x100) 139 x101) 22 (.ptr (ag.next h) 0)) 23 (.int .i64 1)) 140 x103) 141 x104) 142 x108) 143 (.int .i64 0)),198,[],h105⟩ (F.ay.NX K)) (fun v106 h107=>K (.panic v106) ⟨(aa (aa (aa (aa (aa (aa e 137 x99) 138 x100) 139 x101) 22 (.ptr (ag.next h) 0)) 23 (.int .i64 1)) 140 x103),198,[],h107⟩))) (K (.exit 6) ⟨(aa e 137 x99),198,[],h⟩)):=by kernel_rfl
theorem F.ay.Jt{e:Env}{h:ag}{K:Out→ag→Bool}:F.ay.MY K (.exit 6) ⟨e,198,[],h⟩=(af (bD 1 (e 3)) fun x109=>af (ai none x109 h) fun x110=>af (bz .slice x110 h) fun x111=>aT (au Tryz.prog (ah Tryz.prog) F.ay.L5) ⟨(aa (aa (aa (aa e 153 x109) 154 x110) 155 x111) 156 (.int .i64 0)),198,[],h⟩ (F.ay.Rf K)):=by kernel_rfl
theorem F.ay.KO{e:Env}{h:ag}{K:Out→ag→Bool}:F.ay.MY K .ret ⟨e,198,[],h⟩=(K (.ret (.tuple [(e 4),(e 5),(e 6)])) h):=by kernel_rfl
theorem F.ay.Eh{e:Env}{h:ag}{K:AX→St→Bool}:au Tryz.prog (ah Tryz.prog) F.ay.L4 ⟨e,198,[],h⟩ K=(af (aA .lss (e 143) (e 142)) fun x112=>ax x112 (af (bD 0 (e 3)) fun x113=>af (ai none x113 h) fun x114=>af (aA .mul (e 23) x114) fun x115=>af (aA .gtr x115 (.int .i64 65536)) fun x116=>ax x116 (K .ret ⟨(aa (aa (aa (aa (aa (aa (aa (aa (aa (aa (aa e 144 x112) 145 (e 23)) 146 x113) 147 x114) 148 x115) 23 x115) 149 x115) 150 x116) 4 .nilp) 5 .nilp) 6 (.int .i64 5)),198,[],h⟩) (af (aA .add (e 143) (.int .i64 1)) fun x117=>K .normal ⟨(aa (aa (aa (aa (aa (aa (aa (aa (aa (aa e 144 x112) 145 (e 23)) 146 x113) 147 x114) 148 x115) 23 x115) 149 x115) 150 x116) 151 x117) 143 x117),198,[],h⟩)) (K (.exit 8) ⟨(aa e 144 x112),198,[],h⟩)):=by kernel_rfl
theorem F.ay.zO{e:Env}{h:ag}{K:AX→St→Bool}:F.ay.NX K (.exit 8) ⟨e,198,[],h⟩=(af (aA .add (e 136) (.int .i64 1)) fun x118=>K .normal ⟨(aa (aa e 152 x118) 136 x118),198,[],h⟩):=by kernel_rfl
theorem F.ay.KP{e:Env}{h:ag}{K:AX→St→Bool}:F.ay.NX K .ret ⟨e,198,[],h⟩=(K .ret ⟨e,198,[],h⟩):=by kernel_rfl
theorem F.ay.MZ{e:Env}{h:ag}{K:AX→St→Bool}:au Tryz.prog (ah Tryz.prog) F.ay.L5 ⟨e,198,[],h⟩ K=(af (aA .lss (e 156) (e 155)) fun x119=>ax x119 (af (cS 3 (e 154) (e 156)) fun x120=>af (ai (some 3) x120 h) fun x121=>af (bp 3 (.ptr (ag.next h) 0) x121 (ag.alloc h (.cells [(.str []),(.int .i64 0),.nils]))) fun h122=>af (bD 0 (e 3)) fun x123=>af (ai none x123 h122) fun x124=>af (bD 1 (.ptr (ag.next h) 0)) fun x125=>af (ai none x125 h122) fun x126=>ah Tryz.prog 107 [x124,x126] h122 (br (fun x127 h128=>af (bP x127 0) fun x131=>af (bP x127 1) fun x132=>af (bV (e 17)) fun x133=>af (bD 1 x133) fun x134=>af (ai none x134 h128) fun x135=>af (bD 0 (.ptr (ag.next h) 0)) fun x136=>af (ai none x136 h128) fun x137=>ct (c8 1 1 [(.bool false)] x131 x131 h128) fun x138 h139=>af (ep .string x135 x137 x138 h139) fun h140=>af (bD 2 (.ptr (ag.next h) 0)) fun x141=>af (ai none x141 h140) fun x142=>af (bz .slice x142 h140) fun x143=>aT (au Tryz.prog (ah Tryz.prog) F.ay.L6) ⟨(aa (aa (aa (aa (aa (aa (aa (aa (aa (aa (aa (aa (aa (aa (aa (aa (aa (aa (aa (aa (aa (aa (aa (aa (aa (aa e 157 x119) 158 x120) 159 x121) 25 (.ptr (ag.next h) 0)) 161 x123) 162 x124) 163 x125) 164 x126) 165 x127) 160 x127) 166 x131) 167 x132) 26 x131) 27 x132) 168 (e 17)) 169 x133) 170 x134) 171 x135) 172 x136) 173 x137) 174 x131) 175 x138) 176 x141) 177 x142) 178 x143) 179 (.int .i64 0)),198,[],h140⟩ (F.ay.Rv K)) (fun v129 h130=>K (.panic v129) ⟨(aa (aa (aa (aa (aa (aa (aa (aa e 157 x119) 158 x120) 159 x121) 25 (.ptr (ag.next h) 0)) 161 x123) 162 x124) 163 x125) 164 x126),198,[],h130⟩))) (K (.exit 10) ⟨(aa e 157 x119),198,[],h⟩)):=by kernel_rfl
theorem F.ay.HT{e:Env}{h:ag}{K:Out→ag→Bool}:F.ay.Rf K (.exit 10) ⟨e,198,[],h⟩=(K (.ret (.tuple [(e 7),(e 17),(.int .i64 0)])) h):=by kernel_rfl
theorem F.ay.M0{e:Env}{h:ag}{K:AX→St→Bool}:au Tryz.prog (ah Tryz.prog) F.ay.L6 ⟨e,198,[],h⟩ K=(af (aA .lss (e 179) (e 178)) fun x144=>ax x144 (af (cS 1 (e 177) (e 179)) fun x145=>af (ai none x145 h) fun x146=>af (bV (e 17)) fun x147=>af (bD 1 x147) fun x148=>af (ai none x148 h) fun x149=>af (bD 0 (e 25)) fun x150=>af (ai none x150 h) fun x151=>af (dz .string .nils false x149 x151 h) fun x152=>ah Tryz.prog 69 [(e 17),x146] h (br (fun x153 h154=>if ((af (dz .string .nils false x149 x151 h154) fun x155=>AV.beq x155 x152)&&((af (ai none x150 h154) fun x156=>AV.beq x156 x151)&&((af (ai none x148 h154) fun x157=>AV.beq x157 x149)&&true)))=true then (af (cS 1 x152 x153) fun x158=>af (bp 1 x158 (.bool true) h154) fun h159=>af (aA .add (e 179) (.int .i64 1)) fun x160=>K .normal ⟨(aa (aa (aa (aa (aa (aa (aa (aa (aa (aa (aa (aa (aa (aa (aa (aa (aa e 180 x144) 181 x145) 182 x146) 29 x146) 183 (e 17)) 184 x147) 185 x148) 186 x149) 187 x150) 188 x151) 189 x152) 190 (e 17)) 191 x146) 192 x153) 193 x158) 194 x160) 179 x160),198,[],h159⟩) else false) (fun _ _=>false))) (K (.exit 12) ⟨(aa e 180 x144),198,[],h⟩)):=by kernel_rfl
theorem F.ay.HU{e:Env}{h:ag}{K:AX→St→Bool}:F.ay.Rv K (.exit 12) ⟨e,198,[],h⟩=(af (aA .add (e 156) (.int .i64 1)) fun x161=>K .normal ⟨(aa (aa e 195 x161) 156 x161),198,[],h⟩):=by kernel_rfl
theorem F.vz{a0 a1:AV}{h:ag}{K:Out→ag→Bool}:au Tryz.prog (ah Tryz.prog) (aj Tryz.f45) ⟨aF [a0,a1],198,[],h⟩ (aK Tryz.prog dw Tryz.f45.results.toList K)=(af (cK a1) fun c0=>ah Tryz.prog 83 [a0] (ag.alloc h (.cells c0)) (br (fun x1 h2=>af (bP x1 0) fun x5=>af (bP x1 1) fun x6=>af (iu .not x6) fun x7=>ax x7 (K (.ret (.tuple [.nilp,.nilp,(.int .i64 1)])) h2) (af (ai (some 2) (.ptr (ag.next h) 0) h2) fun x8=>ah Tryz.prog 87 [x8] h2 (br (fun x9 h10=>af (iu .not x9) fun x13=>ax x13 (K (.ret (.tuple [.nilp,.nilp,(.int .i64 1)])) h10) (af (bV x5) fun x14=>af (bD 1 x14) fun x15=>af (ai none x15 h10) fun x16=>ct (jD .map x16 h10) fun x17 h18=>aT (au Tryz.prog (ah Tryz.prog) F.ay.L0) ⟨(aa (aa (aa (aa (aa (aa (aa (aa (aa (aa (aa (aa (aa (aa (aa (aa (aa (aa (aa (aa (aa (aa (aa (aa (aa (aa (aF [a0,a1]) 3 (.ptr (ag.next h) 0)) 4 .nilp) 5 .nilp) 6 (.int .i64 0)) 31 a0) 32 x1) 30 x1) 33 x5) 34 x6) 7 x5) 8 x6) 35 x6) 36 x7) 37 x7) 37 (.bool false)) 38 x8) 37 (.bool false)) 39 x9) 37 (.bool false)) 40 x13) 41 x13) 42 x5) 43 x14) 44 x15) 45 x16) 46 x17),198,[],h18⟩ (F.ay.b6 K))) (fun v11 h12=>K (.panic v11) h12)))) (fun v3 h4=>K (.panic v3) h4))):=by kernel_rfl
theorem F.uo{a0 a1:AV}{h:ag}{K:Out→ag→Bool}(hh:(af (cK a1) fun c0=>ah Tryz.prog 83 [a0] (ag.alloc h (.cells c0)) (br (fun x1 h2=>af (bP x1 0) fun x5=>af (bP x1 1) fun x6=>af (iu .not x6) fun x7=>ax x7 (K (.ret (.tuple [.nilp,.nilp,(.int .i64 1)])) h2) (af (ai (some 2) (.ptr (ag.next h) 0) h2) fun x8=>ah Tryz.prog 87 [x8] h2 (br (fun x9 h10=>af (iu .not x9) fun x13=>ax x13 (K (.ret (.tuple [.nilp,.nilp,(.int .i64 1)])) h10) (af (bV x5) fun x14=>af (bD 1 x14) fun x15=>af (ai none x15 h10) fun x16=>ct (jD .map x16 h10) fun x17 h18=>aT (au Tryz.prog (ah Tryz.prog) F.ay.L0) ⟨(aa (aa (aa (aa (aa (aa (aa (aa (aa (aa (aa (aa (aa (aa (aa (aa (aa (aa (aa (aa (aa (aa (aa (aa (aa (aa (aF [a0,a1]) 3 (.ptr (ag.next h) 0)) 4 .nilp) 5 .nilp) 6 (.int .i64 0)) 31 a0) 32 x1) 30 x1) 33 x5) 34 x6) 7 x5) 8 x6) 35 x6) 36 x7) 37 x7) 37 (.bool false)) 38 x8) 37 (.bool false)) 39 x9) 37 (.bool false)) 40 x13) 41 x13) 42 x5) 43 x14) 44 x15) 45 x16) 46 x17),198,[],h18⟩ (F.ay.b6 K))) (fun v11 h12=>K (.panic v11) h12)))) (fun v3 h4=>K (.panic v3) h4)))=true):Sem Tryz.prog 45 [a0,a1] h K:=
 aP mixed (aL _) Tryz.func45 (c:=aj Tryz.f45) rfl (by decide) (of_decide_eq_true (by kernel_rfl)) (F.vz.trans hh)
noncomputable def F.dh.L0:Code:=partOf (aj Tryz.f13) [1,1,1,1,1,0,1,0,0]
noncomputable def F.dh.b6(K:Out→ag→Bool):AX→St→Bool:=(aV 0 (cE false (au Tryz.prog (ah Tryz.prog) (partOf (aj Tryz.f13) [1,1,1,1,1,1])) (aK Tryz.prog dw Tryz.f13.results.toList K)))
noncomputable def F.dh.L1:Code:=partOf (aj Tryz.f13) [1,1,1,1,1,0,1,0,0,1,1,0,0,1,1,0,1,0,0]
noncomputable def F.dh.jd(K:AX→St→Bool):AX→St→Bool:=(aV 2 (cE false (au Tryz.prog (ah Tryz.prog) (partOf (aj Tryz.f13) [1,1,1,1,1,0,1,0,0,1,1,0,0,1,1,1])) (aV 1 (cE false (au Tryz.prog (ah Tryz.prog) (partOf (aj Tryz.f13) [1,1,1,1,1,0,1,0,0,1,1,1])) K))))
theorem F.dh.aO{e:Env}{h:ag}{K:AX→St→Bool}:au Tryz.prog (ah Tryz.prog) F.dh.L0 ⟨e,89,[],h⟩ K=(af (aA .lss (e 40) (e 39)) fun x34=>ax x34 (af (cS 1 (e 38) (e 40)) fun x35=>af (ai none x35 h) fun x36=>af (bV (e 6)) fun x37=>af (bD 1 x37) fun x38=>af (ai none x38 h) fun x39=>af (dz .string (.int .i64 0) false x39 x36 h) fun x40=>af (gw [(.str []),(.int .i64 0),.nils] [(0,1),(1,1)] [x36,x40]) fun x41=>af (bp 3 (.ptr (ag.next h) 0) x41 (ag.alloc h (.cells [(.str []),(.int .i64 0),.nils]))) fun h42=>af (bV (e 7)) fun x43=>af (bD 1 x43) fun x44=>af (ai none x44 h42) fun x45=>af (dz .string .nils false x45 x36 h42) fun x46=>af (bz .slice x46 h42) fun x47=>aT (au Tryz.prog (ah Tryz.prog) F.dh.L1) ⟨(aa (aa (aa (aa (aa (aa (aa (aa (aa (aa (aa (aa (aa (aa (aa (aa (aa (aa (aa (aa (aa e 41 x34) 42 x35) 43 x36) 11 x36) 44 x36) 45 (e 6)) 46 x37) 47 x38) 48 x39) 49 x36) 50 x40) 51 x41) 12 (.ptr (ag.next h) 0)) 52 (e 7)) 53 x43) 54 x44) 55 x45) 56 x36) 57 x46) 58 x47) 59 (.int .i64 0)),89,[],h42⟩ (F.dh.jd K)) (K (.exit 0) ⟨(aa e 41 x34),89,[],h⟩)):=by kernel_rfl
theorem F.dh.aD{e:Env}{h:ag}{K:Out→ag→Bool}:F.dh.b6 K (.exit 0) ⟨e,89,[],h⟩=(af (ai (some 2) (e 9) h) fun x48=>af (bp 2 (e 4) x48 h) fun h49=>af (eO Tryz.prog ⟨(aa (aa e 88 x48) 5 (.int .i64 0)),89,[],h49⟩ Tryz.f13.results.toList) fun vs=>K (.ret (oneOf vs)) h49):=by kernel_rfl
theorem F.dh.dx{e:Env}{h:ag}{K:AX→St→Bool}:au Tryz.prog (ah Tryz.prog) F.dh.L1 ⟨e,89,[],h⟩ K=(af (aA .lss (e 59) (e 58)) fun x50=>ax x50 (af (cS 1 (e 57) (e 59)) fun x51=>af (ai none x51 h) fun x52=>ax x52 (af (bD 0 (e 3)) fun x53=>af (ai none x53 h) fun x54=>af (bD 1 (e 12)) fun x55=>af (ai none x55 h) fun x56=>ah Tryz.prog 51 [x54,x56,(e 59)] h (br (fun x57 h58=>af (bP x57 0) fun x61=>af (bP x57 1) fun x62=>af (bD 2 (e 12)) fun x63=>af (ai none x63 h58) fun x64=>af (fc [.nils] [(0,1)] [x61]) fun c65=>ct (cg 1 24 x64 (.slice (ag.next h58) 0 1 1) (ag.alloc h58 (.cells c65))) fun x66 h67=>af (bD 2 (e 12)) fun x68=>af (bp 1 x68 x66 h67) fun h69=>af (aA .add (e 59) (.int .i64 1)) fun x70=>K .normal ⟨(aa (aa (aa (aa (aa (aa (aa (aa (aa (aa (aa (aa (aa (aa (aa (aa (aa (aa (aa (aa (aa (aa (aa (aa (aa (aa e 60 x50) 61 (e 59)) 62 x51) 63 x52) 13 (e 59)) 14 x52) 64 x52) 66 x53) 67 x54) 68 x55) 69 x56) 70 (e 59)) 71 x57) 65 x57) 72 x61) 73 x62) 15 x61) 16 x62) 74 x63) 75 x64) 76 x61) 77 (.slice (ag.next h58) 0 1 1)) 78 x66) 79 x68) 80 x70) 59 x70),89,[],h69⟩) (fun v59 h60=>K (.panic v59) ⟨(aa (aa (aa (aa (aa (aa (aa (aa (aa (aa (aa (aa e 60 x50) 61 (e 59)) 62 x51) 63 x52) 13 (e 59)) 14 x52) 64 x52) 66 x53) 67 x54) 68 x55) 69 x56) 70 (e 59)),89,[],h60⟩))) (af (aA .add (e 59) (.int .i64 1)) fun x71=>K .normal ⟨(aa (aa (aa (aa (aa (aa (aa (aa (aa e 60 x50) 61 (e 59)) 62 x51) 63 x52) 13 (e 59)) 14 x52) 64 x52) 80 x71) 59 x71),89,[],h⟩)) (K (.exit 2) ⟨(aa e 60 x50),89,[],h⟩)):=by kernel_rfl
theorem F.dh.cw{e:Env}{h:ag}{K:AX→St→Bool}:F.dh.jd K (.exit 2) ⟨e,89,[],h⟩=(af (bD 1 (e 9)) fun x72=>af (ai none x72 h) fun x73=>af (ai (some 3) (e 12) h) fun x74=>af (fc [(.str []),(.int .i64 0),.nils] [(0,3)] [x74]) fun c75=>ct (cg 3 48 x73 (.slice (ag.next h) 0 1 3) (ag.alloc h (.cells c75))) fun x76 h77=>af (bD 1 (e 9)) fun x78=>af (bp 1 x78 x76 h77) fun h79=>af (aA .add (e 40) (.int .i64 1)) fun x80=>K .normal ⟨(aa (aa (aa (aa (aa (aa (aa (aa e 81 x72) 82 x73) 83 x74) 84 (.slice (ag.next h) 0 1 3)) 85 x76) 86 x78) 87 x80) 40 x80),89,[],h79⟩):=by kernel_rfl
theorem F.C5{a0 a1:AV}{h:ag}{K:Out→ag→Bool}:au Tryz.prog (ah Tryz.prog) (aj Tryz.f13) ⟨aF [a0,a1],89,[],h⟩ (aK Tryz.prog dw Tryz.f13.results.toList K)=(af (cK a1) fun c0=>af (ai (some 2) (.ptr (ag.next h) 0) (ag.alloc (ag.alloc h (.cells c0)) (.cells [(.int .i64 0),.nils]))) fun x1=>ah Tryz.prog 45 [a0,x1] (ag.alloc (ag.alloc h (.cells c0)) (.cells [(.int .i64 0),.nils])) (br (fun x2 h3=>af (bP x2 0) fun x6=>af (bP x2 1) fun x7=>af (bP x2 2) fun x8=>af (lC (.int .i64) x8 (.int .i64 0)) fun x9=>ax x9 (af (gw [(.int .i64 0),.nils] [] []) fun x10=>af (bp 2 (.ptr (ag.next (ag.alloc h (.cells c0))) 0) x10 h3) fun h11=>af (eO Tryz.prog ⟨(aa (aa (aa (aa (aa (aa (aa (aa (aa (aa (aa (aa (aa (aa (aa (aa (aa (aa (aF [a0,a1]) 3 (.ptr (ag.next h) 0)) 4 (.ptr (ag.next (ag.alloc h (.cells c0))) 0)) 5 (.int .i64 0)) 18 a0) 19 x1) 20 x2) 17 x2) 21 x6) 22 x7) 23 x8) 6 x6) 7 x7) 8 x8) 24 x8) 25 x9) 26 x10) 27 x8) 5 x8),89,[],h11⟩ Tryz.f13.results.toList) fun vs=>K (.ret (oneOf vs)) h11) (ah Tryz.prog 46 [x6,x7,(.func 47 [] [])] h3 (br (fun x12 h13=>af (ai (some 2) (.ptr (ag.next h) 0) h13) fun x16=>ah Tryz.prog 48 [x16] h13 (br (fun x17 h18=>af (bp 2 (.ptr (ag.next h18) 0) x17 (ag.alloc h18 (.cells [(.int .i64 0),.nils]))) fun h21=>af (bV x6) fun x22=>af (bD 2 x22) fun x23=>af (ai none x23 h21) fun x24=>ah Tryz.prog 50 [x24] h21 (br (fun x25 h26=>ah Tryz.prog 49 [x25] h26 (br (fun x29 h30=>af (bz .slice x29 h30) fun x33=>aT (au Tryz.prog (ah Tryz.prog) F.dh.L0) ⟨(aa (aa (aa (aa (aa (aa (aa (aa (aa (aa (aa (aa (aa (aa (aa (aa (aa (aa (aa (aa (aa (aa (aa (aa (aa (aa (aa (aa (aa (aF [a0,a1]) 3 (.ptr (ag.next h) 0)) 4 (.ptr (ag.next (ag.alloc h (.cells c0))) 0)) 5 (.int .i64 0)) 18 a0) 19 x1) 20 x2) 17 x2) 21 x6) 22 x7) 23 x8) 6 x6) 7 x7) 8 x8) 24 x8) 25 x9) 28 x6) 29 x7) 30 x12) 31 x16) 32 x17) 9 (.ptr (ag.next h18) 0)) 33 x6) 34 x22) 35 x23) 36 x24) 37 x25) 38 x29) 39 x33) 40 (.int .i64 0)),89,[],h30⟩ (F.dh.b6 K)) (fun v31 h32=>K (.panic v31) h32))) (fun v27 h28=>K (.panic v27) h28))) (fun v19 h20=>K (.panic v19) h20))) (fun v14 h15=>K (.panic v14) h15)))) (fun v4 h5=>K (.panic v4) h5))):=by kernel_rfl
theorem F.Bh{a0 a1:AV}{h:ag}{K:Out→ag→Bool}(hh:(af (cK a1) fun c0=>af (ai (some 2) (.ptr (ag.next h) 0) (ag.alloc (ag.alloc h (.cells c0)) (.cells [(.int .i64 0),.nils]))) fun x1=>ah Tryz.prog 45 [a0,x1] (ag.alloc (ag.alloc h (.cells c0)) (.cells [(.int .i64 0),.nils])) (br (fun x2 h3=>af (bP x2 0) fun x6=>af (bP x2 1) fun x7=>af (bP x2 2) fun x8=>af (lC (.int .i64) x8 (.int .i64 0)) fun x9=>ax x9 (af (gw [(.int .i64 0),.nils] [] []) fun x10=>af (bp 2 (.ptr (ag.next (ag.alloc h (.cells c0))) 0) x10 h3) fun h11=>af (eO Tryz.prog ⟨(aa (aa (aa (aa (aa (aa (aa (aa (aa (aa (aa (aa (aa (aa (aa (aa (aa (aa (aF [a0,a1]) 3 (.ptr (ag.next h) 0)) 4 (.ptr (ag.next (ag.alloc h (.cells c0))) 0)) 5 (.int .i64 0)) 18 a0) 19 x1) 20 x2) 17 x2) 21 x6) 22 x7) 23 x8) 6 x6) 7 x7) 8 x8) 24 x8) 25 x9) 26 x10) 27 x8) 5 x8),89,[],h11⟩ Tryz.f13.results.toList) fun vs=>K (.ret (oneOf vs)) h11) (ah Tryz.prog 46 [x6,x7,(.func 47 [] [])] h3 (br (fun x12 h13=>af (ai (some 2) (.ptr (ag.next h) 0) h13) fun x16=>ah Tryz.prog 48 [x16] h13 (br (fun x17 h18=>af (bp 2 (.ptr (ag.next h18) 0) x17 (ag.alloc h18 (.cells [(.int .i64 0),.nils]))) fun h21=>af (bV x6) fun x22=>af (bD 2 x22) fun x23=>af (ai none x23 h21) fun x24=>ah Tryz.prog 50 [x24] h21 (br (fun x25 h26=>ah Tryz.prog 49 [x25] h26 (br (fun x29 h30=>af (bz .slice x29 h30) fun x33=>aT (au Tryz.prog (ah Tryz.prog) F.dh.L0) ⟨(aa (aa (aa (aa (aa (aa (aa (aa (aa (aa (aa (aa (aa (aa (aa (aa (aa (aa (aa (aa (aa (aa (aa (aa (aa (aa (aa (aa (aa (aF [a0,a1]) 3 (.ptr (ag.next h) 0)) 4 (.ptr (ag.next (ag.alloc h (.cells c0))) 0)) 5 (.int .i64 0)) 18 a0) 19 x1) 20 x2) 17 x2) 21 x6) 22 x7) 23 x8) 6 x6) 7 x7) 8 x8) 24 x8) 25 x9) 28 x6) 29 x7) 30 x12) 31 x16) 32 x17) 9 (.ptr (ag.next h18) 0)) 33 x6) 34 x22) 35 x23) 36 x24) 37 x25) 38 x29) 39 x33) 40 (.int .i64 0)),89,[],h30⟩ (F.dh.b6 K)) (fun v31 h32=>K (.panic v31) h32))) (fun v27 h28=>K (.panic v27) h28))) (fun v19 h20=>K (.panic v19) h20))) (fun v14 h15=>K (.panic v14) h15)))) (fun v4 h5=>K (.panic v4) h5)))=true):Sem Tryz.prog 13 [a0,a1] h K:=
 aP mixed (aL _) Tryz.func13 (c:=aj Tryz.f13) rfl (by decide) (of_decide_eq_true (by kernel_rfl)) (F.C5.trans hh)
end
end Go.AM
namespace Go.AM
open Go
noncomputable section
def Rw:List AV:=[(.int .u8 80)]
def Rx:AV:=(.bool true)
theorem No:bQ Proofs.Tryz.prog F0 D0 200 146 Rw ag.empty (cp true 20 Rx)=true:=by kernel_rfl
end
end Go.AM
namespace Go.AM
open Go
noncomputable section
def Ry:List AV:=[(.int .u8 40)]
def Rz:AV:=(.bool false)
theorem Np:bQ Proofs.Tryz.prog F0 D0 200 146 Ry ag.empty (cp true 20 Rz)=true:=by kernel_rfl
end
end Go.AM
namespace Go.AM
open Go
noncomputable section
def RA:List AV:=[(.int .u8 120)]
def RB:AV:=(.bool true)
theorem Nq:bQ Proofs.Tryz.prog F0 D0 200 146 RA ag.empty (cp true 20 RB)=true:=by kernel_rfl
end
end Go.AM
namespace Go.AM
open Go
noncomputable section
def RC:List AV:=[(.int .u8 32)]
def RE:AV:=(.bool false)
theorem Nr:bQ Proofs.Tryz.prog F0 D0 200 146 RC ag.empty (cp true 20 RE)=true:=by kernel_rfl
end
end Go.AM
namespace Go.AM
open Go
noncomputable section
def RF:List AV:=[(.int .u8 121)]
def RG:AV:=(.bool true)
theorem Ns:bQ Proofs.Tryz.prog F0 D0 200 146 RF ag.empty (cp true 20 RG)=true:=by kernel_rfl
end
end Go.AM
namespace Go.AM
open Go
noncomputable section
def RH:List AV:=[(.int .u8 41)]
def RI:AV:=(.bool false)
theorem Nt:bQ Proofs.Tryz.prog F0 D0 200 146 RH ag.empty (cp true 20 RI)=true:=by kernel_rfl
end
end Go.AM
namespace Go.AM
open Go
noncomputable section
def RJ:List AV:=[(.int .u8 58)]
def RK:AV:=(.bool false)
theorem Nu:bQ Proofs.Tryz.prog F0 D0 200 146 RJ ag.empty (cp true 20 RK)=true:=by kernel_rfl
end
end Go.AM
namespace Go.AM
open Go
noncomputable section
def RL:List AV:=[(.int .u8 69)]
def RM:AV:=(.bool true)
theorem Nv:bQ Proofs.Tryz.prog F0 D0 200 146 RL ag.empty (cp true 20 RM)=true:=by kernel_rfl
end
end Go.AM
namespace Go.AM
open Go
noncomputable section
def RN:List AV:=[(.int .u8 46)]
def RO:AV:=(.bool false)
theorem Nw:bQ Proofs.Tryz.prog F0 D0 200 146 RN ag.empty (cp true 20 RO)=true:=by kernel_rfl
end
end Go.AM
namespace Go.AM
open Go
noncomputable section
def RP:List AV:=[(.int .u8 122)]
def RQ:AV:=(.bool true)
theorem Nx:bQ Proofs.Tryz.prog F0 D0 200 146 RP ag.empty (cp true 20 RQ)=true:=by kernel_rfl
end
end Go.AM
namespace Go.AM
open Go
noncomputable section
def Oa:List AV:=[(.int .u8 44)]
def Ob:AV:=(.bool false)
theorem KQ:bQ Proofs.Tryz.prog F0 D0 200 146 Oa ag.empty (cp true 20 Ob)=true:=by kernel_rfl
end
end Go.AM
namespace Go.AM
open Go
noncomputable section
def Oc:List AV:=[(.agg [(.int .i64 3),(.islice [(.str [69]),(.int .i64 2),(.islice [(.islice [(.int .i64 0),(.int .i64 1)] 0 2 1),(.islice [(.int .i64 1),(.int .i64 2)] 0 2 1)] 0 2 1)] 0 1 3)]),(.str [69]),(.int .i64 2)]
def Od:AV:=(.int .i64 0)
theorem KR:bQ Proofs.Tryz.prog F0 D0 200 88 Oc ag.empty (cp true 20 Od)=true:=by kernel_rfl
end
end Go.AM
namespace Go.AM
open Go
noncomputable section
def Oe:List AV:=[(.int .i64 3),(.int .i64 2)]
def Of:AV:=(.tuple [(.int .i64 9),(.int .i64 0)])
theorem KS:bQ Proofs.Tryz.prog F0 D0 200 107 Oe ag.empty (cp true 20 Of)=true:=by kernel_rfl
end
end Go.AM
namespace Go.AM
open Go
noncomputable section
def Og:List AV:=[(.islice [(.int .i64 0),(.int .i64 0)] 0 2 1),(.islice [(.int .i64 0),(.int .i64 1)] 0 2 1)]
def Oh:AV:=(.islice [(.int .i64 0),(.int .i64 0)] 0 2 1)
theorem KT:bQ Proofs.Tryz.prog F0 D0 200 124 Og ag.empty (cp false 20 Oh)=true:=by kernel_rfl
end
end Go.AM
namespace Go.AM
open Go
noncomputable section
def Oi:List AV:=[(.islice [(.int .i64 0),(.int .i64 1)] 0 2 1),(.islice [(.int .i64 0),(.int .i64 1)] 0 2 1)]
def Oj:AV:=(.islice [(.int .i64 0),(.int .i64 1)] 0 2 1)
theorem KU:bQ Proofs.Tryz.prog F0 D0 200 124 Oi ag.empty (cp false 20 Oj)=true:=by kernel_rfl
end
end Go.AM
namespace Go.AM
open Go
noncomputable section
def Ol:List AV:=[(.islice [(.int .i64 0),(.int .i64 2)] 0 2 1),(.islice [(.int .i64 0),(.int .i64 1)] 0 2 1)]
def Om:AV:=(.islice [(.int .i64 0),(.int .i64 2)] 0 2 1)
theorem KV:bQ Proofs.Tryz.prog F0 D0 200 124 Ol ag.empty (cp false 20 Om)=true:=by kernel_rfl
end
end Go.AM
namespace Go.AM
open Go
noncomputable section
def On:List AV:=[(.islice [(.int .i64 1),(.int .i64 0)] 0 2 1),(.islice [(.int .i64 0),(.int .i64 1)] 0 2 1)]
def Oo:AV:=(.islice [(.int .i64 1),(.int .i64 0)] 0 2 1)
theorem KW:bQ Proofs.Tryz.prog F0 D0 200 124 On ag.empty (cp false 20 Oo)=true:=by kernel_rfl
end
end Go.AM
namespace Go.AM
open Go
noncomputable section
def Oq:List AV:=[(.islice [(.int .i64 1),(.int .i64 1)] 0 2 1),(.islice [(.int .i64 0),(.int .i64 1)] 0 2 1)]
def Ot:AV:=(.islice [(.int .i64 1),(.int .i64 1)] 0 2 1)
theorem KX:bQ Proofs.Tryz.prog F0 D0 200 124 Oq ag.empty (cp false 20 Ot)=true:=by kernel_rfl
end
end Go.AM
namespace Go.AM
open Go
noncomputable section
def Ou:List AV:=[(.islice [(.int .i64 1),(.int .i64 2)] 0 2 1),(.islice [(.int .i64 0),(.int .i64 1)] 0 2 1)]
def Ov:AV:=(.islice [(.int .i64 1),(.int .i64 2)] 0 2 1)
theorem KY:bQ Proofs.Tryz.prog F0 D0 200 124 Ou ag.empty (cp false 20 Ov)=true:=by kernel_rfl
end
end Go.AM
namespace Go.AM
open Go
noncomputable section
def Ow:List AV:=[(.islice [(.int .i64 2),(.int .i64 0)] 0 2 1),(.islice [(.int .i64 0),(.int .i64 1)] 0 2 1)]
def Ox:AV:=(.islice [(.int .i64 2),(.int .i64 0)] 0 2 1)
theorem KZ:bQ Proofs.Tryz.prog F0 D0 200 124 Ow ag.empty (cp false 20 Ox)=true:=by kernel_rfl
end
end Go.AM
namespace Go.AM
open Go
noncomputable section
def Oy:List AV:=[(.islice [(.int .i64 2),(.int .i64 1)] 0 2 1),(.islice [(.int .i64 0),(.int .i64 1)] 0 2 1)]
def Oz:AV:=(.islice [(.int .i64 2),(.int .i64 1)] 0 2 1)
theorem K4:bQ Proofs.Tryz.prog F0 D0 200 124 Oy ag.empty (cp false 20 Oz)=true:=by kernel_rfl
end
end Go.AM
namespace Go.AM
open Go
noncomputable section
def OA:List AV:=[(.islice [(.int .i64 2),(.int .i64 2)] 0 2 1),(.islice [(.int .i64 0),(.int .i64 1)] 0 2 1)]
def OC:AV:=(.islice [(.int .i64 2),(.int .i64 2)] 0 2 1)
theorem K5:bQ Proofs.Tryz.prog F0 D0 200 124 OA ag.empty (cp false 20 OC)=true:=by kernel_rfl
end
end Go.AM
namespace Go.AM
open Go
noncomputable section
def OD:List AV:=[(.islice [(.int .i64 0),(.int .i64 0),(.int .i64 0)] 0 3 1),(.islice [(.int .i64 0),(.int .i64 2)] 0 2 1)]
def OE:AV:=(.islice [(.int .i64 0),(.int .i64 0)] 0 2 1)
theorem K6:bQ Proofs.Tryz.prog F0 D0 200 124 OD ag.empty (cp false 20 OE)=true:=by kernel_rfl
end
end Go.AM
namespace Go.AM
open Go
noncomputable section
def OF:List AV:=[(.islice [(.int .i64 0),(.int .i64 0),(.int .i64 1)] 0 3 1),(.islice [(.int .i64 0),(.int .i64 2)] 0 2 1)]
def OG:AV:=(.islice [(.int .i64 0),(.int .i64 1)] 0 2 1)
theorem K7:bQ Proofs.Tryz.prog F0 D0 200 124 OF ag.empty (cp false 20 OG)=true:=by kernel_rfl
end
end Go.AM
namespace Go.AM
open Go
noncomputable section
def OH:List AV:=[(.islice [(.int .i64 0),(.int .i64 0),(.int .i64 1)] 0 3 1),(.islice [(.int .i64 2),(.int .i64 1)] 0 2 1)]
def OI:AV:=(.islice [(.int .i64 1),(.int .i64 0)] 0 2 1)
theorem K8:bQ Proofs.Tryz.prog F0 D0 200 124 OH ag.empty (cp false 20 OI)=true:=by kernel_rfl
end
end Go.AM
namespace Go.AM
open Go
noncomputable section
def OJ:List AV:=[(.islice [(.int .i64 0),(.int .i64 0),(.int .i64 2)] 0 3 1),(.islice [(.int .i64 0),(.int .i64 2)] 0 2 1)]
def OK:AV:=(.islice [(.int .i64 0),(.int .i64 2)] 0 2 1)
theorem K9:bQ Proofs.Tryz.prog F0 D0 200 124 OJ ag.empty (cp false 20 OK)=true:=by kernel_rfl
end
end Go.AM
namespace Go.AM
open Go
noncomputable section
def OL:List AV:=[(.islice [(.int .i64 0),(.int .i64 1),(.int .i64 0)] 0 3 1),(.islice [(.int .i64 0),(.int .i64 2)] 0 2 1)]
def OM:AV:=(.islice [(.int .i64 0),(.int .i64 0)] 0 2 1)
theorem Lc:bQ Proofs.Tryz.prog F0 D0 200 124 OL ag.empty (cp false 20 OM)=true:=by kernel_rfl
end
end Go.AM
namespace Go.AM
open Go
noncomputable section
def ON:List AV:=[(.islice [(.int .i64 0),(.int .i64 1),(.int .i64 1)] 0 3 1),(.islice [(.int .i64 0),(.int .i64 2)] 0 2 1)]
def OO:AV:=(.islice [(.int .i64 0),(.int .i64 1)] 0 2 1)
theorem Ld:bQ Proofs.Tryz.prog F0 D0 200 124 ON ag.empty (cp false 20 OO)=true:=by kernel_rfl
end
end Go.AM
namespace Go.AM
open Go
noncomputable section
def OP:List AV:=[(.islice [(.int .i64 0),(.int .i64 1),(.int .i64 1)] 0 3 1),(.islice [(.int .i64 2),(.int .i64 1)] 0 2 1)]
def OQ:AV:=(.islice [(.int .i64 1),(.int .i64 1)] 0 2 1)
theorem Le:bQ Proofs.Tryz.prog F0 D0 200 124 OP ag.empty (cp false 20 OQ)=true:=by kernel_rfl
end
end Go.AM
namespace Go.AM
open Go
noncomputable section
def OR:List AV:=[(.islice [(.int .i64 0),(.int .i64 1),(.int .i64 2)] 0 3 1),(.islice [(.int .i64 0),(.int .i64 2)] 0 2 1)]
def OS:AV:=(.islice [(.int .i64 0),(.int .i64 2)] 0 2 1)
theorem Lf:bQ Proofs.Tryz.prog F0 D0 200 124 OR ag.empty (cp false 20 OS)=true:=by kernel_rfl
end
end Go.AM
namespace Go.AM
open Go
noncomputable section
def OT:List AV:=[(.islice [(.int .i64 0),(.int .i64 2),(.int .i64 0)] 0 3 1),(.islice [(.int .i64 0),(.int .i64 2)] 0 2 1)]
def OU:AV:=(.islice [(.int .i64 0),(.int .i64 0)] 0 2 1)
theorem Lg:bQ Proofs.Tryz.prog F0 D0 200 124 OT ag.empty (cp false 20 OU)=true:=by kernel_rfl
end
end Go.AM
namespace Go.AM
open Go
noncomputable section
def OV:List AV:=[(.islice [(.int .i64 0),(.int .i64 2),(.int .i64 1)] 0 3 1),(.islice [(.int .i64 0),(.int .i64 2)] 0 2 1)]
def OW:AV:=(.islice [(.int .i64 0),(.int .i64 1)] 0 2 1)
theorem Lh:bQ Proofs.Tryz.prog F0 D0 200 124 OV ag.empty (cp false 20 OW)=true:=by kernel_rfl
end
end Go.AM
namespace Go.AM
open Go
noncomputable section
def OX:List AV:=[(.islice [(.int .i64 0),(.int .i64 2),(.int .i64 1)] 0 3 1),(.islice [(.int .i64 2),(.int .i64 1)] 0 2 1)]
def OY:AV:=(.islice [(.int .i64 1),(.int .i64 2)] 0 2 1)
theorem Li:bQ Proofs.Tryz.prog F0 D0 200 124 OX ag.empty (cp false 20 OY)=true:=by kernel_rfl
end
end Go.AM
namespace Go.AM
open Go
noncomputable section
def OZ:List AV:=[(.islice [(.int .i64 0),(.int .i64 2),(.int .i64 1)] 0 3 1),(.islice [(.int .i64 0),(.int .i64 1)] 0 2 1)]
def O0:AV:=(.islice [(.int .i64 0),(.int .i64 2)] 0 2 1)
theorem Lj:bQ Proofs.Tryz.prog F0 D0 200 124 OZ ag.empty (cp false 20 O0)=true:=by kernel_rfl
end
end Go.AM
namespace Go.AM
open Go
noncomputable section
def O1:List AV:=[(.islice [(.int .i64 0),(.int .i64 2),(.int .i64 2)] 0 3 1),(.islice [(.int .i64 0),(.int .i64 2)] 0 2 1)]
def O2:AV:=(.islice [(.int .i64 0),(.int .i64 2)] 0 2 1)
theorem Ll:bQ Proofs.Tryz.prog F0 D0 200 124 O1 ag.empty (cp false 20 O2)=true:=by kernel_rfl
end
end Go.AM
namespace Go.AM
open Go
noncomputable section
def O3:List AV:=[(.islice [(.int .i64 1),(.int .i64 0),(.int .i64 0)] 0 3 1),(.islice [(.int .i64 0),(.int .i64 2)] 0 2 1)]
def O4:AV:=(.islice [(.int .i64 1),(.int .i64 0)] 0 2 1)
theorem Lm:bQ Proofs.Tryz.prog F0 D0 200 124 O3 ag.empty (cp false 20 O4)=true:=by kernel_rfl
end
end Go.AM
namespace Go.AM
open Go
noncomputable section
def O5:List AV:=[(.islice [(.int .i64 1),(.int .i64 0),(.int .i64 1)] 0 3 1),(.islice [(.int .i64 0),(.int .i64 2)] 0 2 1)]
def O6:AV:=(.islice [(.int .i64 1),(.int .i64 1)] 0 2 1)
theorem Ln:bQ Proofs.Tryz.prog F0 D0 200 124 O5 ag.empty (cp false 20 O6)=true:=by kernel_rfl
end
end Go.AM
namespace Go.AM
open Go
noncomputable section
def O7:List AV:=[(.islice [(.int .i64 1),(.int .i64 0),(.int .i64 2)] 0 3 1),(.islice [(.int .i64 0),(.int .i64 2)] 0 2 1)]
def O8:AV:=(.islice [(.int .i64 1),(.int .i64 2)] 0 2 1)
theorem Lo:bQ Proofs.Tryz.prog F0 D0 200 124 O7 ag.empty (cp false 20 O8)=true:=by kernel_rfl
end
end Go.AM
namespace Go.AM
open Go
noncomputable section
def O9:List AV:=[(.islice [(.int .i64 1),(.int .i64 0),(.int .i64 2)] 0 3 1),(.islice [(.int .i64 2),(.int .i64 1)] 0 2 1)]
def Pa:AV:=(.islice [(.int .i64 2),(.int .i64 0)] 0 2 1)
theorem Lq:bQ Proofs.Tryz.prog F0 D0 200 124 O9 ag.empty (cp false 20 Pa)=true:=by kernel_rfl
end
end Go.AM
namespace Go.AM
open Go
noncomputable section
def Pb:List AV:=[(.islice [(.int .i64 1),(.int .i64 1),(.int .i64 0)] 0 3 1),(.islice [(.int .i64 0),(.int .i64 2)] 0 2 1)]
def Pc:AV:=(.islice [(.int .i64 1),(.int .i64 0)] 0 2 1)
theorem Lr:bQ Proofs.Tryz.prog F0 D0 200 124 Pb ag.empty (cp false 20 Pc)=true:=by kernel_rfl
end
end Go.AM
namespace Go.AM
open Go
noncomputable section
def Pd:List AV:=[(.islice [(.int .i64 1),(.int .i64 1),(.int .i64 1)] 0 3 1),(.islice [(.int .i64 0),(.int .i64 2)] 0 2 1)]
def Pe:AV:=(.islice [(.int .i64 1),(.int .i64 1)] 0 2 1)
theorem Ls:bQ Proofs.Tryz.prog F0 D0 200 124 Pd ag.empty (cp false 20 Pe)=true:=by kernel_rfl
end
end Go.AM
namespace Go.AM
open Go
noncomputable section
def Pf:List AV:=[(.islice [(.int .i64 1),(.int .i64 1),(.int .i64 2)] 0 3 1),(.islice [(.int .i64 0),(.int .i64 2)] 0 2 1)]
def Pg:AV:=(.islice [(.int .i64 1),(.int .i64 2)] 0 2 1)
theorem Lt:bQ Proofs.Tryz.prog F0 D0 200 124 Pf ag.empty (cp false 20 Pg)=true:=by kernel_rfl
end
end Go.AM
namespace Go.AM
open Go
noncomputable section
def Ph:List AV:=[(.islice [(.int .i64 1),(.int .i64 1),(.int .i64 2)] 0 3 1),(.islice [(.int .i64 2),(.int .i64 1)] 0 2 1)]
def Pj:AV:=(.islice [(.int .i64 2),(.int .i64 1)] 0 2 1)
theorem Lu:bQ Proofs.Tryz.prog F0 D0 200 124 Ph ag.empty (cp false 20 Pj)=true:=by kernel_rfl
end
end Go.AM
namespace Go.AM
open Go
noncomputable section
def Pk:List AV:=[(.islice [(.int .i64 1),(.int .i64 2),(.int .i64 0)] 0 3 1),(.islice [(.int .i64 0),(.int .i64 2)] 0 2 1)]
def Pm:AV:=(.islice [(.int .i64 1),(.int .i64 0)] 0 2 1)
theorem Lw:bQ Proofs.Tryz.prog F0 D0 200 124 Pk ag.empty (cp false 20 Pm)=true:=by kernel_rfl
end
end Go.AM
namespace Go.AM
open Go
noncomputable section
def Pn:List AV:=[(.islice [(.int .i64 1),(.int .i64 2),(.int .i64 1)] 0 3 1),(.islice [(.int .i64 0),(.int .i64 2)] 0 2 1)]
def Po:AV:=(.islice [(.int .i64 1),(.int .i64 1)] 0 2 1)
theorem Lx:bQ Proofs.Tryz.prog F0 D0 200 124 Pn ag.empty (cp false 20 Po)=true:=by kernel_rfl
end
end Go.AM
namespace Go.AM
open Go
noncomputable section
def Pp:List AV:=[(.islice [(.int .i64 1),(.int .i64 2),(.int .i64 2)] 0 3 1),(.islice [(.int .i64 0),(.int .i64 2)] 0 2 1)]
def Pq:AV:=(.islice [(.int .i64 1),(.int .i64 2)] 0 2 1)
theorem Lz:bQ Proofs.Tryz.prog F0 D0 200 124 Pp ag.empty (cp false 20 Pq)=true:=by kernel_rfl
end
end Go.AM
namespace Go.AM
open Go
noncomputable section
def Pr:List AV:=[(.islice [(.int .i64 1),(.int .i64 2),(.int .i64 2)] 0 3 1),(.islice [(.int .i64 2),(.int .i64 1)] 0 2 1)]
def Pt:AV:=(.islice [(.int .i64 2),(.int .i64 2)] 0 2 1)
theorem LA:bQ Proofs.Tryz.prog F0 D0 200 124 Pr ag.empty (cp false 20 Pt)=true:=by kernel_rfl
end
end Go.AM
namespace Go.AM
open Go
noncomputable section
def Pu:List AV:=[(.islice [(.int .i64 2),(.int .i64 0),(.int .i64 0)] 0 3 1),(.islice [(.int .i64 0),(.int .i64 2)] 0 2 1)]
def Pv:AV:=(.islice [(.int .i64 2),(.int .i64 0)] 0 2 1)
theorem LB:bQ Proofs.Tryz.prog F0 D0 200 124 Pu ag.empty (cp false 20 Pv)=true:=by kernel_rfl
end
end Go.AM
namespace Go.AM
open Go
noncomputable section
def Pw:List AV:=[(.islice [(.int .i64 2),(.int .i64 0),(.int .i64 1)] 0 3 1),(.islice [(.int .i64 0),(.int .i64 2)] 0 2 1)]
def Px:AV:=(.islice [(.int .i64 2),(.int .i64 1)] 0 2 1)
theorem LC:bQ Proofs.Tryz.prog F0 D0 200 124 Pw ag.empty (cp false 20 Px)=true:=by kernel_rfl
end
end Go.AM
namespace Go.AM
open Go
noncomputable section
def Py:List AV:=[(.islice [(.int .i64 2),(.int .i64 0),(.int .i64 2)] 0 3 1),(.islice [(.int .i64 0),(.int .i64 2)] 0 2 1)]
def Pz:AV:=(.islice [(.int .i64 2),(.int .i64 2)] 0 2 1)
theorem LD:bQ Proofs.Tryz.prog F0 D0 200 124 Py ag.empty (cp false 20 Pz)=true:=by kernel_rfl
end
end Go.AM
namespace Go.AM
open Go
noncomputable section
def PA:List AV:=[(.islice [(.int .i64 2),(.int .i64 1),(.int .i64 0)] 0 3 1),(.islice [(.int .i64 0),(.int .i64 2)] 0 2 1)]
def PC:AV:=(.islice [(.int .i64 2),(.int .i64 0)] 0 2 1)
theorem LF:bQ Proofs.Tryz.prog F0 D0 200 124 PA ag.empty (cp false 20 PC)=true:=by kernel_rfl
end
end Go.AM
namespace Go.AM
open Go
noncomputable section
def PD:List AV:=[(.islice [(.int .i64 2),(.int .i64 1),(.int .i64 1)] 0 3 1),(.islice [(.int .i64 0),(.int .i64 2)] 0 2 1)]
def PE:AV:=(.islice [(.int .i64 2),(.int .i64 1)] 0 2 1)
theorem LG:bQ Proofs.Tryz.prog F0 D0 200 124 PD ag.empty (cp false 20 PE)=true:=by kernel_rfl
end
end Go.AM
namespace Go.AM
open Go
noncomputable section
def PF:List AV:=[(.islice [(.int .i64 2),(.int .i64 1),(.int .i64 2)] 0 3 1),(.islice [(.int .i64 0),(.int .i64 2)] 0 2 1)]
def PG:AV:=(.islice [(.int .i64 2),(.int .i64 2)] 0 2 1)
theorem LH:bQ Proofs.Tryz.prog F0 D0 200 124 PF ag.empty (cp false 20 PG)=true:=by kernel_rfl
end
end Go.AM
namespace Go.AM
open Go
noncomputable section
def PI:List AV:=[(.islice [(.int .i64 2),(.int .i64 2),(.int .i64 0)] 0 3 1),(.islice [(.int .i64 0),(.int .i64 2)] 0 2 1)]
def PJ:AV:=(.islice [(.int .i64 2),(.int .i64 0)] 0 2 1)
theorem LI:bQ Proofs.Tryz.prog F0 D0 200 124 PI ag.empty (cp false 20 PJ)=true:=by kernel_rfl
end
end Go.AM
namespace Go.AM
open Go
noncomputable section
def PK:List AV:=[(.islice [(.int .i64 2),(.int .i64 2),(.int .i64 1)] 0 3 1),(.islice [(.int .i64 0),(.int .i64 2)] 0 2 1)]
def PM:AV:=(.islice [(.int .i64 2),(.int .i64 1)] 0 2 1)
theorem LJ:bQ Proofs.Tryz.prog F0 D0 200 124 PK ag.empty (cp false 20 PM)=true:=by kernel_rfl
end
end Go.AM
namespace Go.AM
open Go
noncomputable section
def PN:List AV:=[(.islice [(.int .i64 2),(.int .i64 2),(.int .i64 2)] 0 3 1),(.islice [(.int .i64 0),(.int .i64 2)] 0 2 1)]
def PO:AV:=(.islice [(.int .i64 2),(.int .i64 2)] 0 2 1)
theorem LK:bQ Proofs.Tryz.prog F0 D0 200 124 PN ag.empty (cp false 20 PO)=true:=by kernel_rfl
end
end Go.AM
namespace Go.AM
open Go
noncomputable section
def PR:List AV:=[(.str [80]),(.islice [(.int .i64 0),(.int .i64 1)] 0 2 1)]
def PS:AV:=(.str [80,47,0,1])
theorem LL:bQ Proofs.Tryz.prog F0 D0 200 71 PR ag.empty (cp true 20 PS)=true:=by kernel_rfl
end
end Go.AM
namespace Go.AM
open Go
noncomputable section
def PT:List AV:=[(.str [80]),(.islice [(.int .i64 1),(.int .i64 2)] 0 2 1)]
def PU:AV:=(.str [80,47,1,2])
theorem LM:bQ Proofs.Tryz.prog F0 D0 200 71 PT ag.empty (cp true 20 PU)=true:=by kernel_rfl
end
end Go.AM
namespace Go.AM
open Go
noncomputable section
def PV:List AV:=[(.str [80]),(.islice [(.int .i64 0),(.int .i64 2)] 0 2 1)]
def PW:AV:=(.str [80,47,0,2])
theorem LN:bQ Proofs.Tryz.prog F0 D0 200 71 PV ag.empty (cp true 20 PW)=true:=by kernel_rfl
end
end Go.AM
namespace Go.AM
open Go
noncomputable section
def PX:List AV:=[(.islice [(.int .i64 0),(.int .i64 2),(.int .i64 1)] 0 3 1),(.islice [(.int .i64 0),(.int .i64 1)] 0 2 1)]
def PY:AV:=(.islice [(.int .i64 0),(.int .i64 2)] 0 2 1)
theorem LO:bQ Proofs.Tryz.prog F0 D0 200 124 PX ag.empty (cp true 20 PY)=true:=by kernel_rfl
end
end Go.AM
namespace Go.AM
open Go
noncomputable section
def PZ:List AV:=[(.islice [(.int .i64 0),(.int .i64 2),(.int .i64 1)] 0 3 1),(.islice [(.int .i64 0),(.int .i64 2)] 0 2 1)]
def P0:AV:=(.islice [(.int .i64 0),(.int .i64 1)] 0 2 1)
theorem LP:bQ Proofs.Tryz.prog F0 D0 200 124 PZ ag.empty (cp true 20 P0)=true:=by kernel_rfl
end
end Go.AM
namespace Go.AM
open Go
noncomputable section
def P4:List AV:=[(.islice [(.int .i64 0),(.int .i64 2),(.int .i64 1)] 0 3 1),(.islice [(.int .i64 2),(.int .i64 1)] 0 2 1)]
def P7:AV:=(.islice [(.int .i64 1),(.int .i64 2)] 0 2 1)
theorem LQ:bQ Proofs.Tryz.prog F0 D0 200 124 P4 ag.empty (cp true 20 P7)=true:=by kernel_rfl
end
end Go.AM
namespace Go.AM
open Go
noncomputable section
def P8:List AV:=[(.islice [(.int .i64 1),(.int .i64 2)] 0 2 1),(.islice [(.int .i64 0),(.int .i64 1)] 0 2 1)]
def P9:AV:=(.islice [(.int .i64 1),(.int .i64 2)] 0 2 1)
theorem LR:bQ Proofs.Tryz.prog F0 D0 200 124 P8 ag.empty (cp true 20 P9)=true:=by kernel_rfl
end
end Go.AM
namespace Go.AM
open Go
noncomputable section
def F1:tL:=fun x=>if x=146 then some (iQ (fW Rw Rx) (iQ (fW Ry Rz) (iQ (fW RA RB) (iQ (fW RC RE) (iQ (fW RF RG) (iQ (fW RH RI) (iQ (fW RJ RK) (iQ (fW RL RM) (iQ (fW RN RO) (iQ (fW RP RQ) (fW Oa Ob))))))))))) else if x=88 then some (fW Oc Od) else if x=107 then some (fW Oe Of) else if x=124 then some (iQ (dI 20 Og Oh) (iQ (dI 20 Oi Oj) (iQ (dI 20 Ol Om) (iQ (dI 20 On Oo) (iQ (dI 20 Oq Ot) (iQ (dI 20 Ou Ov) (iQ (dI 20 Ow Ox) (iQ (dI 20 Oy Oz) (iQ (dI 20 OA OC) (iQ (dI 20 OD OE) (iQ (dI 20 OF OG) (iQ (dI 20 OH OI) (iQ (dI 20 OJ OK) (iQ (dI 20 OL OM) (iQ (dI 20 ON OO) (iQ (dI 20 OP OQ) (iQ (dI 20 OR OS) (iQ (dI 20 OT OU) (iQ (dI 20 OV OW) (iQ (dI 20 OX OY) (iQ (dI 20 OZ O0) (iQ (dI 20 O1 O2) (iQ (dI 20 O3 O4) (iQ (dI 20 O5 O6) (iQ (dI 20 O7 O8) (iQ (dI 20 O9 Pa) (iQ (dI 20 Pb Pc) (iQ (dI 20 Pd Pe) (iQ (dI 20 Pf Pg) (iQ (dI 20 Ph Pj) (iQ (dI 20 Pk Pm) (iQ (dI 20 Pn Po) (iQ (dI 20 Pp Pq) (iQ (dI 20 Pr Pt) (iQ (dI 20 Pu Pv) (iQ (dI 20 Pw Px) (iQ (dI 20 Py Pz) (iQ (dI 20 PA PC) (iQ (dI 20 PD PE) (iQ (dI 20 PF PG) (iQ (dI 20 PI PJ) (iQ (dI 20 PK PM) (iQ (dI 20 PN PO) (iQ (fW PX PY) (iQ (fW PZ P0) (iQ (fW P4 P7) (fW P8 P9))))))))))))))))))))))))))))))))))))))))))))))) else if x=71 then some (iQ (fW PR PS) (iQ (fW PT PU) (fW PV PW))) else F0 x
theorem Ei:iP Proofs.Tryz.prog F1:=by
 have hs:=iX mixed ug qc 200
 intro f g hg args h K hK
 unfold F1 at hg
 split at hg
 ·rename_i e
  subst e
  cases hg
  rcases cj hK with hK|hK
  ·exact cm hs (by kernel_rfl) No args h K hK
  rcases cj hK with hK|hK
  ·exact cm hs (by kernel_rfl) Np args h K hK
  rcases cj hK with hK|hK
  ·exact cm hs (by kernel_rfl) Nq args h K hK
  rcases cj hK with hK|hK
  ·exact cm hs (by kernel_rfl) Nr args h K hK
  rcases cj hK with hK|hK
  ·exact cm hs (by kernel_rfl) Ns args h K hK
  rcases cj hK with hK|hK
  ·exact cm hs (by kernel_rfl) Nt args h K hK
  rcases cj hK with hK|hK
  ·exact cm hs (by kernel_rfl) Nu args h K hK
  rcases cj hK with hK|hK
  ·exact cm hs (by kernel_rfl) Nv args h K hK
  rcases cj hK with hK|hK
  ·exact cm hs (by kernel_rfl) Nw args h K hK
  rcases cj hK with hK|hK
  ·exact cm hs (by kernel_rfl) Nx args h K hK
  exact cm hs (by kernel_rfl) KQ args h K hK
 split at hg
 ·rename_i e
  subst e
  cases hg
  exact cm hs (by kernel_rfl) KR args h K hK
 split at hg
 ·rename_i e
  subst e
  cases hg
  exact cm hs (by kernel_rfl) KS args h K hK
 split at hg
 ·rename_i e
  subst e
  cases hg
  rcases cj hK with hK|hK
  ·exact bh hs KT args h K hK
  rcases cj hK with hK|hK
  ·exact bh hs KU args h K hK
  rcases cj hK with hK|hK
  ·exact bh hs KV args h K hK
  rcases cj hK with hK|hK
  ·exact bh hs KW args h K hK
  rcases cj hK with hK|hK
  ·exact bh hs KX args h K hK
  rcases cj hK with hK|hK
  ·exact bh hs KY args h K hK
  rcases cj hK with hK|hK
  ·exact bh hs KZ args h K hK
  rcases cj hK with hK|hK
  ·exact bh hs K4 args h K hK
  rcases cj hK with hK|hK
  ·exact bh hs K5 args h K hK
  rcases cj hK with hK|hK
  ·exact bh hs K6 args h K hK
  rcases cj hK with hK|hK
  ·exact bh hs K7 args h K hK
  rcases cj hK with hK|hK
  ·exact bh hs K8 args h K hK
  rcases cj hK with hK|hK
  ·exact bh hs K9 args h K hK
  rcases cj hK with hK|hK
  ·exact bh hs Lc args h K hK
  rcases cj hK with hK|hK
  ·exact bh hs Ld args h K hK
  rcases cj hK with hK|hK
  ·exact bh hs Le args h K hK
  rcases cj hK with hK|hK
  ·exact bh hs Lf args h K hK
  rcases cj hK with hK|hK
  ·exact bh hs Lg args h K hK
  rcases cj hK with hK|hK
  ·exact bh hs Lh args h K hK
  rcases cj hK with hK|hK
  ·exact bh hs Li args h K hK
  rcases cj hK with hK|hK
  ·exact bh hs Lj args h K hK
  rcases cj hK with hK|hK
  ·exact bh hs Ll args h K hK
  rcases cj hK with hK|hK
  ·exact bh hs Lm args h K hK
  rcases cj hK with hK|hK
  ·exact bh hs Ln args h K hK
  rcases cj hK with hK|hK
  ·exact bh hs Lo args h K hK
  rcases cj hK with hK|hK
  ·exact bh hs Lq args h K hK
  rcases cj hK with hK|hK
  ·exact bh hs Lr args h K hK
  rcases cj hK with hK|hK
  ·exact bh hs Ls args h K hK
  rcases cj hK with hK|hK
  ·exact bh hs Lt args h K hK
  rcases cj hK with hK|hK
  ·exact bh hs Lu args h K hK
  rcases cj hK with hK|hK
  ·exact bh hs Lw args h K hK
  rcases cj hK with hK|hK
  ·exact bh hs Lx args h K hK
  rcases cj hK with hK|hK
  ·exact bh hs Lz args h K hK
  rcases cj hK with hK|hK
  ·exact bh hs LA args h K hK
  rcases cj hK with hK|hK
  ·exact bh hs LB args h K hK
  rcases cj hK with hK|hK
  ·exact bh hs LC args h K hK
  rcases cj hK with hK|hK
  ·exact bh hs LD args h K hK
  rcases cj hK with hK|hK
  ·exact bh hs LF args h K hK
  rcases cj hK with hK|hK
  ·exact bh hs LG args h K hK
  rcases cj hK with hK|hK
  ·exact bh hs LH args h K hK
  rcases cj hK with hK|hK
  ·exact bh hs LI args h K hK
  rcases cj hK with hK|hK
  ·exact bh hs LJ args h K hK
  rcases cj hK with hK|hK
  ·exact bh hs LK args h K hK
  rcases cj hK with hK|hK
  ·exact cm hs (by kernel_rfl) LO args h K hK
  rcases cj hK with hK|hK
  ·exact cm hs (by kernel_rfl) LP args h K hK
  rcases cj hK with hK|hK
  ·exact cm hs (by kernel_rfl) LQ args h K hK
  exact cm hs (by kernel_rfl) LR args h K hK
 split at hg
 ·rename_i e
  subst e
  cases hg
  rcases cj hK with hK|hK
  ·exact cm hs (by kernel_rfl) LL args h K hK
  rcases cj hK with hK|hK
  ·exact cm hs (by kernel_rfl) LM args h K hK
  exact cm hs (by kernel_rfl) LN args h K hK
 exact ug f g hg args h K hK
end
end Go.AM
namespace Go.AM
open Go
noncomputable section
def Qa:List AV:=[(.agg [(.str [80]),(.islice [(.str [120]),(.str [121])] 0 2 1)])]
def Qb:AV:=(.bool true)
theorem LS:bQ Proofs.Tryz.prog F1 D0 200 130 Qa ag.empty (cp false 20 Qb)=true:=by kernel_rfl
end
end Go.AM
namespace Go.AM
open Go
noncomputable section
def Qc:List AV:=[(.agg [(.str [80]),(.islice [(.str [120]),(.str [121])] 0 2 1),(.islice [(.int .i64 0),(.bool false),(.str [69]),(.islice [(.str [120]),(.str [121])] 0 2 1)] 0 1 4)])]
def Qd:AV:=(.islice [(.str [120]),(.str [121])] 0 2 1)
theorem LU:bQ Proofs.Tryz.prog F1 D0 200 108 Qc ag.empty (cp false 20 Qd)=true:=by kernel_rfl
end
end Go.AM
namespace Go.AM
open Go
noncomputable section
def Qe:List AV:=[(.agg [(.int .i64 0),(.bool false),(.str [69]),(.islice [(.str [120]),(.str [121])] 0 2 1)])]
def Qf:AV:=(.bool true)
theorem LV:bQ Proofs.Tryz.prog F1 D0 200 132 Qe ag.empty (cp false 20 Qf)=true:=by kernel_rfl
end
end Go.AM
namespace Go.AM
open Go
noncomputable section
def Qg:List AV:=[(.agg [(.int .i64 0),(.bool false),(.str [69]),(.islice [(.str [120]),(.str [122])] 0 2 1)])]
def Qh:AV:=(.bool true)
theorem LW:bQ Proofs.Tryz.prog F1 D0 200 132 Qg ag.empty (cp false 20 Qh)=true:=by kernel_rfl
end
end Go.AM