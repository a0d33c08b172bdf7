/- Parts of a proof, merged out of smaller texts: the abstract machine and what functions do. Conditions: none. -/
import Derived.Test.YtmkffehchicgaaaGreatLe3
import Derived.Test.YtmkffehchicgaaaGreatLe8
import Derived.Test.YtmkffehchicgaaaGreatLe9
import Derived.Test.YtmkffehchicgaaaGreatLe10
import Derived.Test.YtmkffehchicgaaaGreatLe11
import Derived.KernelRfl
set_option linter.unusedVariables false
namespace Go.Proofs
open Go.RowKit Go.Maps Go.Sort Go.Shelf
theorem Tryz.GJ(m:Nat):AnyZ.SortsIn Tryz.prog Tryz.tK Fence.wide m:=
 ⟨fun blk off cap ss W hH hblk hsz=>callsIn_wide.2 (AnyM.slices_Sort_string Tryz.Gr blk off cap ss W hH hblk hsz),
  fun p cap W=>callsIn_wide.2 (AnyM.slices_Sort_string_none Tryz.Gr p cap W)⟩
theorem Tryz.DV:AM.BH Tryz.prog 50 114 100:=fun mb W=>callsIn_wide.1 (AnyZ.keys_in Tryz.Fg Fence.wide 5 trivial rfl mb W)
set_option maxHeartbeats 1000000 in
theorem Tryz.AJ:AM.wH Tryz.prog 49 114 9:=by
 refine ⟨fun Bm b nn D0 w h1 h2 hown hmax hbytes=>(callsIn_wide (n:=5)).1 ?_,fun Bm w h1 h2=>?_⟩
 ·have hseq:SeqGives Fence.wide 2 Tryz.prog 114 #[.pointer (some ⟨Bm,0,none⟩)] encStr (fun ss=>ss.Perm (strKeys D0)) (Maps.size D0) w:=
   AnyZ.keys_gives (ρ:=Tryz.sr) { Tryz.Fg with } Fence.wide _ trivial rfl (by omega) Bm b nn D0 w h1 h2 hown
  exact AnyZ.sorted_in Tryz.Dp Fence.wide 5 trivial trivial trivial trivial rfl (by omega) (Tryz.GJ _) (enters_of Tryz.func113 (by kernel_rfl) rfl) 114 #[.pointer (some ⟨Bm,0,none⟩)] trivial (enters_of Tryz.func114 (by kernel_rfl) rfl) _ _ hmax hbytes w hseq
 ·have hseq:SeqGives Fence.wide 2 Tryz.prog 114 #[.pointer (some ⟨Bm,0,none⟩)] encStr (fun ss:List (List UInt8)=>ss = []) 0 w:=
   AnyZ.keys_gives_nil (ρ:=Tryz.sr) { Tryz.Fg with } Fence.wide _ trivial rfl Bm w h1 h2
  refine Calls.mono ((callsIn_wide (n:=5)).1 (AnyZ.sorted_in Tryz.Dp Fence.wide 5 trivial trivial trivial trivial rfl (by omega) (Tryz.GJ _) (enters_of Tryz.func113 (by kernel_rfl) rfl) 114 #[.pointer (some ⟨Bm,0,none⟩)] trivial (enters_of Tryz.func114 (by kernel_rfl) rfl) _ 0 (Nat.zero_le _) (by omega) w hseq)) fun e w' hR=>?_
  obtain ⟨v,ss,rfl,s1,s2,s3,s4⟩:=hR
  exact ⟨by rw [s3.2 s1],s4⟩
end Go.Proofs
namespace Go.AM
open Go Go.Proofs
noncomputable section
theorem mixed:Tryz.prog.follows .mixedOrders=true:=by kernel_rfl
noncomputable def NF:Code→List Oper
 |.seq (.region _ ops _) _=>ops.toList
 |_=>[]
noncomputable def QJ:Code→Nat
 |.seq (.region id _ _) _=>id
 |_=>0
noncomputable def Ja:List Oper→Oper
 |o :: _=>o
 |[]=>default
noncomputable def QK:Op→Array TypeId
 |.call c=>c.argTypes
 |_=>#[]
def F0:tJ:=fun f=>if f=50 then some (GG 114) else if f=49 then some (ru 114) else none
theorem Jb:Enters Tryz.prog 50:=⟨_,_,Tryz.func50,rfl,by decide⟩
theorem Jc:Enters Tryz.prog 49:=⟨_,_,Tryz.func49,rfl,by decide⟩
theorem ue:iN Tryz.prog F0:=by
 intro f g hg args h K hK
 unfold F0 at hg
 split at hg
 ·rename_i e;subst e;cases hg;exact DQ Jb Tryz.DV args h K hK
 split at hg
 ·rename_i e;subst e;cases hg
  exact AI Jc (by kernel_rfl) Tryz.AJ args h K hK
 ·cases hg
noncomputable def uf:List Oper:=NF (aj Tryz.f97)
noncomputable def BK:Code:=partOf (aj Tryz.f97) [1]
def D0:m7:=fun f=>if f=97 then some (fun args pan h K=>Nat.ble args.length 2&&FB Tryz.prog 10 5 uf BK args pan h K) else none
theorem HC:GF Tryz.prog 97 10 5 uf BK 2:=⟨⟨Tryz.f97,QJ (aj Tryz.f97),Ja uf,QK (Ja uf).op,Tryz.func97,by kernel_rfl,by kernel_rfl,by decide,by kernel_rfl,by decide,by decide,by kernel_rfl,by kernel_rfl,by kernel_rfl,by kernel_rfl⟩⟩
theorem pW:yV Tryz.prog D0:=by
 intro f g hg
 unfold D0 at hg
 split at hg
 ·rename_i e;subst e;cases hg
  refine ⟨⟨_,_,Tryz.func97,rfl,by decide⟩,fun args pan h K hh w0 μ w vs pv h1 h2 h3=>?_⟩
  simp only [Bool.and_eq_true] at hh
  exact (CF mixed HC (Nat.le_of_ble_eq_true hh.1) hh.2).2 w0 μ w vs pv h1 h2 h3
 cases hg
end
end Go.AM
namespace Go.AM
open Go Go.Proofs
noncomputable section
noncomputable def F.dO.L0:Code:=partOf (aj Tryz.f116) [1,1,0,1,0,0]
noncomputable def F.dO.bY(K:Out→ag→Bool):AX→St→Bool:=(aU 0 (cB false (aq Tryz.prog (ah Tryz.prog) (partOf (aj Tryz.f116) [1,1,1])) (aJ Tryz.prog dx Tryz.f116.results.toList K)))
theorem F.dO.aN{e:Env}{h:ag}{K:AX→St→Bool}:aq Tryz.prog (ah Tryz.prog) F.dO.L0 ⟨e,40,[],h⟩ K=(af (bx .str (e 0) h) fun x14=>af (aA .lss (e 3) x14) fun x15=>ax x15 (af (iF (e 0) (e 3)) fun x16=>ah Tryz.prog 163 [x16] h (br (fun x17 h18=>af (iI .not x17) fun x21=>ax x21 (af (iF (e 0) (e 3)) fun x22=>ah Tryz.prog 165 [x22] h18 (br (fun x23 h24=>af (iI .not x23) fun x27=>ax x27 (K .ret ⟨(aa (aa (aa (aa (aa (aa (aa (aa (aa (aa (aa (aa (aa (aa (aa (aa (aa (aa (aa (aa (aa (aa e 22 (e 3)) 23 (e 0)) 24 x14) 25 x15) 28 (e 0)) 29 (e 3)) 30 x16) 31 x17) 32 x21) 33 x21) 33 (.bool true)) 34 (e 0)) 33 (.bool true)) 35 (e 3)) 33 (.bool true)) 36 x22) 33 (.bool true)) 37 x23) 33 (.bool true)) 38 x27) 39 x27) 2 (.bool false)),40,[],h24⟩) (af (aA .add (e 3) (.int .i64 1)) fun x28=>K .normal ⟨(aa (aa (aa (aa (aa (aa (aa (aa (aa (aa (aa (aa (aa (aa (aa (aa (aa (aa (aa (aa (aa (aa (aa (aa e 22 (e 3)) 23 (e 0)) 24 x14) 25 x15) 28 (e 0)) 29 (e 3)) 30 x16) 31 x17) 32 x21) 33 x21) 33 (.bool true)) 34 (e 0)) 33 (.bool true)) 35 (e 3)) 33 (.bool true)) 36 x22) 33 (.bool true)) 37 x23) 33 (.bool true)) 38 x27) 39 x27) 26 (e 3)) 27 x28) 3 x28),40,[],h24⟩)) (fun v25 h26=>K (.panic v25) ⟨(aa (aa (aa (aa (aa (aa (aa (aa (aa (aa (aa (aa (aa (aa (aa (aa (aa e 22 (e 3)) 23 (e 0)) 24 x14) 25 x15) 28 (e 0)) 29 (e 3)) 30 x16) 31 x17) 32 x21) 33 x21) 33 (.bool true)) 34 (e 0)) 33 (.bool true)) 35 (e 3)) 33 (.bool true)) 36 x22) 33 (.bool true)),40,[],h26⟩))) (af (aA .add (e 3) (.int .i64 1)) fun x29=>K .normal ⟨(aa (aa (aa (aa (aa (aa (aa (aa (aa (aa (aa (aa (aa (aa (aa (aa (aa (aa (aa (aa (aa (aa (aa (aa e 22 (e 3)) 23 (e 0)) 24 x14) 25 x15) 28 (e 0)) 29 (e 3)) 30 x16) 31 x17) 32 x21) 33 x21) 33 (.bool false)) 34 bK) 33 (.bool false)) 35 bK) 33 (.bool false)) 36 bK) 33 (.bool false)) 37 bK) 33 (.bool false)) 38 bK) 39 (.bool false)) 26 (e 3)) 27 x29) 3 x29),40,[],h18⟩)) (fun v19 h20=>K (.panic v19) ⟨(aa (aa (aa (aa (aa (aa (aa e 22 (e 3)) 23 (e 0)) 24 x14) 25 x15) 28 (e 0)) 29 (e 3)) 30 x16),40,[],h20⟩))) (K (.exit 0) ⟨(aa (aa (aa (aa e 22 (e 3)) 23 (e 0)) 24 x14) 25 x15),40,[],h⟩)):=by kernel_rfl
theorem F.dO.aD{e:Env}{h:ag}{K:Out→ag→Bool}:F.dO.bY K (.exit 0) ⟨e,40,[],h⟩=(K (.ret (.bool true)) h):=by kernel_rfl
theorem F.dO.bq{e:Env}{h:ag}{K:Out→ag→Bool}:F.dO.bY K .ret ⟨e,40,[],h⟩=(K (.ret (e 2)) h):=by kernel_rfl
theorem F.AL{a0:AV}{h:ag}{K:Out→ag→Bool}:aq Tryz.prog (ah Tryz.prog) (aj Tryz.f116) ⟨aF [a0],40,[],h⟩ (aJ Tryz.prog dx Tryz.f116.results.toList K)=(af (bx .str a0 h) fun x0=>af (aA .lss x0 (.int .i64 1)) fun x1=>ax x1 (K (.ret (.bool false)) h) (af (bx .str a0 h) fun x2=>af (aA .gtr x2 (.int .i64 12)) fun x3=>ax x3 (K (.ret (.bool false)) h) (af (iF a0 (.int .i64 0)) fun x4=>ah Tryz.prog 163 [x4] h (br (fun x5 h6=>af (iI .not x5) fun x9=>ax x9 (K (.ret (.bool false)) h6) (ah Tryz.prog 164 [a0] h6 (br (fun x10 h11=>ax x10 (K (.ret (.bool false)) h11) (aT (aq Tryz.prog (ah Tryz.prog) F.dO.L0) ⟨(aa (aa (aa (aa (aa (aa (aa (aa (aa (aa (aa (aa (aa (aa (aa (aa (aa (aa (aa (aa (aa (aa (aa (aa (aa (aa (aa (aa (aa (aF [a0]) 2 (.bool false)) 4 a0) 5 x0) 6 x1) 7 x1) 7 (.bool false)) 8 a0) 7 (.bool false)) 9 x2) 7 (.bool false)) 10 x3) 11 x3) 12 x3) 12 (.bool false)) 13 a0) 12 (.bool false)) 14 x4) 12 (.bool false)) 15 x5) 12 (.bool false)) 16 x9) 17 x9) 18 x9) 18 (.bool false)) 19 a0) 18 (.bool false)) 20 x10) 21 x10) 3 (.int .i64 1)),40,[],h11⟩ (F.dO.bY K))) (fun v12 h13=>K (.panic v12) h13)))) (fun v7 h8=>K (.panic v7) h8))))):=by kernel_rfl
theorem F.y9{a0:AV}{h:ag}{K:Out→ag→Bool}(hh:(af (bx .str a0 h) fun x0=>af (aA .lss x0 (.int .i64 1)) fun x1=>ax x1 (K (.ret (.bool false)) h) (af (bx .str a0 h) fun x2=>af (aA .gtr x2 (.int .i64 12)) fun x3=>ax x3 (K (.ret (.bool false)) h) (af (iF a0 (.int .i64 0)) fun x4=>ah Tryz.prog 163 [x4] h (br (fun x5 h6=>af (iI .not x5) fun x9=>ax x9 (K (.ret (.bool false)) h6) (ah Tryz.prog 164 [a0] h6 (br (fun x10 h11=>ax x10 (K (.ret (.bool false)) h11) (aT (aq Tryz.prog (ah Tryz.prog) F.dO.L0) ⟨(aa (aa (aa (aa (aa (aa (aa (aa (aa (aa (aa (aa (aa (aa (aa (aa (aa (aa (aa (aa (aa (aa (aa (aa (aa (aa (aa (aa (aa (aF [a0]) 2 (.bool false)) 4 a0) 5 x0) 6 x1) 7 x1) 7 (.bool false)) 8 a0) 7 (.bool false)) 9 x2) 7 (.bool false)) 10 x3) 11 x3) 12 x3) 12 (.bool false)) 13 a0) 12 (.bool false)) 14 x4) 12 (.bool false)) 15 x5) 12 (.bool false)) 16 x9) 17 x9) 18 x9) 18 (.bool false)) 19 a0) 18 (.bool false)) 20 x10) 21 x10) 3 (.int .i64 1)),40,[],h11⟩ (F.dO.bY K))) (fun v12 h13=>K (.panic v12) h13)))) (fun v7 h8=>K (.panic v7) h8)))))=true):Sem Tryz.prog 116 [a0] h K:=
 aQ mixed (aL _) Tryz.func116 (c:=aj Tryz.f116) rfl (by decide) (of_decide_eq_true (by kernel_rfl)) (F.AL.trans hh)
noncomputable def F.dz.L0:Code:=partOf (aj Tryz.f135) [1,1,0,1,0,0]
noncomputable def F.dz.bY(K:Out→ag→Bool):AX→St→Bool:=(aU 0 (cB false (aq Tryz.prog (ah Tryz.prog) (partOf (aj Tryz.f135) [1,1,1])) (aJ Tryz.prog dx Tryz.f135.results.toList K)))
theorem F.dz.aN{e:Env}{h:ag}{K:AX→St→Bool}:aq Tryz.prog (ah Tryz.prog) F.dz.L0 ⟨e,39,[],h⟩ K=(af (aA .lss (e 23) (e 22)) fun x14=>ax x14 (af (iF (e 0) (e 23)) fun x15=>ah Tryz.prog 170 [x15] h (br (fun x16 h17=>af (iI .not x16) fun x20=>ax x20 (af (iF (e 0) (e 23)) fun x21=>ah Tryz.prog 172 [x21] h17 (br (fun x22 h23=>af (iI .not x22) fun x26=>ax x26 (K .ret ⟨(aa (aa (aa (aa (aa (aa (aa (aa (aa (aa (aa (aa (aa (aa (aa (aa (aa (aa (aa (aa (aa e 24 x14) 25 (e 23)) 3 (e 23)) 26 (e 0)) 27 (e 23)) 28 x15) 29 x16) 30 x20) 31 x20) 31 (.bool true)) 32 (e 0)) 31 (.bool true)) 33 (e 23)) 31 (.bool true)) 34 x21) 31 (.bool true)) 35 x22) 31 (.bool true)) 36 x26) 37 x26) 2 (.bool false)),39,[],h23⟩) (af (aA .add (e 23) (.int .i64 1)) fun x27=>K .normal ⟨(aa (aa (aa (aa (aa (aa (aa (aa (aa (aa (aa (aa (aa (aa (aa (aa (aa (aa (aa (aa (aa (aa e 24 x14) 25 (e 23)) 3 (e 23)) 26 (e 0)) 27 (e 23)) 28 x15) 29 x16) 30 x20) 31 x20) 31 (.bool true)) 32 (e 0)) 31 (.bool true)) 33 (e 23)) 31 (.bool true)) 34 x21) 31 (.bool true)) 35 x22) 31 (.bool true)) 36 x26) 37 x26) 38 x27) 23 x27),39,[],h23⟩)) (fun v24 h25=>K (.panic v24) ⟨(aa (aa (aa (aa (aa (aa (aa (aa (aa (aa (aa (aa (aa (aa (aa (aa e 24 x14) 25 (e 23)) 3 (e 23)) 26 (e 0)) 27 (e 23)) 28 x15) 29 x16) 30 x20) 31 x20) 31 (.bool true)) 32 (e 0)) 31 (.bool true)) 33 (e 23)) 31 (.bool true)) 34 x21) 31 (.bool true)),39,[],h25⟩))) (af (aA .add (e 23) (.int .i64 1)) fun x28=>K .normal ⟨(aa (aa (aa (aa (aa (aa (aa (aa (aa (aa (aa (aa (aa (aa (aa (aa (aa (aa (aa (aa (aa (aa e 24 x14) 25 (e 23)) 3 (e 23)) 26 (e 0)) 27 (e 23)) 28 x15) 29 x16) 30 x20) 31 x20) 31 (.bool false)) 32 bK) 31 (.bool false)) 33 bK) 31 (.bool false)) 34 bK) 31 (.bool false)) 35 bK) 31 (.bool false)) 36 bK) 37 (.bool false)) 38 x28) 23 x28),39,[],h17⟩)) (fun v18 h19=>K (.panic v18) ⟨(aa (aa (aa (aa (aa (aa e 24 x14) 25 (e 23)) 3 (e 23)) 26 (e 0)) 27 (e 23)) 28 x15),39,[],h19⟩))) (K (.exit 0) ⟨(aa e 24 x14),39,[],h⟩)):=by kernel_rfl
theorem F.dz.aD{e:Env}{h:ag}{K:Out→ag→Bool}:F.dz.bY K (.exit 0) ⟨e,39,[],h⟩=(K (.ret (.bool true)) h):=by kernel_rfl
theorem F.dz.bq{e:Env}{h:ag}{K:Out→ag→Bool}:F.dz.bY K .ret ⟨e,39,[],h⟩=(K (.ret (e 2)) h):=by kernel_rfl
theorem F.AN{a0:AV}{h:ag}{K:Out→ag→Bool}:aq Tryz.prog (ah Tryz.prog) (aj Tryz.f135) ⟨aF [a0],39,[],h⟩ (aJ Tryz.prog dx Tryz.f135.results.toList K)=(af (fH .string a0 (.str [])) fun x0=>ax x0 (K (.ret (.bool false)) h) (af (bx .str a0 h) fun x1=>af (aA .gtr x1 (.int .i64 12)) fun x2=>ax x2 (K (.ret (.bool false)) h) (af (iF a0 (.int .i64 0)) fun x3=>ah Tryz.prog 170 [x3] h (br (fun x4 h5=>af (iI .not x4) fun x8=>ax x8 (K (.ret (.bool false)) h5) (ah Tryz.prog 171 [a0] h5 (br (fun x9 h10=>ax x9 (K (.ret (.bool false)) h10) (af (bx .str a0 h10) fun x13=>aT (aq Tryz.prog (ah Tryz.prog) F.dz.L0) ⟨(aa (aa (aa (aa (aa (aa (aa (aa (aa (aa (aa (aa (aa (aa (aa (aa (aa (aa (aa (aa (aa (aa (aa (aa (aa (aa (aa (aa (aa (aa (aF [a0]) 2 (.bool false)) 4 a0) 5 x0) 6 x0) 6 (.bool false)) 7 a0) 6 (.bool false)) 8 x1) 6 (.bool false)) 9 x2) 10 x2) 11 x2) 11 (.bool false)) 12 a0) 11 (.bool false)) 13 x3) 11 (.bool false)) 14 x4) 11 (.bool false)) 15 x8) 16 x8) 17 x8) 17 (.bool false)) 18 a0) 17 (.bool false)) 19 x9) 20 x9) 21 a0) 22 x13) 23 (.int .i64 0)),39,[],h10⟩ (F.dz.bY K))) (fun v11 h12=>K (.panic v11) h12)))) (fun v6 h7=>K (.panic v6) h7))))):=by kernel_rfl
theorem F.za{a0:AV}{h:ag}{K:Out→ag→Bool}(hh:(af (fH .string a0 (.str [])) fun x0=>ax x0 (K (.ret (.bool false)) h) (af (bx .str a0 h) fun x1=>af (aA .gtr x1 (.int .i64 12)) fun x2=>ax x2 (K (.ret (.bool false)) h) (af (iF a0 (.int .i64 0)) fun x3=>ah Tryz.prog 170 [x3] h (br (fun x4 h5=>af (iI .not x4) fun x8=>ax x8 (K (.ret (.bool false)) h5) (ah Tryz.prog 171 [a0] h5 (br (fun x9 h10=>ax x9 (K (.ret (.bool false)) h10) (af (bx .str a0 h10) fun x13=>aT (aq Tryz.prog (ah Tryz.prog) F.dz.L0) ⟨(aa (aa (aa (aa (aa (aa (aa (aa (aa (aa (aa (aa (aa (aa (aa (aa (aa (aa (aa (aa (aa (aa (aa (aa (aa (aa (aa (aa (aa (aa (aF [a0]) 2 (.bool false)) 4 a0) 5 x0) 6 x0) 6 (.bool false)) 7 a0) 6 (.bool false)) 8 x1) 6 (.bool false)) 9 x2) 10 x2) 11 x2) 11 (.bool false)) 12 a0) 11 (.bool false)) 13 x3) 11 (.bool false)) 14 x4) 11 (.bool false)) 15 x8) 16 x8) 17 x8) 17 (.bool false)) 18 a0) 17 (.bool false)) 19 x9) 20 x9) 21 a0) 22 x13) 23 (.int .i64 0)),39,[],h10⟩ (F.dz.bY K))) (fun v11 h12=>K (.panic v11) h12)))) (fun v6 h7=>K (.panic v6) h7)))))=true):Sem Tryz.prog 135 [a0] h K:=
 aQ mixed (aL _) Tryz.func135 (c:=aj Tryz.f135) rfl (by decide) (of_decide_eq_true (by kernel_rfl)) (F.AN.trans hh)
theorem F.wZ{a0:AV}{h:ag}{K:Out→ag→Bool}:aq Tryz.prog (ah Tryz.prog) (aj Tryz.f163) ⟨aF [a0],17,[],h⟩ (aJ Tryz.prog dx Tryz.f163.results.toList K)=(af (aA .geq a0 (.int .u8 97)) fun x0=>ax x0 (af (aA .leq a0 (.int .u8 122)) fun x1=>ax x1 (K (.ret (.bool true)) h) (af (aA .geq a0 (.int .u8 65)) fun x2=>ax x2 (af (aA .leq a0 (.int .u8 90)) fun x3=>K (.ret x3) h) (K (.ret (.bool false)) h))) (af (aA .geq a0 (.int .u8 65)) fun x4=>ax x4 (af (aA .leq a0 (.int .u8 90)) fun x5=>K (.ret x5) h) (K (.ret (.bool false)) h))):=by kernel_rfl
theorem F.va{a0:AV}{h:ag}{K:Out→ag→Bool}(hh:(af (aA .geq a0 (.int .u8 97)) fun x0=>ax x0 (af (aA .leq a0 (.int .u8 122)) fun x1=>ax x1 (K (.ret (.bool true)) h) (af (aA .geq a0 (.int .u8 65)) fun x2=>ax x2 (af (aA .leq a0 (.int .u8 90)) fun x3=>K (.ret x3) h) (K (.ret (.bool false)) h))) (af (aA .geq a0 (.int .u8 65)) fun x4=>ax x4 (af (aA .leq a0 (.int .u8 90)) fun x5=>K (.ret x5) h) (K (.ret (.bool false)) h)))=true):Sem Tryz.prog 163 [a0] h K:=
 aQ mixed (aL _) Tryz.func163 (c:=aj Tryz.f163) rfl (by decide) (of_decide_eq_true (by kernel_rfl)) (F.wZ.trans hh)
theorem F.AO{a0:AV}{h:ag}{K:Out→ag→Bool}:aq Tryz.prog (ah Tryz.prog) (aj Tryz.f164) ⟨aF [a0],16,[],h⟩ (aJ Tryz.prog dx Tryz.f164.results.toList K)=(af (fH .string a0 (.str [97,110,100])) fun x0=>ax x0 (ax x0 (K (.ret (.bool true)) h) (K (.ret (.bool false)) h)) (af (fH .string a0 (.str [111,114])) fun x1=>ax x1 (ax x1 (K (.ret (.bool true)) h) (K (.ret (.bool false)) h)) (af (fH .string a0 (.str [110,111,116])) fun x2=>ax x2 (ax x2 (K (.ret (.bool true)) h) (K (.ret (.bool false)) h)) (af (fH .string a0 (.str [115,111,109,101])) fun x3=>ax x3 (ax x3 (K (.ret (.bool true)) h) (K (.ret (.bool false)) h)) (af (fH .string a0 (.str [97,108,108])) fun x4=>ax x4 (ax x4 (K (.ret (.bool true)) h) (K (.ret (.bool false)) h)) (af (fH .string a0 (.str [108,102,112])) fun x5=>ax x5 (ax x5 (K (.ret (.bool true)) h) (K (.ret (.bool false)) h)) (af (fH .string a0 (.str [112,102,112])) fun x6=>ax x6 (ax x6 (K (.ret (.bool true)) h) (K (.ret (.bool false)) h)) (af (fH .string a0 (.str [116,99])) fun x7=>ax x7 (ax x7 (K (.ret (.bool true)) h) (K (.ret (.bool false)) h)) (af (fH .string a0 (.str [101,120,105,115,116,115])) fun x8=>ax x8 (ax x8 (K (.ret (.bool true)) h) (K (.ret (.bool false)) h)) (af (fH .string a0 (.str [116,114,117,101])) fun x9=>ax x9 (ax x9 (K (.ret (.bool true)) h) (K (.ret (.bool false)) h)) (af (fH .string a0 (.str [102,97,108,115,101])) fun x10=>ax x10 (K (.ret (.bool true)) h) (K (.ret (.bool false)) h)))))))))))):=by kernel_rfl
theorem F.zb{a0:AV}{h:ag}{K:Out→ag→Bool}(hh:(af (fH .string a0 (.str [97,110,100])) fun x0=>ax x0 (ax x0 (K (.ret (.bool true)) h) (K (.ret (.bool false)) h)) (af (fH .string a0 (.str [111,114])) fun x1=>ax x1 (ax x1 (K (.ret (.bool true)) h) (K (.ret (.bool false)) h)) (af (fH .string a0 (.str [110,111,116])) fun x2=>ax x2 (ax x2 (K (.ret (.bool true)) h) (K (.ret (.bool false)) h)) (af (fH .string a0 (.str [115,111,109,101])) fun x3=>ax x3 (ax x3 (K (.ret (.bool true)) h) (K (.ret (.bool false)) h)) (af (fH .string a0 (.str [97,108,108])) fun x4=>ax x4 (ax x4 (K (.ret (.bool true)) h) (K (.ret (.bool false)) h)) (af (fH .string a0 (.str [108,102,112])) fun x5=>ax x5 (ax x5 (K (.ret (.bool true)) h) (K (.ret (.bool false)) h)) (af (fH .string a0 (.str [112,102,112])) fun x6=>ax x6 (ax x6 (K (.ret (.bool true)) h) (K (.ret (.bool false)) h)) (af (fH .string a0 (.str [116,99])) fun x7=>ax x7 (ax x7 (K (.ret (.bool true)) h) (K (.ret (.bool false)) h)) (af (fH .string a0 (.str [101,120,105,115,116,115])) fun x8=>ax x8 (ax x8 (K (.ret (.bool true)) h) (K (.ret (.bool false)) h)) (af (fH .string a0 (.str [116,114,117,101])) fun x9=>ax x9 (ax x9 (K (.ret (.bool true)) h) (K (.ret (.bool false)) h)) (af (fH .string a0 (.str [102,97,108,115,101])) fun x10=>ax x10 (K (.ret (.bool true)) h) (K (.ret (.bool false)) h))))))))))))=true):Sem Tryz.prog 164 [a0] h K:=
 aQ mixed (aL _) Tryz.func164 (c:=aj Tryz.f164) rfl (by decide) (of_decide_eq_true (by kernel_rfl)) (F.AO.trans hh)
theorem F.zc{a0:AV}{h:ag}{K:Out→ag→Bool}:aq Tryz.prog (ah Tryz.prog) (aj Tryz.f165) ⟨aF [a0],9,[],h⟩ (aJ Tryz.prog dx Tryz.f165.results.toList K)=(af (aA .geq a0 (.int .u8 48)) fun x0=>ax x0 (af (aA .leq a0 (.int .u8 57)) fun x1=>K (.ret x1) h) (K (.ret (.bool false)) h)):=by kernel_rfl
theorem F.w8{a0:AV}{h:ag}{K:Out→ag→Bool}(hh:(af (aA .geq a0 (.int .u8 48)) fun x0=>ax x0 (af (aA .leq a0 (.int .u8 57)) fun x1=>K (.ret x1) h) (K (.ret (.bool false)) h))=true):Sem Tryz.prog 165 [a0] h K:=
 aQ mixed (aL _) Tryz.func165 (c:=aj Tryz.f165) rfl (by decide) (of_decide_eq_true (by kernel_rfl)) (F.zc.trans hh)
noncomputable def F.cR.L0:Code:=partOf (aj Tryz.f73) [1,0,1,0,0]
noncomputable def F.cR.bY(K:Out→ag→Bool):AX→St→Bool:=(aU 0 (cB false (aq Tryz.prog (ah Tryz.prog) (partOf (aj Tryz.f73) [1,1])) (aJ Tryz.prog dx Tryz.f73.results.toList K)))
theorem F.cR.aN{e:Env}{h:ag}{K:AX→St→Bool}:aq Tryz.prog (ah Tryz.prog) F.cR.L0 ⟨e,18,[],h⟩ K=(af (bx .slice (e 0) h) fun x0=>af (aA .lss (e 5) x0) fun x1=>ax x1 (af (cL 1 (e 0) (e 5)) fun x2=>af (ai none x2 h) fun x3=>af (fH .string x3 (e 1)) fun x4=>ax x4 (K .ret ⟨(aa (aa (aa (aa (aa (aa (aa (aa (aa (aa (aa e 6 (e 5)) 7 (e 0)) 8 x0) 9 x1) 12 (e 0)) 13 (e 5)) 14 x2) 15 x3) 16 (e 1)) 17 x4) 4 (.bool true)),18,[],h⟩) (af (aA .add (e 5) (.int .i64 1)) fun x5=>K .normal ⟨(aa (aa (aa (aa (aa (aa (aa (aa (aa (aa (aa (aa (aa e 6 (e 5)) 7 (e 0)) 8 x0) 9 x1) 12 (e 0)) 13 (e 5)) 14 x2) 15 x3) 16 (e 1)) 17 x4) 10 (e 5)) 11 x5) 5 x5),18,[],h⟩)) (K (.exit 0) ⟨(aa (aa (aa (aa e 6 (e 5)) 7 (e 0)) 8 x0) 9 x1),18,[],h⟩)):=by kernel_rfl
theorem F.cR.aD{e:Env}{h:ag}{K:Out→ag→Bool}:F.cR.bY K (.exit 0) ⟨e,18,[],h⟩=(K (.ret (.bool false)) h):=by kernel_rfl
theorem F.cR.bq{e:Env}{h:ag}{K:Out→ag→Bool}:F.cR.bY K .ret ⟨e,18,[],h⟩=(K (.ret (e 4)) h):=by kernel_rfl
theorem F.ze{a0 a1:AV}{h:ag}{K:Out→ag→Bool}:aq Tryz.prog (ah Tryz.prog) (aj Tryz.f73) ⟨aF [a0,a1],18,[],h⟩ (aJ Tryz.prog dx Tryz.f73.results.toList K)=(aT (aq Tryz.prog (ah Tryz.prog) F.cR.L0) ⟨(aa (aa (aF [a0,a1]) 4 (.bool false)) 5 (.int .i64 0)),18,[],h⟩ (F.cR.bY K)):=by kernel_rfl
theorem F.oS{a0 a1:AV}{h:ag}{K:Out→ag→Bool}(hh:(aT (aq Tryz.prog (ah Tryz.prog) F.cR.L0) ⟨(aa (aa (aF [a0,a1]) 4 (.bool false)) 5 (.int .i64 0)),18,[],h⟩ (F.cR.bY K))=true):Sem Tryz.prog 73 [a0,a1] h K:=
 aQ mixed (aL _) Tryz.func73 (c:=aj Tryz.f73) rfl (by decide) (of_decide_eq_true (by kernel_rfl)) (F.ze.trans hh)
theorem F.xb{a0:AV}{h:ag}{K:Out→ag→Bool}:aq Tryz.prog (ah Tryz.prog) (aj Tryz.f170) ⟨aF [a0],17,[],h⟩ (aJ Tryz.prog dx Tryz.f170.results.toList K)=(af (aA .geq a0 (.int .u8 97)) fun x0=>ax x0 (af (aA .leq a0 (.int .u8 122)) fun x1=>ax x1 (K (.ret (.bool true)) h) (af (aA .geq a0 (.int .u8 65)) fun x2=>ax x2 (af (aA .leq a0 (.int .u8 90)) fun x3=>K (.ret x3) h) (K (.ret (.bool false)) h))) (af (aA .geq a0 (.int .u8 65)) fun x4=>ax x4 (af (aA .leq a0 (.int .u8 90)) fun x5=>K (.ret x5) h) (K (.ret (.bool false)) h))):=by kernel_rfl
theorem F.vb{a0:AV}{h:ag}{K:Out→ag→Bool}(hh:(af (aA .geq a0 (.int .u8 97)) fun x0=>ax x0 (af (aA .leq a0 (.int .u8 122)) fun x1=>ax x1 (K (.ret (.bool true)) h) (af (aA .geq a0 (.int .u8 65)) fun x2=>ax x2 (af (aA .leq a0 (.int .u8 90)) fun x3=>K (.ret x3) h) (K (.ret (.bool false)) h))) (af (aA .geq a0 (.int .u8 65)) fun x4=>ax x4 (af (aA .leq a0 (.int .u8 90)) fun x5=>K (.ret x5) h) (K (.ret (.bool false)) h)))=true):Sem Tryz.prog 170 [a0] h K:=
 aQ mixed (aL _) Tryz.func170 (c:=aj Tryz.f170) rfl (by decide) (of_decide_eq_true (by kernel_rfl)) (F.xb.trans hh)
theorem F.AP{a0:AV}{h:ag}{K:Out→ag→Bool}:aq Tryz.prog (ah Tryz.prog) (aj Tryz.f171) ⟨aF [a0],16,[],h⟩ (aJ Tryz.prog dx Tryz.f171.results.toList K)=(af (fH .string a0 (.str [97,110,100])) fun x0=>ax x0 (ax x0 (K (.ret (.bool true)) h) (K (.ret (.bool false)) h)) (af (fH .string a0 (.str [111,114])) fun x1=>ax x1 (ax x1 (K (.ret (.bool true)) h) (K (.ret (.bool false)) h)) (af (fH .string a0 (.str [110,111,116])) fun x2=>ax x2 (ax x2 (K (.ret (.bool true)) h) (K (.ret (.bool false)) h)) (af (fH .string a0 (.str [115,111,109,101])) fun x3=>ax x3 (ax x3 (K (.ret (.bool true)) h) (K (.ret (.bool false)) h)) (af (fH .string a0 (.str [97,108,108])) fun x4=>ax x4 (ax x4 (K (.ret (.bool true)) h) (K (.ret (.bool false)) h)) (af (fH .string a0 (.str [108,102,112])) fun x5=>ax x5 (ax x5 (K (.ret (.bool true)) h) (K (.ret (.bool false)) h)) (af (fH .string a0 (.str [112,102,112])) fun x6=>ax x6 (ax x6 (K (.ret (.bool true)) h) (K (.ret (.bool false)) h)) (af (fH .string a0 (.str [116,99])) fun x7=>ax x7 (ax x7 (K (.ret (.bool true)) h) (K (.ret (.bool false)) h)) (af (fH .string a0 (.str [101,120,105,115,116,115])) fun x8=>ax x8 (ax x8 (K (.ret (.bool true)) h) (K (.ret (.bool false)) h)) (af (fH .string a0 (.str [116,114,117,101])) fun x9=>ax x9 (ax x9 (K (.ret (.bool true)) h) (K (.ret (.bool false)) h)) (af (fH .string a0 (.str [102,97,108,115,101])) fun x10=>ax x10 (K (.ret (.bool true)) h) (K (.ret (.bool false)) h)))))))))))):=by kernel_rfl
theorem F.zf{a0:AV}{h:ag}{K:Out→ag→Bool}(hh:(af (fH .string a0 (.str [97,110,100])) fun x0=>ax x0 (ax x0 (K (.ret (.bool true)) h) (K (.ret (.bool false)) h)) (af (fH .string a0 (.str [111,114])) fun x1=>ax x1 (ax x1 (K (.ret (.bool true)) h) (K (.ret (.bool false)) h)) (af (fH .string a0 (.str [110,111,116])) fun x2=>ax x2 (ax x2 (K (.ret (.bool true)) h) (K (.ret (.bool false)) h)) (af (fH .string a0 (.str [115,111,109,101])) fun x3=>ax x3 (ax x3 (K (.ret (.bool true)) h) (K (.ret (.bool false)) h)) (af (fH .string a0 (.str [97,108,108])) fun x4=>ax x4 (ax x4 (K (.ret (.bool true)) h) (K (.ret (.bool false)) h)) (af (fH .string a0 (.str [108,102,112])) fun x5=>ax x5 (ax x5 (K (.ret (.bool true)) h) (K (.ret (.bool false)) h)) (af (fH .string a0 (.str [112,102,112])) fun x6=>ax x6 (ax x6 (K (.ret (.bool true)) h) (K (.ret (.bool false)) h)) (af (fH .string a0 (.str [116,99])) fun x7=>ax x7 (ax x7 (K (.ret (.bool true)) h) (K (.ret (.bool false)) h)) (af (fH .string a0 (.str [101,120,105,115,116,115])) fun x8=>ax x8 (ax x8 (K (.ret (.bool true)) h) (K (.ret (.bool false)) h)) (af (fH .string a0 (.str [116,114,117,101])) fun x9=>ax x9 (ax x9 (K (.ret (.bool true)) h) (K (.ret (.bool false)) h)) (af (fH .string a0 (.str [102,97,108,115,101])) fun x10=>ax x10 (K (.ret (.bool true)) h) (K (.ret (.bool false)) h))))))))))))=true):Sem Tryz.prog 171 [a0] h K:=
 aQ mixed (aL _) Tryz.func171 (c:=aj Tryz.f171) rfl (by decide) (of_decide_eq_true (by kernel_rfl)) (F.AP.trans hh)
theorem F.zg{a0:AV}{h:ag}{K:Out→ag→Bool}:aq Tryz.prog (ah Tryz.prog) (aj Tryz.f172) ⟨aF [a0],9,[],h⟩ (aJ Tryz.prog dx Tryz.f172.results.toList K)=(af (aA .geq a0 (.int .u8 48)) fun x0=>ax x0 (af (aA .leq a0 (.int .u8 57)) fun x1=>K (.ret x1) h) (K (.ret (.bool false)) h)):=by kernel_rfl
theorem F.xd{a0:AV}{h:ag}{K:Out→ag→Bool}(hh:(af (aA .geq a0 (.int .u8 48)) fun x0=>ax x0 (af (aA .leq a0 (.int .u8 57)) fun x1=>K (.ret x1) h) (K (.ret (.bool false)) h))=true):Sem Tryz.prog 172 [a0] h K:=
 aQ mixed (aL _) Tryz.func172 (c:=aj Tryz.f172) rfl (by decide) (of_decide_eq_true (by kernel_rfl)) (F.zg.trans hh)
noncomputable def F.di.L0:Code:=partOf (aj Tryz.f35) [1,1,0,1,0,0]
noncomputable def F.di.bY(K:Out→ag→Bool):AX→St→Bool:=(aU 0 (cB false (aq Tryz.prog (ah Tryz.prog) (partOf (aj Tryz.f35) [1,1,1])) (aJ Tryz.prog dx Tryz.f35.results.toList K)))
theorem F.di.aN{e:Env}{h:ag}{K:AX→St→Bool}:aq Tryz.prog (ah Tryz.prog) F.di.L0 ⟨e,26,[],h⟩ K=(af (bx .slice (e 0) h) fun x3=>af (aA .lss (e 5) x3) fun x4=>ax x4 (af (cL 1 (e 0) (e 5)) fun x5=>af (ai none x5 h) fun x6=>af (cL 1 (e 1) (e 5)) fun x7=>af (ai none x7 h) fun x8=>af (lC (.int .i64) x6 x8) fun x9=>ax x9 (K .ret ⟨(aa (aa (aa (aa (aa (aa (aa (aa (aa (aa (aa (aa (aa (aa e 11 (e 5)) 12 (e 0)) 13 x3) 14 x4) 17 (e 0)) 18 (e 5)) 19 x5) 20 x6) 21 (e 1)) 22 (e 5)) 23 x7) 24 x8) 25 x9) 4 (.bool false)),26,[],h⟩) (af (aA .add (e 5) (.int .i64 1)) fun x10=>K .normal ⟨(aa (aa (aa (aa (aa (aa (aa (aa (aa (aa (aa (aa (aa (aa (aa (aa e 11 (e 5)) 12 (e 0)) 13 x3) 14 x4) 17 (e 0)) 18 (e 5)) 19 x5) 20 x6) 21 (e 1)) 22 (e 5)) 23 x7) 24 x8) 25 x9) 15 (e 5)) 16 x10) 5 x10),26,[],h⟩)) (K (.exit 0) ⟨(aa (aa (aa (aa e 11 (e 5)) 12 (e 0)) 13 x3) 14 x4),26,[],h⟩)):=by kernel_rfl
theorem F.di.aD{e:Env}{h:ag}{K:Out→ag→Bool}:F.di.bY K (.exit 0) ⟨e,26,[],h⟩=(K (.ret (.bool true)) h):=by kernel_rfl
theorem F.di.bq{e:Env}{h:ag}{K:Out→ag→Bool}:F.di.bY K .ret ⟨e,26,[],h⟩=(K (.ret (e 4)) h):=by kernel_rfl
theorem F.zh{a0 a1:AV}{h:ag}{K:Out→ag→Bool}:aq Tryz.prog (ah Tryz.prog) (aj Tryz.f35) ⟨aF [a0,a1],26,[],h⟩ (aJ Tryz.prog dx Tryz.f35.results.toList K)=(af (bx .slice a0 h) fun x0=>af (bx .slice a1 h) fun x1=>af (lC (.int .i64) x0 x1) fun x2=>ax x2 (K (.ret (.bool false)) h) (aT (aq Tryz.prog (ah Tryz.prog) F.di.L0) ⟨(aa (aa (aa (aa (aa (aa (aa (aF [a0,a1]) 4 (.bool false)) 6 a0) 7 x0) 8 a1) 9 x1) 10 x2) 5 (.int .i64 0)),26,[],h⟩ (F.di.bY K))):=by kernel_rfl
theorem F.xe{a0 a1:AV}{h:ag}{K:Out→ag→Bool}(hh:(af (bx .slice a0 h) fun x0=>af (bx .slice a1 h) fun x1=>af (lC (.int .i64) x0 x1) fun x2=>ax x2 (K (.ret (.bool false)) h) (aT (aq Tryz.prog (ah Tryz.prog) F.di.L0) ⟨(aa (aa (aa (aa (aa (aa (aa (aF [a0,a1]) 4 (.bool false)) 6 a0) 7 x0) 8 a1) 9 x1) 10 x2) 5 (.int .i64 0)),26,[],h⟩ (F.di.bY K)))=true):Sem Tryz.prog 35 [a0,a1] h K:=
 aQ mixed (aL _) Tryz.func35 (c:=aj Tryz.f35) rfl (by decide) (of_decide_eq_true (by kernel_rfl)) (F.zh.trans hh)
noncomputable def F.dI.L0:Code:=partOf (aj Tryz.f86) [1,1,0,0,0]
noncomputable def F.dI.bY(K:Out→ag→Bool):AX→St→Bool:=(aU 0 (cB false (aq Tryz.prog (ah Tryz.prog) (partOf (aj Tryz.f86) [1,1,1])) (aJ Tryz.prog dx Tryz.f86.results.toList K)))
theorem F.dI.aN{e:Env}{h:ag}{K:AX→St→Bool}:aq Tryz.prog (ah Tryz.prog) F.dI.L0 ⟨e,45,[],h⟩ K=(af (bx .slice (e 0) h) fun x0=>af (aA .lss (e 5) x0) fun x1=>ax x1 (af (cL 1 (e 0) (e 5)) fun x2=>af (ai none x2 h) fun x3=>af (aA .lss x3 (e 1)) fun x4=>ax x4 (af (aA .add (e 5) (.int .i64 1)) fun x5=>K .normal ⟨(aa (aa (aa (aa (aa (aa (aa (aa (aa (aa (aa (aa (aa (aa (aa (aa (aa (aa (aa (aa (aa e 6 (e 5)) 7 (e 0)) 8 x0) 9 x1) 10 x1) 10 (.bool true)) 11 (e 0)) 10 (.bool true)) 12 (e 5)) 10 (.bool true)) 13 x2) 10 (.bool true)) 14 x3) 10 (.bool true)) 15 (e 1)) 10 (.bool true)) 16 x4) 17 x4) 18 (e 5)) 19 x5) 5 x5),45,[],h⟩) (K (.exit 0) ⟨(aa (aa (aa (aa (aa (aa (aa (aa (aa (aa (aa (aa (aa (aa (aa (aa (aa (aa e 6 (e 5)) 7 (e 0)) 8 x0) 9 x1) 10 x1) 10 (.bool true)) 11 (e 0)) 10 (.bool true)) 12 (e 5)) 10 (.bool true)) 13 x2) 10 (.bool true)) 14 x3) 10 (.bool true)) 15 (e 1)) 10 (.bool true)) 16 x4) 17 x4),45,[],h⟩)) (K (.exit 0) ⟨(aa (aa (aa (aa (aa (aa (aa (aa (aa (aa (aa (aa (aa (aa (aa (aa (aa (aa e 6 (e 5)) 7 (e 0)) 8 x0) 9 x1) 10 x1) 10 (.bool false)) 11 bK) 10 (.bool false)) 12 bK) 10 (.bool false)) 13 bK) 10 (.bool false)) 14 bK) 10 (.bool false)) 15 bK) 10 (.bool false)) 16 bK) 17 (.bool false)),45,[],h⟩)):=by kernel_rfl
theorem F.dI.aD{e:Env}{h:ag}{K:Out→ag→Bool}:F.dI.bY K (.exit 0) ⟨e,45,[],h⟩=(af (bx .slice (e 0) h) fun x6=>af (aA .lss (e 5) x6) fun x7=>ax x7 (af (cL 1 (e 0) (e 5)) fun x8=>af (ai none x8 h) fun x9=>af (fH .string x9 (e 1)) fun x10=>ax x10 (K (.ret (e 0)) h) (af (eF [] [] []) fun c11=>af (ff (some 1) (e 0) none (some (e 5))) fun x12=>af (eF [(.str [])] [(0,1)] [(e 1)]) fun c13=>af (ff (some 1) (e 0) (some (e 5)) none) fun x14=>cq (bW 1 16 (.slice (ag.next h) 0 0 1) x12 (ag.alloc (ag.alloc h (.cells c11)) (.cells c13))) fun x15 h16=>cq (bW 1 16 x15 (.slice (ag.next (ag.alloc h (.cells c11))) 0 1 1) h16) fun x17 h18=>cq (bW 1 16 x17 x14 h18) fun x19 h20=>K (.ret x19) h20)) (af (eF [] [] []) fun c21=>af (ff (some 1) (e 0) none (some (e 5))) fun x22=>af (eF [(.str [])] [(0,1)] [(e 1)]) fun c23=>af (ff (some 1) (e 0) (some (e 5)) none) fun x24=>cq (bW 1 16 (.slice (ag.next h) 0 0 1) x22 (ag.alloc (ag.alloc h (.cells c21)) (.cells c23))) fun x25 h26=>cq (bW 1 16 x25 (.slice (ag.next (ag.alloc h (.cells c21))) 0 1 1) h26) fun x27 h28=>cq (bW 1 16 x27 x24 h28) fun x29 h30=>K (.ret x29) h30)):=by kernel_rfl
theorem F.xg{a0 a1:AV}{h:ag}{K:Out→ag→Bool}:aq Tryz.prog (ah Tryz.prog) (aj Tryz.f86) ⟨aF [a0,a1],45,[],h⟩ (aJ Tryz.prog dx Tryz.f86.results.toList K)=(aT (aq Tryz.prog (ah Tryz.prog) F.dI.L0) ⟨(aa (aa (aF [a0,a1]) 4 .nils) 5 (.int .i64 0)),45,[],h⟩ (F.dI.bY K)):=by kernel_rfl
theorem F.ve{a0 a1:AV}{h:ag}{K:Out→ag→Bool}(hh:(aT (aq Tryz.prog (ah Tryz.prog) F.dI.L0) ⟨(aa (aa (aF [a0,a1]) 4 .nils) 5 (.int .i64 0)),45,[],h⟩ (F.dI.bY K))=true):Sem Tryz.prog 86 [a0,a1] h K:=
 aQ mixed (aL _) Tryz.func86 (c:=aj Tryz.f86) rfl (by decide) (of_decide_eq_true (by kernel_rfl)) (F.xg.trans hh)
noncomputable def F.cS.L0:Code:=partOf (aj Tryz.f34) [1,1,0,1,0,0]
noncomputable def F.cS.bY(K:Out→ag→Bool):AX→St→Bool:=(aU 0 (cB false (aq Tryz.prog (ah Tryz.prog) (partOf (aj Tryz.f34) [1,1,1])) (aJ Tryz.prog dx Tryz.f34.results.toList K)))
theorem F.cS.aN{e:Env}{h:ag}{K:AX→St→Bool}:aq Tryz.prog (ah Tryz.prog) F.cS.L0 ⟨e,20,[],h⟩ K=(af (bx .slice (e 0) h) fun x0=>af (aA .lss (e 4) x0) fun x1=>ax x1 (af (cL 3 (e 0) (e 4)) fun x2=>af (bD 0 x2) fun x3=>af (bD 0 x3) fun x4=>af (ai none x4 h) fun x5=>ah Tryz.prog 86 [(e 3),x5] h (br (fun x6 h7=>af (aA .add (e 4) (.int .i64 1)) fun x10=>K .normal ⟨(aa (aa (aa (aa (aa (aa (aa (aa (aa (aa (aa (aa (aa (aa (aa (aa e 5 (e 4)) 6 (e 0)) 7 x0) 8 x1) 11 (e 3)) 12 (e 0)) 13 (e 4)) 14 x2) 15 x3) 16 x4) 17 x5) 18 x6) 3 x6) 9 (e 4)) 10 x10) 4 x10),20,[],h7⟩) (fun v8 h9=>K (.panic v8) ⟨(aa (aa (aa (aa (aa (aa (aa (aa (aa (aa (aa e 5 (e 4)) 6 (e 0)) 7 x0) 8 x1) 11 (e 3)) 12 (e 0)) 13 (e 4)) 14 x2) 15 x3) 16 x4) 17 x5),20,[],h9⟩))) (K (.exit 0) ⟨(aa (aa (aa (aa e 5 (e 4)) 6 (e 0)) 7 x0) 8 x1),20,[],h⟩)):=by kernel_rfl
theorem F.cS.aD{e:Env}{h:ag}{K:Out→ag→Bool}:F.cS.bY K (.exit 0) ⟨e,20,[],h⟩=(K (.ret (e 3)) h):=by kernel_rfl
theorem F.vg{a0:AV}{h:ag}{K:Out→ag→Bool}:aq Tryz.prog (ah Tryz.prog) (aj Tryz.f34) ⟨aF [a0],20,[],h⟩ (aJ Tryz.prog dx Tryz.f34.results.toList K)=(aT (aq Tryz.prog (ah Tryz.prog) F.cS.L0) ⟨(aa (aa (aa (aF [a0]) 2 .nils) 3 .nils) 4 (.int .i64 0)),20,[],h⟩ (F.cS.bY K)):=by kernel_rfl
theorem F.ug{a0:AV}{h:ag}{K:Out→ag→Bool}(hh:(aT (aq Tryz.prog (ah Tryz.prog) F.cS.L0) ⟨(aa (aa (aa (aF [a0]) 2 .nils) 3 .nils) 4 (.int .i64 0)),20,[],h⟩ (F.cS.bY K))=true):Sem Tryz.prog 34 [a0] h K:=
 aQ mixed (aL _) Tryz.func34 (c:=aj Tryz.f34) rfl (by decide) (of_decide_eq_true (by kernel_rfl)) (F.vg.trans hh)
noncomputable def F.dm.L0:Code:=partOf (aj Tryz.f58) [1,0,1,0,0]
noncomputable def F.dm.bY(K:Out→ag→Bool):AX→St→Bool:=(aU 0 (cB false (aq Tryz.prog (ah Tryz.prog) (partOf (aj Tryz.f58) [1,1])) (aJ Tryz.prog dx Tryz.f58.results.toList K)))
theorem F.dm.aN{e:Env}{h:ag}{K:AX→St→Bool}:aq Tryz.prog (ah Tryz.prog) F.dm.L0 ⟨e,19,[],h⟩ K=(af (bx .slice (e 0) h) fun x0=>af (aA .lss (e 5) x0) fun x1=>ax x1 (af (cL 1 (e 0) (e 5)) fun x2=>af (ai none x2 h) fun x3=>af (fH .string x3 (e 1)) fun x4=>ax x4 (K .ret ⟨(aa (aa (aa (aa (aa (aa (aa (aa (aa (aa (aa (aa e 6 (e 5)) 7 (e 0)) 8 x0) 9 x1) 12 (e 0)) 13 (e 5)) 14 x2) 15 x3) 16 (e 1)) 17 x4) 18 (e 5)) 4 (e 5)),19,[],h⟩) (af (aA .add (e 5) (.int .i64 1)) fun x5=>K .normal ⟨(aa (aa (aa (aa (aa (aa (aa (aa (aa (aa (aa (aa (aa e 6 (e 5)) 7 (e 0)) 8 x0) 9 x1) 12 (e 0)) 13 (e 5)) 14 x2) 15 x3) 16 (e 1)) 17 x4) 10 (e 5)) 11 x5) 5 x5),19,[],h⟩)) (K (.exit 0) ⟨(aa (aa (aa (aa e 6 (e 5)) 7 (e 0)) 8 x0) 9 x1),19,[],h⟩)):=by kernel_rfl
theorem F.dm.aD{e:Env}{h:ag}{K:Out→ag→Bool}:F.dm.bY K (.exit 0) ⟨e,19,[],h⟩=(K (.ret (.int .i64 (-1))) h):=by kernel_rfl
theorem F.dm.bq{e:Env}{h:ag}{K:Out→ag→Bool}:F.dm.bY K .ret ⟨e,19,[],h⟩=(K (.ret (e 4)) h):=by kernel_rfl
theorem F.zi{a0 a1:AV}{h:ag}{K:Out→ag→Bool}:aq Tryz.prog (ah Tryz.prog) (aj Tryz.f58) ⟨aF [a0,a1],19,[],h⟩ (aJ Tryz.prog dx Tryz.f58.results.toList K)=(aT (aq Tryz.prog (ah Tryz.prog) F.dm.L0) ⟨(aa (aa (aF [a0,a1]) 4 (.int .i64 0)) 5 (.int .i64 0)),19,[],h⟩ (F.dm.bY K)):=by kernel_rfl
theorem F.xh{a0 a1:AV}{h:ag}{K:Out→ag→Bool}(hh:(aT (aq Tryz.prog (ah Tryz.prog) F.dm.L0) ⟨(aa (aa (aF [a0,a1]) 4 (.int .i64 0)) 5 (.int .i64 0)),19,[],h⟩ (F.dm.bY K))=true):Sem Tryz.prog 58 [a0,a1] h K:=
 aQ mixed (aL _) Tryz.func58 (c:=aj Tryz.f58) rfl (by decide) (of_decide_eq_true (by kernel_rfl)) (F.zi.trans hh)
noncomputable def F.cy.L0:Code:=partOf (aj Tryz.f85) [1,1,0,1,0,0]
noncomputable def F.cy.bY(K:Out→ag→Bool):AX→St→Bool:=(aU 0 (cB false (aq Tryz.prog (ah Tryz.prog) (partOf (aj Tryz.f85) [1,1,1])) (aJ Tryz.prog dx Tryz.f85.results.toList K)))
noncomputable def F.cy.L1:Code:=partOf (aj Tryz.f85) [1,1,0,1,0,0,1,0,0,1,1,0,0]
noncomputable def F.cy.ig(K:AX→St→Bool):AX→St→Bool:=(aU 2 (aU 1 (cB false (aq Tryz.prog (ah Tryz.prog) (partOf (aj Tryz.f85) [1,1,0,1,0,0,1,1])) K)))
theorem F.cy.aN{e:Env}{h:ag}{K:AX→St→Bool}:aq Tryz.prog (ah Tryz.prog) F.cy.L0 ⟨e,63,[],h⟩ K=(af (bx .slice (e 0) h) fun x0=>af (aA .lss (e 4) x0) fun x1=>ax x1 (af (cL 3 (e 0) (e 4)) fun x2=>af (bD 0 x2) fun x3=>af (bD 0 x3) fun x4=>af (ai none x4 h) fun x5=>af (cL 3 (e 0) (e 4)) fun x6=>af (bD 0 x6) fun x7=>af (bD 1 x7) fun x8=>af (ai none x8 h) fun x9=>af (bx .slice x9 h) fun x10=>af (gQ [(.str []),(.int .i64 0)] [(0,1),(1,1)] [x5,x10]) fun x11=>af (eF [(.str []),(.int .i64 0)] [(0,2)] [x11]) fun c12=>cq (bW 2 24 (e 3) (.slice (ag.next h) 0 1 2) (ag.alloc h (.cells c12))) fun x13 h14=>aT (aq Tryz.prog (ah Tryz.prog) F.cy.L1) ⟨(aa (aa (aa (aa (aa (aa (aa (aa (aa (aa (aa (aa (aa (aa (aa (aa (aa (aa (aa (aa (aa (aa (aa e 7 (e 4)) 8 (e 0)) 9 x0) 10 x1) 13 (e 3)) 14 (e 0)) 15 (e 4)) 16 x2) 17 x3) 18 x4) 19 x5) 20 (e 0)) 21 (e 4)) 22 x6) 23 x7) 24 x8) 25 x9) 26 x10) 27 x11) 28 (.slice (ag.next h) 0 1 2)) 29 x13) 3 x13) 5 (.int .i64 0)),63,[],h14⟩ (F.cy.ig K)) (K (.exit 0) ⟨(aa (aa (aa (aa e 7 (e 4)) 8 (e 0)) 9 x0) 10 x1),63,[],h⟩)):=by kernel_rfl
theorem F.cy.aD{e:Env}{h:ag}{K:Out→ag→Bool}:F.cy.bY K (.exit 0) ⟨e,63,[],h⟩=(K (.ret (e 3)) h):=by kernel_rfl
theorem F.cy.cP{e:Env}{h:ag}{K:AX→St→Bool}:aq Tryz.prog (ah Tryz.prog) F.cy.L1 ⟨e,63,[],h⟩ K=(af (cL 3 (e 0) (e 4)) fun x15=>af (bD 2 x15) fun x16=>af (ai none x16 h) fun x17=>af (bx .slice x17 h) fun x18=>af (aA .lss (e 5) x18) fun x19=>ax x19 (af (cL 3 (e 0) (e 4)) fun x20=>af (bD 2 x20) fun x21=>af (ai none x21 h) fun x22=>af (cL 4 x22 (e 5)) fun x23=>af (ai (some 4) x23 h) fun x24=>af (bg 4 (.ptr (ag.next h) 0) x24 (ag.alloc h (.cells [(.int .i64 0),(.bool false),(.str []),.nils]))) fun h25=>af (bD 0 (.ptr (ag.next h) 0)) fun x26=>af (ai none x26 h25) fun x27=>af (fH (.int .i64) x27 (.int .i64 0)) fun x28=>ax x28 (af (bD 2 (.ptr (ag.next h) 0)) fun x29=>af (bD 0 x29) fun x30=>af (ai none x30 h25) fun x31=>af (bD 2 (.ptr (ag.next h) 0)) fun x32=>af (bD 1 x32) fun x33=>af (ai none x33 h25) fun x34=>af (bx .slice x34 h25) fun x35=>af (gQ [(.str []),(.int .i64 0)] [(0,1),(1,1)] [x31,x35]) fun x36=>af (eF [(.str []),(.int .i64 0)] [(0,2)] [x36]) fun c37=>cq (bW 2 24 (e 3) (.slice (ag.next h25) 0 1 2) (ag.alloc h25 (.cells c37))) fun x38 h39=>af (aA .add (e 5) (.int .i64 1)) fun x40=>K .normal ⟨(aa (aa (aa (aa (aa (aa (aa (aa (aa (aa (aa (aa (aa (aa (aa (aa (aa (aa (aa (aa (aa (aa (aa (aa (aa (aa (aa (aa (aa (aa (aa (aa (aa (aa (aa e 30 (e 5)) 31 (e 0)) 32 (e 4)) 33 x15) 34 x16) 35 x17) 36 x18) 37 x19) 40 (e 0)) 41 (e 4)) 42 x20) 43 x21) 44 x22) 45 (e 5)) 46 x23) 47 x24) 6 (.ptr (ag.next h) 0)) 48 x26) 49 x27) 50 x28) 51 (e 3)) 52 x29) 53 x30) 54 x31) 55 x32) 56 x33) 57 x34) 58 x35) 59 x36) 60 (.slice (ag.next h25) 0 1 2)) 61 x38) 3 x38) 38 (e 5)) 39 x40) 5 x40),63,[],h39⟩) (af (aA .add (e 5) (.int .i64 1)) fun x41=>K .normal ⟨(aa (aa (aa (aa (aa (aa (aa (aa (aa (aa (aa (aa (aa (aa (aa (aa (aa (aa (aa (aa (aa (aa (aa e 30 (e 5)) 31 (e 0)) 32 (e 4)) 33 x15) 34 x16) 35 x17) 36 x18) 37 x19) 40 (e 0)) 41 (e 4)) 42 x20) 43 x21) 44 x22) 45 (e 5)) 46 x23) 47 x24) 6 (.ptr (ag.next h) 0)) 48 x26) 49 x27) 50 x28) 38 (e 5)) 39 x41) 5 x41),63,[],h25⟩)) (K (.exit 2) ⟨(aa (aa (aa (aa (aa (aa (aa (aa e 30 (e 5)) 31 (e 0)) 32 (e 4)) 33 x15) 34 x16) 35 x17) 36 x18) 37 x19),63,[],h⟩)):=by kernel_rfl
theorem F.cy.b8{e:Env}{h:ag}{K:AX→St→Bool}:F.cy.ig K (.exit 2) ⟨e,63,[],h⟩=(af (aA .add (e 4) (.int .i64 1)) fun x42=>K .normal ⟨(aa (aa (aa e 11 (e 4)) 12 x42) 4 x42),63,[],h⟩):=by kernel_rfl
theorem F.zj{a0:AV}{h:ag}{K:Out→ag→Bool}:aq Tryz.prog (ah Tryz.prog) (aj Tryz.f85) ⟨aF [a0],63,[],h⟩ (aJ Tryz.prog dx Tryz.f85.results.toList K)=(aT (aq Tryz.prog (ah Tryz.prog) F.cy.L0) ⟨(aa (aa (aa (aF [a0]) 2 .nils) 3 .nils) 4 (.int .i64 0)),63,[],h⟩ (F.cy.bY K)):=by kernel_rfl
theorem F.xj{a0:AV}{h:ag}{K:Out→ag→Bool}(hh:(aT (aq Tryz.prog (ah Tryz.prog) F.cy.L0) ⟨(aa (aa (aa (aF [a0]) 2 .nils) 3 .nils) 4 (.int .i64 0)),63,[],h⟩ (F.cy.bY K))=true):Sem Tryz.prog 85 [a0] h K:=
 aQ mixed (aL _) Tryz.func85 (c:=aj Tryz.f85) rfl (by decide) (of_decide_eq_true (by kernel_rfl)) (F.zj.trans hh)
noncomputable def F.dr.L0:Code:=partOf (aj Tryz.f134) [1,0,1,0,0]
noncomputable def F.dr.bY(K:Out→ag→Bool):AX→St→Bool:=(aU 0 (cB false (aq Tryz.prog (ah Tryz.prog) (partOf (aj Tryz.f134) [1,1])) (aJ Tryz.prog dx Tryz.f134.results.toList K)))
theorem F.dr.aN{e:Env}{h:ag}{K:AX→St→Bool}:aq Tryz.prog (ah Tryz.prog) F.dr.L0 ⟨e,19,[],h⟩ K=(af (bx .slice (e 0) h) fun x0=>af (aA .lss (e 3) x0) fun x1=>ax x1 (af (cL 1 (e 0) (e 3)) fun x2=>af (ai none x2 h) fun x3=>ah Tryz.prog 116 [x3] h (br (fun x4 h5=>af (iI .not x4) fun x8=>ax x8 (K .ret ⟨(aa (aa (aa (aa (aa (aa (aa (aa (aa (aa (aa e 4 (e 3)) 5 (e 0)) 6 x0) 7 x1) 10 (e 0)) 11 (e 3)) 12 x2) 13 x3) 14 x4) 15 x8) 2 (.bool false)),19,[],h5⟩) (af (aA .add (e 3) (.int .i64 1)) fun x9=>K .normal ⟨(aa (aa (aa (aa (aa (aa (aa (aa (aa (aa (aa (aa (aa e 4 (e 3)) 5 (e 0)) 6 x0) 7 x1) 10 (e 0)) 11 (e 3)) 12 x2) 13 x3) 14 x4) 15 x8) 8 (e 3)) 9 x9) 3 x9),19,[],h5⟩)) (fun v6 h7=>K (.panic v6) ⟨(aa (aa (aa (aa (aa (aa (aa (aa e 4 (e 3)) 5 (e 0)) 6 x0) 7 x1) 10 (e 0)) 11 (e 3)) 12 x2) 13 x3),19,[],h7⟩))) (K (.exit 0) ⟨(aa (aa (aa (aa e 4 (e 3)) 5 (e 0)) 6 x0) 7 x1),19,[],h⟩)):=by kernel_rfl
theorem F.dr.aD{e:Env}{h:ag}{K:Out→ag→Bool}:F.dr.bY K (.exit 0) ⟨e,19,[],h⟩=(af (bx .slice (e 0) h) fun x10=>af (aA .leq x10 (.int .i64 12)) fun x11=>K (.ret x11) h):=by kernel_rfl
theorem F.dr.bq{e:Env}{h:ag}{K:Out→ag→Bool}:F.dr.bY K .ret ⟨e,19,[],h⟩=(K (.ret (e 2)) h):=by kernel_rfl
theorem F.zk{a0:AV}{h:ag}{K:Out→ag→Bool}:aq Tryz.prog (ah Tryz.prog) (aj Tryz.f134) ⟨aF [a0],19,[],h⟩ (aJ Tryz.prog dx Tryz.f134.results.toList K)=(aT (aq Tryz.prog (ah Tryz.prog) F.dr.L0) ⟨(aa (aa (aF [a0]) 2 (.bool false)) 3 (.int .i64 0)),19,[],h⟩ (F.dr.bY K)):=by kernel_rfl
theorem F.xk{a0:AV}{h:ag}{K:Out→ag→Bool}(hh:(aT (aq Tryz.prog (ah Tryz.prog) F.dr.L0) ⟨(aa (aa (aF [a0]) 2 (.bool false)) 3 (.int .i64 0)),19,[],h⟩ (F.dr.bY K))=true):Sem Tryz.prog 134 [a0] h K:=
 aQ mixed (aL _) Tryz.func134 (c:=aj Tryz.f134) rfl (by decide) (of_decide_eq_true (by kernel_rfl)) (F.zk.trans hh)
theorem F.iS{a0 a1:AV}{h:ag}{K:Out→ag→Bool}:aq Tryz.prog (ah Tryz.prog) (aj Tryz.f168) ⟨aF [a0,a1],9,[],h⟩ (aJ Tryz.prog dx Tryz.f168.results.toList K)=(ah Tryz.prog 190 [a0,a1] h (br (fun x0 h1=>af (aA .geq x0 (.int .i64 0)) fun x4=>K (.ret x4) h1) (fun v2 h3=>K (.panic v2) h3))):=by kernel_rfl
theorem F.iJ{a0 a1:AV}{h:ag}{K:Out→ag→Bool}(hh:(ah Tryz.prog 190 [a0,a1] h (br (fun x0 h1=>af (aA .geq x0 (.int .i64 0)) fun x4=>K (.ret x4) h1) (fun v2 h3=>K (.panic v2) h3)))=true):Sem Tryz.prog 168 [a0,a1] h K:=
 aQ mixed (aL _) Tryz.func168 (c:=aj Tryz.f168) rfl (by decide) (of_decide_eq_true (by kernel_rfl)) (F.iS.trans hh)
noncomputable def F.bl.L0:Code:=partOf (aj Tryz.f190) [1,0,1,0,0]
noncomputable def F.bl.bY(K:Out→ag→Bool):AX→St→Bool:=(aU 0 (cB false (aq Tryz.prog (ah Tryz.prog) (partOf (aj Tryz.f190) [1,1])) (aJ Tryz.prog dx Tryz.f190.results.toList K)))
theorem F.bl.aN{e:Env}{h:ag}{K:AX→St→Bool}:aq Tryz.prog (ah Tryz.prog) F.bl.L0 ⟨e,19,[],h⟩ K=(af (aA .lss (e 8) (e 7)) fun x1=>ax x1 (af (cL 1 (e 0) (e 8)) fun x2=>af (ai none x2 h) fun x3=>lD (e 1) fun f9 a10 a11=>ah Tryz.prog f9 (a10++([x3]++a11)) h (br (fun x4 h5=>ax x4 (K .ret ⟨(aa (aa (aa (aa (aa (aa (aa (aa (aa (aa (aa e 9 x1) 10 (e 8)) 5 (e 8)) 11 (e 1)) 12 (e 0)) 13 (e 8)) 14 x2) 15 x3) 16 x4) 17 (e 8)) 4 (e 8)),19,[],h5⟩) (af (aA .add (e 8) (.int .i64 1)) fun x8=>K .normal ⟨(aa (aa (aa (aa (aa (aa (aa (aa (aa (aa (aa e 9 x1) 10 (e 8)) 5 (e 8)) 11 (e 1)) 12 (e 0)) 13 (e 8)) 14 x2) 15 x3) 16 x4) 18 x8) 8 x8),19,[],h5⟩)) (fun v6 h7=>K (.panic v6) ⟨(aa (aa (aa (aa (aa (aa (aa (aa e 9 x1) 10 (e 8)) 5 (e 8)) 11 (e 1)) 12 (e 0)) 13 (e 8)) 14 x2) 15 x3),19,[],h7⟩))) (K (.exit 0) ⟨(aa e 9 x1),19,[],h⟩)):=by kernel_rfl
theorem F.bl.aD{e:Env}{h:ag}{K:Out→ag→Bool}:F.bl.bY K (.exit 0) ⟨e,19,[],h⟩=(K (.ret (.int .i64 (-1))) h):=by kernel_rfl
theorem F.bl.bq{e:Env}{h:ag}{K:Out→ag→Bool}:F.bl.bY K .ret ⟨e,19,[],h⟩=(K (.ret (e 4)) h):=by kernel_rfl
theorem F.jr{a0 a1:AV}{h:ag}{K:Out→ag→Bool}:aq Tryz.prog (ah Tryz.prog) (aj Tryz.f190) ⟨aF [a0,a1],19,[],h⟩ (aJ Tryz.prog dx Tryz.f190.results.toList K)=(af (bx .slice a0 h) fun x0=>aT (aq Tryz.prog (ah Tryz.prog) F.bl.L0) ⟨(aa (aa (aa (aa (aF [a0,a1]) 4 (.int .i64 0)) 6 a0) 7 x0) 8 (.int .i64 0)),19,[],h⟩ (F.bl.bY K)):=by kernel_rfl
theorem F.jj{a0 a1:AV}{h:ag}{K:Out→ag→Bool}(hh:(af (bx .slice a0 h) fun x0=>aT (aq Tryz.prog (ah Tryz.prog) F.bl.L0) ⟨(aa (aa (aa (aa (aF [a0,a1]) 4 (.int .i64 0)) 6 a0) 7 x0) 8 (.int .i64 0)),19,[],h⟩ (F.bl.bY K))=true):Sem Tryz.prog 190 [a0,a1] h K:=
 aQ mixed (aL _) Tryz.func190 (c:=aj Tryz.f190) rfl (by decide) (of_decide_eq_true (by kernel_rfl)) (F.jr.trans hh)
theorem F.jE{a0 a1:AV}{h:ag}{K:Out→ag→Bool}:aq Tryz.prog (ah Tryz.prog) (aj Tryz.f155) ⟨aF [a0,a1],9,[],h⟩ (aJ Tryz.prog dx Tryz.f155.results.toList K)=(ah Tryz.prog 157 [a0,a1] h (br (fun x0 h1=>af (aA .geq x0 (.int .i64 0)) fun x4=>K (.ret x4) h1) (fun v2 h3=>K (.panic v2) h3))):=by kernel_rfl
theorem F.jt{a0 a1:AV}{h:ag}{K:Out→ag→Bool}(hh:(ah Tryz.prog 157 [a0,a1] h (br (fun x0 h1=>af (aA .geq x0 (.int .i64 0)) fun x4=>K (.ret x4) h1) (fun v2 h3=>K (.panic v2) h3)))=true):Sem Tryz.prog 155 [a0,a1] h K:=
 aQ mixed (aL _) Tryz.func155 (c:=aj Tryz.f155) rfl (by decide) (of_decide_eq_true (by kernel_rfl)) (F.jE.trans hh)
noncomputable def F.bp.L0:Code:=partOf (aj Tryz.f157) [1,0,1,0,0]
noncomputable def F.bp.bY(K:Out→ag→Bool):AX→St→Bool:=(aU 0 (cB false (aq Tryz.prog (ah Tryz.prog) (partOf (aj Tryz.f157) [1,1])) (aJ Tryz.prog dx Tryz.f157.results.toList K)))
theorem F.bp.aN{e:Env}{h:ag}{K:AX→St→Bool}:aq Tryz.prog (ah Tryz.prog) F.bp.L0 ⟨e,19,[],h⟩ K=(af (aA .lss (e 8) (e 7)) fun x1=>ax x1 (af (cL 1 (e 0) (e 8)) fun x2=>af (ai none x2 h) fun x3=>af (fH .string (e 1) x3) fun x4=>ax x4 (K .ret ⟨(aa (aa (aa (aa (aa (aa (aa (aa (aa (aa (aa e 9 x1) 10 (e 8)) 5 (e 8)) 11 (e 1)) 12 (e 0)) 13 (e 8)) 14 x2) 15 x3) 16 x4) 17 (e 8)) 4 (e 8)),19,[],h⟩) (af (aA .add (e 8) (.int .i64 1)) fun x5=>K .normal ⟨(aa (aa (aa (aa (aa (aa (aa (aa (aa (aa (aa e 9 x1) 10 (e 8)) 5 (e 8)) 11 (e 1)) 12 (e 0)) 13 (e 8)) 14 x2) 15 x3) 16 x4) 18 x5) 8 x5),19,[],h⟩)) (K (.exit 0) ⟨(aa e 9 x1),19,[],h⟩)):=by kernel_rfl
theorem F.bp.aD{e:Env}{h:ag}{K:Out→ag→Bool}:F.bp.bY K (.exit 0) ⟨e,19,[],h⟩=(K (.ret (.int .i64 (-1))) h):=by kernel_rfl
theorem F.bp.bq{e:Env}{h:ag}{K:Out→ag→Bool}:F.bp.bY K .ret ⟨e,19,[],h⟩=(K (.ret (e 4)) h):=by kernel_rfl
theorem F.ke{a0 a1:AV}{h:ag}{K:Out→ag→Bool}:aq Tryz.prog (ah Tryz.prog) (aj Tryz.f157) ⟨aF [a0,a1],19,[],h⟩ (aJ Tryz.prog dx Tryz.f157.results.toList K)=(af (bx .slice a0 h) fun x0=>aT (aq Tryz.prog (ah Tryz.prog) F.bp.L0) ⟨(aa (aa (aa (aa (aF [a0,a1]) 4 (.int .i64 0)) 6 a0) 7 x0) 8 (.int .i64 0)),19,[],h⟩ (F.bp.bY K)):=by kernel_rfl
theorem F.gu{a0 a1:AV}{h:ag}{K:Out→ag→Bool}(hh:(af (bx .slice a0 h) fun x0=>aT (aq Tryz.prog (ah Tryz.prog) F.bp.L0) ⟨(aa (aa (aa (aa (aF [a0,a1]) 4 (.int .i64 0)) 6 a0) 7 x0) 8 (.int .i64 0)),19,[],h⟩ (F.bp.bY K))=true):Sem Tryz.prog 157 [a0,a1] h K:=
 aQ mixed (aL _) Tryz.func157 (c:=aj Tryz.f157) rfl (by decide) (of_decide_eq_true (by kernel_rfl)) (F.ke.trans hh)
theorem F.xm{a0:AV}{h:ag}{K:Out→ag→Bool}:aq Tryz.prog (ah Tryz.prog) (aj Tryz.f169) ⟨aF [a0],6,[],h⟩ (aJ Tryz.prog dx Tryz.f169.results.toList K)=(ah Tryz.prog 135 [a0] h (br (fun x0 h1=>af (iI .not x0) fun x4=>K (.ret x4) h1) (fun v2 h3=>K (.panic v2) h3))):=by kernel_rfl
theorem F.vh{a0:AV}{h:ag}{K:Out→ag→Bool}(hh:(ah Tryz.prog 135 [a0] h (br (fun x0 h1=>af (iI .not x0) fun x4=>K (.ret x4) h1) (fun v2 h3=>K (.panic v2) h3)))=true):Sem Tryz.prog 169 [a0] h K:=
 aQ mixed (aL _) Tryz.func169 (c:=aj Tryz.f169) rfl (by decide) (of_decide_eq_true (by kernel_rfl)) (F.xm.trans hh)
noncomputable def F.cV.L0:Code:=partOf (aj Tryz.f154) [1,0,0]
noncomputable def F.cV.bY(K:Out→ag→Bool):AX→St→Bool:=(aU 0 (aJ Tryz.prog dx Tryz.f154.results.toList K))
theorem F.cV.aN{e:Env}{h:ag}{K:AX→St→Bool}:aq Tryz.prog (ah Tryz.prog) F.cV.L0 ⟨e,20,[],h⟩ K=(af (aA .lss (e 7) (e 6)) fun x1=>ax x1 (af (cL 1 (e 5) (e 7)) fun x2=>af (ai none x2 h) fun x3=>af (ai none (e 1) h) fun x4=>ah Tryz.prog 155 [x4,x3] h (br (fun x5 h6=>af (iI .not x5) fun x9=>ax x9 (af (ai none (e 1) h6) fun x10=>af (eF [(.str [])] [(0,1)] [x3]) fun c11=>cq (bW 1 16 x10 (.slice (ag.next h6) 0 1 1) (ag.alloc h6 (.cells c11))) fun x12 h13=>af (bg 1 (e 1) x12 h13) fun h14=>af (aA .add (e 7) (.int .i64 1)) fun x15=>K .normal ⟨(aa (aa (aa (aa (aa (aa (aa (aa (aa (aa (aa (aa (aa (aa e 8 x1) 9 x2) 10 x3) 4 x3) 11 x4) 12 x3) 13 x5) 14 x9) 15 x10) 16 x3) 17 (.slice (ag.next h6) 0 1 1)) 18 x12) 19 x15) 7 x15),20,[],h14⟩) (af (aA .add (e 7) (.int .i64 1)) fun x16=>K .normal ⟨(aa (aa (aa (aa (aa (aa (aa (aa (aa (aa e 8 x1) 9 x2) 10 x3) 4 x3) 11 x4) 12 x3) 13 x5) 14 x9) 19 x16) 7 x16),20,[],h6⟩)) (fun v7 h8=>K (.panic v7) ⟨(aa (aa (aa (aa (aa (aa e 8 x1) 9 x2) 10 x3) 4 x3) 11 x4) 12 x3),20,[],h8⟩))) (K (.exit 0) ⟨(aa e 8 x1),20,[],h⟩)):=by kernel_rfl
theorem F.cV.aD{e:Env}{h:ag}{K:Out→ag→Bool}:F.cV.bY K (.exit 0) ⟨e,20,[],h⟩=(K (.ret (.tuple [])) h):=by kernel_rfl
theorem F.pX{a0 a1:AV}{h:ag}{K:Out→ag→Bool}:aq Tryz.prog (ah Tryz.prog) (aj Tryz.f154) ⟨aF [a0,a1],20,[],h⟩ (aJ Tryz.prog dx Tryz.f154.results.toList K)=(af (bx .slice a0 h) fun x0=>aT (aq Tryz.prog (ah Tryz.prog) F.cV.L0) ⟨(aa (aa (aa (aF [a0,a1]) 5 a0) 6 x0) 7 (.int .i64 0)),20,[],h⟩ (F.cV.bY K)):=by kernel_rfl
theorem F.oX{a0 a1:AV}{h:ag}{K:Out→ag→Bool}(hh:(af (bx .slice a0 h) fun x0=>aT (aq Tryz.prog (ah Tryz.prog) F.cV.L0) ⟨(aa (aa (aa (aF [a0,a1]) 5 a0) 6 x0) 7 (.int .i64 0)),20,[],h⟩ (F.cV.bY K))=true):Sem Tryz.prog 154 [a0,a1] h K:=
 aQ mixed (aL _) Tryz.func154 (c:=aj Tryz.f154) rfl (by decide) (of_decide_eq_true (by kernel_rfl)) (F.pX.trans hh)
theorem F.AQ{a0:AV}{h:ag}{K:Out→ag→Bool}:aq Tryz.prog (ah Tryz.prog) (aj Tryz.f130) ⟨aF [a0],18,[],h⟩ (aJ Tryz.prog dx Tryz.f130.results.toList K)=(af (cK a0) fun c0=>af (bD 0 (.ptr (ag.next h) 0)) fun x1=>af (ai none x1 (ag.alloc h (.cells c0))) fun x2=>ah Tryz.prog 135 [x2] (ag.alloc h (.cells c0)) (br (fun x3 h4=>ax x3 (af (bD 1 (.ptr (ag.next h) 0)) fun x7=>af (ai none x7 h4) fun x8=>af (bx .slice x8 h4) fun x9=>af (aA .leq x9 (.int .i64 12)) fun x10=>ax x10 (af (bD 1 (.ptr (ag.next h) 0)) fun x11=>af (ai none x11 h4) fun x12=>ah Tryz.prog 168 [x12,(.func 169 [] [])] h4 (br (fun x13 h14=>af (iI .not x13) fun x17=>K (.ret x17) h14) (fun v15 h16=>K (.panic v15) h16))) (K (.ret (.bool false)) h4)) (K (.ret (.bool false)) h4)) (fun v5 h6=>K (.panic v5) h6))):=by kernel_rfl
theorem F.zl{a0:AV}{h:ag}{K:Out→ag→Bool}(hh:(af (cK a0) fun c0=>af (bD 0 (.ptr (ag.next h) 0)) fun x1=>af (ai none x1 (ag.alloc h (.cells c0))) fun x2=>ah Tryz.prog 135 [x2] (ag.alloc h (.cells c0)) (br (fun x3 h4=>ax x3 (af (bD 1 (.ptr (ag.next h) 0)) fun x7=>af (ai none x7 h4) fun x8=>af (bx .slice x8 h4) fun x9=>af (aA .leq x9 (.int .i64 12)) fun x10=>ax x10 (af (bD 1 (.ptr (ag.next h) 0)) fun x11=>af (ai none x11 h4) fun x12=>ah Tryz.prog 168 [x12,(.func 169 [] [])] h4 (br (fun x13 h14=>af (iI .not x13) fun x17=>K (.ret x17) h14) (fun v15 h16=>K (.panic v15) h16))) (K (.ret (.bool false)) h4)) (K (.ret (.bool false)) h4)) (fun v5 h6=>K (.panic v5) h6)))=true):Sem Tryz.prog 130 [a0] h K:=
 aQ mixed (aL _) Tryz.func130 (c:=aj Tryz.f130) rfl (by decide) (of_decide_eq_true (by kernel_rfl)) (F.AQ.trans hh)
theorem F.oA{a0 a1:AV}{h:ag}{K:Out→ag→Bool}:aq Tryz.prog (ah Tryz.prog) (aj Tryz.f131) ⟨aF [a0,a1],35,[],h⟩ (aJ Tryz.prog dx Tryz.f131.results.toList K)=(af (cK a1) fun c0=>af (bS a0) fun x1=>af (bD 1 x1) fun x2=>af (ai none x2 (ag.alloc h (.cells c0))) fun x3=>af (bD 0 (.ptr (ag.next h) 0)) fun x4=>af (ai none x4 (ag.alloc h (.cells c0))) fun x5=>af (dB .string (.int .i64 0) true x3 x5 (ag.alloc h (.cells c0))) fun x6=>af (bU x6 0) fun x7=>af (bU x6 1) fun x8=>af (bS a0) fun x9=>af (bD 1 x9) fun x10=>af (ai none x10 (ag.alloc h (.cells c0))) fun x11=>af (bD 0 (.ptr (ag.next h) 0)) fun x12=>af (ai none x12 (ag.alloc h (.cells c0))) fun x13=>af (bD 1 (.ptr (ag.next h) 0)) fun x14=>af (ai none x14 (ag.alloc h (.cells c0))) fun x15=>af (bx .slice x15 (ag.alloc h (.cells c0))) fun x16=>af (ew .string x11 x13 x16 (ag.alloc h (.cells c0))) fun h17=>af (iI .not x8) fun x18=>ax x18 (K (.ret (.bool true)) h17) (af (bD 1 (.ptr (ag.next h) 0)) fun x19=>af (ai none x19 h17) fun x20=>af (bx .slice x20 h17) fun x21=>af (fH (.int .i64) x7 x21) fun x22=>K (.ret x22) h17)):=by kernel_rfl
theorem F.nD{a0 a1:AV}{h:ag}{K:Out→ag→Bool}(hh:(af (cK a1) fun c0=>af (bS a0) fun x1=>af (bD 1 x1) fun x2=>af (ai none x2 (ag.alloc h (.cells c0))) fun x3=>af (bD 0 (.ptr (ag.next h) 0)) fun x4=>af (ai none x4 (ag.alloc h (.cells c0))) fun x5=>af (dB .string (.int .i64 0) true x3 x5 (ag.alloc h (.cells c0))) fun x6=>af (bU x6 0) fun x7=>af (bU x6 1) fun x8=>af (bS a0) fun x9=>af (bD 1 x9) fun x10=>af (ai none x10 (ag.alloc h (.cells c0))) fun x11=>af (bD 0 (.ptr (ag.next h) 0)) fun x12=>af (ai none x12 (ag.alloc h (.cells c0))) fun x13=>af (bD 1 (.ptr (ag.next h) 0)) fun x14=>af (ai none x14 (ag.alloc h (.cells c0))) fun x15=>af (bx .slice x15 (ag.alloc h (.cells c0))) fun x16=>af (ew .string x11 x13 x16 (ag.alloc h (.cells c0))) fun h17=>af (iI .not x8) fun x18=>ax x18 (K (.ret (.bool true)) h17) (af (bD 1 (.ptr (ag.next h) 0)) fun x19=>af (ai none x19 h17) fun x20=>af (bx .slice x20 h17) fun x21=>af (fH (.int .i64) x7 x21) fun x22=>K (.ret x22) h17))=true):Sem Tryz.prog 131 [a0,a1] h K:=
 aQ mixed (aL _) Tryz.func131 (c:=aj Tryz.f131) rfl (by decide) (of_decide_eq_true (by kernel_rfl)) (F.oA.trans hh)
noncomputable def F.cF.L0:Code:=partOf (aj Tryz.f108) [1,1,1,1,0,1,0,0]
noncomputable def F.cF.bY(K:Out→ag→Bool):AX→St→Bool:=(aU 0 (cB false (aq Tryz.prog (ah Tryz.prog) (partOf (aj Tryz.f108) [1,1,1,1,1])) (aJ Tryz.prog dx Tryz.f108.results.toList K)))
theorem F.cF.aN{e:Env}{h:ag}{K:AX→St→Bool}:aq Tryz.prog (ah Tryz.prog) F.cF.L0 ⟨e,27,[],h⟩ K=(af (aA .lss (e 16) (e 15)) fun x11=>ax x11 (af (cL 4 (e 14) (e 16)) fun x12=>af (ai (some 4) x12 h) fun x13=>af (bg 4 (.ptr (ag.next h) 0) x13 (ag.alloc h (.cells [(.int .i64 0),(.bool false),(.str []),.nils]))) fun h14=>af (bD 2 (.ptr (ag.next h) 0)) fun x15=>af (bD 1 x15) fun x16=>af (ai none x16 h14) fun x17=>lD (e 4) fun f23 a24 a25=>ah Tryz.prog f23 (a24++([x17]++a25)) h14 (br (fun x18 h19=>af (aA .add (e 16) (.int .i64 1)) fun x22=>K .normal ⟨(aa (aa (aa (aa (aa (aa (aa (aa (aa (aa (aa e 17 x11) 18 x12) 19 x13) 6 (.ptr (ag.next h) 0)) 20 (e 4)) 21 x15) 22 x16) 23 x17) 24 x18) 25 x22) 16 x22),27,[],h19⟩) (fun v20 h21=>K (.panic v20) ⟨(aa (aa (aa (aa (aa (aa (aa (aa e 17 x11) 18 x12) 19 x13) 6 (.ptr (ag.next h) 0)) 20 (e 4)) 21 x15) 22 x16) 23 x17),27,[],h21⟩))) (K (.exit 0) ⟨(aa e 17 x11),27,[],h⟩)):=by kernel_rfl
theorem F.cF.aD{e:Env}{h:ag}{K:Out→ag→Bool}:F.cF.bY K (.exit 0) ⟨e,27,[],h⟩=(af (ai none (e 3) h) fun x26=>K (.ret x26) h):=by kernel_rfl
theorem F.sN{a0:AV}{h:ag}{K:Out→ag→Bool}:aq Tryz.prog (ah Tryz.prog) (aj Tryz.f108) ⟨aF [a0],27,[],h⟩ (aJ Tryz.prog dx Tryz.f108.results.toList K)=(af (cK a0) fun c0=>af (bD 0 (.ptr (ag.next h) 0)) fun x1=>af (bD 1 x1) fun x2=>af (ai none x2 (ag.alloc (ag.alloc h (.cells c0)) (.cells [.nils]))) fun x3=>ah Tryz.prog 154 [x3,(.ptr (ag.next (ag.alloc h (.cells c0))) 0)] (ag.alloc (ag.alloc h (.cells c0)) (.cells [.nils])) (br (fun x4 h5=>af (bD 2 (.ptr (ag.next h) 0)) fun x8=>af (ai none x8 h5) fun x9=>af (bx .slice x9 h5) fun x10=>aT (aq Tryz.prog (ah Tryz.prog) F.cF.L0) ⟨(aa (aa (aa (aa (aa (aa (aa (aa (aa (aa (aa (aa (aa (aa (aF [a0]) 1 (.ptr (ag.next h) 0)) 2 .nils) 3 (.ptr (ag.next (ag.alloc h (.cells c0))) 0)) 7 (.func 154 [] [(.ptr (ag.next (ag.alloc h (.cells c0))) 0)])) 4 (.func 154 [] [(.ptr (ag.next (ag.alloc h (.cells c0))) 0)])) 8 (.func 154 [] [(.ptr (ag.next (ag.alloc h (.cells c0))) 0)])) 9 x1) 10 x2) 11 x3) 12 x4) 13 x8) 14 x9) 15 x10) 16 (.int .i64 0)),27,[],h5⟩ (F.cF.bY K)) (fun v6 h7=>K (.panic v6) h7))):=by kernel_rfl
theorem F.rJ{a0:AV}{h:ag}{K:Out→ag→Bool}(hh:(af (cK a0) fun c0=>af (bD 0 (.ptr (ag.next h) 0)) fun x1=>af (bD 1 x1) fun x2=>af (ai none x2 (ag.alloc (ag.alloc h (.cells c0)) (.cells [.nils]))) fun x3=>ah Tryz.prog 154 [x3,(.ptr (ag.next (ag.alloc h (.cells c0))) 0)] (ag.alloc (ag.alloc h (.cells c0)) (.cells [.nils])) (br (fun x4 h5=>af (bD 2 (.ptr (ag.next h) 0)) fun x8=>af (ai none x8 h5) fun x9=>af (bx .slice x9 h5) fun x10=>aT (aq Tryz.prog (ah Tryz.prog) F.cF.L0) ⟨(aa (aa (aa (aa (aa (aa (aa (aa (aa (aa (aa (aa (aa (aa (aF [a0]) 1 (.ptr (ag.next h) 0)) 2 .nils) 3 (.ptr (ag.next (ag.alloc h (.cells c0))) 0)) 7 (.func 154 [] [(.ptr (ag.next (ag.alloc h (.cells c0))) 0)])) 4 (.func 154 [] [(.ptr (ag.next (ag.alloc h (.cells c0))) 0)])) 8 (.func 154 [] [(.ptr (ag.next (ag.alloc h (.cells c0))) 0)])) 9 x1) 10 x2) 11 x3) 12 x4) 13 x8) 14 x9) 15 x10) 16 (.int .i64 0)),27,[],h5⟩ (F.cF.bY K)) (fun v6 h7=>K (.panic v6) h7)))=true):Sem Tryz.prog 108 [a0] h K:=
 aQ mixed (aL _) Tryz.func108 (c:=aj Tryz.f108) rfl (by decide) (of_decide_eq_true (by kernel_rfl)) (F.sN.trans hh)
noncomputable def F.eA.J0(K:Out→ag→Bool)(s:St):Bool:=Hv (aq Tryz.prog (ah Tryz.prog) (partOf (aj Tryz.f132) [1,0,1,0,1,1,1])) s (aU 0 (cB false (aq Tryz.prog (ah Tryz.prog) (partOf (aj Tryz.f132) [1,1])) (aJ Tryz.prog dx Tryz.f132.results.toList K)))
theorem F.eA.zm{e:Env}{h:ag}{K:Out→ag→Bool}:F.eA.J0 K ⟨e,40,[],h⟩=(ax (e 10) (af (bD 2 (e 1)) fun x12=>af (bD 0 x12) fun x13=>af (ai none x13 h) fun x14=>af (fH .string x14 (.str [])) fun x15=>ax x15 (af (bD 2 (e 1)) fun x16=>af (bD 1 x16) fun x17=>af (ai none x17 h) fun x18=>af (bx .slice x18 h) fun x19=>af (fH (.int .i64) x19 (.int .i64 2)) fun x20=>ax x20 (af (bD 2 (e 1)) fun x21=>af (bD 1 x21) fun x22=>af (ai none x22 h) fun x23=>af (cL 1 x23 (.int .i64 0)) fun x24=>af (ai none x24 h) fun x25=>ah Tryz.prog 135 [x25] h (br (fun x26 h27=>ax x26 (af (bD 2 (e 1)) fun x30=>af (bD 1 x30) fun x31=>af (ai none x31 h27) fun x32=>af (cL 1 x32 (.int .i64 1)) fun x33=>af (ai none x33 h27) fun x34=>ah Tryz.prog 135 [x34] h27 (br (fun x35 h36=>K (.ret x35) h36) (fun v37 h38=>K (.panic v37) h38))) (K (.ret (.bool false)) h27)) (fun v28 h29=>K (.panic v28) h29))) (K (.ret (.bool false)) h)) (K (.ret (.bool false)) h)) (K (.ret (.bool false)) h)):=(tY _ _ _).trans (by kernel_rfl)
theorem F.sO{a0:AV}{h:ag}{K:Out→ag→Bool}:aq Tryz.prog (ah Tryz.prog) (aj Tryz.f132) ⟨aF [a0],40,[],h⟩ (aJ Tryz.prog dx Tryz.f132.results.toList K)=(af (cK a0) fun c0=>af (bD 0 (.ptr (ag.next h) 0)) fun x1=>af (ai none x1 (ag.alloc h (.cells c0))) fun x2=>af (fH (.int .i64) x2 (.int .i64 0)) fun x3=>ax x3 (af (bD 2 (.ptr (ag.next h) 0)) fun x4=>af (ai (some 2) x4 (ag.alloc h (.cells c0))) fun x5=>ah Tryz.prog 130 [x5] (ag.alloc h (.cells c0)) (br (fun x6 h7=>K (.ret x6) h7) (fun v8 h9=>K (.panic v8) h9))) (af (fH (.int .i64) x2 (.int .i64 1)) fun x10=>ax x10 (F.eA.J0 K ⟨(aa (aa (aa (aa (aa (aa (aa (aa (aF [a0]) 1 (.ptr (ag.next h) 0)) 2 (.bool false)) 3 x1) 4 x2) 6 x3) 5 x3) 11 x10) 10 x10),40,[],(ag.alloc h (.cells c0))⟩) (af (fH (.int .i64) x2 (.int .i64 2)) fun x11=>F.eA.J0 K ⟨(aa (aa (aa (aa (aa (aa (aa (aa (aa (aa (aF [a0]) 1 (.ptr (ag.next h) 0)) 2 (.bool false)) 3 x1) 4 x2) 6 x3) 5 x3) 11 x10) 10 x10) 12 x11) 10 x11),40,[],(ag.alloc h (.cells c0))⟩))):=by kernel_rfl
theorem F.rK{a0:AV}{h:ag}{K:Out→ag→Bool}(hh:(af (cK a0) fun c0=>af (bD 0 (.ptr (ag.next h) 0)) fun x1=>af (ai none x1 (ag.alloc h (.cells c0))) fun x2=>af (fH (.int .i64) x2 (.int .i64 0)) fun x3=>ax x3 (af (bD 2 (.ptr (ag.next h) 0)) fun x4=>af (ai (some 2) x4 (ag.alloc h (.cells c0))) fun x5=>ah Tryz.prog 130 [x5] (ag.alloc h (.cells c0)) (br (fun x6 h7=>K (.ret x6) h7) (fun v8 h9=>K (.panic v8) h9))) (af (fH (.int .i64) x2 (.int .i64 1)) fun x10=>ax x10 (F.eA.J0 K ⟨(aa (aa (aa (aa (aa (aa (aa (aa (aF [a0]) 1 (.ptr (ag.next h) 0)) 2 (.bool false)) 3 x1) 4 x2) 6 x3) 5 x3) 11 x10) 10 x10),40,[],(ag.alloc h (.cells c0))⟩) (af (fH (.int .i64) x2 (.int .i64 2)) fun x11=>F.eA.J0 K ⟨(aa (aa (aa (aa (aa (aa (aa (aa (aa (aa (aF [a0]) 1 (.ptr (ag.next h) 0)) 2 (.bool false)) 3 x1) 4 x2) 6 x3) 5 x3) 11 x10) 10 x10) 12 x11) 10 x11),40,[],(ag.alloc h (.cells c0))⟩)))=true):Sem Tryz.prog 132 [a0] h K:=
 aQ mixed (aL _) Tryz.func132 (c:=aj Tryz.f132) rfl (by decide) (of_decide_eq_true (by kernel_rfl)) (F.sO.trans hh)
noncomputable def F.bF.L0:Code:=partOf (aj Tryz.f44) [1,1,0,1,0,0]
noncomputable def F.bF.bY(K:Out→ag→Bool):AX→St→Bool:=(aU 0 (cB false (aq Tryz.prog (ah Tryz.prog) (partOf (aj Tryz.f44) [1,1,1])) (aJ Tryz.prog dx Tryz.f44.results.toList K)))
noncomputable def F.bF.L1:Code:=partOf (aj Tryz.f44) [1,1,1,1,0,1,0,0]
noncomputable def F.bF.ig(K:Out→ag→Bool):AX→St→Bool:=(aU 2 (cB false (aq Tryz.prog (ah Tryz.prog) (partOf (aj Tryz.f44) [1,1,1,1,1])) (aJ Tryz.prog dx Tryz.f44.results.toList K)))
theorem F.bF.aN{e:Env}{h:ag}{K:AX→St→Bool}:aq Tryz.prog (ah Tryz.prog) F.bF.L0 ⟨e,49,[],h⟩ K=(af (bD 2 (e 1)) fun x7=>af (ai none x7 h) fun x8=>af (bx .slice x8 h) fun x9=>af (aA .lss (e 4) x9) fun x10=>ax x10 (af (bD 2 (e 1)) fun x11=>af (ai none x11 h) fun x12=>af (cL 4 x12 (e 4)) fun x13=>af (bD 2 x13) fun x14=>af (bD 1 x14) fun x15=>af (ai none x15 h) fun x16=>cq (bW 1 16 (e 3) x16 h) fun x17 h18=>af (aA .add (e 4) (.int .i64 1)) fun x19=>K .normal ⟨(aa (aa (aa (aa (aa (aa (aa (aa (aa (aa (aa (aa (aa (aa (aa (aa (aa (aa e 12 (e 4)) 13 x7) 14 x8) 15 x9) 16 x10) 19 (e 3)) 20 x11) 21 x12) 22 (e 4)) 23 x13) 24 x14) 25 x15) 26 x16) 27 x17) 3 x17) 17 (e 4)) 18 x19) 4 x19),49,[],h18⟩) (K (.exit 0) ⟨(aa (aa (aa (aa (aa e 12 (e 4)) 13 x7) 14 x8) 15 x9) 16 x10),49,[],h⟩)):=by kernel_rfl
theorem F.bF.aD{e:Env}{h:ag}{K:Out→ag→Bool}:F.bF.bY K (.exit 0) ⟨e,49,[],h⟩=(aT (aq Tryz.prog (ah Tryz.prog) F.bF.L1) ⟨(aa (aa e 5 .nils) 6 (.int .i64 0)),49,[],h⟩ (F.bF.ig K)):=by kernel_rfl
theorem F.bF.cP{e:Env}{h:ag}{K:AX→St→Bool}:aq Tryz.prog (ah Tryz.prog) F.bF.L1 ⟨e,49,[],h⟩ K=(af (bx .slice (e 3) h) fun x20=>af (aA .lss (e 6) x20) fun x21=>ax x21 (af (cL 1 (e 3) (e 6)) fun x22=>af (ai none x22 h) fun x23=>ah Tryz.prog 73 [(e 5),x23] h (br (fun x24 h25=>af (iI .not x24) fun x28=>ax x28 (af (cL 1 (e 3) (e 6)) fun x29=>af (ai none x29 h25) fun x30=>af (eF [(.str [])] [(0,1)] [x30]) fun c31=>cq (bW 1 16 (e 5) (.slice (ag.next h25) 0 1 1) (ag.alloc h25 (.cells c31))) fun x32 h33=>af (aA .add (e 6) (.int .i64 1)) fun x34=>K .normal ⟨(aa (aa (aa (aa (aa (aa (aa (aa (aa (aa (aa (aa (aa (aa (aa (aa (aa (aa (aa (aa (aa (aa e 28 (e 6)) 29 (e 3)) 30 x20) 31 x21) 34 (e 5)) 35 (e 3)) 36 (e 6)) 37 x22) 38 x23) 39 x24) 40 x28) 41 (e 5)) 42 (e 3)) 43 (e 6)) 44 x29) 45 x30) 46 (.slice (ag.next h25) 0 1 1)) 47 x32) 5 x32) 32 (e 6)) 33 x34) 6 x34),49,[],h33⟩) (af (aA .add (e 6) (.int .i64 1)) fun x35=>K .normal ⟨(aa (aa (aa (aa (aa (aa (aa (aa (aa (aa (aa (aa (aa (aa e 28 (e 6)) 29 (e 3)) 30 x20) 31 x21) 34 (e 5)) 35 (e 3)) 36 (e 6)) 37 x22) 38 x23) 39 x24) 40 x28) 32 (e 6)) 33 x35) 6 x35),49,[],h25⟩)) (fun v26 h27=>K (.panic v26) ⟨(aa (aa (aa (aa (aa (aa (aa (aa (aa e 28 (e 6)) 29 (e 3)) 30 x20) 31 x21) 34 (e 5)) 35 (e 3)) 36 (e 6)) 37 x22) 38 x23),49,[],h27⟩))) (K (.exit 2) ⟨(aa (aa (aa (aa e 28 (e 6)) 29 (e 3)) 30 x20) 31 x21),49,[],h⟩)):=by kernel_rfl
theorem F.bF.b8{e:Env}{h:ag}{K:Out→ag→Bool}:F.bF.ig K (.exit 2) ⟨e,49,[],h⟩=(K (.ret (e 5)) h):=by kernel_rfl
theorem F.sQ{a0:AV}{h:ag}{K:Out→ag→Bool}:aq Tryz.prog (ah Tryz.prog) (aj Tryz.f44) ⟨aF [a0],49,[],h⟩ (aJ Tryz.prog dx Tryz.f44.results.toList K)=(af (cK a0) fun c0=>af (eF [] [] []) fun c1=>af (bD 0 (.ptr (ag.next h) 0)) fun x2=>af (bD 1 x2) fun x3=>af (ai none x3 (ag.alloc (ag.alloc h (.cells c0)) (.cells c1))) fun x4=>cq (bW 1 16 (.slice (ag.next (ag.alloc h (.cells c0))) 0 0 1) x4 (ag.alloc (ag.alloc h (.cells c0)) (.cells c1))) fun x5 h6=>aT (aq Tryz.prog (ah Tryz.prog) F.bF.L0) ⟨(aa (aa (aa (aa (aa (aa (aa (aa (aa (aF [a0]) 1 (.ptr (ag.next h) 0)) 2 .nils) 7 (.slice (ag.next (ag.alloc h (.cells c0))) 0 0 1)) 8 x2) 9 x3) 10 x4) 11 x5) 3 x5) 4 (.int .i64 0)),49,[],h6⟩ (F.bF.bY K)):=by kernel_rfl
theorem F.rL{a0:AV}{h:ag}{K:Out→ag→Bool}(hh:(af (cK a0) fun c0=>af (eF [] [] []) fun c1=>af (bD 0 (.ptr (ag.next h) 0)) fun x2=>af (bD 1 x2) fun x3=>af (ai none x3 (ag.alloc (ag.alloc h (.cells c0)) (.cells c1))) fun x4=>cq (bW 1 16 (.slice (ag.next (ag.alloc h (.cells c0))) 0 0 1) x4 (ag.alloc (ag.alloc h (.cells c0)) (.cells c1))) fun x5 h6=>aT (aq Tryz.prog (ah Tryz.prog) F.bF.L0) ⟨(aa (aa (aa (aa (aa (aa (aa (aa (aa (aF [a0]) 1 (.ptr (ag.next h) 0)) 2 .nils) 7 (.slice (ag.next (ag.alloc h (.cells c0))) 0 0 1)) 8 x2) 9 x3) 10 x4) 11 x5) 3 x5) 4 (.int .i64 0)),49,[],h6⟩ (F.bF.bY K))=true):Sem Tryz.prog 44 [a0] h K:=
 aQ mixed (aL _) Tryz.func44 (c:=aj Tryz.f44) rfl (by decide) (of_decide_eq_true (by kernel_rfl)) (F.sQ.trans hh)
noncomputable def F.cA.L0:Code:=partOf (aj Tryz.f84) [1,1,0,1,0,0]
noncomputable def F.cA.bY(K:Out→ag→Bool):AX→St→Bool:=(aU 0 (cB false (aq Tryz.prog (ah Tryz.prog) (partOf (aj Tryz.f84) [1,1,1])) (aJ Tryz.prog dx Tryz.f84.results.toList K)))
noncomputable def F.cA.J0(K:AX→St→Bool)(s:St):Bool:=Hv (aq Tryz.prog (ah Tryz.prog) (partOf (aj Tryz.f84) [1,1,0,1,0,0,1,0,0,1,0,1,0,1,1,1])) s (aU 2 (cB false (aq Tryz.prog (ah Tryz.prog) (partOf (aj Tryz.f84) [1,1,0,1,0,0,1,0,0,1,1])) (aU 1 (cB false (aq Tryz.prog (ah Tryz.prog) (partOf (aj Tryz.f84) [1,1,0,1,0,0,1,1])) K))))
theorem F.cA.aN{e:Env}{h:ag}{K:AX→St→Bool}:aq Tryz.prog (ah Tryz.prog) F.cA.L0 ⟨e,67,[],h⟩ K=(af (bD 2 (e 1)) fun x21=>af (ai none x21 h) fun x22=>af (bx .slice x22 h) fun x23=>af (aA .lss (e 3) x23) fun x24=>ax x24 (af (bD 2 (e 1)) fun x25=>af (ai none x25 h) fun x26=>af (cL 4 x26 (e 3)) fun x27=>af (ai (some 4) x27 h) fun x28=>af (bg 4 (.ptr (ag.next h) 0) x28 (ag.alloc h (.cells [(.int .i64 0),(.bool false),(.str []),.nils]))) fun h29=>af (bD 0 (.ptr (ag.next h) 0)) fun x30=>af (ai none x30 h29) fun x31=>af (fH (.int .i64) x31 (.int .i64 0)) fun x32=>ax x32 (af (bD 2 (.ptr (ag.next h) 0)) fun x33=>af (bD 0 x33) fun x34=>af (ai none x34 h29) fun x35=>ah Tryz.prog 116 [x35] h29 (br (fun x36 h37=>af (iI .not x36) fun x40=>ax x40 (K .ret ⟨(aa (aa (aa (aa (aa (aa (aa (aa (aa (aa (aa (aa (aa (aa (aa (aa (aa (aa (aa (aa (aa e 23 (e 3)) 24 x21) 25 x22) 26 x23) 27 x24) 30 x25) 31 x26) 32 (e 3)) 33 x27) 34 x28) 4 (.ptr (ag.next h) 0)) 35 x30) 36 x31) 38 x32) 37 x32) 39 x33) 40 x34) 41 x35) 42 x36) 43 x40) 2 (.bool false)),67,[],h37⟩) (af (bD 2 (.ptr (ag.next h) 0)) fun x41=>af (bD 1 x41) fun x42=>af (ai none x42 h37) fun x43=>ah Tryz.prog 134 [x43] h37 (br (fun x44 h45=>af (iI .not x44) fun x48=>ax x48 (K .ret ⟨(aa (aa (aa (aa (aa (aa (aa (aa (aa (aa (aa (aa (aa (aa (aa (aa (aa (aa (aa (aa (aa (aa (aa (aa (aa (aa e 23 (e 3)) 24 x21) 25 x22) 26 x23) 27 x24) 30 x25) 31 x26) 32 (e 3)) 33 x27) 34 x28) 4 (.ptr (ag.next h) 0)) 35 x30) 36 x31) 38 x32) 37 x32) 39 x33) 40 x34) 41 x35) 42 x36) 43 x40) 58 x41) 59 x42) 60 x43) 61 x44) 62 x48) 2 (.bool false)),67,[],h45⟩) (af (aA .add (e 3) (.int .i64 1)) fun x49=>K .normal ⟨(aa (aa (aa (aa (aa (aa (aa (aa (aa (aa (aa (aa (aa (aa (aa (aa (aa (aa (aa (aa (aa (aa (aa (aa (aa (aa (aa (aa e 23 (e 3)) 24 x21) 25 x22) 26 x23) 27 x24) 30 x25) 31 x26) 32 (e 3)) 33 x27) 34 x28) 4 (.ptr (ag.next h) 0)) 35 x30) 36 x31) 38 x32) 37 x32) 39 x33) 40 x34) 41 x35) 42 x36) 43 x40) 58 x41) 59 x42) 60 x43) 61 x44) 62 x48) 28 (e 3)) 29 x49) 3 x49),67,[],h45⟩)) (fun v46 h47=>K (.panic v46) ⟨(aa (aa (aa (aa (aa (aa (aa (aa (aa (aa (aa (aa (aa (aa (aa (aa (aa (aa (aa (aa (aa (aa (aa e 23 (e 3)) 24 x21) 25 x22) 26 x23) 27 x24) 30 x25) 31 x26) 32 (e 3)) 33 x27) 34 x28) 4 (.ptr (ag.next h) 0)) 35 x30) 36 x31) 38 x32) 37 x32) 39 x33) 40 x34) 41 x35) 42 x36) 43 x40) 58 x41) 59 x42) 60 x43),67,[],h47⟩)))) (fun v38 h39=>K (.panic v38) ⟨(aa (aa (aa (aa (aa (aa (aa (aa (aa (aa (aa (aa (aa (aa (aa (aa (aa (aa e 23 (e 3)) 24 x21) 25 x22) 26 x23) 27 x24) 30 x25) 31 x26) 32 (e 3)) 33 x27) 34 x28) 4 (.ptr (ag.next h) 0)) 35 x30) 36 x31) 38 x32) 37 x32) 39 x33) 40 x34) 41 x35),67,[],h39⟩))) (af (fH (.int .i64) x31 (.int .i64 1)) fun x50=>ax x50 (F.cA.J0 K ⟨(aa (aa (aa (aa (aa (aa (aa (aa (aa (aa (aa (aa (aa (aa (aa (aa (aa e 23 (e 3)) 24 x21) 25 x22) 26 x23) 27 x24) 30 x25) 31 x26) 32 (e 3)) 33 x27) 34 x28) 4 (.ptr (ag.next h) 0)) 35 x30) 36 x31) 38 x32) 37 x32) 45 x50) 44 x50),67,[],h29⟩) (af (fH (.int .i64) x31 (.int .i64 2)) fun x51=>F.cA.J0 K ⟨(aa (aa (aa (aa (aa (aa (aa (aa (aa (aa (aa (aa (aa (aa (aa (aa (aa (aa (aa e 23 (e 3)) 24 x21) 25 x22) 26 x23) 27 x24) 30 x25) 31 x26) 32 (e 3)) 33 x27) 34 x28) 4 (.ptr (ag.next h) 0)) 35 x30) 36 x31) 38 x32) 37 x32) 45 x50) 44 x50) 46 x51) 44 x51),67,[],h29⟩))) (K (.exit 0) ⟨(aa (aa (aa (aa (aa e 23 (e 3)) 24 x21) 25 x22) 26 x23) 27 x24),67,[],h⟩)):=by kernel_rfl
theorem F.cA.aD{e:Env}{h:ag}{K:Out→ag→Bool}:F.cA.bY K (.exit 0) ⟨e,67,[],h⟩=(af (ai (some 3) (e 1) h) fun x52=>ah Tryz.prog 44 [x52] h (br (fun x53 h54=>af (bx .slice x53 h54) fun x57=>af (aA .leq x57 (.int .i64 12)) fun x58=>K (.ret x58) h54) (fun v55 h56=>K (.panic v55) h56))):=by kernel_rfl
theorem F.cA.bq{e:Env}{h:ag}{K:Out→ag→Bool}:F.cA.bY K .ret ⟨e,67,[],h⟩=(K (.ret (e 2)) h):=by kernel_rfl
theorem F.cA.zm{e:Env}{h:ag}{K:AX→St→Bool}:F.cA.J0 K ⟨e,67,[],h⟩=(ax (e 44) (af (bD 2 (e 4)) fun x59=>af (bD 0 x59) fun x60=>af (ai none x60 h) fun x61=>af (lC .string x61 (.str [])) fun x62=>ax x62 (K .ret ⟨(aa (aa (aa (aa (aa (aa (aa (aa (aa (aa (aa (aa (aa (aa (aa (aa (aa e 47 x59) 48 x60) 49 x61) 50 x62) 51 x62) 51 (.bool true)) 52 bK) 51 (.bool true)) 53 bK) 51 (.bool true)) 54 bK) 51 (.bool true)) 55 bK) 51 (.bool true)) 56 bK) 57 (.bool true)) 2 (.bool false)),67,[],h⟩) (af (bD 2 (e 4)) fun x63=>af (bD 1 x63) fun x64=>af (ai none x64 h) fun x65=>af (bx .slice x65 h) fun x66=>af (lC (.int .i64) x66 (.int .i64 2)) fun x67=>ax x67 (K .ret ⟨(aa (aa (aa (aa (aa (aa (aa (aa (aa (aa (aa (aa (aa (aa (aa (aa (aa e 47 x59) 48 x60) 49 x61) 50 x62) 51 x62) 51 (.bool false)) 52 x63) 51 (.bool false)) 53 x64) 51 (.bool false)) 54 x65) 51 (.bool false)) 55 x66) 51 (.bool false)) 56 x67) 57 x67) 2 (.bool false)),67,[],h⟩) (af (bD 2 (e 4)) fun x68=>af (bD 1 x68) fun x69=>af (ai none x69 h) fun x70=>ah Tryz.prog 134 [x70] h (br (fun x71 h72=>af (iI .not x71) fun x75=>ax x75 (K .ret ⟨(aa (aa (aa (aa (aa (aa (aa (aa (aa (aa (aa (aa (aa (aa (aa (aa (aa (aa (aa (aa (aa (aa e 47 x59) 48 x60) 49 x61) 50 x62) 51 x62) 51 (.bool false)) 52 x63) 51 (.bool false)) 53 x64) 51 (.bool false)) 54 x65) 51 (.bool false)) 55 x66) 51 (.bool false)) 56 x67) 57 x67) 58 x68) 59 x69) 60 x70) 61 x71) 62 x75) 2 (.bool false)),67,[],h72⟩) (af (aA .add (e 3) (.int .i64 1)) fun x76=>K .normal ⟨(aa (aa (aa (aa (aa (aa (aa (aa (aa (aa (aa (aa (aa (aa (aa (aa (aa (aa (aa (aa (aa (aa (aa (aa e 47 x59) 48 x60) 49 x61) 50 x62) 51 x62) 51 (.bool false)) 52 x63) 51 (.bool false)) 53 x64) 51 (.bool false)) 54 x65) 51 (.bool false)) 55 x66) 51 (.bool false)) 56 x67) 57 x67) 58 x68) 59 x69) 60 x70) 61 x71) 62 x75) 28 (e 3)) 29 x76) 3 x76),67,[],h72⟩)) (fun v73 h74=>K (.panic v73) ⟨(aa (aa (aa (aa (aa (aa (aa (aa (aa (aa (aa (aa (aa (aa (aa (aa (aa (aa (aa e 47 x59) 48 x60) 49 x61) 50 x62) 51 x62) 51 (.bool false)) 52 x63) 51 (.bool false)) 53 x64) 51 (.bool false)) 54 x65) 51 (.bool false)) 55 x66) 51 (.bool false)) 56 x67) 57 x67) 58 x68) 59 x69) 60 x70),67,[],h74⟩))))) (K .ret ⟨(aa e 2 (.bool false)),67,[],h⟩)):=(tY _ _ _).trans (by kernel_rfl)
theorem F.AR{a0:AV}{h:ag}{K:Out→ag→Bool}:aq Tryz.prog (ah Tryz.prog) (aj Tryz.f84) ⟨aF [a0],67,[],h⟩ (aJ Tryz.prog dx Tryz.f84.results.toList K)=(af (cK a0) fun c0=>af (bD 0 (.ptr (ag.next h) 0)) fun x1=>af (bD 0 x1) fun x2=>af (ai none x2 (ag.alloc h (.cells c0))) fun x3=>ah Tryz.prog 116 [x3] (ag.alloc h (.cells c0)) (br (fun x4 h5=>af (iI .not x4) fun x8=>ax x8 (K (.ret (.bool false)) h5) (af (bD 0 (.ptr (ag.next h) 0)) fun x9=>af (bD 1 x9) fun x10=>af (ai none x10 h5) fun x11=>ah Tryz.prog 134 [x11] h5 (br (fun x12 h13=>af (iI .not x12) fun x16=>ax x16 (K (.ret (.bool false)) h13) (af (bD 2 (.ptr (ag.next h) 0)) fun x17=>af (ai none x17 h13) fun x18=>af (bx .slice x18 h13) fun x19=>af (aA .gtr x19 (.int .i64 20)) fun x20=>ax x20 (K (.ret (.bool false)) h13) (aT (aq Tryz.prog (ah Tryz.prog) F.cA.L0) ⟨(aa (aa (aa (aa (aa (aa (aa (aa (aa (aa (aa (aa (aa (aa (aa (aa (aa (aa (aa (aa (aa (aa (aa (aa (aa (aa (aa (aa (aa (aa (aF [a0]) 1 (.ptr (ag.next h) 0)) 2 (.bool false)) 5 x1) 6 x2) 7 x3) 8 x4) 9 x8) 10 x8) 10 (.bool false)) 11 x9) 10 (.bool false)) 12 x10) 10 (.bool false)) 13 x11) 10 (.bool false)) 14 x12) 10 (.bool false)) 15 x16) 16 x16) 17 x16) 17 (.bool false)) 18 x17) 17 (.bool false)) 19 x18) 17 (.bool false)) 20 x19) 17 (.bool false)) 21 x20) 22 x20) 3 (.int .i64 0)),67,[],h13⟩ (F.cA.bY K)))) (fun v14 h15=>K (.panic v14) h15)))) (fun v6 h7=>K (.panic v6) h7))):=by kernel_rfl
theorem F.zn{a0:AV}{h:ag}{K:Out→ag→Bool}(hh:(af (cK a0) fun c0=>af (bD 0 (.ptr (ag.next h) 0)) fun x1=>af (bD 0 x1) fun x2=>af (ai none x2 (ag.alloc h (.cells c0))) fun x3=>ah Tryz.prog 116 [x3] (ag.alloc h (.cells c0)) (br (fun x4 h5=>af (iI .not x4) fun x8=>ax x8 (K (.ret (.bool false)) h5) (af (bD 0 (.ptr (ag.next h) 0)) fun x9=>af (bD 1 x9) fun x10=>af (ai none x10 h5) fun x11=>ah Tryz.prog 134 [x11] h5 (br (fun x12 h13=>af (iI .not x12) fun x16=>ax x16 (K (.ret (.bool false)) h13) (af (bD 2 (.ptr (ag.next h) 0)) fun x17=>af (ai none x17 h13) fun x18=>af (bx .slice x18 h13) fun x19=>af (aA .gtr x19 (.int .i64 20)) fun x20=>ax x20 (K (.ret (.bool false)) h13) (aT (aq Tryz.prog (ah Tryz.prog) F.cA.L0) ⟨(aa (aa (aa (aa (aa (aa (aa (aa (aa (aa (aa (aa (aa (aa (aa (aa (aa (aa (aa (aa (aa (aa (aa (aa (aa (aa (aa (aa (aa (aa (aF [a0]) 1 (.ptr (ag.next h) 0)) 2 (.bool false)) 5 x1) 6 x2) 7 x3) 8 x4) 9 x8) 10 x8) 10 (.bool false)) 11 x9) 10 (.bool false)) 12 x10) 10 (.bool false)) 13 x11) 10 (.bool false)) 14 x12) 10 (.bool false)) 15 x16) 16 x16) 17 x16) 17 (.bool false)) 18 x17) 17 (.bool false)) 19 x18) 17 (.bool false)) 20 x19) 17 (.bool false)) 21 x20) 22 x20) 3 (.int .i64 0)),67,[],h13⟩ (F.cA.bY K)))) (fun v14 h15=>K (.panic v14) h15)))) (fun v6 h7=>K (.panic v6) h7)))=true):Sem Tryz.prog 84 [a0] h K:=
 aQ mixed (aL _) Tryz.func84 (c:=aj Tryz.f84) rfl (by decide) (of_decide_eq_true (by kernel_rfl)) (F.AR.trans hh)
end
end Go.AM
namespace Go.AM
open Go Go.Proofs
noncomputable section
noncomputable def F.dg.L0:Code:=partOf (aj Tryz.f29) [1,1,1,0,1,0,0]
noncomputable def F.dg.bY(K:Out→ag→Bool):AX→St→Bool:=(aU 0 (cB false (aq Tryz.prog (ah Tryz.prog) (partOf (aj Tryz.f29) [1,1,1,1])) (aJ Tryz.prog dx Tryz.f29.results.toList K)))
noncomputable def F.dg.L1:Code:=partOf (aj Tryz.f29) [1,1,1,0,1,0,0,1,0,0,1,1,0,0]
noncomputable def F.dg.ig(K:AX→St→Bool):AX→St→Bool:=(aU 2 (aU 1 (cB false (aq Tryz.prog (ah Tryz.prog) (partOf (aj Tryz.f29) [1,1,1,0,1,0,0,1,1])) K)))
theorem F.dg.aN{e:Env}{h:ag}{K:AX→St→Bool}:aq Tryz.prog (ah Tryz.prog) F.dg.L0 ⟨e,62,[],h⟩ K=(af (bx .slice (e 0) h) fun x2=>af (aA .lss (e 6) x2) fun x3=>ax x3 (af (aA .leq (e 5) (e 1)) fun x4=>ax x4 (af (aA .add (e 5) (.int .i64 1)) fun x5=>af (cL 3 (e 0) (e 6)) fun x6=>af (bD 0 x6) fun x7=>af (ai (some 2) x7 h) fun x8=>ah Tryz.prog 82 [x8] h (br (fun x9 h10=>af (aA .add x5 x9) fun x13=>aT (aq Tryz.prog (ah Tryz.prog) F.dg.L1) ⟨(aa (aa (aa (aa (aa (aa (aa (aa (aa (aa (aa (aa (aa (aa (aa (aa (aa (aa (aa (aa (aa (aa (aa e 11 (e 6)) 12 (e 0)) 13 x2) 14 x3) 15 x3) 15 (.bool true)) 16 (e 5)) 15 (.bool true)) 17 (e 1)) 15 (.bool true)) 18 x4) 19 x4) 22 (e 5)) 23 x5) 24 (e 0)) 25 (e 6)) 26 x6) 27 x7) 28 x8) 29 x9) 30 x13) 5 x13) 7 (.int .i64 0)),62,[],h10⟩ (F.dg.ig K)) (fun v11 h12=>K (.panic v11) ⟨(aa (aa (aa (aa (aa (aa (aa (aa (aa (aa (aa (aa (aa (aa (aa (aa (aa (aa (aa e 11 (e 6)) 12 (e 0)) 13 x2) 14 x3) 15 x3) 15 (.bool true)) 16 (e 5)) 15 (.bool true)) 17 (e 1)) 15 (.bool true)) 18 x4) 19 x4) 22 (e 5)) 23 x5) 24 (e 0)) 25 (e 6)) 26 x6) 27 x7) 28 x8),62,[],h12⟩))) (K (.exit 0) ⟨(aa (aa (aa (aa (aa (aa (aa (aa (aa (aa (aa (aa e 11 (e 6)) 12 (e 0)) 13 x2) 14 x3) 15 x3) 15 (.bool true)) 16 (e 5)) 15 (.bool true)) 17 (e 1)) 15 (.bool true)) 18 x4) 19 x4),62,[],h⟩)) (K (.exit 0) ⟨(aa (aa (aa (aa (aa (aa (aa (aa (aa (aa (aa (aa e 11 (e 6)) 12 (e 0)) 13 x2) 14 x3) 15 x3) 15 (.bool false)) 16 bK) 15 (.bool false)) 17 bK) 15 (.bool false)) 18 bK) 19 (.bool false)),62,[],h⟩)):=by kernel_rfl
theorem F.dg.aD{e:Env}{h:ag}{K:Out→ag→Bool}:F.dg.bY K (.exit 0) ⟨e,62,[],h⟩=(af (aA .leq (e 5) (e 1)) fun x14=>K (.ret x14) h):=by kernel_rfl
theorem F.dg.cP{e:Env}{h:ag}{K:AX→St→Bool}:aq Tryz.prog (ah Tryz.prog) F.dg.L1 ⟨e,62,[],h⟩ K=(af (cL 3 (e 0) (e 6)) fun x15=>af (bD 2 x15) fun x16=>af (ai none x16 h) fun x17=>af (bx .slice x17 h) fun x18=>af (aA .lss (e 7) x18) fun x19=>ax x19 (af (aA .leq (e 5) (e 1)) fun x20=>ax x20 (af (aA .add (e 5) (.int .i64 1)) fun x21=>af (cL 3 (e 0) (e 6)) fun x22=>af (bD 2 x22) fun x23=>af (ai none x23 h) fun x24=>af (cL 4 x24 (e 7)) fun x25=>af (bD 2 x25) fun x26=>af (ai (some 2) x26 h) fun x27=>ah Tryz.prog 82 [x27] h (br (fun x28 h29=>af (aA .add x21 x28) fun x32=>af (aA .add (e 7) (.int .i64 1)) fun x33=>K .normal ⟨(aa (aa (aa (aa (aa (aa (aa (aa (aa (aa (aa (aa (aa (aa (aa (aa (aa (aa (aa (aa (aa (aa (aa (aa (aa (aa (aa (aa (aa (aa (aa (aa (aa e 31 (e 7)) 32 (e 0)) 33 (e 6)) 34 x15) 35 x16) 36 x17) 37 x18) 38 x19) 39 x19) 39 (.bool true)) 40 (e 5)) 39 (.bool true)) 41 (e 1)) 39 (.bool true)) 42 x20) 43 x20) 46 (e 5)) 47 x21) 48 (e 0)) 49 (e 6)) 50 x22) 51 x23) 52 x24) 53 (e 7)) 54 x25) 55 x26) 56 x27) 57 x28) 58 x32) 5 x32) 44 (e 7)) 45 x33) 7 x33),62,[],h29⟩) (fun v30 h31=>K (.panic v30) ⟨(aa (aa (aa (aa (aa (aa (aa (aa (aa (aa (aa (aa (aa (aa (aa (aa (aa (aa (aa (aa (aa (aa (aa (aa (aa (aa (aa e 31 (e 7)) 32 (e 0)) 33 (e 6)) 34 x15) 35 x16) 36 x17) 37 x18) 38 x19) 39 x19) 39 (.bool true)) 40 (e 5)) 39 (.bool true)) 41 (e 1)) 39 (.bool true)) 42 x20) 43 x20) 46 (e 5)) 47 x21) 48 (e 0)) 49 (e 6)) 50 x22) 51 x23) 52 x24) 53 (e 7)) 54 x25) 55 x26) 56 x27),62,[],h31⟩))) (K (.exit 2) ⟨(aa (aa (aa (aa (aa (aa (aa (aa (aa (aa (aa (aa (aa (aa (aa (aa e 31 (e 7)) 32 (e 0)) 33 (e 6)) 34 x15) 35 x16) 36 x17) 37 x18) 38 x19) 39 x19) 39 (.bool true)) 40 (e 5)) 39 (.bool true)) 41 (e 1)) 39 (.bool true)) 42 x20) 43 x20),62,[],h⟩)) (K (.exit 2) ⟨(aa (aa (aa (aa (aa (aa (aa (aa (aa (aa (aa (aa (aa (aa (aa (aa e 31 (e 7)) 32 (e 0)) 33 (e 6)) 34 x15) 35 x16) 36 x17) 37 x18) 38 x19) 39 x19) 39 (.bool false)) 40 bK) 39 (.bool false)) 41 bK) 39 (.bool false)) 42 bK) 43 (.bool false)),62,[],h⟩)):=by kernel_rfl
theorem F.dg.b8{e:Env}{h:ag}{K:AX→St→Bool}:F.dg.ig K (.exit 2) ⟨e,62,[],h⟩=(af (aA .add (e 6) (.int .i64 1)) fun x34=>K .normal ⟨(aa (aa (aa e 20 (e 6)) 21 x34) 6 x34),62,[],h⟩):=by kernel_rfl
theorem F.CI{a0 a1:AV}{h:ag}{K:Out→ag→Bool}:aq Tryz.prog (ah Tryz.prog) (aj Tryz.f29) ⟨aF [a0,a1],62,[],h⟩ (aJ Tryz.prog dx Tryz.f29.results.toList K)=(af (bx .slice a0 h) fun x0=>af (aA .gtr x0 (.int .i64 70)) fun x1=>ax x1 (K (.ret (.bool false)) h) (aT (aq Tryz.prog (ah Tryz.prog) F.dg.L0) ⟨(aa (aa (aa (aa (aa (aa (aF [a0,a1]) 4 (.bool false)) 8 a0) 9 x0) 10 x1) 5 (.int .i64 0)) 6 (.int .i64 0)),62,[],h⟩ (F.dg.bY K))):=by kernel_rfl
theorem F.AS{a0 a1:AV}{h:ag}{K:Out→ag→Bool}(hh:(af (bx .slice a0 h) fun x0=>af (aA .gtr x0 (.int .i64 70)) fun x1=>ax x1 (K (.ret (.bool false)) h) (aT (aq Tryz.prog (ah Tryz.prog) F.dg.L0) ⟨(aa (aa (aa (aa (aa (aa (aF [a0,a1]) 4 (.bool false)) 8 a0) 9 x0) 10 x1) 5 (.int .i64 0)) 6 (.int .i64 0)),62,[],h⟩ (F.dg.bY K)))=true):Sem Tryz.prog 29 [a0,a1] h K:=
 aQ mixed (aL _) Tryz.func29 (c:=aj Tryz.f29) rfl (by decide) (of_decide_eq_true (by kernel_rfl)) (F.CI.trans hh)
noncomputable def F.eH.L0:Code:=partOf (aj Tryz.f82) [1,1,0,1,0,0]
noncomputable def F.eH.bY(K:Out→ag→Bool):AX→St→Bool:=(aU 0 (cB false (aq Tryz.prog (ah Tryz.prog) (partOf (aj Tryz.f82) [1,1,1])) (aJ Tryz.prog dx Tryz.f82.results.toList K)))
theorem F.eH.aN{e:Env}{h:ag}{K:AX→St→Bool}:aq Tryz.prog (ah Tryz.prog) F.eH.L0 ⟨e,34,[],h⟩ K=(af (bD 1 (e 1)) fun x9=>af (ai none x9 h) fun x10=>af (bx .slice x10 h) fun x11=>af (aA .lss (e 4) x11) fun x12=>ax x12 (af (aA .lss (e 3) (.int .i64 10000)) fun x13=>ax x13 (af (bD 1 (e 1)) fun x14=>af (ai none x14 h) fun x15=>af (cL 1 x15 (e 4)) fun x16=>af (ai none x16 h) fun x17=>af (bx .str x17 h) fun x18=>af (aA .quo x18 (.int .i64 20)) fun x19=>af (aA .add (e 3) x19) fun x20=>af (aA .add (e 4) (.int .i64 1)) fun x21=>K .normal ⟨(aa (aa (aa (aa (aa (aa (aa (aa (aa (aa (aa (aa (aa (aa (aa (aa (aa (aa (aa (aa (aa (aa (aa (aa e 13 (e 4)) 14 x9) 15 x10) 16 x11) 17 x12) 18 x12) 18 (.bool true)) 19 (e 3)) 18 (.bool true)) 20 x13) 21 x13) 24 (e 3)) 25 x14) 26 x15) 27 (e 4)) 28 x16) 29 x17) 30 x18) 31 x19) 32 x20) 3 x20) 22 (e 4)) 23 x21) 4 x21),34,[],h⟩) (K (.exit 0) ⟨(aa (aa (aa (aa (aa (aa (aa (aa (aa (aa (aa e 13 (e 4)) 14 x9) 15 x10) 16 x11) 17 x12) 18 x12) 18 (.bool true)) 19 (e 3)) 18 (.bool true)) 20 x13) 21 x13),34,[],h⟩)) (K (.exit 0) ⟨(aa (aa (aa (aa (aa (aa (aa (aa (aa (aa (aa e 13 (e 4)) 14 x9) 15 x10) 16 x11) 17 x12) 18 x12) 18 (.bool false)) 19 bK) 18 (.bool false)) 20 bK) 21 (.bool false)),34,[],h⟩)):=by kernel_rfl
theorem F.eH.aD{e:Env}{h:ag}{K:Out→ag→Bool}:F.eH.bY K (.exit 0) ⟨e,34,[],h⟩=(K (.ret (e 3)) h):=by kernel_rfl
theorem F.AT{a0:AV}{h:ag}{K:Out→ag→Bool}:aq Tryz.prog (ah Tryz.prog) (aj Tryz.f82) ⟨aF [a0],34,[],h⟩ (aJ Tryz.prog dx Tryz.f82.results.toList K)=(af (cK a0) fun c0=>af (bD 1 (.ptr (ag.next h) 0)) fun x1=>af (ai none x1 (ag.alloc h (.cells c0))) fun x2=>af (bx .slice x2 (ag.alloc h (.cells c0))) fun x3=>af (bD 0 (.ptr (ag.next h) 0)) fun x4=>af (ai none x4 (ag.alloc h (.cells c0))) fun x5=>af (bx .str x5 (ag.alloc h (.cells c0))) fun x6=>af (aA .quo x6 (.int .i64 20)) fun x7=>af (aA .add x3 x7) fun x8=>aT (aq Tryz.prog (ah Tryz.prog) F.eH.L0) ⟨(aa (aa (aa (aa (aa (aa (aa (aa (aa (aa (aa (aa (aF [a0]) 1 (.ptr (ag.next h) 0)) 2 (.int .i64 0)) 5 x1) 6 x2) 7 x3) 8 x4) 9 x5) 10 x6) 11 x7) 12 x8) 3 x8) 4 (.int .i64 0)),34,[],(ag.alloc h (.cells c0))⟩ (F.eH.bY K)):=by kernel_rfl
theorem F.zo{a0:AV}{h:ag}{K:Out→ag→Bool}(hh:(af (cK a0) fun c0=>af (bD 1 (.ptr (ag.next h) 0)) fun x1=>af (ai none x1 (ag.alloc h (.cells c0))) fun x2=>af (bx .slice x2 (ag.alloc h (.cells c0))) fun x3=>af (bD 0 (.ptr (ag.next h) 0)) fun x4=>af (ai none x4 (ag.alloc h (.cells c0))) fun x5=>af (bx .str x5 (ag.alloc h (.cells c0))) fun x6=>af (aA .quo x6 (.int .i64 20)) fun x7=>af (aA .add x3 x7) fun x8=>aT (aq Tryz.prog (ah Tryz.prog) F.eH.L0) ⟨(aa (aa (aa (aa (aa (aa (aa (aa (aa (aa (aa (aa (aF [a0]) 1 (.ptr (ag.next h) 0)) 2 (.int .i64 0)) 5 x1) 6 x2) 7 x3) 8 x4) 9 x5) 10 x6) 11 x7) 12 x8) 3 x8) 4 (.int .i64 0)),34,[],(ag.alloc h (.cells c0))⟩ (F.eH.bY K))=true):Sem Tryz.prog 82 [a0] h K:=
 aQ mixed (aL _) Tryz.func82 (c:=aj Tryz.f82) rfl (by decide) (of_decide_eq_true (by kernel_rfl)) (F.AT.trans hh)
noncomputable def F.b7.L0:Code:=partOf (aj Tryz.f83) [1,1,1,0,1,0,0]
noncomputable def F.b7.bY(K:Out→ag→Bool):AX→St→Bool:=(aU 0 (cB false (aq Tryz.prog (ah Tryz.prog) (partOf (aj Tryz.f83) [1,1,1,1])) (aJ Tryz.prog dx Tryz.f83.results.toList K)))
noncomputable def F.b7.L1:Code:=partOf (aj Tryz.f83) [1,1,1,0,1,0,0,1,1,0,0,1,1,0,1,0,0]
noncomputable def F.b7.ig(K:AX→St→Bool):AX→St→Bool:=(aU 2 (cB false (aq Tryz.prog (ah Tryz.prog) (partOf (aj Tryz.f83) [1,1,1,0,1,0,0,1,1,0,0,1,1,1])) (aU 1 (cB false (aq Tryz.prog (ah Tryz.prog) (partOf (aj Tryz.f83) [1,1,1,0,1,0,0,1,1,1])) K))))
noncomputable def F.b7.L2:Code:=partOf (aj Tryz.f83) [1,1,1,1,0,1,0,0]
noncomputable def F.b7.sR(K:Out→ag→Bool):AX→St→Bool:=(aU 4 (cB false (aq Tryz.prog (ah Tryz.prog) (partOf (aj Tryz.f83) [1,1,1,1,1])) (aJ Tryz.prog dx Tryz.f83.results.toList K)))
theorem F.b7.aN{e:Env}{h:ag}{K:AX→St→Bool}:aq Tryz.prog (ah Tryz.prog) F.b7.L0 ⟨e,90,[],h⟩ K=(af (aA .lss (e 19) (e 18)) fun x5=>ax x5 (af (cL 3 (e 17) (e 19)) fun x6=>af (ai (some 3) x6 h) fun x7=>af (bg 3 (.ptr (ag.next h) 0) x7 (ag.alloc h (.cells [(.str []),.nils,.nils]))) fun h8=>af (bD 0 (.ptr (ag.next h) 0)) fun x9=>af (ai (some 2) x9 h8) fun x10=>ah Tryz.prog 130 [x10] h8 (br (fun x11 h12=>af (iI .not x11) fun x15=>ax x15 (K .ret ⟨(aa (aa (aa (aa (aa (aa (aa (aa (aa (aa (aa (aa (aa (aa (aa (aa (aa (aa (aa (aa (aa (aa (aa (aa (aa (aa (aa (aa (aa (aa (aa (aa (aa (aa (aa (aa (aa (aa (aa (aa (aa (aa e 20 x5) 21 x6) 22 x7) 6 (.ptr (ag.next h) 0)) 23 x9) 24 x10) 25 x11) 26 x15) 27 x15) 27 (.bool true)) 28 bK) 27 (.bool true)) 29 bK) 27 (.bool true)) 30 bK) 27 (.bool true)) 31 bK) 27 (.bool true)) 32 bK) 33 (.bool true)) 34 (.bool true)) 34 (.bool true)) 35 bK) 34 (.bool true)) 36 bK) 34 (.bool true)) 37 bK) 34 (.bool true)) 38 bK) 39 (.bool true)) 40 (.bool true)) 40 (.bool true)) 41 bK) 40 (.bool true)) 42 bK) 40 (.bool true)) 43 bK) 40 (.bool true)) 44 bK) 45 (.bool true)) 2 .nilp) 3 (.bool false)),90,[],h12⟩) (af (bD 0 (.ptr (ag.next h) 0)) fun x16=>af (ai (some 2) x16 h12) fun x17=>ah Tryz.prog 131 [(e 4),x17] h12 (br (fun x18 h19=>af (iI .not x18) fun x22=>ax x22 (K .ret ⟨(aa (aa (aa (aa (aa (aa (aa (aa (aa (aa (aa (aa (aa (aa (aa (aa (aa (aa (aa (aa (aa (aa (aa (aa (aa (aa (aa (aa (aa (aa (aa (aa (aa (aa (aa (aa (aa (aa (aa (aa (aa (aa e 20 x5) 21 x6) 22 x7) 6 (.ptr (ag.next h) 0)) 23 x9) 24 x10) 25 x11) 26 x15) 27 x15) 27 (.bool false)) 28 (e 4)) 27 (.bool false)) 29 x16) 27 (.bool false)) 30 x17) 27 (.bool false)) 31 x18) 27 (.bool false)) 32 x22) 33 x22) 34 x22) 34 (.bool true)) 35 bK) 34 (.bool true)) 36 bK) 34 (.bool true)) 37 bK) 34 (.bool true)) 38 bK) 39 (.bool true)) 40 (.bool true)) 40 (.bool true)) 41 bK) 40 (.bool true)) 42 bK) 40 (.bool true)) 43 bK) 40 (.bool true)) 44 bK) 45 (.bool true)) 2 .nilp) 3 (.bool false)),90,[],h19⟩) (af (bD 2 (.ptr (ag.next h) 0)) fun x23=>af (ai none x23 h19) fun x24=>af (bx .slice x24 h19) fun x25=>af (aA .gtr x25 (.int .i64 20)) fun x26=>ax x26 (K .ret ⟨(aa (aa (aa (aa (aa (aa (aa (aa (aa (aa (aa (aa (aa (aa (aa (aa (aa (aa (aa (aa (aa (aa (aa (aa (aa (aa (aa (aa (aa (aa (aa (aa (aa (aa (aa (aa (aa (aa (aa (aa (aa (aa e 20 x5) 21 x6) 22 x7) 6 (.ptr (ag.next h) 0)) 23 x9) 24 x10) 25 x11) 26 x15) 27 x15) 27 (.bool false)) 28 (e 4)) 27 (.bool false)) 29 x16) 27 (.bool false)) 30 x17) 27 (.bool false)) 31 x18) 27 (.bool false)) 32 x22) 33 x22) 34 x22) 34 (.bool false)) 35 x23) 34 (.bool false)) 36 x24) 34 (.bool false)) 37 x25) 34 (.bool false)) 38 x26) 39 x26) 40 x26) 40 (.bool true)) 41 bK) 40 (.bool true)) 42 bK) 40 (.bool true)) 43 bK) 40 (.bool true)) 44 bK) 45 (.bool true)) 2 .nilp) 3 (.bool false)),90,[],h19⟩) (af (ai (some 3) (.ptr (ag.next h) 0) h19) fun x27=>ah Tryz.prog 108 [x27] h19 (br (fun x28 h29=>af (bx .slice x28 h29) fun x32=>af (aA .gtr x32 (.int .i64 12)) fun x33=>ax x33 (K .ret ⟨(aa (aa (aa (aa (aa (aa (aa (aa (aa (aa (aa (aa (aa (aa (aa (aa (aa (aa (aa (aa (aa (aa (aa (aa (aa (aa (aa (aa (aa (aa (aa (aa (aa (aa (aa (aa (aa (aa (aa (aa (aa (aa e 20 x5) 21 x6) 22 x7) 6 (.ptr (ag.next h) 0)) 23 x9) 24 x10) 25 x11) 26 x15) 27 x15) 27 (.bool false)) 28 (e 4)) 27 (.bool false)) 29 x16) 27 (.bool false)) 30 x17) 27 (.bool false)) 31 x18) 27 (.bool false)) 32 x22) 33 x22) 34 x22) 34 (.bool false)) 35 x23) 34 (.bool false)) 36 x24) 34 (.bool false)) 37 x25) 34 (.bool false)) 38 x26) 39 x26) 40 x26) 40 (.bool false)) 41 x27) 40 (.bool false)) 42 x28) 40 (.bool false)) 43 x32) 40 (.bool false)) 44 x33) 45 x33) 2 .nilp) 3 (.bool false)),90,[],h29⟩) (af (bD 2 (.ptr (ag.next h) 0)) fun x34=>af (ai none x34 h29) fun x35=>af (bx .slice x35 h29) fun x36=>aT (aq Tryz.prog (ah Tryz.prog) F.b7.L1) ⟨(aa (aa (aa (aa (aa (aa (aa (aa (aa (aa (aa (aa (aa (aa (aa (aa (aa (aa (aa (aa (aa (aa (aa (aa (aa (aa (aa (aa (aa (aa (aa (aa (aa (aa (aa (aa (aa (aa (aa (aa (aa (aa (aa (aa e 20 x5) 21 x6) 22 x7) 6 (.ptr (ag.next h) 0)) 23 x9) 24 x10) 25 x11) 26 x15) 27 x15) 27 (.bool false)) 28 (e 4)) 27 (.bool false)) 29 x16) 27 (.bool false)) 30 x17) 27 (.bool false)) 31 x18) 27 (.bool false)) 32 x22) 33 x22) 34 x22) 34 (.bool false)) 35 x23) 34 (.bool false)) 36 x24) 34 (.bool false)) 37 x25) 34 (.bool false)) 38 x26) 39 x26) 40 x26) 40 (.bool false)) 41 x27) 40 (.bool false)) 42 x28) 40 (.bool false)) 43 x32) 40 (.bool false)) 44 x33) 45 x33) 46 x34) 47 x35) 48 x36) 49 (.int .i64 0)),90,[],h29⟩ (F.b7.ig K))) (fun v30 h31=>K (.panic v30) ⟨(aa (aa (aa (aa (aa (aa (aa (aa (aa (aa (aa (aa (aa (aa (aa (aa (aa (aa (aa (aa (aa (aa (aa (aa (aa (aa (aa (aa (aa (aa (aa (aa (aa (aa e 20 x5) 21 x6) 22 x7) 6 (.ptr (ag.next h) 0)) 23 x9) 24 x10) 25 x11) 26 x15) 27 x15) 27 (.bool false)) 28 (e 4)) 27 (.bool false)) 29 x16) 27 (.bool false)) 30 x17) 27 (.bool false)) 31 x18) 27 (.bool false)) 32 x22) 33 x22) 34 x22) 34 (.bool false)) 35 x23) 34 (.bool false)) 36 x24) 34 (.bool false)) 37 x25) 34 (.bool false)) 38 x26) 39 x26) 40 x26) 40 (.bool false)) 41 x27) 40 (.bool false)),90,[],h31⟩))))) (fun v20 h21=>K (.panic v20) ⟨(aa (aa (aa (aa (aa (aa (aa (aa (aa (aa (aa (aa (aa (aa (aa (aa e 20 x5) 21 x6) 22 x7) 6 (.ptr (ag.next h) 0)) 23 x9) 24 x10) 25 x11) 26 x15) 27 x15) 27 (.bool false)) 28 (e 4)) 27 (.bool false)) 29 x16) 27 (.bool false)) 30 x17) 27 (.bool false)),90,[],h21⟩)))) (fun v13 h14=>K (.panic v13) ⟨(aa (aa (aa (aa (aa (aa e 20 x5) 21 x6) 22 x7) 6 (.ptr (ag.next h) 0)) 23 x9) 24 x10),90,[],h14⟩))) (K (.exit 0) ⟨(aa e 20 x5),90,[],h⟩)):=by kernel_rfl
theorem F.b7.aD{e:Env}{h:ag}{K:Out→ag→Bool}:F.b7.bY K (.exit 0) ⟨e,90,[],h⟩=(af (bS (e 4)) fun x37=>af (bD 2 x37) fun x38=>af (ai none x38 h) fun x39=>af (bx .map x39 h) fun x40=>af (aA .add x40 (.int .i64 1)) fun x41=>aT (aq Tryz.prog (ah Tryz.prog) F.b7.L2) ⟨(aa (aa (aa (aa (aa (aa (aa e 77 (e 4)) 78 x37) 79 x38) 80 x39) 81 x40) 82 x41) 83 (.int .i64 0)),90,[],h⟩ (F.b7.sR K)):=by kernel_rfl
theorem F.b7.bq{e:Env}{h:ag}{K:Out→ag→Bool}:F.b7.bY K .ret ⟨e,90,[],h⟩=(K (.ret (.tuple [(e 2),(e 3)])) h):=by kernel_rfl
theorem F.b7.cP{e:Env}{h:ag}{K:AX→St→Bool}:aq Tryz.prog (ah Tryz.prog) F.b7.L1 ⟨e,90,[],h⟩ K=(af (aA .lss (e 49) (e 48)) fun x42=>ax x42 (af (cL 4 (e 47) (e 49)) fun x43=>af (ai (some 4) x43 h) fun x44=>af (bg 4 (.ptr (ag.next h) 0) x44 (ag.alloc h (.cells [(.int .i64 0),(.bool false),(.str []),.nils]))) fun h45=>af (ai (some 4) (.ptr (ag.next h) 0) h45) fun x46=>ah Tryz.prog 132 [x46] h45 (br (fun x47 h48=>af (iI .not x47) fun x51=>ax x51 (K .ret ⟨(aa (aa (aa (aa (aa (aa (aa (aa (aa (aa (aa (aa (aa (aa (aa (aa (aa (aa (aa (aa (aa (aa (aa (aa (aa (aa e 50 x42) 51 x43) 52 x44) 8 (.ptr (ag.next h) 0)) 53 x46) 54 x47) 55 x51) 56 x51) 56 (.bool true)) 57 bK) 56 (.bool true)) 58 bK) 56 (.bool true)) 59 bK) 56 (.bool true)) 60 bK) 61 bK) 62 bK) 63 bK) 64 bK) 65 bK) 56 (.bool true)) 66 bK) 67 (.bool true)) 2 .nilp) 3 (.bool false)),90,[],h48⟩) (af (bD 0 (.ptr (ag.next h) 0)) fun x52=>af (ai none x52 h48) fun x53=>af (fH (.int .i64) x53 (.int .i64 0)) fun x54=>ax x54 (af (bD 2 (.ptr (ag.next h) 0)) fun x55=>af (ai (some 2) x55 h48) fun x56=>ah Tryz.prog 131 [(e 4),x56] h48 (br (fun x57 h58=>af (iI .not x57) fun x61=>ax x61 (K .ret ⟨(aa (aa (aa (aa (aa (aa (aa (aa (aa (aa (aa (aa (aa (aa (aa (aa (aa (aa (aa (aa (aa (aa (aa (aa (aa (aa (aa (aa (aa (aa (aa e 50 x42) 51 x43) 52 x44) 8 (.ptr (ag.next h) 0)) 53 x46) 54 x47) 55 x51) 56 x51) 56 (.bool false)) 57 x52) 56 (.bool false)) 58 x53) 56 (.bool false)) 59 x54) 56 (.bool false)) 60 x54) 60 (.bool true)) 61 (e 4)) 60 (.bool true)) 62 x55) 60 (.bool true)) 63 x56) 60 (.bool true)) 64 x57) 60 (.bool true)) 65 x61) 56 (.bool false)) 66 x61) 67 x61) 2 .nilp) 3 (.bool false)),90,[],h58⟩) (af (aA .add (e 49) (.int .i64 1)) fun x62=>K .normal ⟨(aa (aa (aa (aa (aa (aa (aa (aa (aa (aa (aa (aa (aa (aa (aa (aa (aa (aa (aa (aa (aa (aa (aa (aa (aa (aa (aa (aa (aa (aa (aa e 50 x42) 51 x43) 52 x44) 8 (.ptr (ag.next h) 0)) 53 x46) 54 x47) 55 x51) 56 x51) 56 (.bool false)) 57 x52) 56 (.bool false)) 58 x53) 56 (.bool false)) 59 x54) 56 (.bool false)) 60 x54) 60 (.bool true)) 61 (e 4)) 60 (.bool true)) 62 x55) 60 (.bool true)) 63 x56) 60 (.bool true)) 64 x57) 60 (.bool true)) 65 x61) 56 (.bool false)) 66 x61) 67 x61) 68 x62) 49 x62),90,[],h58⟩)) (fun v59 h60=>K (.panic v59) ⟨(aa (aa (aa (aa (aa (aa (aa (aa (aa (aa (aa (aa (aa (aa (aa (aa (aa (aa (aa (aa (aa (aa (aa e 50 x42) 51 x43) 52 x44) 8 (.ptr (ag.next h) 0)) 53 x46) 54 x47) 55 x51) 56 x51) 56 (.bool false)) 57 x52) 56 (.bool false)) 58 x53) 56 (.bool false)) 59 x54) 56 (.bool false)) 60 x54) 60 (.bool true)) 61 (e 4)) 60 (.bool true)) 62 x55) 60 (.bool true)) 63 x56) 60 (.bool true)),90,[],h60⟩))) (af (aA .add (e 49) (.int .i64 1)) fun x63=>K .normal ⟨(aa (aa (aa (aa (aa (aa (aa (aa (aa (aa (aa (aa (aa (aa (aa (aa (aa (aa (aa (aa (aa (aa (aa (aa (aa (aa (aa (aa (aa (aa (aa e 50 x42) 51 x43) 52 x44) 8 (.ptr (ag.next h) 0)) 53 x46) 54 x47) 55 x51) 56 x51) 56 (.bool false)) 57 x52) 56 (.bool false)) 58 x53) 56 (.bool false)) 59 x54) 56 (.bool false)) 60 x54) 60 (.bool false)) 61 bK) 60 (.bool false)) 62 bK) 60 (.bool false)) 63 bK) 60 (.bool false)) 64 bK) 60 (.bool false)) 65 bK) 56 (.bool false)) 66 (.bool false)) 67 (.bool false)) 68 x63) 49 x63),90,[],h48⟩))) (fun v49 h50=>K (.panic v49) ⟨(aa (aa (aa (aa (aa e 50 x42) 51 x43) 52 x44) 8 (.ptr (ag.next h) 0)) 53 x46),90,[],h50⟩))) (K (.exit 2) ⟨(aa e 50 x42),90,[],h⟩)):=by kernel_rfl
theorem F.b7.b8{e:Env}{h:ag}{K:AX→St→Bool}:F.b7.ig K (.exit 2) ⟨e,90,[],h⟩=(af (bS (e 4)) fun x64=>af (bD 2 x64) fun x65=>af (ai none x65 h) fun x66=>af (bD 0 (e 6)) fun x67=>af (bD 0 x67) fun x68=>af (ai none x68 h) fun x69=>af (ew .string x66 x69 (.int .i64 0) h) fun h70=>af (aA .add (e 19) (.int .i64 1)) fun x71=>K .normal ⟨(aa (aa (aa (aa (aa (aa (aa (aa (aa e 69 (e 4)) 70 x64) 71 x65) 72 x66) 73 x67) 74 x68) 75 x69) 76 x71) 19 x71),90,[],h70⟩):=by kernel_rfl
theorem F.b7.fY{e:Env}{h:ag}{K:AX→St→Bool}:F.b7.ig K .ret ⟨e,90,[],h⟩=(K .ret ⟨e,90,[],h⟩):=by kernel_rfl
theorem F.b7.ju{e:Env}{h:ag}{K:AX→St→Bool}:aq Tryz.prog (ah Tryz.prog) F.b7.L2 ⟨e,90,[],h⟩ K=(af (aA .lss (e 83) (e 82)) fun x72=>ax x72 (ah Tryz.prog 133 [(e 4)] h (br (fun x73 h74=>af (iI .not x73) fun x77=>ax x77 (K .ret ⟨(aa (aa (aa (aa (aa (aa (aa e 84 x72) 85 (e 4)) 86 x73) 87 x77) 88 (e 4)) 2 (e 4)) 3 (.bool true)),90,[],h74⟩) (af (aA .add (e 83) (.int .i64 1)) fun x78=>K .normal ⟨(aa (aa (aa (aa (aa (aa e 84 x72) 85 (e 4)) 86 x73) 87 x77) 89 x78) 83 x78),90,[],h74⟩)) (fun v75 h76=>K (.panic v75) ⟨(aa (aa e 84 x72) 85 (e 4)),90,[],h76⟩))) (K (.exit 4) ⟨(aa e 84 x72),90,[],h⟩)):=by kernel_rfl
theorem F.b7.fV{e:Env}{h:ag}{K:Out→ag→Bool}:F.b7.sR K (.exit 4) ⟨e,90,[],h⟩=(K (.ret (.tuple [.nilp,(.bool false)])) h):=by kernel_rfl
theorem F.b7.uh{e:Env}{h:ag}{K:Out→ag→Bool}:F.b7.sR K .ret ⟨e,90,[],h⟩=(K (.ret (.tuple [(e 2),(e 3)])) h):=by kernel_rfl
theorem F.DW{a0:AV}{h:ag}{K:Out→ag→Bool}:aq Tryz.prog (ah Tryz.prog) (aj Tryz.f83) ⟨aF [a0],90,[],h⟩ (aJ Tryz.prog dx Tryz.f83.results.toList K)=(af (gQ [.nils,.nilm,.nilm] [(0,1),(1,1),(2,1)] [a0,(.map (ag.next h)),(.map (ag.next (ag.alloc h (.map [] 0))))]) fun x0=>af (cK x0) fun c1=>af (bx .slice a0 (ag.alloc (ag.alloc (ag.alloc h (.map [] 0)) (.map [] 0)) (.cells c1))) fun x2=>af (aA .gtr x2 (.int .i64 60)) fun x3=>ax x3 (K (.ret (.tuple [.nilp,(.bool false)])) (ag.alloc (ag.alloc (ag.alloc h (.map [] 0)) (.map [] 0)) (.cells c1))) (af (bx .slice a0 (ag.alloc (ag.alloc (ag.alloc h (.map [] 0)) (.map [] 0)) (.cells c1))) fun x4=>aT (aq Tryz.prog (ah Tryz.prog) F.b7.L0) ⟨(aa (aa (aa (aa (aa (aa (aa (aa (aa (aa (aa (aa (aa (aa (aF [a0]) 2 .nilp) 3 (.bool false)) 9 a0) 10 (.map (ag.next h))) 11 (.map (ag.next (ag.alloc h (.map [] 0))))) 12 x0) 13 (.ptr (ag.next (ag.alloc (ag.alloc h (.map [] 0)) (.map [] 0))) 0)) 4 (.ptr (ag.next (ag.alloc (ag.alloc h (.map [] 0)) (.map [] 0))) 0)) 14 a0) 15 x2) 16 x3) 17 a0) 18 x4) 19 (.int .i64 0)),90,[],(ag.alloc (ag.alloc (ag.alloc h (.map [] 0)) (.map [] 0)) (.cells c1))⟩ (F.b7.bY K))):=by kernel_rfl
theorem F.CJ{a0:AV}{h:ag}{K:Out→ag→Bool}(hh:(af (gQ [.nils,.nilm,.nilm] [(0,1),(1,1),(2,1)] [a0,(.map (ag.next h)),(.map (ag.next (ag.alloc h (.map [] 0))))]) fun x0=>af (cK x0) fun c1=>af (bx .slice a0 (ag.alloc (ag.alloc (ag.alloc h (.map [] 0)) (.map [] 0)) (.cells c1))) fun x2=>af (aA .gtr x2 (.int .i64 60)) fun x3=>ax x3 (K (.ret (.tuple [.nilp,(.bool false)])) (ag.alloc (ag.alloc (ag.alloc h (.map [] 0)) (.map [] 0)) (.cells c1))) (af (bx .slice a0 (ag.alloc (ag.alloc (ag.alloc h (.map [] 0)) (.map [] 0)) (.cells c1))) fun x4=>aT (aq Tryz.prog (ah Tryz.prog) F.b7.L0) ⟨(aa (aa (aa (aa (aa (aa (aa (aa (aa (aa (aa (aa (aa (aa (aF [a0]) 2 .nilp) 3 (.bool false)) 9 a0) 10 (.map (ag.next h))) 11 (.map (ag.next (ag.alloc h (.map [] 0))))) 12 x0) 13 (.ptr (ag.next (ag.alloc (ag.alloc h (.map [] 0)) (.map [] 0))) 0)) 4 (.ptr (ag.next (ag.alloc (ag.alloc h (.map [] 0)) (.map [] 0))) 0)) 14 a0) 15 x2) 16 x3) 17 a0) 18 x4) 19 (.int .i64 0)),90,[],(ag.alloc (ag.alloc (ag.alloc h (.map [] 0)) (.map [] 0)) (.cells c1))⟩ (F.b7.bY K)))=true):Sem Tryz.prog 83 [a0] h K:=
 aQ mixed (aL _) Tryz.func83 (c:=aj Tryz.f83) rfl (by decide) (of_decide_eq_true (by kernel_rfl)) (F.DW.trans hh)
noncomputable def F.aZ.L0:Code:=partOf (aj Tryz.f133) [1,1,0,1,0,0]
noncomputable def F.aZ.bY(K:Out→ag→Bool):AX→St→Bool:=(aU 0 (cB false (aq Tryz.prog (ah Tryz.prog) (partOf (aj Tryz.f133) [1,1,1])) (aJ Tryz.prog dx Tryz.f133.results.toList K)))
noncomputable def F.aZ.L1:Code:=partOf (aj Tryz.f133) [1,1,0,1,0,0,1,1,0,0,1,1,0,0]
noncomputable def F.aZ.ig(K:AX→St→Bool):AX→St→Bool:=(aU 2 (aU 1 (cB false (aq Tryz.prog (ah Tryz.prog) (partOf (aj Tryz.f133) [1,1,0,1,0,0,1,1,1])) K)))
noncomputable def F.aZ.J0(K:AX→St→Bool)(s:St):Bool:=Hv (aq Tryz.prog (ah Tryz.prog) (partOf (aj Tryz.f133) [1,1,0,1,0,0,1,1,0,0,1,1,0,0,1,1,0,0,1,1,1,1])) s (aU 3 (cB false (aq Tryz.prog (ah Tryz.prog) (partOf (aj Tryz.f133) [1,1,0,1,0,0,1,1,0,0,1,1,0,0,1,1,1])) K))
theorem F.aZ.aN{e:Env}{h:ag}{K:AX→St→Bool}:aq Tryz.prog (ah Tryz.prog) F.aZ.L0 ⟨e,71,[],h⟩ K=(af (aA .lss (e 15) (e 14)) fun x4=>ax x4 (af (cL 3 (e 13) (e 15)) fun x5=>af (ai (some 3) x5 h) fun x6=>af (bg 3 (.ptr (ag.next h) 0) x6 (ag.alloc h (.cells [(.str []),.nils,.nils]))) fun h7=>af (bD 2 (.ptr (ag.next h) 0)) fun x8=>af (ai none x8 h7) fun x9=>af (bx .slice x9 h7) fun x10=>aT (aq Tryz.prog (ah Tryz.prog) F.aZ.L1) ⟨(aa (aa (aa (aa (aa (aa (aa (aa e 16 x4) 17 x5) 18 x6) 5 (.ptr (ag.next h) 0)) 19 x8) 20 x9) 21 x10) 22 (.int .i64 0)),71,[],h7⟩ (F.aZ.ig K)) (K (.exit 0) ⟨(aa e 16 x4),71,[],h⟩)):=by kernel_rfl
theorem F.aZ.aD{e:Env}{h:ag}{K:Out→ag→Bool}:F.aZ.bY K (.exit 0) ⟨e,71,[],h⟩=(K (.ret (e 3)) h):=by kernel_rfl
theorem F.aZ.cP{e:Env}{h:ag}{K:AX→St→Bool}:aq Tryz.prog (ah Tryz.prog) F.aZ.L1 ⟨e,71,[],h⟩ K=(af (aA .lss (e 22) (e 21)) fun x11=>ax x11 (af (cL 4 (e 20) (e 22)) fun x12=>af (ai (some 4) x12 h) fun x13=>af (bg 4 (.ptr (ag.next h) 0) x13 (ag.alloc h (.cells [(.int .i64 0),(.bool false),(.str []),.nils]))) fun h14=>af (bS (e 0)) fun x15=>af (bD 2 x15) fun x16=>af (ai none x16 h14) fun x17=>af (bD 2 (.ptr (ag.next h) 0)) fun x18=>af (bD 0 x18) fun x19=>af (ai none x19 h14) fun x20=>af (dB .string (.int .i64 0) true x17 x20 h14) fun x21=>af (bU x21 0) fun x22=>af (bU x21 1) fun x23=>af (bD 0 (.ptr (ag.next h) 0)) fun x24=>af (ai none x24 h14) fun x25=>af (lC (.int .i64) x25 (.int .i64 0)) fun x26=>ax x26 (af (aA .add (e 22) (.int .i64 1)) fun x27=>K .normal ⟨(aa (aa (aa (aa (aa (aa (aa (aa (aa (aa (aa (aa (aa (aa (aa (aa (aa (aa (aa (aa (aa (aa (aa (aa (aa (aa (aa (aa e 23 x11) 24 x12) 25 x13) 7 (.ptr (ag.next h) 0)) 27 (e 0)) 28 x15) 29 x16) 30 x17) 31 x18) 32 x19) 33 x20) 34 x21) 26 x21) 35 x22) 36 x23) 8 x22) 9 x23) 37 x24) 38 x25) 39 x26) 40 x26) 40 (.bool true)) 41 bK) 40 (.bool true)) 42 bK) 43 (.bool true)) 68 x27) 22 x27),71,[],h14⟩) (af (iI .not x23) fun x28=>ax x28 (af (aA .add (e 22) (.int .i64 1)) fun x29=>K .normal ⟨(aa (aa (aa (aa (aa (aa (aa (aa (aa (aa (aa (aa (aa (aa (aa (aa (aa (aa (aa (aa (aa (aa (aa (aa (aa (aa (aa (aa e 23 x11) 24 x12) 25 x13) 7 (.ptr (ag.next h) 0)) 27 (e 0)) 28 x15) 29 x16) 30 x17) 31 x18) 32 x19) 33 x20) 34 x21) 26 x21) 35 x22) 36 x23) 8 x22) 9 x23) 37 x24) 38 x25) 39 x26) 40 x26) 40 (.bool false)) 41 x23) 40 (.bool false)) 42 x28) 43 x28) 68 x29) 22 x29),71,[],h14⟩) (af (bD 1 (.ptr (ag.next h) 0)) fun x30=>af (ai none x30 h14) fun x31=>ax x31 (af (aA .add x22 (.int .i64 1)) fun x32=>F.aZ.J0 K ⟨(aa (aa (aa (aa (aa (aa (aa (aa (aa (aa (aa (aa (aa (aa (aa (aa (aa (aa (aa (aa (aa (aa (aa (aa (aa (aa (aa (aa (aa (aa (aa e 23 x11) 24 x12) 25 x13) 7 (.ptr (ag.next h) 0)) 27 (e 0)) 28 x15) 29 x16) 30 x17) 31 x18) 32 x19) 33 x20) 34 x21) 26 x21) 35 x22) 36 x23) 8 x22) 9 x23) 37 x24) 38 x25) 39 x26) 40 x26) 40 (.bool false)) 41 x23) 40 (.bool false)) 42 x28) 43 x28) 44 x30) 45 x31) 46 x22) 47 x32) 8 x32),71,[],h14⟩) (F.aZ.J0 K ⟨(aa (aa (aa (aa (aa (aa (aa (aa (aa (aa (aa (aa (aa (aa (aa (aa (aa (aa (aa (aa (aa (aa (aa (aa (aa (aa (aa (aa e 23 x11) 24 x12) 25 x13) 7 (.ptr (ag.next h) 0)) 27 (e 0)) 28 x15) 29 x16) 30 x17) 31 x18) 32 x19) 33 x20) 34 x21) 26 x21) 35 x22) 36 x23) 8 x22) 9 x23) 37 x24) 38 x25) 39 x26) 40 x26) 40 (.bool false)) 41 x23) 40 (.bool false)) 42 x28) 43 x28) 44 x30) 45 x31),71,[],h14⟩)))) (K (.exit 2) ⟨(aa e 23 x11),71,[],h⟩)):=by kernel_rfl
theorem F.aZ.b8{e:Env}{h:ag}{K:AX→St→Bool}:F.aZ.ig K (.exit 2) ⟨e,71,[],h⟩=(af (aA .add (e 15) (.int .i64 1)) fun x33=>K .normal ⟨(aa (aa e 69 x33) 15 x33),71,[],h⟩):=by kernel_rfl
theorem F.aZ.zm{e:Env}{h:ag}{K:AX→St→Bool}:F.aZ.J0 K ⟨e,71,[],h⟩=(af (bS (e 0)) fun x34=>af (bD 2 x34) fun x35=>af (ai none x35 h) fun x36=>af (bD 0 (e 5)) fun x37=>af (bD 0 x37) fun x38=>af (ai none x38 h) fun x39=>af (dB .string (.int .i64 0) false x36 x39 h) fun x40=>af (aA .gtr (e 8) x40) fun x41=>ax x41 (af (bS (e 0)) fun x42=>af (bD 2 x42) fun x43=>af (ai none x43 h) fun x44=>af (bD 0 (e 5)) fun x45=>af (bD 0 x45) fun x46=>af (ai none x46 h) fun x47=>cq (jH .string (.int .i64 0) x44 x47 h) fun x48 h49=>af (bU x48 1) fun x50=>af (gW x44 x50 (e 8) h49) fun h51=>af (aA .add (e 22) (.int .i64 1)) fun x52=>K .normal ⟨(aa (aa (aa (aa (aa (aa (aa (aa (aa (aa (aa (aa (aa (aa (aa (aa (aa (aa (aa (aa (aa (aa (aa e 48 (e 8)) 49 (e 0)) 50 x34) 51 x35) 52 x36) 53 x37) 54 x38) 55 x39) 56 x40) 57 x41) 58 (e 0)) 59 x42) 60 x43) 61 x44) 62 x45) 63 x46) 64 x47) 65 (e 8)) 66 x48) 67 x50) 3 (.bool true)) 68 x52) 22 x52),71,[],h51⟩) (af (aA .add (e 22) (.int .i64 1)) fun x53=>K .normal ⟨(aa (aa (aa (aa (aa (aa (aa (aa (aa (aa (aa (aa e 48 (e 8)) 49 (e 0)) 50 x34) 51 x35) 52 x36) 53 x37) 54 x38) 55 x39) 56 x40) 57 x41) 68 x53) 22 x53),71,[],h⟩)):=(tY _ _ _).trans (by kernel_rfl)
theorem F.oY{a0:AV}{h:ag}{K:Out→ag→Bool}:aq Tryz.prog (ah Tryz.prog) (aj Tryz.f133) ⟨aF [a0],71,[],h⟩ (aJ Tryz.prog dx Tryz.f133.results.toList K)=(af (bS a0) fun x0=>af (bD 0 x0) fun x1=>af (ai none x1 h) fun x2=>af (bx .slice x2 h) fun x3=>aT (aq Tryz.prog (ah Tryz.prog) F.aZ.L0) ⟨(aa (aa (aa (aa (aa (aa (aa (aa (aF [a0]) 2 (.bool false)) 3 (.bool false)) 10 a0) 11 x0) 12 x1) 13 x2) 14 x3) 15 (.int .i64 0)),71,[],h⟩ (F.aZ.bY K)):=by kernel_rfl
theorem F.oB{a0:AV}{h:ag}{K:Out→ag→Bool}(hh:(af (bS a0) fun x0=>af (bD 0 x0) fun x1=>af (ai none x1 h) fun x2=>af (bx .slice x2 h) fun x3=>aT (aq Tryz.prog (ah Tryz.prog) F.aZ.L0) ⟨(aa (aa (aa (aa (aa (aa (aa (aa (aF [a0]) 2 (.bool false)) 3 (.bool false)) 10 a0) 11 x0) 12 x1) 13 x2) 14 x3) 15 (.int .i64 0)),71,[],h⟩ (F.aZ.bY K))=true):Sem Tryz.prog 133 [a0] h K:=
 aQ mixed (aL _) Tryz.func133 (c:=aj Tryz.f133) rfl (by decide) (of_decide_eq_true (by kernel_rfl)) (F.oY.trans hh)
noncomputable def F.bB.L0:Code:=partOf (aj Tryz.f31) [1,1,0,1,0,0]
noncomputable def F.bB.bY(K:Out→ag→Bool):AX→St→Bool:=(aU 0 (cB false (aq Tryz.prog (ah Tryz.prog) (partOf (aj Tryz.f31) [1,1,1])) (aJ Tryz.prog dx Tryz.f31.results.toList K)))
noncomputable def F.bB.L1:Code:=partOf (aj Tryz.f31) [1,1,1,1,0,1,0,0]
noncomputable def F.bB.ig(K:Out→ag→Bool):AX→St→Bool:=(aU 2 (cB false (aq Tryz.prog (ah Tryz.prog) (partOf (aj Tryz.f31) [1,1,1,1,1])) (aJ Tryz.prog dx Tryz.f31.results.toList K)))
noncomputable def F.bB.L2:Code:=partOf (aj Tryz.f31) [1,1,1,1,0,1,0,0,1,0,0,1,0,0]
noncomputable def F.bB.sR(K:AX→St→Bool):AX→St→Bool:=(aU 4 (aU 3 (cB false (aq Tryz.prog (ah Tryz.prog) (partOf (aj Tryz.f31) [1,1,1,1,0,1,0,0,1,1])) K)))
theorem F.bB.aN{e:Env}{h:ag}{K:AX→St→Bool}:aq Tryz.prog (ah Tryz.prog) F.bB.L0 ⟨e,67,[],h⟩ K=(af (bx .slice (e 0) h) fun x2=>af (aA .lss (e 3) x2) fun x3=>ax x3 (af (cL 3 (e 0) (e 3)) fun x4=>af (ai (some 3) x4 h) fun x5=>ah Tryz.prog 84 [x5] h (br (fun x6 h7=>af (iI .not x6) fun x10=>ax x10 (K .ret ⟨(aa (aa (aa (aa (aa (aa (aa (aa (aa (aa (aa e 12 (e 3)) 13 (e 0)) 14 x2) 15 x3) 18 (e 0)) 19 (e 3)) 20 x4) 21 x5) 22 x6) 23 x10) 2 (.bool false)),67,[],h7⟩) (af (aA .add (e 3) (.int .i64 1)) fun x11=>K .normal ⟨(aa (aa (aa (aa (aa (aa (aa (aa (aa (aa (aa (aa (aa e 12 (e 3)) 13 (e 0)) 14 x2) 15 x3) 18 (e 0)) 19 (e 3)) 20 x4) 21 x5) 22 x6) 23 x10) 16 (e 3)) 17 x11) 3 x11),67,[],h7⟩)) (fun v8 h9=>K (.panic v8) ⟨(aa (aa (aa (aa (aa (aa (aa (aa e 12 (e 3)) 13 (e 0)) 14 x2) 15 x3) 18 (e 0)) 19 (e 3)) 20 x4) 21 x5),67,[],h9⟩))) (K (.exit 0) ⟨(aa (aa (aa (aa e 12 (e 3)) 13 (e 0)) 14 x2) 15 x3),67,[],h⟩)):=by kernel_rfl
theorem F.bB.aD{e:Env}{h:ag}{K:Out→ag→Bool}:F.bB.bY K (.exit 0) ⟨e,67,[],h⟩=(ah Tryz.prog 85 [(e 0)] h (br (fun x12 h13=>aT (aq Tryz.prog (ah Tryz.prog) F.bB.L1) ⟨(aa (aa (aa (aa e 24 (e 0)) 25 x12) 4 x12) 5 (.int .i64 0)),67,[],h13⟩ (F.bB.ig K)) (fun v14 h15=>K (.panic v14) h15))):=by kernel_rfl
theorem F.bB.bq{e:Env}{h:ag}{K:Out→ag→Bool}:F.bB.bY K .ret ⟨e,67,[],h⟩=(K (.ret (e 2)) h):=by kernel_rfl
theorem F.bB.cP{e:Env}{h:ag}{K:AX→St→Bool}:aq Tryz.prog (ah Tryz.prog) F.bB.L1 ⟨e,67,[],h⟩ K=(af (bx .slice (e 4) h) fun x16=>af (aA .lss (e 5) x16) fun x17=>ax x17 (aT (aq Tryz.prog (ah Tryz.prog) F.bB.L2) ⟨(aa (aa (aa (aa (aa e 26 (e 5)) 27 (e 4)) 28 x16) 29 x17) 6 (.int .i64 0)),67,[],h⟩ (F.bB.sR K)) (K (.exit 2) ⟨(aa (aa (aa (aa e 26 (e 5)) 27 (e 4)) 28 x16) 29 x17),67,[],h⟩)):=by kernel_rfl
theorem F.bB.b8{e:Env}{h:ag}{K:Out→ag→Bool}:F.bB.ig K (.exit 2) ⟨e,67,[],h⟩=(ah Tryz.prog 32 [(e 0)] h (br (fun x18 h19=>af (bU x18 0) fun x22=>af (bU x18 1) fun x23=>K (.ret x23) h19) (fun v20 h21=>K (.panic v20) h21))):=by kernel_rfl
theorem F.bB.fY{e:Env}{h:ag}{K:Out→ag→Bool}:F.bB.ig K .ret ⟨e,67,[],h⟩=(K (.ret (e 2)) h):=by kernel_rfl
theorem F.bB.ju{e:Env}{h:ag}{K:AX→St→Bool}:aq Tryz.prog (ah Tryz.prog) F.bB.L2 ⟨e,67,[],h⟩ K=(af (aA .lss (e 6) (e 5)) fun x24=>ax x24 (af (cL 2 (e 4) (e 6)) fun x25=>af (bD 0 x25) fun x26=>af (ai none x26 h) fun x27=>af (cL 2 (e 4) (e 5)) fun x28=>af (bD 0 x28) fun x29=>af (ai none x29 h) fun x30=>af (fH .string x27 x30) fun x31=>ax x31 (af (cL 2 (e 4) (e 6)) fun x32=>af (bD 1 x32) fun x33=>af (ai none x33 h) fun x34=>af (cL 2 (e 4) (e 5)) fun x35=>af (bD 1 x35) fun x36=>af (ai none x36 h) fun x37=>af (lC (.int .i64) x34 x37) fun x38=>ax x38 (K .ret ⟨(aa (aa (aa (aa (aa (aa (aa (aa (aa (aa (aa (aa (aa (aa (aa (aa (aa (aa (aa (aa (aa (aa (aa (aa (aa (aa (aa (aa (aa (aa (aa (aa (aa (aa (aa (aa (aa (aa (aa e 32 (e 6)) 33 (e 5)) 34 x24) 37 (e 4)) 38 (e 6)) 39 x25) 40 x26) 41 x27) 42 (e 4)) 43 (e 5)) 44 x28) 45 x29) 46 x30) 47 x31) 48 x31) 48 (.bool true)) 49 (e 4)) 48 (.bool true)) 50 (e 6)) 48 (.bool true)) 51 x32) 48 (.bool true)) 52 x33) 48 (.bool true)) 53 x34) 48 (.bool true)) 54 (e 4)) 48 (.bool true)) 55 (e 5)) 48 (.bool true)) 56 x35) 48 (.bool true)) 57 x36) 48 (.bool true)) 58 x37) 48 (.bool true)) 59 x38) 60 x38) 2 (.bool false)),67,[],h⟩) (af (aA .add (e 6) (.int .i64 1)) fun x39=>K .normal ⟨(aa (aa (aa (aa (aa (aa (aa (aa (aa (aa (aa (aa (aa (aa (aa (aa (aa (aa (aa (aa (aa (aa (aa (aa (aa (aa (aa (aa (aa (aa (aa (aa (aa (aa (aa (aa (aa (aa (aa (aa (aa e 32 (e 6)) 33 (e 5)) 34 x24) 37 (e 4)) 38 (e 6)) 39 x25) 40 x26) 41 x27) 42 (e 4)) 43 (e 5)) 44 x28) 45 x29) 46 x30) 47 x31) 48 x31) 48 (.bool true)) 49 (e 4)) 48 (.bool true)) 50 (e 6)) 48 (.bool true)) 51 x32) 48 (.bool true)) 52 x33) 48 (.bool true)) 53 x34) 48 (.bool true)) 54 (e 4)) 48 (.bool true)) 55 (e 5)) 48 (.bool true)) 56 x35) 48 (.bool true)) 57 x36) 48 (.bool true)) 58 x37) 48 (.bool true)) 59 x38) 60 x38) 35 (e 6)) 36 x39) 6 x39),67,[],h⟩)) (af (aA .add (e 6) (.int .i64 1)) fun x40=>K .normal ⟨(aa (aa (aa (aa (aa (aa (aa (aa (aa (aa (aa (aa (aa (aa (aa (aa (aa (aa (aa (aa (aa (aa (aa (aa (aa (aa (aa (aa (aa (aa (aa (aa (aa (aa (aa (aa (aa (aa (aa (aa (aa e 32 (e 6)) 33 (e 5)) 34 x24) 37 (e 4)) 38 (e 6)) 39 x25) 40 x26) 41 x27) 42 (e 4)) 43 (e 5)) 44 x28) 45 x29) 46 x30) 47 x31) 48 x31) 48 (.bool false)) 49 bK) 48 (.bool false)) 50 bK) 48 (.bool false)) 51 bK) 48 (.bool false)) 52 bK) 48 (.bool false)) 53 bK) 48 (.bool false)) 54 bK) 48 (.bool false)) 55 bK) 48 (.bool false)) 56 bK) 48 (.bool false)) 57 bK) 48 (.bool false)) 58 bK) 48 (.bool false)) 59 bK) 60 (.bool false)) 35 (e 6)) 36 x40) 6 x40),67,[],h⟩)) (K (.exit 4) ⟨(aa (aa (aa e 32 (e 6)) 33 (e 5)) 34 x24),67,[],h⟩)):=by kernel_rfl
theorem F.bB.fV{e:Env}{h:ag}{K:AX→St→Bool}:F.bB.sR K (.exit 4) ⟨e,67,[],h⟩=(af (aA .add (e 5) (.int .i64 1)) fun x41=>K .normal ⟨(aa (aa (aa e 30 (e 5)) 31 x41) 5 x41),67,[],h⟩):=by kernel_rfl
theorem F.bB.uh{e:Env}{h:ag}{K:AX→St→Bool}:F.bB.sR K .ret ⟨e,67,[],h⟩=(K .ret ⟨e,67,[],h⟩):=by kernel_rfl
theorem F.zq{a0:AV}{h:ag}{K:Out→ag→Bool}:aq Tryz.prog (ah Tryz.prog) (aj Tryz.f31) ⟨aF [a0],67,[],h⟩ (aJ Tryz.prog dx Tryz.f31.results.toList K)=(af (bx .slice a0 h) fun x0=>af (aA .gtr x0 (.int .i64 60)) fun x1=>ax x1 (K (.ret (.bool false)) h) (aT (aq Tryz.prog (ah Tryz.prog) F.bB.L0) ⟨(aa (aa (aa (aa (aa (aF [a0]) 2 (.bool false)) 9 a0) 10 x0) 11 x1) 3 (.int .i64 0)),67,[],h⟩ (F.bB.bY K))):=by kernel_rfl
theorem F.xo{a0:AV}{h:ag}{K:Out→ag→Bool}(hh:(af (bx .slice a0 h) fun x0=>af (aA .gtr x0 (.int .i64 60)) fun x1=>ax x1 (K (.ret (.bool false)) h) (aT (aq Tryz.prog (ah Tryz.prog) F.bB.L0) ⟨(aa (aa (aa (aa (aa (aF [a0]) 2 (.bool false)) 9 a0) 10 x0) 11 x1) 3 (.int .i64 0)),67,[],h⟩ (F.bB.bY K)))=true):Sem Tryz.prog 31 [a0] h K:=
 aQ mixed (aL _) Tryz.func31 (c:=aj Tryz.f31) rfl (by decide) (of_decide_eq_true (by kernel_rfl)) (F.zq.trans hh)
noncomputable def F.bf.L0:Code:=partOf (aj Tryz.f32) [1,1,1,0,1,0,0]
noncomputable def F.bf.bY(K:Out→ag→Bool):AX→St→Bool:=(aU 0 (cB false (aq Tryz.prog (ah Tryz.prog) (partOf (aj Tryz.f32) [1,1,1,1])) (aJ Tryz.prog dx Tryz.f32.results.toList K)))
noncomputable def F.bf.L1:Code:=partOf (aj Tryz.f32) [1,1,1,0,1,0,0,1,0,1,1,0,0]
noncomputable def F.bf.ig(K:AX→St→Bool):AX→St→Bool:=(aU 2 (aU 1 K))
noncomputable def F.bf.L2:Code:=partOf (aj Tryz.f32) [1,1,1,0,1,0,0,1,0,1,1,0,0,1,0,0,1,0,1,0,0]
noncomputable def F.bf.sR(K:AX→St→Bool):AX→St→Bool:=(aU 4 (cB false (aq Tryz.prog (ah Tryz.prog) (partOf (aj Tryz.f32) [1,1,1,0,1,0,0,1,0,1,1,0,0,1,0,0,1,1])) (aU 3 (cB false (aq Tryz.prog (ah Tryz.prog) (partOf (aj Tryz.f32) [1,1,1,0,1,0,0,1,0,1,1,0,0,1,1])) K))))
noncomputable def F.bf.J0(K:AX→St→Bool)(s:St):Bool:=Hv (aq Tryz.prog (ah Tryz.prog) (partOf (aj Tryz.f32) [1,1,1,0,1,0,0,1,0,1,1,0,0,1,0,0,1,0,1,0,0,1,0,0,1,1,1,0,1,1])) s (aU 5 (cB false (aq Tryz.prog (ah Tryz.prog) (partOf (aj Tryz.f32) [1,1,1,0,1,0,0,1,0,1,1,0,0,1,0,0,1,0,1,0,0,1,1])) K))
theorem F.bf.aN{e:Env}{h:ag}{K:AX→St→Bool}:aq Tryz.prog (ah Tryz.prog) F.bf.L0 ⟨e,89,[],h⟩ K=(ax (e 6) (aT (aq Tryz.prog (ah Tryz.prog) F.bf.L1) ⟨(aa (aa (aa e 18 (e 6)) 6 (.bool false)) 7 (.int .i64 0)),89,[],h⟩ (F.bf.ig K)) (K (.exit 0) ⟨(aa e 18 (e 6)),89,[],h⟩)):=by kernel_rfl
theorem F.bf.aD{e:Env}{h:ag}{K:Out→ag→Bool}:F.bf.bY K (.exit 0) ⟨e,89,[],h⟩=(K (.ret (.tuple [(e 5),(.bool true)])) h):=by kernel_rfl
theorem F.bf.bq{e:Env}{h:ag}{K:Out→ag→Bool}:F.bf.bY K .ret ⟨e,89,[],h⟩=(K (.ret (.tuple [(e 2),(e 3)])) h):=by kernel_rfl
theorem F.bf.cP{e:Env}{h:ag}{K:AX→St→Bool}:aq Tryz.prog (ah Tryz.prog) F.bf.L1 ⟨e,89,[],h⟩ K=(af (bx .slice (e 0) h) fun x7=>af (aA .lss (e 7) x7) fun x8=>ax x8 (af (cL 3 (e 0) (e 7)) fun x9=>af (bD 0 x9) fun x10=>af (bD 0 x10) fun x11=>af (ai none x11 h) fun x12=>ah Tryz.prog 58 [(e 4),x12] h (br (fun x13 h14=>aT (aq Tryz.prog (ah Tryz.prog) F.bf.L2) ⟨(aa (aa (aa (aa (aa (aa (aa (aa (aa (aa (aa (aa (aa (aa e 19 (e 7)) 20 (e 0)) 21 x7) 22 x8) 25 (e 4)) 26 (e 0)) 27 (e 7)) 28 x9) 29 x10) 30 x11) 31 x12) 32 x13) 8 x13) 9 (.int .i64 0)),89,[],h14⟩ (F.bf.sR K)) (fun v15 h16=>K (.panic v15) ⟨(aa (aa (aa (aa (aa (aa (aa (aa (aa (aa (aa e 19 (e 7)) 20 (e 0)) 21 x7) 22 x8) 25 (e 4)) 26 (e 0)) 27 (e 7)) 28 x9) 29 x10) 30 x11) 31 x12),89,[],h16⟩))) (K (.exit 2) ⟨(aa (aa (aa (aa e 19 (e 7)) 20 (e 0)) 21 x7) 22 x8),89,[],h⟩)):=by kernel_rfl
theorem F.bf.b8{e:Env}{h:ag}{K:AX→St→Bool}:F.bf.ig K (.exit 2) ⟨e,89,[],h⟩=(K .normal ⟨e,89,[],h⟩):=by kernel_rfl
theorem F.bf.fY{e:Env}{h:ag}{K:AX→St→Bool}:F.bf.ig K .ret ⟨e,89,[],h⟩=(K .ret ⟨e,89,[],h⟩):=by kernel_rfl
theorem F.bf.ju{e:Env}{h:ag}{K:AX→St→Bool}:aq Tryz.prog (ah Tryz.prog) F.bf.L2 ⟨e,89,[],h⟩ K=(af (cL 3 (e 0) (e 7)) fun x17=>af (bD 2 x17) fun x18=>af (ai none x18 h) fun x19=>af (bx .slice x19 h) fun x20=>af (aA .lss (e 9) x20) fun x21=>ax x21 (af (cL 3 (e 0) (e 7)) fun x22=>af (bD 2 x22) fun x23=>af (ai none x23 h) fun x24=>af (cL 4 x24 (e 9)) fun x25=>af (ai (some 4) x25 h) fun x26=>af (bg 4 (.ptr (ag.next h) 0) x26 (ag.alloc h (.cells [(.int .i64 0),(.bool false),(.str []),.nils]))) fun h27=>af (bD 2 (.ptr (ag.next h) 0)) fun x28=>af (bD 0 x28) fun x29=>af (ai none x29 h27) fun x30=>ah Tryz.prog 58 [(e 4),x30] h27 (br (fun x31 h32=>af (bD 0 (.ptr (ag.next h) 0)) fun x35=>af (ai none x35 h32) fun x36=>af (fH (.int .i64) x36 (.int .i64 0)) fun x37=>ax x37 (af (aA .geq x31 (.int .i64 0)) fun x38=>ax x38 (af (cL 1 (e 5) x31) fun x39=>af (ai none x39 h32) fun x40=>af (bD 1 (.ptr (ag.next h) 0)) fun x41=>af (ai none x41 h32) fun x42=>ax x42 (af (aA .add x40 (.int .i64 1)) fun x43=>F.bf.J0 K ⟨(aa (aa (aa (aa (aa (aa (aa (aa (aa (aa (aa (aa (aa (aa (aa (aa (aa (aa (aa (aa (aa (aa (aa (aa (aa (aa (aa (aa (aa (aa (aa (aa (aa (aa (aa (aa (aa (aa (aa (aa (aa (aa e 33 (e 9)) 34 (e 0)) 35 (e 7)) 36 x17) 37 x18) 38 x19) 39 x20) 40 x21) 43 (e 0)) 44 (e 7)) 45 x22) 46 x23) 47 x24) 48 (e 9)) 49 x25) 50 x26) 10 (.ptr (ag.next h) 0)) 51 (e 4)) 52 x28) 53 x29) 54 x30) 55 x31) 11 x31) 56 x35) 57 x36) 58 x37) 59 x37) 59 (.bool true)) 60 x31) 59 (.bool true)) 61 x38) 62 x38) 63 (e 5)) 64 x31) 65 x39) 66 x40) 12 x40) 67 x41) 68 x42) 69 x40) 70 x43) 12 x43),89,[],h32⟩) (F.bf.J0 K ⟨(aa (aa (aa (aa (aa (aa (aa (aa (aa (aa (aa (aa (aa (aa (aa (aa (aa (aa (aa (aa (aa (aa (aa (aa (aa (aa (aa (aa (aa (aa (aa (aa (aa (aa (aa (aa (aa (aa (aa e 33 (e 9)) 34 (e 0)) 35 (e 7)) 36 x17) 37 x18) 38 x19) 39 x20) 40 x21) 43 (e 0)) 44 (e 7)) 45 x22) 46 x23) 47 x24) 48 (e 9)) 49 x25) 50 x26) 10 (.ptr (ag.next h) 0)) 51 (e 4)) 52 x28) 53 x29) 54 x30) 55 x31) 11 x31) 56 x35) 57 x36) 58 x37) 59 x37) 59 (.bool true)) 60 x31) 59 (.bool true)) 61 x38) 62 x38) 63 (e 5)) 64 x31) 65 x39) 66 x40) 12 x40) 67 x41) 68 x42),89,[],h32⟩)) (af (aA .add (e 9) (.int .i64 1)) fun x44=>K .normal ⟨(aa (aa (aa (aa (aa (aa (aa (aa (aa (aa (aa (aa (aa (aa (aa (aa (aa (aa (aa (aa (aa (aa (aa (aa (aa (aa (aa (aa (aa (aa (aa (aa (aa (aa (aa e 33 (e 9)) 34 (e 0)) 35 (e 7)) 36 x17) 37 x18) 38 x19) 39 x20) 40 x21) 43 (e 0)) 44 (e 7)) 45 x22) 46 x23) 47 x24) 48 (e 9)) 49 x25) 50 x26) 10 (.ptr (ag.next h) 0)) 51 (e 4)) 52 x28) 53 x29) 54 x30) 55 x31) 11 x31) 56 x35) 57 x36) 58 x37) 59 x37) 59 (.bool true)) 60 x31) 59 (.bool true)) 61 x38) 62 x38) 41 (e 9)) 42 x44) 9 x44),89,[],h32⟩)) (af (aA .add (e 9) (.int .i64 1)) fun x45=>K .normal ⟨(aa (aa (aa (aa (aa (aa (aa (aa (aa (aa (aa (aa (aa (aa (aa (aa (aa (aa (aa (aa (aa (aa (aa (aa (aa (aa (aa (aa (aa (aa (aa (aa (aa (aa (aa e 33 (e 9)) 34 (e 0)) 35 (e 7)) 36 x17) 37 x18) 38 x19) 39 x20) 40 x21) 43 (e 0)) 44 (e 7)) 45 x22) 46 x23) 47 x24) 48 (e 9)) 49 x25) 50 x26) 10 (.ptr (ag.next h) 0)) 51 (e 4)) 52 x28) 53 x29) 54 x30) 55 x31) 11 x31) 56 x35) 57 x36) 58 x37) 59 x37) 59 (.bool false)) 60 bK) 59 (.bool false)) 61 bK) 62 (.bool false)) 41 (e 9)) 42 x45) 9 x45),89,[],h32⟩)) (fun v33 h34=>K (.panic v33) ⟨(aa (aa (aa (aa (aa (aa (aa (aa (aa (aa (aa (aa (aa (aa (aa (aa (aa (aa (aa (aa (aa e 33 (e 9)) 34 (e 0)) 35 (e 7)) 36 x17) 37 x18) 38 x19) 39 x20) 40 x21) 43 (e 0)) 44 (e 7)) 45 x22) 46 x23) 47 x24) 48 (e 9)) 49 x25) 50 x26) 10 (.ptr (ag.next h) 0)) 51 (e 4)) 52 x28) 53 x29) 54 x30),89,[],h34⟩))) (K (.exit 4) ⟨(aa (aa (aa (aa (aa (aa (aa (aa e 33 (e 9)) 34 (e 0)) 35 (e 7)) 36 x17) 37 x18) 38 x19) 39 x20) 40 x21),89,[],h⟩)):=by kernel_rfl
theorem F.bf.fV{e:Env}{h:ag}{K:AX→St→Bool}:F.bf.sR K (.exit 4) ⟨e,89,[],h⟩=(af (cL 1 (e 5) (e 8)) fun x46=>af (ai none x46 h) fun x47=>af (bx .slice (e 4) h) fun x48=>af (aA .gtr x47 x48) fun x49=>ax x49 (K .ret ⟨(aa (aa (aa (aa (aa (aa (aa (aa (aa e 81 (e 5)) 82 (e 8)) 83 x46) 84 x47) 85 (e 4)) 86 x48) 87 x49) 2 .nils) 3 (.bool false)),89,[],h⟩) (af (aA .add (e 7) (.int .i64 1)) fun x50=>K .normal ⟨(aa (aa (aa (aa (aa (aa (aa (aa (aa (aa e 81 (e 5)) 82 (e 8)) 83 x46) 84 x47) 85 (e 4)) 86 x48) 87 x49) 23 (e 7)) 24 x50) 7 x50),89,[],h⟩)):=by kernel_rfl
theorem F.bf.zm{e:Env}{h:ag}{K:AX→St→Bool}:F.bf.J0 K ⟨e,89,[],h⟩=(af (cL 1 (e 5) (e 8)) fun x51=>af (ai none x51 h) fun x52=>af (aA .gtr (e 12) x52) fun x53=>ax x53 (af (cL 1 (e 5) (e 8)) fun x54=>af (bg 1 x54 (e 12) h) fun h55=>af (aA .add (e 9) (.int .i64 1)) fun x56=>K .normal ⟨(aa (aa (aa (aa (aa (aa (aa (aa (aa (aa (aa (aa (aa (aa e 71 (e 12)) 72 (e 5)) 73 (e 8)) 74 x51) 75 x52) 76 x53) 77 (e 5)) 78 (e 8)) 79 (e 12)) 80 x54) 6 (.bool true)) 41 (e 9)) 42 x56) 9 x56),89,[],h55⟩) (af (aA .add (e 9) (.int .i64 1)) fun x57=>K .normal ⟨(aa (aa (aa (aa (aa (aa (aa (aa (aa e 71 (e 12)) 72 (e 5)) 73 (e 8)) 74 x51) 75 x52) 76 x53) 41 (e 9)) 42 x57) 9 x57),89,[],h⟩)):=(tY _ _ _).trans (by kernel_rfl)
theorem F.xp{a0:AV}{h:ag}{K:Out→ag→Bool}:aq Tryz.prog (ah Tryz.prog) (aj Tryz.f32) ⟨aF [a0],89,[],h⟩ (aJ Tryz.prog dx Tryz.f32.results.toList K)=(ah Tryz.prog 34 [a0] h (br (fun x0 h1=>af (bx .slice x0 h1) fun x4=>cq (dy 1 8 [(.int .i64 0)] x4 x4 h1) fun x5 h6=>aT (aq Tryz.prog (ah Tryz.prog) F.bf.L0) ⟨(aa (aa (aa (aa (aa (aa (aa (aa (aa (aa (aF [a0]) 2 .nils) 3 (.bool false)) 13 a0) 14 x0) 4 x0) 15 x0) 16 x4) 17 x5) 5 x5) 6 (.bool true)),89,[],h6⟩ (F.bf.bY K)) (fun v2 h3=>K (.panic v2) h3))):=by kernel_rfl
theorem F.vi{a0:AV}{h:ag}{K:Out→ag→Bool}(hh:(ah Tryz.prog 34 [a0] h (br (fun x0 h1=>af (bx .slice x0 h1) fun x4=>cq (dy 1 8 [(.int .i64 0)] x4 x4 h1) fun x5 h6=>aT (aq Tryz.prog (ah Tryz.prog) F.bf.L0) ⟨(aa (aa (aa (aa (aa (aa (aa (aa (aa (aa (aF [a0]) 2 .nils) 3 (.bool false)) 13 a0) 14 x0) 4 x0) 15 x0) 16 x4) 17 x5) 5 x5) 6 (.bool true)),89,[],h6⟩ (F.bf.bY K)) (fun v2 h3=>K (.panic v2) h3)))=true):Sem Tryz.prog 32 [a0] h K:=
 aQ mixed (aL _) Tryz.func32 (c:=aj Tryz.f32) rfl (by decide) (of_decide_eq_true (by kernel_rfl)) (F.xp.trans hh)
end
end Go.AM
namespace Go.AM
open Go Go.Proofs
noncomputable section
noncomputable def F.cE.L0:Code:=partOf (aj Tryz.f69) [1,1,0,1,0,0]
noncomputable def F.cE.bY(K:Out→ag→Bool):AX→St→Bool:=(aU 0 (cB false (aq Tryz.prog (ah Tryz.prog) (partOf (aj Tryz.f69) [1,1,1])) (aJ Tryz.prog dx Tryz.f69.results.toList K)))
theorem F.cE.aN{e:Env}{h:ag}{K:AX→St→Bool}:aq Tryz.prog (ah Tryz.prog) F.cE.L0 ⟨e,24,[],h⟩ K=(af (aA .lss (e 10) (e 9)) fun x1=>ax x1 (af (cL 1 (e 8) (e 10)) fun x2=>af (ai none x2 h) fun x3=>af (bS (e 0)) fun x4=>af (bD 0 x4) fun x5=>af (ai none x5 h) fun x6=>af (aA .mul (e 5) x6) fun x7=>af (aA .add x7 x3) fun x8=>af (aA .add (e 10) (.int .i64 1)) fun x9=>K .normal ⟨(aa (aa (aa (aa (aa (aa (aa (aa (aa (aa (aa (aa (aa (aa (aa e 11 x1) 12 x2) 13 x3) 7 x3) 14 (e 5)) 15 (e 0)) 16 x4) 17 x5) 18 x6) 19 x7) 20 x3) 21 x8) 5 x8) 22 x9) 10 x9),24,[],h⟩) (K (.exit 0) ⟨(aa e 11 x1),24,[],h⟩)):=by kernel_rfl
theorem F.cE.aD{e:Env}{h:ag}{K:Out→ag→Bool}:F.cE.bY K (.exit 0) ⟨e,24,[],h⟩=(K (.ret (e 5)) h):=by kernel_rfl
theorem F.rM{a0 a1:AV}{h:ag}{K:Out→ag→Bool}:aq Tryz.prog (ah Tryz.prog) (aj Tryz.f69) ⟨aF [a0,a1],24,[],h⟩ (aJ Tryz.prog dx Tryz.f69.results.toList K)=(af (bx .slice a1 h) fun x0=>aT (aq Tryz.prog (ah Tryz.prog) F.cE.L0) ⟨(aa (aa (aa (aa (aa (aF [a0,a1]) 4 (.int .i64 0)) 5 (.int .i64 0)) 8 a1) 9 x0) 10 (.int .i64 0)),24,[],h⟩ (F.cE.bY K)):=by kernel_rfl
theorem F.kV{a0 a1:AV}{h:ag}{K:Out→ag→Bool}(hh:(af (bx .slice a1 h) fun x0=>aT (aq Tryz.prog (ah Tryz.prog) F.cE.L0) ⟨(aa (aa (aa (aa (aa (aF [a0,a1]) 4 (.int .i64 0)) 5 (.int .i64 0)) 8 a1) 9 x0) 10 (.int .i64 0)),24,[],h⟩ (F.cE.bY K))=true):Sem Tryz.prog 69 [a0,a1] h K:=
 aQ mixed (aL _) Tryz.func69 (c:=aj Tryz.f69) rfl (by decide) (of_decide_eq_true (by kernel_rfl)) (F.rM.trans hh)
noncomputable def F.fN.L0:Code:=partOf (aj Tryz.f124) [1,1,0,1,0,0]
noncomputable def F.fN.bY(K:Out→ag→Bool):AX→St→Bool:=(aU 0 (cB false (aq Tryz.prog (ah Tryz.prog) (partOf (aj Tryz.f124) [1,1,1])) (aJ Tryz.prog dx Tryz.f124.results.toList K)))
theorem F.fN.aN{e:Env}{h:ag}{K:AX→St→Bool}:aq Tryz.prog (ah Tryz.prog) F.fN.L0 ⟨e,27,[],h⟩ K=(af (aA .lss (e 13) (e 12)) fun x4=>ax x4 (af (cL 1 (e 11) (e 13)) fun x5=>af (ai none x5 h) fun x6=>af (cL 1 (e 0) x6) fun x7=>af (ai none x7 h) fun x8=>af (cL 1 (e 5) (e 13)) fun x9=>af (bg 1 x9 x8 h) fun h10=>af (aA .add (e 13) (.int .i64 1)) fun x11=>K .normal ⟨(aa (aa (aa (aa (aa (aa (aa (aa (aa (aa (aa (aa (aa (aa (aa e 14 x4) 15 (e 13)) 16 x5) 17 x6) 6 (e 13)) 7 x6) 18 (e 5)) 19 (e 13)) 20 (e 0)) 21 x6) 22 x7) 23 x8) 24 x9) 25 x11) 13 x11),27,[],h10⟩) (K (.exit 0) ⟨(aa e 14 x4),27,[],h⟩)):=by kernel_rfl
theorem F.fN.aD{e:Env}{h:ag}{K:Out→ag→Bool}:F.fN.bY K (.exit 0) ⟨e,27,[],h⟩=(K (.ret (e 5)) h):=by kernel_rfl
theorem F.AU{a0 a1:AV}{h:ag}{K:Out→ag→Bool}:aq Tryz.prog (ah Tryz.prog) (aj Tryz.f124) ⟨aF [a0,a1],27,[],h⟩ (aJ Tryz.prog dx Tryz.f124.results.toList K)=(af (bx .slice a1 h) fun x0=>cq (dy 1 8 [(.int .i64 0)] x0 x0 h) fun x1 h2=>af (bx .slice a1 h2) fun x3=>aT (aq Tryz.prog (ah Tryz.prog) F.fN.L0) ⟨(aa (aa (aa (aa (aa (aa (aa (aa (aF [a0,a1]) 4 .nils) 8 a1) 9 x0) 10 x1) 5 x1) 11 a1) 12 x3) 13 (.int .i64 0)),27,[],h2⟩ (F.fN.bY K)):=by kernel_rfl
theorem F.zu{a0 a1:AV}{h:ag}{K:Out→ag→Bool}(hh:(af (bx .slice a1 h) fun x0=>cq (dy 1 8 [(.int .i64 0)] x0 x0 h) fun x1 h2=>af (bx .slice a1 h2) fun x3=>aT (aq Tryz.prog (ah Tryz.prog) F.fN.L0) ⟨(aa (aa (aa (aa (aa (aa (aa (aa (aF [a0,a1]) 4 .nils) 8 a1) 9 x0) 10 x1) 5 x1) 11 a1) 12 x3) 13 (.int .i64 0)),27,[],h2⟩ (F.fN.bY K))=true):Sem Tryz.prog 124 [a0,a1] h K:=
 aQ mixed (aL _) Tryz.func124 (c:=aj Tryz.f124) rfl (by decide) (of_decide_eq_true (by kernel_rfl)) (F.AU.trans hh)
theorem F.pY{a0 a1 a2:AV}{h:ag}{K:Out→ag→Bool}:aq Tryz.prog (ah Tryz.prog) (aj Tryz.f129) ⟨aF [a0,a1,a2],47,[],h⟩ (aJ Tryz.prog dx Tryz.f129.results.toList K)=(af (cK a1) fun c0=>af (bD 0 (.ptr (ag.next h) 0)) fun x1=>af (ai none x1 (ag.alloc h (.cells c0))) fun x2=>af (fH (.int .i64) x2 (.int .i64 0)) fun x3=>ax x3 (af (bS a0) fun x4=>af (bD 1 x4) fun x5=>af (ai none x5 (ag.alloc h (.cells c0))) fun x6=>af (bD 2 (.ptr (ag.next h) 0)) fun x7=>af (bD 0 x7) fun x8=>af (ai none x8 (ag.alloc h (.cells c0))) fun x9=>af (dB .string .nils false x6 x9 (ag.alloc h (.cells c0))) fun x10=>ah Tryz.prog 69 [a0,a2] (ag.alloc h (.cells c0)) (br (fun x11 h12=>if ((af (dB .string .nils false x6 x9 h12) fun x13=>AV.beq x13 x10)&&((af (ai none x8 h12) fun x14=>AV.beq x14 x9)&&((af (ai none x5 h12) fun x15=>AV.beq x15 x6)&&true)))=true then (af (cL 1 x10 x11) fun x16=>af (ai none x16 h12) fun x17=>af (bD 1 (.ptr (ag.next h) 0)) fun x18=>af (ai none x18 h12) fun x19=>af (lC .bool x17 x19) fun x20=>K (.ret x20) h12) else false) (fun _ _=>false))) (af (fH (.int .i64) x2 (.int .i64 1)) fun x21=>ax x21 (af (cL 1 a2 (.int .i64 0)) fun x22=>af (ai none x22 (ag.alloc h (.cells c0))) fun x23=>af (cL 1 a2 (.int .i64 1)) fun x24=>af (ai none x24 (ag.alloc h (.cells c0))) fun x25=>af (fH (.int .i64) x23 x25) fun x26=>af (bD 1 (.ptr (ag.next h) 0)) fun x27=>af (ai none x27 (ag.alloc h (.cells c0))) fun x28=>af (lC .bool x26 x28) fun x29=>K (.ret x29) (ag.alloc h (.cells c0))) (af (fH (.int .i64) x2 (.int .i64 2)) fun x30=>ax x30 (af (cL 1 a2 (.int .i64 0)) fun x31=>af (ai none x31 (ag.alloc h (.cells c0))) fun x32=>af (cL 1 a2 (.int .i64 1)) fun x33=>af (ai none x33 (ag.alloc h (.cells c0))) fun x34=>af (aA .lss x32 x34) fun x35=>af (bD 1 (.ptr (ag.next h) 0)) fun x36=>af (ai none x36 (ag.alloc h (.cells c0))) fun x37=>af (lC .bool x35 x37) fun x38=>K (.ret x38) (ag.alloc h (.cells c0))) (af (bD 1 (.ptr (ag.next h) 0)) fun x39=>af (ai none x39 (ag.alloc h (.cells c0))) fun x40=>af (lC .bool (.bool false) x40) fun x41=>K (.ret x41) (ag.alloc h (.cells c0)))))):=by kernel_rfl
theorem F.oZ{a0 a1 a2:AV}{h:ag}{K:Out→ag→Bool}(hh:(af (cK a1) fun c0=>af (bD 0 (.ptr (ag.next h) 0)) fun x1=>af (ai none x1 (ag.alloc h (.cells c0))) fun x2=>af (fH (.int .i64) x2 (.int .i64 0)) fun x3=>ax x3 (af (bS a0) fun x4=>af (bD 1 x4) fun x5=>af (ai none x5 (ag.alloc h (.cells c0))) fun x6=>af (bD 2 (.ptr (ag.next h) 0)) fun x7=>af (bD 0 x7) fun x8=>af (ai none x8 (ag.alloc h (.cells c0))) fun x9=>af (dB .string .nils false x6 x9 (ag.alloc h (.cells c0))) fun x10=>ah Tryz.prog 69 [a0,a2] (ag.alloc h (.cells c0)) (br (fun x11 h12=>if ((af (dB .string .nils false x6 x9 h12) fun x13=>AV.beq x13 x10)&&((af (ai none x8 h12) fun x14=>AV.beq x14 x9)&&((af (ai none x5 h12) fun x15=>AV.beq x15 x6)&&true)))=true then (af (cL 1 x10 x11) fun x16=>af (ai none x16 h12) fun x17=>af (bD 1 (.ptr (ag.next h) 0)) fun x18=>af (ai none x18 h12) fun x19=>af (lC .bool x17 x19) fun x20=>K (.ret x20) h12) else false) (fun _ _=>false))) (af (fH (.int .i64) x2 (.int .i64 1)) fun x21=>ax x21 (af (cL 1 a2 (.int .i64 0)) fun x22=>af (ai none x22 (ag.alloc h (.cells c0))) fun x23=>af (cL 1 a2 (.int .i64 1)) fun x24=>af (ai none x24 (ag.alloc h (.cells c0))) fun x25=>af (fH (.int .i64) x23 x25) fun x26=>af (bD 1 (.ptr (ag.next h) 0)) fun x27=>af (ai none x27 (ag.alloc h (.cells c0))) fun x28=>af (lC .bool x26 x28) fun x29=>K (.ret x29) (ag.alloc h (.cells c0))) (af (fH (.int .i64) x2 (.int .i64 2)) fun x30=>ax x30 (af (cL 1 a2 (.int .i64 0)) fun x31=>af (ai none x31 (ag.alloc h (.cells c0))) fun x32=>af (cL 1 a2 (.int .i64 1)) fun x33=>af (ai none x33 (ag.alloc h (.cells c0))) fun x34=>af (aA .lss x32 x34) fun x35=>af (bD 1 (.ptr (ag.next h) 0)) fun x36=>af (ai none x36 (ag.alloc h (.cells c0))) fun x37=>af (lC .bool x35 x37) fun x38=>K (.ret x38) (ag.alloc h (.cells c0))) (af (bD 1 (.ptr (ag.next h) 0)) fun x39=>af (ai none x39 (ag.alloc h (.cells c0))) fun x40=>af (lC .bool (.bool false) x40) fun x41=>K (.ret x41) (ag.alloc h (.cells c0))))))=true):Sem Tryz.prog 129 [a0,a1,a2] h K:=
 aQ mixed (aL _) Tryz.func129 (c:=aj Tryz.f129) rfl (by decide) (of_decide_eq_true (by kernel_rfl)) (F.pY.trans hh)
noncomputable def F.ct.L0:Code:=partOf (aj Tryz.f109) [1,1,1,1,0,1,0,0]
noncomputable def F.ct.bY(K:Out→ag→Bool):AX→St→Bool:=(aU 0 (cB false (aq Tryz.prog (ah Tryz.prog) (partOf (aj Tryz.f109) [1,1,1,1,1])) (aJ Tryz.prog dx Tryz.f109.results.toList K)))
noncomputable def F.ct.L1:Code:=partOf (aj Tryz.f109) [1,1,1,1,0,1,0,0,1,1,0,0,1,1,1,0,1,0,0]
noncomputable def F.ct.ig(K:AX→St→Bool):AX→St→Bool:=(aU 2 (cB false (aq Tryz.prog (ah Tryz.prog) (partOf (aj Tryz.f109) [1,1,1,1,0,1,0,0,1,1,0,0,1,1,1,1])) (aU 1 (cB false (aq Tryz.prog (ah Tryz.prog) (partOf (aj Tryz.f109) [1,1,1,1,0,1,0,0,1,1,1])) K))))
theorem F.ct.aN{e:Env}{h:ag}{K:AX→St→Bool}:aq Tryz.prog (ah Tryz.prog) F.ct.L0 ⟨e,63,[],h⟩ K=(af (aA .lss (e 30) (e 29)) fun x23=>ax x23 (af (cL 4 (e 28) (e 30)) fun x24=>af (ai (some 4) x24 h) fun x25=>af (bg 4 (.ptr (ag.next h) 0) x25 (ag.alloc h (.cells [(.int .i64 0),(.bool false),(.str []),.nils]))) fun h26=>af (bD 2 (.ptr (ag.next h) 0)) fun x27=>af (bD 1 x27) fun x28=>af (ai none x28 h26) fun x29=>lD (e 6) fun f35 a36 a37=>ah Tryz.prog f35 (a36++([x29]++a37)) h26 (br (fun x30 h31=>af (bx .slice x30 h31) fun x34=>aT (aq Tryz.prog (ah Tryz.prog) F.ct.L1) ⟨(aa (aa (aa (aa (aa (aa (aa (aa (aa (aa (aa (aa (aa (aa e 31 x23) 32 x24) 33 x25) 9 (.ptr (ag.next h) 0)) 34 (e 6)) 35 x27) 36 x28) 37 x29) 38 x30) 10 x30) 11 (.int .i64 (-1))) 39 x30) 40 x34) 41 (.int .i64 0)),63,[],h31⟩ (F.ct.ig K)) (fun v32 h33=>K (.panic v32) ⟨(aa (aa (aa (aa (aa (aa (aa (aa e 31 x23) 32 x24) 33 x25) 9 (.ptr (ag.next h) 0)) 34 (e 6)) 35 x27) 36 x28) 37 x29),63,[],h33⟩))) (K (.exit 0) ⟨(aa e 31 x23),63,[],h⟩)):=by kernel_rfl
theorem F.ct.aD{e:Env}{h:ag}{K:Out→ag→Bool}:F.ct.bY K (.exit 0) ⟨e,63,[],h⟩=(af (ai (some 8) (e 7) h) fun x38=>af (bg 8 (e 4) x38 h) fun h39=>af (eC Tryz.prog ⟨(aa e 62 x38),63,[],h39⟩ Tryz.f109.results.toList) fun vs=>K (.ret (oneOf vs)) h39):=by kernel_rfl
theorem F.ct.cP{e:Env}{h:ag}{K:AX→St→Bool}:aq Tryz.prog (ah Tryz.prog) F.ct.L1 ⟨e,63,[],h⟩ K=(af (aA .lss (e 41) (e 40)) fun x40=>ax x40 (af (cL 1 (e 39) (e 41)) fun x41=>af (ai none x41 h) fun x42=>af (rT true (e 11) [x42]) fun x43=>af (aA .add (e 41) (.int .i64 1)) fun x44=>K .normal ⟨(aa (aa (aa (aa (aa (aa (aa (aa (aa (aa e 42 x40) 43 x41) 44 x42) 13 x42) 45 (e 11)) 46 x42) 47 x43) 11 x43) 48 x44) 41 x44),63,[],h⟩) (K (.exit 2) ⟨(aa e 42 x40),63,[],h⟩)):=by kernel_rfl
theorem F.ct.b8{e:Env}{h:ag}{K:AX→St→Bool}:F.ct.ig K (.exit 2) ⟨e,63,[],h⟩=(af (bD 6 (e 7)) fun x45=>af (ai none x45 h) fun x46=>af (eF [.nils] [(0,1)] [(e 10)]) fun c47=>af (bD 7 (e 7)) fun x48=>af (ai none x48 (ag.alloc h (.cells c47))) fun x49=>af (eF [(.int .i64 0)] [(0,1)] [(e 11)]) fun c50=>cq (bW 1 24 x46 (.slice (ag.next h) 0 1 1) (ag.alloc (ag.alloc h (.cells c47)) (.cells c50))) fun x51 h52=>if ((af (ai none x48 h52) fun x53=>AV.beq x53 x49)&&true)=true then (af (bD 6 (e 7)) fun x54=>cq (bW 1 8 x49 (.slice (ag.next (ag.alloc h (.cells c47))) 0 1 1) h52) fun x55 h56=>af (bg 1 x54 x51 h56) fun h57=>af (bD 7 (e 7)) fun x58=>af (bg 1 x58 x55 h57) fun h59=>af (aA .add (e 30) (.int .i64 1)) fun x60=>K .normal ⟨(aa (aa (aa (aa (aa (aa (aa (aa (aa (aa (aa (aa (aa (aa e 49 x45) 50 x46) 51 (e 10)) 52 (.slice (ag.next h) 0 1 1)) 54 x48) 55 x49) 56 (e 11)) 57 (.slice (ag.next (ag.alloc h (.cells c47))) 0 1 1)) 53 x51) 59 x54) 58 x55) 60 x58) 61 x60) 30 x60),63,[],h59⟩) else false):=by kernel_rfl
theorem F.xq{a0 a1:AV}{h:ag}{K:Out→ag→Bool}:aq Tryz.prog (ah Tryz.prog) (aj Tryz.f109) ⟨aF [a0,a1],63,[],h⟩ (aJ Tryz.prog dx Tryz.f109.results.toList K)=(af (cK a1) fun c0=>af (ai (some 3) (.ptr (ag.next h) 0) (ag.alloc (ag.alloc h (.cells c0)) (.cells [(.int .i64 0),(.str []),.nils,.nils,(.int .i64 0),.nils,.nils,.nils]))) fun x1=>ah Tryz.prog 108 [x1] (ag.alloc (ag.alloc h (.cells c0)) (.cells [(.int .i64 0),(.str []),.nils,.nils,(.int .i64 0),.nils,.nils,.nils])) (br (fun x2 h3=>af (bg 1 (.ptr (ag.next h3) 0) x2 (ag.alloc h3 (.cells [.nils]))) fun h6=>af (ai (some 3) (.ptr (ag.next h) 0) h6) fun x7=>af (ai none (.ptr (ag.next h3) 0) h6) fun x8=>af (bx .slice x8 h6) fun x9=>af (bD 0 (.ptr (ag.next h) 0)) fun x10=>af (bD 1 x10) fun x11=>af (ai none x11 h6) fun x12=>ah Tryz.prog 156 [x12,(.ptr (ag.next h3) 0)] (ag.alloc h6 (.cells [(.int .i64 0),(.str []),.nils,.nils,(.int .i64 0),.nils,.nils,.nils])) (br (fun x13 h14=>if ((af (bx .slice x8 h14) fun x15=>AV.beq x15 x9)&&((af (ai none (.ptr (ag.next h3) 0) h14) fun x16=>AV.beq x16 x8)&&((af (ai (some 3) (.ptr (ag.next h) 0) h14) fun x17=>AV.beq x17 x7)&&true)))=true then (af (gQ [(.int .i64 0),(.str []),.nils,.nils,(.int .i64 0),.nils,.nils,.nils] [(0,1),(1,3),(4,1),(5,1)] [a0,x7,x9,x13]) fun x18=>af (bg 8 (.ptr (ag.next h6) 0) x18 h14) fun h19=>af (bD 2 (.ptr (ag.next h) 0)) fun x20=>af (ai none x20 h19) fun x21=>af (bx .slice x21 h19) fun x22=>aT (aq Tryz.prog (ah Tryz.prog) F.ct.L0) ⟨(aa (aa (aa (aa (aa (aa (aa (aa (aa (aa (aa (aa (aa (aa (aa (aa (aa (aa (aa (aa (aa (aa (aF [a0,a1]) 3 (.ptr (ag.next h) 0)) 4 (.ptr (ag.next (ag.alloc h (.cells c0))) 0)) 14 x1) 15 x2) 5 (.ptr (ag.next h3) 0)) 16 (.func 156 [] [(.ptr (ag.next h3) 0)])) 6 (.func 156 [] [(.ptr (ag.next h3) 0)])) 17 a0) 18 x7) 19 x8) 20 x9) 21 (.func 156 [] [(.ptr (ag.next h3) 0)])) 22 x10) 23 x11) 24 x12) 7 (.ptr (ag.next h6) 0)) 25 x13) 26 x18) 27 x20) 28 x21) 29 x22) 30 (.int .i64 0)),63,[],h19⟩ (F.ct.bY K)) else false) (fun _ _=>false))) (fun v4 h5=>K (.panic v4) h5))):=by kernel_rfl
theorem F.vj{a0 a1:AV}{h:ag}{K:Out→ag→Bool}(hh:(af (cK a1) fun c0=>af (ai (some 3) (.ptr (ag.next h) 0) (ag.alloc (ag.alloc h (.cells c0)) (.cells [(.int .i64 0),(.str []),.nils,.nils,(.int .i64 0),.nils,.nils,.nils]))) fun x1=>ah Tryz.prog 108 [x1] (ag.alloc (ag.alloc h (.cells c0)) (.cells [(.int .i64 0),(.str []),.nils,.nils,(.int .i64 0),.nils,.nils,.nils])) (br (fun x2 h3=>af (bg 1 (.ptr (ag.next h3) 0) x2 (ag.alloc h3 (.cells [.nils]))) fun h6=>af (ai (some 3) (.ptr (ag.next h) 0) h6) fun x7=>af (ai none (.ptr (ag.next h3) 0) h6) fun x8=>af (bx .slice x8 h6) fun x9=>af (bD 0 (.ptr (ag.next h) 0)) fun x10=>af (bD 1 x10) fun x11=>af (ai none x11 h6) fun x12=>ah Tryz.prog 156 [x12,(.ptr (ag.next h3) 0)] (ag.alloc h6 (.cells [(.int .i64 0),(.str []),.nils,.nils,(.int .i64 0),.nils,.nils,.nils])) (br (fun x13 h14=>if ((af (bx .slice x8 h14) fun x15=>AV.beq x15 x9)&&((af (ai none (.ptr (ag.next h3) 0) h14) fun x16=>AV.beq x16 x8)&&((af (ai (some 3) (.ptr (ag.next h) 0) h14) fun x17=>AV.beq x17 x7)&&true)))=true then (af (gQ [(.int .i64 0),(.str []),.nils,.nils,(.int .i64 0),.nils,.nils,.nils] [(0,1),(1,3),(4,1),(5,1)] [a0,x7,x9,x13]) fun x18=>af (bg 8 (.ptr (ag.next h6) 0) x18 h14) fun h19=>af (bD 2 (.ptr (ag.next h) 0)) fun x20=>af (ai none x20 h19) fun x21=>af (bx .slice x21 h19) fun x22=>aT (aq Tryz.prog (ah Tryz.prog) F.ct.L0) ⟨(aa (aa (aa (aa (aa (aa (aa (aa (aa (aa (aa (aa (aa (aa (aa (aa (aa (aa (aa (aa (aa (aa (aF [a0,a1]) 3 (.ptr (ag.next h) 0)) 4 (.ptr (ag.next (ag.alloc h (.cells c0))) 0)) 14 x1) 15 x2) 5 (.ptr (ag.next h3) 0)) 16 (.func 156 [] [(.ptr (ag.next h3) 0)])) 6 (.func 156 [] [(.ptr (ag.next h3) 0)])) 17 a0) 18 x7) 19 x8) 20 x9) 21 (.func 156 [] [(.ptr (ag.next h3) 0)])) 22 x10) 23 x11) 24 x12) 7 (.ptr (ag.next h6) 0)) 25 x13) 26 x18) 27 x20) 28 x21) 29 x22) 30 (.int .i64 0)),63,[],h19⟩ (F.ct.bY K)) else false) (fun _ _=>false))) (fun v4 h5=>K (.panic v4) h5)))=true):Sem Tryz.prog 109 [a0,a1] h K:=
 aQ mixed (aL _) Tryz.func109 (c:=aj Tryz.f109) rfl (by decide) (of_decide_eq_true (by kernel_rfl)) (F.xq.trans hh)
noncomputable def F.dW.L0:Code:=partOf (aj Tryz.f156) [1,1,0,1,0,0]
noncomputable def F.dW.bY(K:Out→ag→Bool):AX→St→Bool:=(aU 0 (cB false (aq Tryz.prog (ah Tryz.prog) (partOf (aj Tryz.f156) [1,1,1])) (aJ Tryz.prog dx Tryz.f156.results.toList K)))
theorem F.dW.aN{e:Env}{h:ag}{K:AX→St→Bool}:aq Tryz.prog (ah Tryz.prog) F.dW.L0 ⟨e,21,[],h⟩ K=(af (aA .lss (e 9) (e 8)) fun x1=>ax x1 (af (cL 1 (e 7) (e 9)) fun x2=>af (ai none x2 h) fun x3=>af (ai none (e 1) h) fun x4=>ah Tryz.prog 157 [x4,x3] h (br (fun x5 h6=>af (eF [(.int .i64 0)] [(0,1)] [x5]) fun c9=>cq (bW 1 8 (e 4) (.slice (ag.next h6) 0 1 1) (ag.alloc h6 (.cells c9))) fun x10 h11=>af (aA .add (e 9) (.int .i64 1)) fun x12=>K .normal ⟨(aa (aa (aa (aa (aa (aa (aa (aa (aa (aa (aa (aa (aa e 10 x1) 11 x2) 12 x3) 6 x3) 13 (e 4)) 14 x4) 15 x3) 16 x5) 17 (.slice (ag.next h6) 0 1 1)) 18 x10) 4 x10) 19 x12) 9 x12),21,[],h11⟩) (fun v7 h8=>K (.panic v7) ⟨(aa (aa (aa (aa (aa (aa (aa e 10 x1) 11 x2) 12 x3) 6 x3) 13 (e 4)) 14 x4) 15 x3),21,[],h8⟩))) (K (.exit 0) ⟨(aa e 10 x1),21,[],h⟩)):=by kernel_rfl
theorem F.dW.aD{e:Env}{h:ag}{K:Out→ag→Bool}:F.dW.bY K (.exit 0) ⟨e,21,[],h⟩=(K (.ret (e 4)) h):=by kernel_rfl
theorem F.uj{a0 a1:AV}{h:ag}{K:Out→ag→Bool}:aq Tryz.prog (ah Tryz.prog) (aj Tryz.f156) ⟨aF [a0,a1],21,[],h⟩ (aJ Tryz.prog dx Tryz.f156.results.toList K)=(af (bx .slice a0 h) fun x0=>aT (aq Tryz.prog (ah Tryz.prog) F.dW.L0) ⟨(aa (aa (aa (aa (aa (aF [a0,a1]) 3 .nils) 4 .nils) 7 a0) 8 x0) 9 (.int .i64 0)),21,[],h⟩ (F.dW.bY K)):=by kernel_rfl
theorem F.sU{a0 a1:AV}{h:ag}{K:Out→ag→Bool}(hh:(af (bx .slice a0 h) fun x0=>aT (aq Tryz.prog (ah Tryz.prog) F.dW.L0) ⟨(aa (aa (aa (aa (aa (aF [a0,a1]) 3 .nils) 4 .nils) 7 a0) 8 x0) 9 (.int .i64 0)),21,[],h⟩ (F.dW.bY K))=true):Sem Tryz.prog 156 [a0,a1] h K:=
 aQ mixed (aL _) Tryz.func156 (c:=aj Tryz.f156) rfl (by decide) (of_decide_eq_true (by kernel_rfl)) (F.uj.trans hh)
theorem F.rN{a0 a1 a2:AV}{h:ag}{K:Out→ag→Bool}:aq Tryz.prog (ah Tryz.prog) (aj Tryz.f122) ⟨aF [a0,a1,a2],18,[],h⟩ (aJ Tryz.prog dx Tryz.f122.results.toList K)=(af (cK a0) fun c0=>af (cK a1) fun c1=>af (cK a2) fun c2=>af (bD 4 (.ptr (ag.next (ag.alloc h (.cells c0))) 0)) fun x3=>af (ai none x3 (ag.alloc (ag.alloc (ag.alloc h (.cells c0)) (.cells c1)) (.cells c2))) fun x4=>cq (dy 1 8 [(.int .i64 0)] x4 x4 (ag.alloc (ag.alloc (ag.alloc h (.cells c0)) (.cells c1)) (.cells c2))) fun x5 h6=>af (bg 1 (.ptr (ag.next h6) 0) x5 (ag.alloc h6 (.cells [.nils]))) fun h7=>af (bg 1 (.ptr (ag.next h7) 0) (.func 166 [] [(.ptr (ag.next (ag.alloc h (.cells c0))) 0),(.ptr (ag.next h) 0),(.ptr (ag.next h6) 0)]) (ag.alloc h7 (.cells [.nilf]))) fun h8=>af (bg 1 (.ptr (ag.next h8) 0) (.func 167 [] [(.ptr (ag.next (ag.alloc h (.cells c0))) 0),(.ptr (ag.next (ag.alloc (ag.alloc h (.cells c0)) (.cells c1))) 0),(.ptr (ag.next h6) 0),(.ptr (ag.next h) 0),(.ptr (ag.next h7) 0),(.ptr (ag.next h8) 0)]) (ag.alloc h8 (.cells [.nilf]))) fun h9=>af (ai none (.ptr (ag.next h7) 0) h9) fun x10=>lD x10 fun f23 a24 a25=>ah Tryz.prog f23 (a24++([(.int .i64 (-1))]++a25)) h9 (br (fun x11 h12=>ax x11 (af (ai none (.ptr (ag.next h8) 0) h12) fun x15=>lD x15 fun f20 a21 a22=>ah Tryz.prog f20 (a21++([(.int .i64 0)]++a22)) h12 (br (fun x16 h17=>K (.ret (.tuple [])) h17) (fun v18 h19=>K (.panic v18) h19))) (K (.ret (.tuple [])) h12)) (fun v13 h14=>K (.panic v13) h14))):=by kernel_rfl
theorem F.pZ{a0 a1 a2:AV}{h:ag}{K:Out→ag→Bool}(hh:(af (cK a0) fun c0=>af (cK a1) fun c1=>af (cK a2) fun c2=>af (bD 4 (.ptr (ag.next (ag.alloc h (.cells c0))) 0)) fun x3=>af (ai none x3 (ag.alloc (ag.alloc (ag.alloc h (.cells c0)) (.cells c1)) (.cells c2))) fun x4=>cq (dy 1 8 [(.int .i64 0)] x4 x4 (ag.alloc (ag.alloc (ag.alloc h (.cells c0)) (.cells c1)) (.cells c2))) fun x5 h6=>af (bg 1 (.ptr (ag.next h6) 0) x5 (ag.alloc h6 (.cells [.nils]))) fun h7=>af (bg 1 (.ptr (ag.next h7) 0) (.func 166 [] [(.ptr (ag.next (ag.alloc h (.cells c0))) 0),(.ptr (ag.next h) 0),(.ptr (ag.next h6) 0)]) (ag.alloc h7 (.cells [.nilf]))) fun h8=>af (bg 1 (.ptr (ag.next h8) 0) (.func 167 [] [(.ptr (ag.next (ag.alloc h (.cells c0))) 0),(.ptr (ag.next (ag.alloc (ag.alloc h (.cells c0)) (.cells c1))) 0),(.ptr (ag.next h6) 0),(.ptr (ag.next h) 0),(.ptr (ag.next h7) 0),(.ptr (ag.next h8) 0)]) (ag.alloc h8 (.cells [.nilf]))) fun h9=>af (ai none (.ptr (ag.next h7) 0) h9) fun x10=>lD x10 fun f23 a24 a25=>ah Tryz.prog f23 (a24++([(.int .i64 (-1))]++a25)) h9 (br (fun x11 h12=>ax x11 (af (ai none (.ptr (ag.next h8) 0) h12) fun x15=>lD x15 fun f20 a21 a22=>ah Tryz.prog f20 (a21++([(.int .i64 0)]++a22)) h12 (br (fun x16 h17=>K (.ret (.tuple [])) h17) (fun v18 h19=>K (.panic v18) h19))) (K (.ret (.tuple [])) h12)) (fun v13 h14=>K (.panic v13) h14)))=true):Sem Tryz.prog 122 [a0,a1,a2] h K:=
 aQ mixed (aL _) Tryz.func122 (c:=aj Tryz.f122) rfl (by decide) (of_decide_eq_true (by kernel_rfl)) (F.rN.trans hh)
noncomputable def F.cx.L0:Code:=partOf (aj Tryz.f166) [1,0,1,0,0]
noncomputable def F.cx.bY(K:Out→ag→Bool):AX→St→Bool:=(aU 0 (cB false (aq Tryz.prog (ah Tryz.prog) (partOf (aj Tryz.f166) [1,1])) (aJ Tryz.prog dx Tryz.f166.results.toList K)))
theorem F.cx.aN{e:Env}{h:ag}{K:AX→St→Bool}:aq Tryz.prog (ah Tryz.prog) F.cx.L0 ⟨e,38,[],h⟩ K=(af (aA .lss (e 12) (e 11)) fun x4=>ax x4 (af (cL 4 (e 10) (e 12)) fun x5=>af (ai (some 4) x5 h) fun x6=>af (bg 4 (.ptr (ag.next h) 0) x6 (ag.alloc h (.cells [(.int .i64 0),(.bool false),(.str []),.nils]))) fun h7=>af (bD 7 (e 1)) fun x8=>af (ai none x8 h7) fun x9=>af (cL 1 x9 (e 12)) fun x10=>af (ai none x10 h7) fun x11=>af (fH (.int .i64) x11 (e 0)) fun x12=>ax x12 (af (ai none (e 2) h7) fun x13=>af (ai (some 4) (.ptr (ag.next h) 0) h7) fun x14=>af (ai none (e 3) h7) fun x15=>af (bD 6 (e 1)) fun x16=>af (ai none x16 h7) fun x17=>af (cL 1 x17 (e 12)) fun x18=>af (ai none x18 h7) fun x19=>ah Tryz.prog 124 [x15,x19] h7 (br (fun x20 h21=>if ((af (ai (some 4) (.ptr (ag.next h) 0) h21) fun x22=>AV.beq x22 x14)&&((af (ai none (e 2) h21) fun x23=>AV.beq x23 x13)&&true))=true then (ah Tryz.prog 129 [x13,x14,x20] h21 (br (fun x24 h25=>af (iI .not x24) fun x26=>ax x26 (K .ret ⟨(aa (aa (aa (aa (aa (aa (aa (aa (aa (aa (aa (aa (aa (aa (aa (aa (aa (aa (aa (aa (aa (aa (aa (aa (aa (aa (aa (aa (aa (aa (aa (aa (aa (aa (aa (aa (aa (aa e 13 x4) 14 (e 12)) 15 x5) 16 x6) 7 (.ptr (ag.next h) 0)) 6 (e 12)) 17 x8) 18 x9) 19 (e 12)) 20 x10) 21 x11) 22 (e 0)) 23 x12) 24 x12) 24 (.bool true)) 25 x13) 24 (.bool true)) 26 x14) 24 (.bool true)) 27 x15) 24 (.bool true)) 28 x16) 24 (.bool true)) 29 x17) 24 (.bool true)) 30 (e 12)) 24 (.bool true)) 31 x18) 24 (.bool true)) 32 x19) 24 (.bool true)) 33 x20) 24 (.bool true)) 34 x24) 24 (.bool true)) 35 x26) 36 x26) 5 (.bool false)),38,[],h25⟩) (af (aA .add (e 12) (.int .i64 1)) fun x27=>K .normal ⟨(aa (aa (aa (aa (aa (aa (aa (aa (aa (aa (aa (aa (aa (aa (aa (aa (aa (aa (aa (aa (aa (aa (aa (aa (aa (aa (aa (aa (aa (aa (aa (aa (aa (aa (aa (aa (aa (aa (aa e 13 x4) 14 (e 12)) 15 x5) 16 x6) 7 (.ptr (ag.next h) 0)) 6 (e 12)) 17 x8) 18 x9) 19 (e 12)) 20 x10) 21 x11) 22 (e 0)) 23 x12) 24 x12) 24 (.bool true)) 25 x13) 24 (.bool true)) 26 x14) 24 (.bool true)) 27 x15) 24 (.bool true)) 28 x16) 24 (.bool true)) 29 x17) 24 (.bool true)) 30 (e 12)) 24 (.bool true)) 31 x18) 24 (.bool true)) 32 x19) 24 (.bool true)) 33 x20) 24 (.bool true)) 34 x24) 24 (.bool true)) 35 x26) 36 x26) 37 x27) 12 x27),38,[],h25⟩)) (fun _ _=>false))) else false) (fun _ _=>false))) (af (aA .add (e 12) (.int .i64 1)) fun x28=>K .normal ⟨(aa (aa (aa (aa (aa (aa (aa (aa (aa (aa (aa (aa (aa (aa (aa (aa (aa (aa (aa (aa (aa (aa (aa (aa (aa (aa (aa (aa (aa (aa (aa (aa (aa (aa (aa (aa (aa (aa (aa e 13 x4) 14 (e 12)) 15 x5) 16 x6) 7 (.ptr (ag.next h) 0)) 6 (e 12)) 17 x8) 18 x9) 19 (e 12)) 20 x10) 21 x11) 22 (e 0)) 23 x12) 24 x12) 24 (.bool false)) 25 bK) 24 (.bool false)) 26 bK) 24 (.bool false)) 27 bK) 24 (.bool false)) 28 bK) 24 (.bool false)) 29 bK) 24 (.bool false)) 30 bK) 24 (.bool false)) 31 bK) 24 (.bool false)) 32 bK) 24 (.bool false)) 33 bK) 24 (.bool false)) 34 bK) 24 (.bool false)) 35 bK) 36 (.bool false)) 37 x28) 12 x28),38,[],h7⟩)) (K (.exit 0) ⟨(aa e 13 x4),38,[],h⟩)):=by kernel_rfl
theorem F.cx.aD{e:Env}{h:ag}{K:Out→ag→Bool}:F.cx.bY K (.exit 0) ⟨e,38,[],h⟩=(K (.ret (.bool true)) h):=by kernel_rfl
theorem F.cx.bq{e:Env}{h:ag}{K:Out→ag→Bool}:F.cx.bY K .ret ⟨e,38,[],h⟩=(K (.ret (e 5)) h):=by kernel_rfl
theorem F.pe{a0 a1 a2 a3:AV}{h:ag}{K:Out→ag→Bool}:aq Tryz.prog (ah Tryz.prog) (aj Tryz.f166) ⟨aF [a0,a1,a2,a3],38,[],h⟩ (aJ Tryz.prog dx Tryz.f166.results.toList K)=(af (bD 1 a1) fun x0=>af (bD 2 x0) fun x1=>af (ai none x1 h) fun x2=>af (bx .slice x2 h) fun x3=>aT (aq Tryz.prog (ah Tryz.prog) F.cx.L0) ⟨(aa (aa (aa (aa (aa (aa (aF [a0,a1,a2,a3]) 5 (.bool false)) 8 x0) 9 x1) 10 x2) 11 x3) 12 (.int .i64 0)),38,[],h⟩ (F.cx.bY K)):=by kernel_rfl
theorem F.oC{a0 a1 a2 a3:AV}{h:ag}{K:Out→ag→Bool}(hh:(af (bD 1 a1) fun x0=>af (bD 2 x0) fun x1=>af (ai none x1 h) fun x2=>af (bx .slice x2 h) fun x3=>aT (aq Tryz.prog (ah Tryz.prog) F.cx.L0) ⟨(aa (aa (aa (aa (aa (aa (aF [a0,a1,a2,a3]) 5 (.bool false)) 8 x0) 9 x1) 10 x2) 11 x3) 12 (.int .i64 0)),38,[],h⟩ (F.cx.bY K))=true):Sem Tryz.prog 166 [a0,a1,a2,a3] h K:=
 aQ mixed (aL _) Tryz.func166 (c:=aj Tryz.f166) rfl (by decide) (of_decide_eq_true (by kernel_rfl)) (F.pe.trans hh)
noncomputable def F.cM.L0:Code:=partOf (aj Tryz.f167) [1,1,0,1,0,0]
noncomputable def F.cM.bY(K:Out→ag→Bool):AX→St→Bool:=(aU 0 (cB false (aq Tryz.prog (ah Tryz.prog) (partOf (aj Tryz.f167) [1,1,1])) (aJ Tryz.prog dx Tryz.f167.results.toList K)))
theorem F.cM.aN{e:Env}{h:ag}{K:AX→St→Bool}:aq Tryz.prog (ah Tryz.prog) F.cM.L0 ⟨e,39,[],h⟩ K=(af (aA .lss (e 21) (e 20)) fun x16=>ax x16 (af (ai none (e 3) h) fun x17=>af (cL 1 x17 (e 0)) fun x18=>af (bg 1 x18 (e 21) h) fun h19=>af (ai none (e 5) h19) fun x20=>lD x20 fun f37 a38 a39=>ah Tryz.prog f37 (a38++([(e 0)]++a39)) h19 (br (fun x21 h22=>ax x21 (af (ai none (e 6) h22) fun x25=>af (aA .add (e 0) (.int .i64 1)) fun x26=>lD x25 fun f33 a34 a35=>ah Tryz.prog f33 (a34++([x26]++a35)) h22 (br (fun x27 h28=>af (iI .not x27) fun x31=>ax x31 (K .ret ⟨(aa (aa (aa (aa (aa (aa (aa (aa (aa (aa (aa (aa (aa (aa (aa (aa (aa (aa (aa (aa (aa (aa (aa e 22 x16) 23 (e 21)) 9 (e 21)) 24 x17) 25 (e 0)) 26 (e 21)) 27 x18) 28 x20) 29 (e 0)) 30 x21) 31 x21) 31 (.bool true)) 32 x25) 31 (.bool true)) 33 (e 0)) 31 (.bool true)) 34 x26) 31 (.bool true)) 35 x27) 31 (.bool true)) 36 x31) 37 x31) 8 (.bool false)),39,[],h28⟩) (af (aA .add (e 21) (.int .i64 1)) fun x32=>K .normal ⟨(aa (aa (aa (aa (aa (aa (aa (aa (aa (aa (aa (aa (aa (aa (aa (aa (aa (aa (aa (aa (aa (aa (aa (aa e 22 x16) 23 (e 21)) 9 (e 21)) 24 x17) 25 (e 0)) 26 (e 21)) 27 x18) 28 x20) 29 (e 0)) 30 x21) 31 x21) 31 (.bool true)) 32 x25) 31 (.bool true)) 33 (e 0)) 31 (.bool true)) 34 x26) 31 (.bool true)) 35 x27) 31 (.bool true)) 36 x31) 37 x31) 38 x32) 21 x32),39,[],h28⟩)) (fun v29 h30=>K (.panic v29) ⟨(aa (aa (aa (aa (aa (aa (aa (aa (aa (aa (aa (aa (aa (aa (aa (aa (aa (aa e 22 x16) 23 (e 21)) 9 (e 21)) 24 x17) 25 (e 0)) 26 (e 21)) 27 x18) 28 x20) 29 (e 0)) 30 x21) 31 x21) 31 (.bool true)) 32 x25) 31 (.bool true)) 33 (e 0)) 31 (.bool true)) 34 x26) 31 (.bool true)),39,[],h30⟩))) (af (aA .add (e 21) (.int .i64 1)) fun x36=>K .normal ⟨(aa (aa (aa (aa (aa (aa (aa (aa (aa (aa (aa (aa (aa (aa (aa (aa (aa (aa (aa (aa (aa (aa (aa (aa e 22 x16) 23 (e 21)) 9 (e 21)) 24 x17) 25 (e 0)) 26 (e 21)) 27 x18) 28 x20) 29 (e 0)) 30 x21) 31 x21) 31 (.bool false)) 32 bK) 31 (.bool false)) 33 bK) 31 (.bool false)) 34 bK) 31 (.bool false)) 35 bK) 31 (.bool false)) 36 bK) 37 (.bool false)) 38 x36) 21 x36),39,[],h22⟩)) (fun v23 h24=>K (.panic v23) ⟨(aa (aa (aa (aa (aa (aa (aa (aa (aa e 22 x16) 23 (e 21)) 9 (e 21)) 24 x17) 25 (e 0)) 26 (e 21)) 27 x18) 28 x20) 29 (e 0)),39,[],h24⟩))) (K (.exit 0) ⟨(aa e 22 x16),39,[],h⟩)):=by kernel_rfl
theorem F.cM.aD{e:Env}{h:ag}{K:Out→ag→Bool}:F.cM.bY K (.exit 0) ⟨e,39,[],h⟩=(K (.ret (.bool true)) h):=by kernel_rfl
theorem F.pg{a0 a1 a2 a3 a4 a5 a6:AV}{h:ag}{K:Out→ag→Bool}:aq Tryz.prog (ah Tryz.prog) (aj Tryz.f167) ⟨aF [a0,a1,a2,a3,a4,a5,a6],39,[],h⟩ (aJ Tryz.prog dx Tryz.f167.results.toList K)=(af (bD 4 a1) fun x0=>af (ai none x0 h) fun x1=>af (fH (.int .i64) a0 x1) fun x2=>ax x2 (af (ai none a2 h) fun x3=>af (ai none a3 h) fun x4=>lD x3 fun f9 a10 a11=>ah Tryz.prog f9 (a10++([x4]++a11)) h (br (fun x5 h6=>K (.ret x5) h6) (fun v7 h8=>K (.panic v7) h8))) (af (ai none a4 h) fun x12=>af (bS x12) fun x13=>af (bD 0 x13) fun x14=>af (ai none x14 h) fun x15=>aT (aq Tryz.prog (ah Tryz.prog) F.cM.L0) ⟨(aa (aa (aa (aa (aa (aa (aa (aa (aa (aa (aF [a0,a1,a2,a3,a4,a5,a6]) 8 (.bool false)) 10 a0) 11 x0) 12 x1) 13 x2) 17 x12) 18 x13) 19 x14) 20 x15) 21 (.int .i64 0)),39,[],h⟩ (F.cM.bY K))):=by kernel_rfl
theorem F.jR{a0 a1 a2 a3 a4 a5 a6:AV}{h:ag}{K:Out→ag→Bool}(hh:(af (bD 4 a1) fun x0=>af (ai none x0 h) fun x1=>af (fH (.int .i64) a0 x1) fun x2=>ax x2 (af (ai none a2 h) fun x3=>af (ai none a3 h) fun x4=>lD x3 fun f9 a10 a11=>ah Tryz.prog f9 (a10++([x4]++a11)) h (br (fun x5 h6=>K (.ret x5) h6) (fun v7 h8=>K (.panic v7) h8))) (af (ai none a4 h) fun x12=>af (bS x12) fun x13=>af (bD 0 x13) fun x14=>af (ai none x14 h) fun x15=>aT (aq Tryz.prog (ah Tryz.prog) F.cM.L0) ⟨(aa (aa (aa (aa (aa (aa (aa (aa (aa (aa (aF [a0,a1,a2,a3,a4,a5,a6]) 8 (.bool false)) 10 a0) 11 x0) 12 x1) 13 x2) 17 x12) 18 x13) 19 x14) 20 x15) 21 (.int .i64 0)),39,[],h⟩ (F.cM.bY K)))=true):Sem Tryz.prog 167 [a0,a1,a2,a3,a4,a5,a6] h K:=
 aQ mixed (aL _) Tryz.func167 (c:=aj Tryz.f167) rfl (by decide) (of_decide_eq_true (by kernel_rfl)) (F.pg.trans hh)
noncomputable def F.bP.L0:Code:=partOf (aj Tryz.f110) [1,1,0,0]
noncomputable def F.bP.bY(K:Out→ag→Bool):AX→St→Bool:=(aU 0 (aJ Tryz.prog dx Tryz.f110.results.toList K))
noncomputable def F.bP.L1:Code:=partOf (aj Tryz.f110) [1,1,0,0,1,0,0,1,1,0,0]
noncomputable def F.bP.ig(K:AX→St→Bool):AX→St→Bool:=(aU 2 (aU 1 (cB false (aq Tryz.prog (ah Tryz.prog) (partOf (aj Tryz.f110) [1,1,0,0,1,1])) K)))
theorem F.bP.aN{e:Env}{h:ag}{K:AX→St→Bool}:aq Tryz.prog (ah Tryz.prog) F.bP.L0 ⟨e,22,[],h⟩ K=(af (ai none (e 6) h) fun x3=>ax x3 (af (bg 1 (e 6) (.bool false) h) fun h4=>af (bx .slice (e 1) h4) fun x5=>aT (aq Tryz.prog (ah Tryz.prog) F.bP.L1) ⟨(aa (aa (aa (aa e 9 x3) 10 (e 1)) 11 x5) 12 (.int .i64 0)),22,[],h4⟩ (F.bP.ig K)) (K (.exit 0) ⟨(aa e 9 x3),22,[],h⟩)):=by kernel_rfl
theorem F.bP.aD{e:Env}{h:ag}{K:Out→ag→Bool}:F.bP.bY K (.exit 0) ⟨e,22,[],h⟩=(K (.ret (.tuple [])) h):=by kernel_rfl
theorem F.bP.cP{e:Env}{h:ag}{K:AX→St→Bool}:aq Tryz.prog (ah Tryz.prog) F.bP.L1 ⟨e,22,[],h⟩ K=(af (aA .lss (e 12) (e 11)) fun x6=>ax x6 (af (cL 8 (e 10) (e 12)) fun x7=>af (ai (some 8) x7 h) fun x8=>af (bg 8 (.ptr (ag.next h) 0) x8 (ag.alloc h (.cells [(.int .i64 0),(.str []),.nils,.nils,(.int .i64 0),.nils,.nils,.nils]))) fun h9=>af (ai none (e 3) h9) fun x10=>af (ai (some 8) (.ptr (ag.next h) 0) h9) fun x11=>ah Tryz.prog 122 [x10,x11,(.func 158 [] [(.ptr (ag.next h) 0),(e 3),(e 6),(e 5)])] h9 (br (fun x12 h13=>af (aA .add (e 12) (.int .i64 1)) fun x16=>K .normal ⟨(aa (aa (aa (aa (aa (aa (aa (aa (aa (aa e 13 x6) 14 x7) 15 x8) 8 (.ptr (ag.next h) 0)) 16 x10) 17 x11) 18 (.func 158 [] [(.ptr (ag.next h) 0),(e 3),(e 6),(e 5)])) 19 x12) 20 x16) 12 x16),22,[],h13⟩) (fun v14 h15=>K (.panic v14) ⟨(aa (aa (aa (aa (aa (aa (aa e 13 x6) 14 x7) 15 x8) 8 (.ptr (ag.next h) 0)) 16 x10) 17 x11) 18 (.func 158 [] [(.ptr (ag.next h) 0),(e 3),(e 6),(e 5)])),22,[],h15⟩))) (K (.exit 2) ⟨(aa e 13 x6),22,[],h⟩)):=by kernel_rfl
theorem F.bP.b8{e:Env}{h:ag}{K:AX→St→Bool}:F.bP.ig K (.exit 2) ⟨e,22,[],h⟩=(af (ai none (e 6) h) fun x17=>af (bg 1 (.ptr (ag.next h) 0) x17 (ag.alloc h (.cells [(.bool false)]))) fun h18=>K .normal ⟨(aa (aa e 21 x17) 6 (.ptr (ag.next h) 0)),22,[],h18⟩):=by kernel_rfl
theorem F.p7{a0 a1 a2:AV}{h:ag}{K:Out→ag→Bool}:aq Tryz.prog (ah Tryz.prog) (aj Tryz.f110) ⟨aF [a0,a1,a2],22,[],h⟩ (aJ Tryz.prog dx Tryz.f110.results.toList K)=(af (cK a0) fun c0=>af (cK a2) fun c1=>af (bg 1 (.ptr (ag.next (ag.alloc (ag.alloc h (.cells c0)) (.cells c1))) 0) (.bool true) (ag.alloc (ag.alloc (ag.alloc h (.cells c0)) (.cells c1)) (.cells [(.bool false)]))) fun h2=>aT (aq Tryz.prog (ah Tryz.prog) F.bP.L0) ⟨(aa (aa (aa (aF [a0,a1,a2]) 3 (.ptr (ag.next h) 0)) 5 (.ptr (ag.next (ag.alloc h (.cells c0))) 0)) 6 (.ptr (ag.next (ag.alloc (ag.alloc h (.cells c0)) (.cells c1))) 0)),22,[],h2⟩ (F.bP.bY K)):=by kernel_rfl
theorem F.pq{a0 a1 a2:AV}{h:ag}{K:Out→ag→Bool}(hh:(af (cK a0) fun c0=>af (cK a2) fun c1=>af (bg 1 (.ptr (ag.next (ag.alloc (ag.alloc h (.cells c0)) (.cells c1))) 0) (.bool true) (ag.alloc (ag.alloc (ag.alloc h (.cells c0)) (.cells c1)) (.cells [(.bool false)]))) fun h2=>aT (aq Tryz.prog (ah Tryz.prog) F.bP.L0) ⟨(aa (aa (aa (aF [a0,a1,a2]) 3 (.ptr (ag.next h) 0)) 5 (.ptr (ag.next (ag.alloc h (.cells c0))) 0)) 6 (.ptr (ag.next (ag.alloc (ag.alloc h (.cells c0)) (.cells c1))) 0)),22,[],h2⟩ (F.bP.bY K))=true):Sem Tryz.prog 110 [a0,a1,a2] h K:=
 aQ mixed (aL _) Tryz.func110 (c:=aj Tryz.f110) rfl (by decide) (of_decide_eq_true (by kernel_rfl)) (F.p7.trans hh)
theorem F.oD{a0 a1 a2 a3 a4:AV}{h:ag}{K:Out→ag→Bool}:aq Tryz.prog (ah Tryz.prog) (aj Tryz.f158) ⟨aF [a0,a1,a2,a3,a4],38,[],h⟩ (aJ Tryz.prog dx Tryz.f158.results.toList K)=(af (bD 5 a1) fun x0=>af (ai none x0 h) fun x1=>ah Tryz.prog 124 [a0,x1] h (br (fun x2 h3=>af (ai none a2 h3) fun x6=>af (bS x6) fun x7=>af (bD 1 x7) fun x8=>af (ai none x8 h3) fun x9=>af (bD 1 a1) fun x10=>af (bD 0 x10) fun x11=>af (bD 0 x11) fun x12=>af (ai none x12 h3) fun x13=>af (dB .string .nils false x9 x13 h3) fun x14=>af (ai none a2 h3) fun x15=>ah Tryz.prog 69 [x15,x2] h3 (br (fun x16 h17=>af (cL 1 x14 x16) fun x20=>af (ai none x20 h17) fun x21=>af (iI .not x21) fun x22=>ax x22 (af (ai none a2 h17) fun x23=>ah Tryz.prog 69 [x23,x2] h17 (br (fun x24 h25=>af (cL 1 x14 x24) fun x28=>af (bg 1 x28 (.bool true) h25) fun h29=>af (bg 1 a3 (.bool true) h29) fun h30=>af (ai none a4 h30) fun x31=>af (ai (some 8) a1 h30) fun x32=>lD x31 fun f37 a38 a39=>ah Tryz.prog f37 (a38++([x32,a0]++a39)) h30 (br (fun x33 h34=>K (.ret (.bool true)) h34) (fun v35 h36=>K (.panic v35) h36))) (fun v26 h27=>K (.panic v26) h27))) (K (.ret (.bool true)) h17)) (fun v18 h19=>K (.panic v18) h19))) (fun v4 h5=>K (.panic v4) h5))):=by kernel_rfl
theorem F.nE{a0 a1 a2 a3 a4:AV}{h:ag}{K:Out→ag→Bool}(hh:(af (bD 5 a1) fun x0=>af (ai none x0 h) fun x1=>ah Tryz.prog 124 [a0,x1] h (br (fun x2 h3=>af (ai none a2 h3) fun x6=>af (bS x6) fun x7=>af (bD 1 x7) fun x8=>af (ai none x8 h3) fun x9=>af (bD 1 a1) fun x10=>af (bD 0 x10) fun x11=>af (bD 0 x11) fun x12=>af (ai none x12 h3) fun x13=>af (dB .string .nils false x9 x13 h3) fun x14=>af (ai none a2 h3) fun x15=>ah Tryz.prog 69 [x15,x2] h3 (br (fun x16 h17=>af (cL 1 x14 x16) fun x20=>af (ai none x20 h17) fun x21=>af (iI .not x21) fun x22=>ax x22 (af (ai none a2 h17) fun x23=>ah Tryz.prog 69 [x23,x2] h17 (br (fun x24 h25=>af (cL 1 x14 x24) fun x28=>af (bg 1 x28 (.bool true) h25) fun h29=>af (bg 1 a3 (.bool true) h29) fun h30=>af (ai none a4 h30) fun x31=>af (ai (some 8) a1 h30) fun x32=>lD x31 fun f37 a38 a39=>ah Tryz.prog f37 (a38++([x32,a0]++a39)) h30 (br (fun x33 h34=>K (.ret (.bool true)) h34) (fun v35 h36=>K (.panic v35) h36))) (fun v26 h27=>K (.panic v26) h27))) (K (.ret (.bool true)) h17)) (fun v18 h19=>K (.panic v18) h19))) (fun v4 h5=>K (.panic v4) h5)))=true):Sem Tryz.prog 158 [a0,a1,a2,a3,a4] h K:=
 aQ mixed (aL _) Tryz.func158 (c:=aj Tryz.f158) rfl (by decide) (of_decide_eq_true (by kernel_rfl)) (F.oD.trans hh)
noncomputable def F.aS.L0:Code:=partOf (aj Tryz.f46) [1,0,1,0,0]
noncomputable def F.aS.bY(K:Out→ag→Bool):AX→St→Bool:=(aU 0 (cB false (aq Tryz.prog (ah Tryz.prog) (partOf (aj Tryz.f46) [1,1])) (aJ Tryz.prog dx Tryz.f46.results.toList K)))
noncomputable def F.aS.L1:Code:=partOf (aj Tryz.f46) [1,1,1,0,0]
noncomputable def F.aS.ig(K:Out→ag→Bool):AX→St→Bool:=(aU 2 (aJ Tryz.prog dx Tryz.f46.results.toList K))
noncomputable def F.aS.L2:Code:=partOf (aj Tryz.f46) [1,1,1,0,0,1,1,0,0,1,1,0,1,0,0]
noncomputable def F.aS.sR(K:AX→St→Bool):AX→St→Bool:=(aU 4 (cB false (aq Tryz.prog (ah Tryz.prog) (partOf (aj Tryz.f46) [1,1,1,0,0,1,1,0,0,1,1,1])) (aU 3 (cB false (aq Tryz.prog (ah Tryz.prog) (partOf (aj Tryz.f46) [1,1,1,0,0,1,1,1])) K))))
theorem F.aS.aN{e:Env}{h:ag}{K:AX→St→Bool}:aq Tryz.prog (ah Tryz.prog) F.aS.L0 ⟨e,62,[],h⟩ K=(af (tE false (e 17) h) (jP [] (CD (fun x5 h6=>af (bU x5 0) fun x9=>ax x9 (af (pK (e 17) h6) fun x10=>af (bU x10 1) fun x11=>af (rT true (e 6) [x11]) fun x12=>K .normal ⟨(aa (aa (aa (aa (aa (aa (aa (aa (aa e 18 x5) 19 x9) 20 x10) 21 x11) 8 x11) 22 (e 6)) 23 x11) 24 x12) 6 x12),62,[],h6⟩) (K (.exit 0) ⟨(aa (aa e 18 x5) 19 x9),62,[],h6⟩)) (fun v7 h8=>K (.panic v7) ⟨e,62,[],h8⟩)))):=by kernel_rfl
theorem F.aS.aD{e:Env}{h:ag}{K:Out→ag→Bool}:F.aS.bY K (.exit 0) ⟨e,62,[],h⟩=(af (aA .add (e 6) (.int .i64 1)) fun x13=>aT (aq Tryz.prog (ah Tryz.prog) F.aS.L1) ⟨(aa (aa (aa e 25 (e 6)) 26 x13) 27 (.int .i64 0)),62,[],h⟩ (F.aS.ig K)):=by kernel_rfl
theorem F.aS.cP{e:Env}{h:ag}{K:AX→St→Bool}:aq Tryz.prog (ah Tryz.prog) F.aS.L1 ⟨e,62,[],h⟩ K=(af (aA .lss (e 27) (e 26)) fun x14=>ax x14 (af (bS (e 0)) fun x15=>af (bD 0 x15) fun x16=>af (ai none x16 h) fun x17=>af (bx .slice x17 h) fun x18=>aT (aq Tryz.prog (ah Tryz.prog) F.aS.L2) ⟨(aa (aa (aa (aa (aa (aa (aa (aa (aa (aa e 28 x14) 29 (e 27)) 9 (e 27)) 10 .nils) 30 (e 0)) 31 x15) 32 x16) 33 x17) 34 x18) 35 (.int .i64 0)),62,[],h⟩ (F.aS.sR K)) (K (.exit 2) ⟨(aa e 28 x14),62,[],h⟩)):=by kernel_rfl
theorem F.aS.b8{e:Env}{h:ag}{K:Out→ag→Bool}:F.aS.ig K (.exit 2) ⟨e,62,[],h⟩=(K (.ret (.tuple [])) h):=by kernel_rfl
theorem F.aS.ju{e:Env}{h:ag}{K:AX→St→Bool}:aq Tryz.prog (ah Tryz.prog) F.aS.L2 ⟨e,62,[],h⟩ K=(af (aA .lss (e 35) (e 34)) fun x19=>ax x19 (af (cL 3 (e 33) (e 35)) fun x20=>af (ai (some 3) x20 h) fun x21=>af (bg 3 (.ptr (ag.next h) 0) x21 (ag.alloc h (.cells [(.str []),.nils,.nils]))) fun h22=>af (bS (e 0)) fun x23=>af (bD 2 x23) fun x24=>af (ai none x24 h22) fun x25=>af (bD 0 (.ptr (ag.next h) 0)) fun x26=>af (bD 0 x26) fun x27=>af (ai none x27 h22) fun x28=>af (dB .string (.int .i64 0) false x25 x28 h22) fun x29=>af (fH (.int .i64) x29 (e 9)) fun x30=>ax x30 (af (ai (some 3) (.ptr (ag.next h) 0) h22) fun x31=>ah Tryz.prog 109 [(e 35),x31] h22 (br (fun x32 h33=>af (eF [(.int .i64 0),(.str []),.nils,.nils,(.int .i64 0),.nils,.nils,.nils] [(0,8)] [x32]) fun c36=>cq (bW 8 152 (e 10) (.slice (ag.next h33) 0 1 8) (ag.alloc h33 (.cells c36))) fun x37 h38=>af (aA .add (e 35) (.int .i64 1)) fun x39=>K .normal ⟨(aa (aa (aa (aa (aa (aa (aa (aa (aa (aa (aa (aa (aa (aa (aa (aa (aa (aa (aa (aa (aa (aa (aa (aa (aa e 36 x19) 37 (e 35)) 38 x20) 39 x21) 12 (.ptr (ag.next h) 0)) 11 (e 35)) 40 (e 0)) 41 x23) 42 x24) 43 x25) 44 x26) 45 x27) 46 x28) 47 x29) 48 (e 9)) 49 x30) 50 (e 10)) 51 (e 35)) 52 x31) 53 x32) 54 (.slice (ag.next h33) 0 1 8)) 55 x37) 10 x37) 56 x39) 35 x39),62,[],h38⟩) (fun v34 h35=>K (.panic v34) ⟨(aa (aa (aa (aa (aa (aa (aa (aa (aa (aa (aa (aa (aa (aa (aa (aa (aa (aa (aa e 36 x19) 37 (e 35)) 38 x20) 39 x21) 12 (.ptr (ag.next h) 0)) 11 (e 35)) 40 (e 0)) 41 x23) 42 x24) 43 x25) 44 x26) 45 x27) 46 x28) 47 x29) 48 (e 9)) 49 x30) 50 (e 10)) 51 (e 35)) 52 x31),62,[],h35⟩))) (af (aA .add (e 35) (.int .i64 1)) fun x40=>K .normal ⟨(aa (aa (aa (aa (aa (aa (aa (aa (aa (aa (aa (aa (aa (aa (aa (aa (aa (aa e 36 x19) 37 (e 35)) 38 x20) 39 x21) 12 (.ptr (ag.next h) 0)) 11 (e 35)) 40 (e 0)) 41 x23) 42 x24) 43 x25) 44 x26) 45 x27) 46 x28) 47 x29) 48 (e 9)) 49 x30) 56 x40) 35 x40),62,[],h22⟩)) (K (.exit 4) ⟨(aa e 36 x19),62,[],h⟩)):=by kernel_rfl
theorem F.aS.fV{e:Env}{h:ag}{K:AX→St→Bool}:F.aS.sR K (.exit 4) ⟨e,62,[],h⟩=(ah Tryz.prog 110 [(e 1),(e 10),(e 2)] h (br (fun x41 h42=>af (aA .add (e 27) (.int .i64 1)) fun x45=>K .normal ⟨(aa (aa (aa (aa (aa (aa e 57 (e 1)) 58 (e 10)) 59 (e 2)) 60 x41) 61 x45) 27 x45),62,[],h42⟩) (fun v43 h44=>K (.panic v43) ⟨(aa (aa (aa e 57 (e 1)) 58 (e 10)) 59 (e 2)),62,[],h44⟩))):=by kernel_rfl
theorem F.p9{a0 a1 a2:AV}{h:ag}{K:Out→ag→Bool}:aq Tryz.prog (ah Tryz.prog) (aj Tryz.f46) ⟨aF [a0,a1,a2],62,[],h⟩ (aJ Tryz.prog dx Tryz.f46.results.toList K)=(af (bS a0) fun x0=>af (bD 2 x0) fun x1=>af (ai none x1 h) fun x2=>cq (jB .map x2 h) fun x3 h4=>aT (aq Tryz.prog (ah Tryz.prog) F.aS.L0) ⟨(aa (aa (aa (aa (aa (aa (aF [a0,a1,a2]) 6 (.int .i64 0)) 13 a0) 14 x0) 15 x1) 16 x2) 17 x3),62,[],h4⟩ (F.aS.bY K)):=by kernel_rfl
theorem F.pz{a0 a1 a2:AV}{h:ag}{K:Out→ag→Bool}(hh:(af (bS a0) fun x0=>af (bD 2 x0) fun x1=>af (ai none x1 h) fun x2=>cq (jB .map x2 h) fun x3 h4=>aT (aq Tryz.prog (ah Tryz.prog) F.aS.L0) ⟨(aa (aa (aa (aa (aa (aa (aF [a0,a1,a2]) 6 (.int .i64 0)) 13 a0) 14 x0) 15 x1) 16 x2) 17 x3),62,[],h4⟩ (F.aS.bY K))=true):Sem Tryz.prog 46 [a0,a1,a2] h K:=
 aQ mixed (aL _) Tryz.func46 (c:=aj Tryz.f46) rfl (by decide) (of_decide_eq_true (by kernel_rfl)) (F.p9.trans hh)
noncomputable def F.ay.L0:Code:=partOf (aj Tryz.f45) [1,1,1,0,1,0,0]
noncomputable def F.ay.bY(K:Out→ag→Bool):AX→St→Bool:=(aU 0 (cB false (aq Tryz.prog (ah Tryz.prog) (partOf (aj Tryz.f45) [1,1,1,1])) (aJ Tryz.prog dx Tryz.f45.results.toList K)))
noncomputable def F.ay.L1:Code:=partOf (aj Tryz.f45) [1,1,1,1,0,1,0,0]
noncomputable def F.ay.ig(K:Out→ag→Bool):AX→St→Bool:=(aU 2 (cB false (aq Tryz.prog (ah Tryz.prog) (partOf (aj Tryz.f45) [1,1,1,1,1])) (aJ Tryz.prog dx Tryz.f45.results.toList K)))
noncomputable def F.ay.L2:Code:=partOf (aj Tryz.f45) [1,1,1,1,1,1,1,0,1,0,0]
noncomputable def F.ay.sR(K:Out→ag→Bool):AX→St→Bool:=(aU 4 (cB false (aq Tryz.prog (ah Tryz.prog) (partOf (aj Tryz.f45) [1,1,1,1,1,1,1,1])) (aJ Tryz.prog dx Tryz.f45.results.toList K)))
noncomputable def F.ay.L3:Code:=partOf (aj Tryz.f45) [1,1,1,1,1,1,1,1,0,1,0,0]
noncomputable def F.ay.NG(K:Out→ag→Bool):AX→St→Bool:=(aU 6 (cB false (aq Tryz.prog (ah Tryz.prog) (partOf (aj Tryz.f45) [1,1,1,1,1,1,1,1,1])) (aJ Tryz.prog dx Tryz.f45.results.toList K)))
noncomputable def F.ay.L4:Code:=partOf (aj Tryz.f45) [1,1,1,1,1,1,1,1,0,1,0,0,1,1,0,0,1,1,1,0,0]
noncomputable def F.ay.QL(K:AX→St→Bool):AX→St→Bool:=(aU 8 (aU 7 (cB false (aq Tryz.prog (ah Tryz.prog) (partOf (aj Tryz.f45) [1,1,1,1,1,1,1,1,0,1,0,0,1,1,1])) K)))
noncomputable def F.ay.L5:Code:=partOf (aj Tryz.f45) [1,1,1,1,1,1,1,1,1,0,1,0,0]
noncomputable def F.ay.QM(K:Out→ag→Bool):AX→St→Bool:=(aU 10 (cB false (aq Tryz.prog (ah Tryz.prog) (partOf (aj Tryz.f45) [1,1,1,1,1,1,1,1,1,1])) (aJ Tryz.prog dx Tryz.f45.results.toList K)))
noncomputable def F.ay.L6:Code:=partOf (aj Tryz.f45) [1,1,1,1,1,1,1,1,1,0,1,0,0,1,1,0,0,1,1,1,1,0,0]
noncomputable def F.ay.Q4(K:AX→St→Bool):AX→St→Bool:=(aU 12 (aU 11 (cB false (aq Tryz.prog (ah Tryz.prog) (partOf (aj Tryz.f45) [1,1,1,1,1,1,1,1,1,0,1,0,0,1,1,1])) K)))
theorem F.ay.aN{e:Env}{h:ag}{K:AX→St→Bool}:aq Tryz.prog (ah Tryz.prog) F.ay.L0 ⟨e,198,[],h⟩ K=(af (tE false (e 46) h) (jP [] (CD (fun x19 h20=>af (bU x19 0) fun x23=>ax x23 (af (pK (e 46) h20) fun x24=>af (bU x24 0) fun x25=>af (bU x24 1) fun x26=>af (bS (e 7)) fun x27=>af (bD 2 x27) fun x28=>af (ai none x28 h20) fun x29=>af (dB .string (.int .i64 0) true x29 x25 h20) fun x30=>af (bU x30 0) fun x31=>af (bU x30 1) fun x32=>af (iI .not x32) fun x33=>ax x33 (af (ai (some 2) (e 3) h20) fun x34=>ah Tryz.prog 88 [x34,x25,x26] h20 (br (fun x35 h36=>af (aA .lss x35 (.int .i64 0)) fun x39=>ax x39 (K .ret ⟨(aa (aa (aa (aa (aa (aa (aa (aa (aa (aa (aa (aa (aa (aa (aa (aa (aa (aa (aa (aa (aa (aa (aa (aa (aa (aa (aa (aa (aa (aa (aa (aa (aa (aa (aa e 47 x19) 48 x23) 49 x24) 50 x25) 51 x26) 9 x25) 10 x26) 53 (e 7)) 54 x27) 55 x28) 56 x29) 57 x25) 58 x30) 52 x30) 59 x31) 60 x32) 11 x31) 12 x32) 61 x32) 62 x33) 63 x33) 63 (.bool true)) 64 x34) 63 (.bool true)) 65 x25) 63 (.bool true)) 66 x26) 63 (.bool true)) 67 x35) 63 (.bool true)) 68 x39) 69 x39) 4 .nilp) 5 .nilp) 6 (.int .i64 4)),198,[],h36⟩) (K .normal ⟨(aa (aa (aa (aa (aa (aa (aa (aa (aa (aa (aa (aa (aa (aa (aa (aa (aa (aa (aa (aa (aa (aa (aa (aa (aa (aa (aa (aa (aa (aa (aa (aa e 47 x19) 48 x23) 49 x24) 50 x25) 51 x26) 9 x25) 10 x26) 53 (e 7)) 54 x27) 55 x28) 56 x29) 57 x25) 58 x30) 52 x30) 59 x31) 60 x32) 11 x31) 12 x32) 61 x32) 62 x33) 63 x33) 63 (.bool true)) 64 x34) 63 (.bool true)) 65 x25) 63 (.bool true)) 66 x26) 63 (.bool true)) 67 x35) 63 (.bool true)) 68 x39) 69 x39),198,[],h36⟩)) (fun v37 h38=>K (.panic v37) ⟨(aa (aa (aa (aa (aa (aa (aa (aa (aa (aa (aa (aa (aa (aa (aa (aa (aa (aa (aa (aa (aa (aa (aa (aa (aa (aa (aa (aa e 47 x19) 48 x23) 49 x24) 50 x25) 51 x26) 9 x25) 10 x26) 53 (e 7)) 54 x27) 55 x28) 56 x29) 57 x25) 58 x30) 52 x30) 59 x31) 60 x32) 11 x31) 12 x32) 61 x32) 62 x33) 63 x33) 63 (.bool true)) 64 x34) 63 (.bool true)) 65 x25) 63 (.bool true)) 66 x26) 63 (.bool true)),198,[],h38⟩))) (K .normal ⟨(aa (aa (aa (aa (aa (aa (aa (aa (aa (aa (aa (aa (aa (aa (aa (aa (aa (aa (aa (aa (aa (aa (aa (aa (aa (aa (aa (aa (aa (aa (aa (aa e 47 x19) 48 x23) 49 x24) 50 x25) 51 x26) 9 x25) 10 x26) 53 (e 7)) 54 x27) 55 x28) 56 x29) 57 x25) 58 x30) 52 x30) 59 x31) 60 x32) 11 x31) 12 x32) 61 x32) 62 x33) 63 x33) 63 (.bool false)) 64 bK) 63 (.bool false)) 65 bK) 63 (.bool false)) 66 bK) 63 (.bool false)) 67 bK) 63 (.bool false)) 68 bK) 69 (.bool false)),198,[],h20⟩)) (K (.exit 0) ⟨(aa (aa e 47 x19) 48 x23),198,[],h20⟩)) (fun v21 h22=>K (.panic v21) ⟨e,198,[],h22⟩)))):=by kernel_rfl
theorem F.ay.aD{e:Env}{h:ag}{K:Out→ag→Bool}:F.ay.bY K (.exit 0) ⟨e,198,[],h⟩=(af (bD 1 (e 3)) fun x40=>af (ai none x40 h) fun x41=>af (bx .slice x41 h) fun x42=>aT (aq Tryz.prog (ah Tryz.prog) F.ay.L1) ⟨(aa (aa (aa (aa e 70 x40) 71 x41) 72 x42) 73 (.int .i64 0)),198,[],h⟩ (F.ay.ig K)):=by kernel_rfl
theorem F.ay.bq{e:Env}{h:ag}{K:Out→ag→Bool}:F.ay.bY K .ret ⟨e,198,[],h⟩=(K (.ret (.tuple [(e 4),(e 5),(e 6)])) h):=by kernel_rfl
theorem F.ay.cP{e:Env}{h:ag}{K:AX→St→Bool}:aq Tryz.prog (ah Tryz.prog) F.ay.L1 ⟨e,198,[],h⟩ K=(af (aA .lss (e 73) (e 72)) fun x43=>ax x43 (af (cL 3 (e 71) (e 73)) fun x44=>af (ai (some 3) x44 h) fun x45=>af (bg 3 (.ptr (ag.next h) 0) x45 (ag.alloc h (.cells [(.str []),(.int .i64 0),.nils]))) fun h46=>af (bS (e 7)) fun x47=>af (bD 2 x47) fun x48=>af (ai none x48 h46) fun x49=>af (bD 0 (.ptr (ag.next h) 0)) fun x50=>af (ai none x50 h46) fun x51=>af (dB .string (.int .i64 0) true x49 x51 h46) fun x52=>af (bU x52 0) fun x53=>af (bU x52 1) fun x54=>ax x54 (K .ret ⟨(aa (aa (aa (aa (aa (aa (aa (aa (aa (aa (aa (aa (aa (aa (aa (aa (aa (aa (aa (aa e 74 x43) 75 x44) 76 x45) 14 (.ptr (ag.next h) 0)) 78 (e 7)) 79 x47) 80 x48) 81 x49) 82 x50) 83 x51) 84 x52) 77 x52) 85 x53) 86 x54) 15 x53) 16 x54) 87 x54) 4 .nilp) 5 .nilp) 6 (.int .i64 4)),198,[],h46⟩) (af (aA .add (e 73) (.int .i64 1)) fun x55=>K .normal ⟨(aa (aa (aa (aa (aa (aa (aa (aa (aa (aa (aa (aa (aa (aa (aa (aa (aa (aa (aa e 74 x43) 75 x44) 76 x45) 14 (.ptr (ag.next h) 0)) 78 (e 7)) 79 x47) 80 x48) 81 x49) 82 x50) 83 x51) 84 x52) 77 x52) 85 x53) 86 x54) 15 x53) 16 x54) 87 x54) 88 x55) 73 x55),198,[],h46⟩)) (K (.exit 2) ⟨(aa e 74 x43),198,[],h⟩)):=by kernel_rfl
theorem F.ay.b8{e:Env}{h:ag}{K:Out→ag→Bool}:F.ay.ig K (.exit 2) ⟨e,198,[],h⟩=(af (bD 1 (e 3)) fun x56=>af (ai none x56 h) fun x57=>af (bx .slice x57 h) fun x58=>af (bS (e 7)) fun x59=>af (bD 2 x59) fun x60=>af (ai none x60 h) fun x61=>af (bx .map x61 h) fun x62=>af (aA .add x58 x62) fun x63=>af (aA .gtr x63 (.int .i64 8)) fun x64=>ax x64 (K (.ret (.tuple [.nilp,.nilp,(.int .i64 5)])) h) (af (bD 0 (e 3)) fun x65=>af (ai none x65 h) fun x66=>af (gQ [(.int .i64 0),.nilm] [(0,1),(1,1)] [x66,(.map (ag.next h))]) fun x67=>af (cK x67) fun c68=>af (bS (e 7)) fun x69=>af (bD 2 x69) fun x70=>af (ai none x70 (ag.alloc (ag.alloc h (.map [] 0)) (.cells c68))) fun x71=>cq (jB .map x71 (ag.alloc (ag.alloc h (.map [] 0)) (.cells c68))) fun x72 h73=>aT (aq Tryz.prog (ah Tryz.prog) F.ay.L2) ⟨(aa (aa (aa (aa (aa (aa (aa (aa (aa (aa (aa (aa (aa (aa (aa (aa (aa (aa (aa (aa (aa e 89 x56) 90 x57) 91 x58) 92 (e 7)) 93 x59) 94 x60) 95 x61) 96 x62) 97 x63) 98 x64) 99 x65) 100 x66) 101 (.map (ag.next h))) 102 x67) 103 (.ptr (ag.next (ag.alloc h (.map [] 0))) 0)) 17 (.ptr (ag.next (ag.alloc h (.map [] 0))) 0)) 104 (e 7)) 105 x69) 106 x70) 107 x71) 108 x72),198,[],h73⟩ (F.ay.sR K))):=by kernel_rfl
theorem F.ay.fY{e:Env}{h:ag}{K:Out→ag→Bool}:F.ay.ig K .ret ⟨e,198,[],h⟩=(K (.ret (.tuple [(e 4),(e 5),(e 6)])) h):=by kernel_rfl
theorem F.ay.ju{e:Env}{h:ag}{K:AX→St→Bool}:aq Tryz.prog (ah Tryz.prog) F.ay.L2 ⟨e,198,[],h⟩ K=(af (tE false (e 108) h) (jP [] (CD (fun x74 h75=>af (bU x74 0) fun x78=>ax x78 (af (pK (e 108) h75) fun x79=>af (bU x79 0) fun x80=>af (bD 0 (e 3)) fun x81=>af (ai none x81 h75) fun x82=>af (bS (e 7)) fun x83=>af (bD 1 x83) fun x84=>af (ai none x84 h75) fun x85=>af (dB .string (.int .i64 0) false x85 x80 h75) fun x86=>ah Tryz.prog 107 [x82,x86] h75 (br (fun x87 h88=>af (bU x87 0) fun x89=>af (bU x87 1) fun x90=>af (lC (.int .i64) x90 (.int .i64 0)) fun x91=>ax x91 (K .ret ⟨(aa (aa (aa (aa (aa (aa (aa (aa (aa (aa (aa (aa (aa (aa (aa (aa (aa (aa (aa (aa (aa (aa (aa (aa e 109 x74) 110 x78) 111 x79) 112 x80) 18 x80) 114 x81) 115 x82) 116 (e 7)) 117 x83) 118 x84) 119 x85) 120 x80) 121 x86) 122 x87) 113 x87) 123 x89) 124 x90) 19 x89) 20 x90) 125 x90) 126 x91) 4 .nilp) 5 .nilp) 6 (.int .i64 5)),198,[],h88⟩) (af (bS (e 17)) fun x92=>af (bD 1 x92) fun x93=>af (ai none x93 h88) fun x94=>cq (dy 1 1 [(.bool false)] x89 x89 h88) fun x95 h96=>af (ew .string x94 x80 x95 h96) fun h97=>K .normal ⟨(aa (aa (aa (aa (aa (aa (aa (aa (aa (aa (aa (aa (aa (aa (aa (aa (aa (aa (aa (aa (aa (aa (aa (aa (aa (aa (aa (aa e 109 x74) 110 x78) 111 x79) 112 x80) 18 x80) 114 x81) 115 x82) 116 (e 7)) 117 x83) 118 x84) 119 x85) 120 x80) 121 x86) 122 x87) 113 x87) 123 x89) 124 x90) 19 x89) 20 x90) 125 x90) 126 x91) 127 (e 17)) 128 x92) 129 x93) 130 x94) 131 x80) 132 x89) 133 x95),198,[],h97⟩)) (fun _ _=>false))) (K (.exit 4) ⟨(aa (aa e 109 x74) 110 x78),198,[],h75⟩)) (fun v76 h77=>K (.panic v76) ⟨e,198,[],h77⟩)))):=by kernel_rfl
theorem F.ay.fV{e:Env}{h:ag}{K:Out→ag→Bool}:F.ay.sR K (.exit 4) ⟨e,198,[],h⟩=(af (bx .slice (e 0) h) fun x98=>aT (aq Tryz.prog (ah Tryz.prog) F.ay.L3) ⟨(aa (aa (aa e 134 (e 0)) 135 x98) 136 (.int .i64 0)),198,[],h⟩ (F.ay.NG K)):=by kernel_rfl
theorem F.ay.uh{e:Env}{h:ag}{K:Out→ag→Bool}:F.ay.sR K .ret ⟨e,198,[],h⟩=(K (.ret (.tuple [(e 4),(e 5),(e 6)])) h):=by kernel_rfl
theorem F.ay.MF{e:Env}{h:ag}{K:AX→St→Bool}:aq Tryz.prog (ah Tryz.prog) F.ay.L3 ⟨e,198,[],h⟩ K=(af (aA .lss (e 136) (e 135)) fun x99=>ax x99 (af (cL 3 (e 134) (e 136)) fun x100=>af (ai (some 3) x100 h) fun x101=>af (bg 3 (.ptr (ag.next h) 0) x101 (ag.alloc h (.cells [(.str []),.nils,.nils]))) fun h102=>af (ai (some 3) (.ptr (ag.next h) 0) h102) fun x103=>ah Tryz.prog 108 [x103] h102 (br (fun x104 h105=>af (bx .slice x104 h105) fun x108=>aT (aq Tryz.prog (ah Tryz.prog) F.ay.L4) ⟨(aa (aa (aa (aa (aa (aa (aa (aa (aa e 137 x99) 138 x100) 139 x101) 22 (.ptr (ag.next h) 0)) 23 (.int .i64 1)) 140 x103) 141 x104) 142 x108) 143 (.int .i64 0)),198,[],h105⟩ (F.ay.QL K)) (fun v106 h107=>K (.panic v106) ⟨(aa (aa (aa (aa (aa (aa e 137 x99) 138 x100) 139 x101) 22 (.ptr (ag.next h) 0)) 23 (.int .i64 1)) 140 x103),198,[],h107⟩))) (K (.exit 6) ⟨(aa e 137 x99),198,[],h⟩)):=by kernel_rfl
theorem F.ay.Jd{e:Env}{h:ag}{K:Out→ag→Bool}:F.ay.NG K (.exit 6) ⟨e,198,[],h⟩=(af (bD 1 (e 3)) fun x109=>af (ai none x109 h) fun x110=>af (bx .slice x110 h) fun x111=>aT (aq Tryz.prog (ah Tryz.prog) F.ay.L5) ⟨(aa (aa (aa (aa e 153 x109) 154 x110) 155 x111) 156 (.int .i64 0)),198,[],h⟩ (F.ay.QM K)):=by kernel_rfl
theorem F.ay.Ky{e:Env}{h:ag}{K:Out→ag→Bool}:F.ay.NG K .ret ⟨e,198,[],h⟩=(K (.ret (.tuple [(e 4),(e 5),(e 6)])) h):=by kernel_rfl
theorem F.ay.MG{e:Env}{h:ag}{K:AX→St→Bool}:aq Tryz.prog (ah Tryz.prog) F.ay.L4 ⟨e,198,[],h⟩ K=(af (aA .lss (e 143) (e 142)) fun x112=>ax x112 (af (bD 0 (e 3)) fun x113=>af (ai none x113 h) fun x114=>af (aA .mul (e 23) x114) fun x115=>af (aA .gtr x115 (.int .i64 65536)) fun x116=>ax x116 (K .ret ⟨(aa (aa (aa (aa (aa (aa (aa (aa (aa (aa (aa e 144 x112) 145 (e 23)) 146 x113) 147 x114) 148 x115) 23 x115) 149 x115) 150 x116) 4 .nilp) 5 .nilp) 6 (.int .i64 5)),198,[],h⟩) (af (aA .add (e 143) (.int .i64 1)) fun x117=>K .normal ⟨(aa (aa (aa (aa (aa (aa (aa (aa (aa (aa e 144 x112) 145 (e 23)) 146 x113) 147 x114) 148 x115) 23 x115) 149 x115) 150 x116) 151 x117) 143 x117),198,[],h⟩)) (K (.exit 8) ⟨(aa e 144 x112),198,[],h⟩)):=by kernel_rfl
theorem F.ay.Je{e:Env}{h:ag}{K:AX→St→Bool}:F.ay.QL K (.exit 8) ⟨e,198,[],h⟩=(af (aA .add (e 136) (.int .i64 1)) fun x118=>K .normal ⟨(aa (aa e 152 x118) 136 x118),198,[],h⟩):=by kernel_rfl
theorem F.ay.Kz{e:Env}{h:ag}{K:AX→St→Bool}:F.ay.QL K .ret ⟨e,198,[],h⟩=(K .ret ⟨e,198,[],h⟩):=by kernel_rfl
theorem F.ay.MH{e:Env}{h:ag}{K:AX→St→Bool}:aq Tryz.prog (ah Tryz.prog) F.ay.L5 ⟨e,198,[],h⟩ K=(af (aA .lss (e 156) (e 155)) fun x119=>ax x119 (af (cL 3 (e 154) (e 156)) fun x120=>af (ai (some 3) x120 h) fun x121=>af (bg 3 (.ptr (ag.next h) 0) x121 (ag.alloc h (.cells [(.str []),(.int .i64 0),.nils]))) fun h122=>af (bD 0 (e 3)) fun x123=>af (ai none x123 h122) fun x124=>af (bD 1 (.ptr (ag.next h) 0)) fun x125=>af (ai none x125 h122) fun x126=>ah Tryz.prog 107 [x124,x126] h122 (br (fun x127 h128=>af (bU x127 0) fun x131=>af (bU x127 1) fun x132=>af (bS (e 17)) fun x133=>af (bD 1 x133) fun x134=>af (ai none x134 h128) fun x135=>af (bD 0 (.ptr (ag.next h) 0)) fun x136=>af (ai none x136 h128) fun x137=>cq (dy 1 1 [(.bool false)] x131 x131 h128) fun x138 h139=>af (ew .string x135 x137 x138 h139) fun h140=>af (bD 2 (.ptr (ag.next h) 0)) fun x141=>af (ai none x141 h140) fun x142=>af (bx .slice x142 h140) fun x143=>aT (aq Tryz.prog (ah Tryz.prog) F.ay.L6) ⟨(aa (aa (aa (aa (aa (aa (aa (aa (aa (aa (aa (aa (aa (aa (aa (aa (aa (aa (aa (aa (aa (aa (aa (aa (aa (aa e 157 x119) 158 x120) 159 x121) 25 (.ptr (ag.next h) 0)) 161 x123) 162 x124) 163 x125) 164 x126) 165 x127) 160 x127) 166 x131) 167 x132) 26 x131) 27 x132) 168 (e 17)) 169 x133) 170 x134) 171 x135) 172 x136) 173 x137) 174 x131) 175 x138) 176 x141) 177 x142) 178 x143) 179 (.int .i64 0)),198,[],h140⟩ (F.ay.Q4 K)) (fun v129 h130=>K (.panic v129) ⟨(aa (aa (aa (aa (aa (aa (aa (aa e 157 x119) 158 x120) 159 x121) 25 (.ptr (ag.next h) 0)) 161 x123) 162 x124) 163 x125) 164 x126),198,[],h130⟩))) (K (.exit 10) ⟨(aa e 157 x119),198,[],h⟩)):=by kernel_rfl
theorem F.ay.HD{e:Env}{h:ag}{K:Out→ag→Bool}:F.ay.QM K (.exit 10) ⟨e,198,[],h⟩=(K (.ret (.tuple [(e 7),(e 17),(.int .i64 0)])) h):=by kernel_rfl
theorem F.ay.MI{e:Env}{h:ag}{K:AX→St→Bool}:aq Tryz.prog (ah Tryz.prog) F.ay.L6 ⟨e,198,[],h⟩ K=(af (aA .lss (e 179) (e 178)) fun x144=>ax x144 (af (cL 1 (e 177) (e 179)) fun x145=>af (ai none x145 h) fun x146=>af (bS (e 17)) fun x147=>af (bD 1 x147) fun x148=>af (ai none x148 h) fun x149=>af (bD 0 (e 25)) fun x150=>af (ai none x150 h) fun x151=>af (dB .string .nils false x149 x151 h) fun x152=>ah Tryz.prog 69 [(e 17),x146] h (br (fun x153 h154=>if ((af (dB .string .nils false x149 x151 h154) fun x155=>AV.beq x155 x152)&&((af (ai none x150 h154) fun x156=>AV.beq x156 x151)&&((af (ai none x148 h154) fun x157=>AV.beq x157 x149)&&true)))=true then (af (cL 1 x152 x153) fun x158=>af (bg 1 x158 (.bool true) h154) fun h159=>af (aA .add (e 179) (.int .i64 1)) fun x160=>K .normal ⟨(aa (aa (aa (aa (aa (aa (aa (aa (aa (aa (aa (aa (aa (aa (aa (aa (aa e 180 x144) 181 x145) 182 x146) 29 x146) 183 (e 17)) 184 x147) 185 x148) 186 x149) 187 x150) 188 x151) 189 x152) 190 (e 17)) 191 x146) 192 x153) 193 x158) 194 x160) 179 x160),198,[],h159⟩) else false) (fun _ _=>false))) (K (.exit 12) ⟨(aa e 180 x144),198,[],h⟩)):=by kernel_rfl
theorem F.ay.HE{e:Env}{h:ag}{K:AX→St→Bool}:F.ay.Q4 K (.exit 12) ⟨e,198,[],h⟩=(af (aA .add (e 156) (.int .i64 1)) fun x161=>K .normal ⟨(aa (aa e 195 x161) 156 x161),198,[],h⟩):=by kernel_rfl
theorem F.vk{a0 a1:AV}{h:ag}{K:Out→ag→Bool}:aq Tryz.prog (ah Tryz.prog) (aj Tryz.f45) ⟨aF [a0,a1],198,[],h⟩ (aJ Tryz.prog dx Tryz.f45.results.toList K)=(af (cK a1) fun c0=>ah Tryz.prog 83 [a0] (ag.alloc h (.cells c0)) (br (fun x1 h2=>af (bU x1 0) fun x5=>af (bU x1 1) fun x6=>af (iI .not x6) fun x7=>ax x7 (K (.ret (.tuple [.nilp,.nilp,(.int .i64 1)])) h2) (af (ai (some 2) (.ptr (ag.next h) 0) h2) fun x8=>ah Tryz.prog 87 [x8] h2 (br (fun x9 h10=>af (iI .not x9) fun x13=>ax x13 (K (.ret (.tuple [.nilp,.nilp,(.int .i64 1)])) h10) (af (bS x5) fun x14=>af (bD 1 x14) fun x15=>af (ai none x15 h10) fun x16=>cq (jB .map x16 h10) fun x17 h18=>aT (aq Tryz.prog (ah Tryz.prog) F.ay.L0) ⟨(aa (aa (aa (aa (aa (aa (aa (aa (aa (aa (aa (aa (aa (aa (aa (aa (aa (aa (aa (aa (aa (aa (aa (aa (aa (aa (aF [a0,a1]) 3 (.ptr (ag.next h) 0)) 4 .nilp) 5 .nilp) 6 (.int .i64 0)) 31 a0) 32 x1) 30 x1) 33 x5) 34 x6) 7 x5) 8 x6) 35 x6) 36 x7) 37 x7) 37 (.bool false)) 38 x8) 37 (.bool false)) 39 x9) 37 (.bool false)) 40 x13) 41 x13) 42 x5) 43 x14) 44 x15) 45 x16) 46 x17),198,[],h18⟩ (F.ay.bY K))) (fun v11 h12=>K (.panic v11) h12)))) (fun v3 h4=>K (.panic v3) h4))):=by kernel_rfl
theorem F.uk{a0 a1:AV}{h:ag}{K:Out→ag→Bool}(hh:(af (cK a1) fun c0=>ah Tryz.prog 83 [a0] (ag.alloc h (.cells c0)) (br (fun x1 h2=>af (bU x1 0) fun x5=>af (bU x1 1) fun x6=>af (iI .not x6) fun x7=>ax x7 (K (.ret (.tuple [.nilp,.nilp,(.int .i64 1)])) h2) (af (ai (some 2) (.ptr (ag.next h) 0) h2) fun x8=>ah Tryz.prog 87 [x8] h2 (br (fun x9 h10=>af (iI .not x9) fun x13=>ax x13 (K (.ret (.tuple [.nilp,.nilp,(.int .i64 1)])) h10) (af (bS x5) fun x14=>af (bD 1 x14) fun x15=>af (ai none x15 h10) fun x16=>cq (jB .map x16 h10) fun x17 h18=>aT (aq Tryz.prog (ah Tryz.prog) F.ay.L0) ⟨(aa (aa (aa (aa (aa (aa (aa (aa (aa (aa (aa (aa (aa (aa (aa (aa (aa (aa (aa (aa (aa (aa (aa (aa (aa (aa (aF [a0,a1]) 3 (.ptr (ag.next h) 0)) 4 .nilp) 5 .nilp) 6 (.int .i64 0)) 31 a0) 32 x1) 30 x1) 33 x5) 34 x6) 7 x5) 8 x6) 35 x6) 36 x7) 37 x7) 37 (.bool false)) 38 x8) 37 (.bool false)) 39 x9) 37 (.bool false)) 40 x13) 41 x13) 42 x5) 43 x14) 44 x15) 45 x16) 46 x17),198,[],h18⟩ (F.ay.bY K))) (fun v11 h12=>K (.panic v11) h12)))) (fun v3 h4=>K (.panic v3) h4)))=true):Sem Tryz.prog 45 [a0,a1] h K:=
 aQ mixed (aL _) Tryz.func45 (c:=aj Tryz.f45) rfl (by decide) (of_decide_eq_true (by kernel_rfl)) (F.vk.trans hh)
noncomputable def F.dh.L0:Code:=partOf (aj Tryz.f13) [1,1,1,1,1,0,1,0,0]
noncomputable def F.dh.bY(K:Out→ag→Bool):AX→St→Bool:=(aU 0 (cB false (aq Tryz.prog (ah Tryz.prog) (partOf (aj Tryz.f13) [1,1,1,1,1,1])) (aJ Tryz.prog dx Tryz.f13.results.toList K)))
noncomputable def F.dh.L1:Code:=partOf (aj Tryz.f13) [1,1,1,1,1,0,1,0,0,1,1,0,0,1,1,0,1,0,0]
noncomputable def F.dh.ig(K:AX→St→Bool):AX→St→Bool:=(aU 2 (cB false (aq Tryz.prog (ah Tryz.prog) (partOf (aj Tryz.f13) [1,1,1,1,1,0,1,0,0,1,1,0,0,1,1,1])) (aU 1 (cB false (aq Tryz.prog (ah Tryz.prog) (partOf (aj Tryz.f13) [1,1,1,1,1,0,1,0,0,1,1,1])) K))))
theorem F.dh.aN{e:Env}{h:ag}{K:AX→St→Bool}:aq Tryz.prog (ah Tryz.prog) F.dh.L0 ⟨e,89,[],h⟩ K=(af (aA .lss (e 40) (e 39)) fun x34=>ax x34 (af (cL 1 (e 38) (e 40)) fun x35=>af (ai none x35 h) fun x36=>af (bS (e 6)) fun x37=>af (bD 1 x37) fun x38=>af (ai none x38 h) fun x39=>af (dB .string (.int .i64 0) false x39 x36 h) fun x40=>af (gQ [(.str []),(.int .i64 0),.nils] [(0,1),(1,1)] [x36,x40]) fun x41=>af (bg 3 (.ptr (ag.next h) 0) x41 (ag.alloc h (.cells [(.str []),(.int .i64 0),.nils]))) fun h42=>af (bS (e 7)) fun x43=>af (bD 1 x43) fun x44=>af (ai none x44 h42) fun x45=>af (dB .string .nils false x45 x36 h42) fun x46=>af (bx .slice x46 h42) fun x47=>aT (aq Tryz.prog (ah Tryz.prog) F.dh.L1) ⟨(aa (aa (aa (aa (aa (aa (aa (aa (aa (aa (aa (aa (aa (aa (aa (aa (aa (aa (aa (aa (aa e 41 x34) 42 x35) 43 x36) 11 x36) 44 x36) 45 (e 6)) 46 x37) 47 x38) 48 x39) 49 x36) 50 x40) 51 x41) 12 (.ptr (ag.next h) 0)) 52 (e 7)) 53 x43) 54 x44) 55 x45) 56 x36) 57 x46) 58 x47) 59 (.int .i64 0)),89,[],h42⟩ (F.dh.ig K)) (K (.exit 0) ⟨(aa e 41 x34),89,[],h⟩)):=by kernel_rfl
theorem F.dh.aD{e:Env}{h:ag}{K:Out→ag→Bool}:F.dh.bY K (.exit 0) ⟨e,89,[],h⟩=(af (ai (some 2) (e 9) h) fun x48=>af (bg 2 (e 4) x48 h) fun h49=>af (eC Tryz.prog ⟨(aa (aa e 88 x48) 5 (.int .i64 0)),89,[],h49⟩ Tryz.f13.results.toList) fun vs=>K (.ret (oneOf vs)) h49):=by kernel_rfl
theorem F.dh.cP{e:Env}{h:ag}{K:AX→St→Bool}:aq Tryz.prog (ah Tryz.prog) F.dh.L1 ⟨e,89,[],h⟩ K=(af (aA .lss (e 59) (e 58)) fun x50=>ax x50 (af (cL 1 (e 57) (e 59)) fun x51=>af (ai none x51 h) fun x52=>ax x52 (af (bD 0 (e 3)) fun x53=>af (ai none x53 h) fun x54=>af (bD 1 (e 12)) fun x55=>af (ai none x55 h) fun x56=>ah Tryz.prog 51 [x54,x56,(e 59)] h (br (fun x57 h58=>af (bU x57 0) fun x61=>af (bU x57 1) fun x62=>af (bD 2 (e 12)) fun x63=>af (ai none x63 h58) fun x64=>af (eF [.nils] [(0,1)] [x61]) fun c65=>cq (bW 1 24 x64 (.slice (ag.next h58) 0 1 1) (ag.alloc h58 (.cells c65))) fun x66 h67=>af (bD 2 (e 12)) fun x68=>af (bg 1 x68 x66 h67) fun h69=>af (aA .add (e 59) (.int .i64 1)) fun x70=>K .normal ⟨(aa (aa (aa (aa (aa (aa (aa (aa (aa (aa (aa (aa (aa (aa (aa (aa (aa (aa (aa (aa (aa (aa (aa (aa (aa (aa e 60 x50) 61 (e 59)) 62 x51) 63 x52) 13 (e 59)) 14 x52) 64 x52) 66 x53) 67 x54) 68 x55) 69 x56) 70 (e 59)) 71 x57) 65 x57) 72 x61) 73 x62) 15 x61) 16 x62) 74 x63) 75 x64) 76 x61) 77 (.slice (ag.next h58) 0 1 1)) 78 x66) 79 x68) 80 x70) 59 x70),89,[],h69⟩) (fun v59 h60=>K (.panic v59) ⟨(aa (aa (aa (aa (aa (aa (aa (aa (aa (aa (aa (aa e 60 x50) 61 (e 59)) 62 x51) 63 x52) 13 (e 59)) 14 x52) 64 x52) 66 x53) 67 x54) 68 x55) 69 x56) 70 (e 59)),89,[],h60⟩))) (af (aA .add (e 59) (.int .i64 1)) fun x71=>K .normal ⟨(aa (aa (aa (aa (aa (aa (aa (aa (aa e 60 x50) 61 (e 59)) 62 x51) 63 x52) 13 (e 59)) 14 x52) 64 x52) 80 x71) 59 x71),89,[],h⟩)) (K (.exit 2) ⟨(aa e 60 x50),89,[],h⟩)):=by kernel_rfl
theorem F.dh.b8{e:Env}{h:ag}{K:AX→St→Bool}:F.dh.ig K (.exit 2) ⟨e,89,[],h⟩=(af (bD 1 (e 9)) fun x72=>af (ai none x72 h) fun x73=>af (ai (some 3) (e 12) h) fun x74=>af (eF [(.str []),(.int .i64 0),.nils] [(0,3)] [x74]) fun c75=>cq (bW 3 48 x73 (.slice (ag.next h) 0 1 3) (ag.alloc h (.cells c75))) fun x76 h77=>af (bD 1 (e 9)) fun x78=>af (bg 1 x78 x76 h77) fun h79=>af (aA .add (e 40) (.int .i64 1)) fun x80=>K .normal ⟨(aa (aa (aa (aa (aa (aa (aa (aa e 81 x72) 82 x73) 83 x74) 84 (.slice (ag.next h) 0 1 3)) 85 x76) 86 x78) 87 x80) 40 x80),89,[],h79⟩):=by kernel_rfl
theorem F.CK{a0 a1:AV}{h:ag}{K:Out→ag→Bool}:aq Tryz.prog (ah Tryz.prog) (aj Tryz.f13) ⟨aF [a0,a1],89,[],h⟩ (aJ Tryz.prog dx Tryz.f13.results.toList K)=(af (cK a1) fun c0=>af (ai (some 2) (.ptr (ag.next h) 0) (ag.alloc (ag.alloc h (.cells c0)) (.cells [(.int .i64 0),.nils]))) fun x1=>ah Tryz.prog 45 [a0,x1] (ag.alloc (ag.alloc h (.cells c0)) (.cells [(.int .i64 0),.nils])) (br (fun x2 h3=>af (bU x2 0) fun x6=>af (bU x2 1) fun x7=>af (bU x2 2) fun x8=>af (lC (.int .i64) x8 (.int .i64 0)) fun x9=>ax x9 (af (gQ [(.int .i64 0),.nils] [] []) fun x10=>af (bg 2 (.ptr (ag.next (ag.alloc h (.cells c0))) 0) x10 h3) fun h11=>af (eC Tryz.prog ⟨(aa (aa (aa (aa (aa (aa (aa (aa (aa (aa (aa (aa (aa (aa (aa (aa (aa (aa (aF [a0,a1]) 3 (.ptr (ag.next h) 0)) 4 (.ptr (ag.next (ag.alloc h (.cells c0))) 0)) 5 (.int .i64 0)) 18 a0) 19 x1) 20 x2) 17 x2) 21 x6) 22 x7) 23 x8) 6 x6) 7 x7) 8 x8) 24 x8) 25 x9) 26 x10) 27 x8) 5 x8),89,[],h11⟩ Tryz.f13.results.toList) fun vs=>K (.ret (oneOf vs)) h11) (ah Tryz.prog 46 [x6,x7,(.func 47 [] [])] h3 (br (fun x12 h13=>af (ai (some 2) (.ptr (ag.next h) 0) h13) fun x16=>ah Tryz.prog 48 [x16] h13 (br (fun x17 h18=>af (bg 2 (.ptr (ag.next h18) 0) x17 (ag.alloc h18 (.cells [(.int .i64 0),.nils]))) fun h21=>af (bS x6) fun x22=>af (bD 2 x22) fun x23=>af (ai none x23 h21) fun x24=>ah Tryz.prog 50 [x24] h21 (br (fun x25 h26=>ah Tryz.prog 49 [x25] h26 (br (fun x29 h30=>af (bx .slice x29 h30) fun x33=>aT (aq Tryz.prog (ah Tryz.prog) F.dh.L0) ⟨(aa (aa (aa (aa (aa (aa (aa (aa (aa (aa (aa (aa (aa (aa (aa (aa (aa (aa (aa (aa (aa (aa (aa (aa (aa (aa (aa (aa (aa (aF [a0,a1]) 3 (.ptr (ag.next h) 0)) 4 (.ptr (ag.next (ag.alloc h (.cells c0))) 0)) 5 (.int .i64 0)) 18 a0) 19 x1) 20 x2) 17 x2) 21 x6) 22 x7) 23 x8) 6 x6) 7 x7) 8 x8) 24 x8) 25 x9) 28 x6) 29 x7) 30 x12) 31 x16) 32 x17) 9 (.ptr (ag.next h18) 0)) 33 x6) 34 x22) 35 x23) 36 x24) 37 x25) 38 x29) 39 x33) 40 (.int .i64 0)),89,[],h30⟩ (F.dh.bY K)) (fun v31 h32=>K (.panic v31) h32))) (fun v27 h28=>K (.panic v27) h28))) (fun v19 h20=>K (.panic v19) h20))) (fun v14 h15=>K (.panic v14) h15)))) (fun v4 h5=>K (.panic v4) h5))):=by kernel_rfl
theorem F.AW{a0 a1:AV}{h:ag}{K:Out→ag→Bool}(hh:(af (cK a1) fun c0=>af (ai (some 2) (.ptr (ag.next h) 0) (ag.alloc (ag.alloc h (.cells c0)) (.cells [(.int .i64 0),.nils]))) fun x1=>ah Tryz.prog 45 [a0,x1] (ag.alloc (ag.alloc h (.cells c0)) (.cells [(.int .i64 0),.nils])) (br (fun x2 h3=>af (bU x2 0) fun x6=>af (bU x2 1) fun x7=>af (bU x2 2) fun x8=>af (lC (.int .i64) x8 (.int .i64 0)) fun x9=>ax x9 (af (gQ [(.int .i64 0),.nils] [] []) fun x10=>af (bg 2 (.ptr (ag.next (ag.alloc h (.cells c0))) 0) x10 h3) fun h11=>af (eC Tryz.prog ⟨(aa (aa (aa (aa (aa (aa (aa (aa (aa (aa (aa (aa (aa (aa (aa (aa (aa (aa (aF [a0,a1]) 3 (.ptr (ag.next h) 0)) 4 (.ptr (ag.next (ag.alloc h (.cells c0))) 0)) 5 (.int .i64 0)) 18 a0) 19 x1) 20 x2) 17 x2) 21 x6) 22 x7) 23 x8) 6 x6) 7 x7) 8 x8) 24 x8) 25 x9) 26 x10) 27 x8) 5 x8),89,[],h11⟩ Tryz.f13.results.toList) fun vs=>K (.ret (oneOf vs)) h11) (ah Tryz.prog 46 [x6,x7,(.func 47 [] [])] h3 (br (fun x12 h13=>af (ai (some 2) (.ptr (ag.next h) 0) h13) fun x16=>ah Tryz.prog 48 [x16] h13 (br (fun x17 h18=>af (bg 2 (.ptr (ag.next h18) 0) x17 (ag.alloc h18 (.cells [(.int .i64 0),.nils]))) fun h21=>af (bS x6) fun x22=>af (bD 2 x22) fun x23=>af (ai none x23 h21) fun x24=>ah Tryz.prog 50 [x24] h21 (br (fun x25 h26=>ah Tryz.prog 49 [x25] h26 (br (fun x29 h30=>af (bx .slice x29 h30) fun x33=>aT (aq Tryz.prog (ah Tryz.prog) F.dh.L0) ⟨(aa (aa (aa (aa (aa (aa (aa (aa (aa (aa (aa (aa (aa (aa (aa (aa (aa (aa (aa (aa (aa (aa (aa (aa (aa (aa (aa (aa (aa (aF [a0,a1]) 3 (.ptr (ag.next h) 0)) 4 (.ptr (ag.next (ag.alloc h (.cells c0))) 0)) 5 (.int .i64 0)) 18 a0) 19 x1) 20 x2) 17 x2) 21 x6) 22 x7) 23 x8) 6 x6) 7 x7) 8 x8) 24 x8) 25 x9) 28 x6) 29 x7) 30 x12) 31 x16) 32 x17) 9 (.ptr (ag.next h18) 0)) 33 x6) 34 x22) 35 x23) 36 x24) 37 x25) 38 x29) 39 x33) 40 (.int .i64 0)),89,[],h30⟩ (F.dh.bY K)) (fun v31 h32=>K (.panic v31) h32))) (fun v27 h28=>K (.panic v27) h28))) (fun v19 h20=>K (.panic v19) h20))) (fun v14 h15=>K (.panic v14) h15)))) (fun v4 h5=>K (.panic v4) h5)))=true):Sem Tryz.prog 13 [a0,a1] h K:=
 aQ mixed (aL _) Tryz.func13 (c:=aj Tryz.f13) rfl (by decide) (of_decide_eq_true (by kernel_rfl)) (F.CK.trans hh)
end
end Go.AM
namespace Go.AM
open Go
noncomputable section
def Q5:List AV:=[(.int .u8 80)]
def Q6:AV:=(.bool true)
theorem MZ:bM Proofs.Tryz.prog F0 D0 200 146 Q5 ag.empty (cr true 20 Q6)=true:=by kernel_rfl
end
end Go.AM
namespace Go.AM
open Go
noncomputable section
def Q7:List AV:=[(.int .u8 40)]
def Q8:AV:=(.bool false)
theorem M0:bM Proofs.Tryz.prog F0 D0 200 146 Q7 ag.empty (cr true 20 Q8)=true:=by kernel_rfl
end
end Go.AM
namespace Go.AM
open Go
noncomputable section
def Q9:List AV:=[(.int .u8 120)]
def Ra:AV:=(.bool true)
theorem M1:bM Proofs.Tryz.prog F0 D0 200 146 Q9 ag.empty (cr true 20 Ra)=true:=by kernel_rfl
end
end Go.AM
namespace Go.AM
open Go
noncomputable section
def Rb:List AV:=[(.int .u8 32)]
def Rc:AV:=(.bool false)
theorem M3:bM Proofs.Tryz.prog F0 D0 200 146 Rb ag.empty (cr true 20 Rc)=true:=by kernel_rfl
end
end Go.AM
namespace Go.AM
open Go
noncomputable section
def Re:List AV:=[(.int .u8 121)]
def Rf:AV:=(.bool true)
theorem M4:bM Proofs.Tryz.prog F0 D0 200 146 Re ag.empty (cr true 20 Rf)=true:=by kernel_rfl
end
end Go.AM
namespace Go.AM
open Go
noncomputable section
def Rg:List AV:=[(.int .u8 41)]
def Rh:AV:=(.bool false)
theorem M5:bM Proofs.Tryz.prog F0 D0 200 146 Rg ag.empty (cr true 20 Rh)=true:=by kernel_rfl
end
end Go.AM
namespace Go.AM
open Go
noncomputable section
def Ri:List AV:=[(.int .u8 58)]
def Rj:AV:=(.bool false)
theorem M6:bM Proofs.Tryz.prog F0 D0 200 146 Ri ag.empty (cr true 20 Rj)=true:=by kernel_rfl
end
end Go.AM
namespace Go.AM
open Go
noncomputable section
def Rk:List AV:=[(.int .u8 69)]
def Rl:AV:=(.bool true)
theorem M7:bM Proofs.Tryz.prog F0 D0 200 146 Rk ag.empty (cr true 20 Rl)=true:=by kernel_rfl
end
end Go.AM
namespace Go.AM
open Go
noncomputable section
def Rm:List AV:=[(.int .u8 46)]
def Rn:AV:=(.bool false)
theorem M8:bM Proofs.Tryz.prog F0 D0 200 146 Rm ag.empty (cr true 20 Rn)=true:=by kernel_rfl
end
end Go.AM
namespace Go.AM
open Go
noncomputable section
def Ro:List AV:=[(.int .u8 122)]
def Rp:AV:=(.bool true)
theorem M9:bM Proofs.Tryz.prog F0 D0 200 146 Ro ag.empty (cr true 20 Rp)=true:=by kernel_rfl
end
end Go.AM
namespace Go.AM
open Go
noncomputable section
def NH:List AV:=[(.int .u8 44)]
def NI:AV:=(.bool false)
theorem KA:bM Proofs.Tryz.prog F0 D0 200 146 NH ag.empty (cr true 20 NI)=true:=by kernel_rfl
end
end Go.AM
namespace Go.AM
open Go
noncomputable section
def NJ:List AV:=[(.agg [(.int .i64 3),(.islice [(.str [69]),(.int .i64 2),(.islice [(.islice [(.int .i64 0),(.int .i64 1)] 0 2 1),(.islice [(.int .i64 1),(.int .i64 2)] 0 2 1)] 0 2 1)] 0 1 3)]),(.str [69]),(.int .i64 2)]
def NK:AV:=(.int .i64 0)
theorem KB:bM Proofs.Tryz.prog F0 D0 200 88 NJ ag.empty (cr true 20 NK)=true:=by kernel_rfl
end
end Go.AM
namespace Go.AM
open Go
noncomputable section
def NL:List AV:=[(.int .i64 3),(.int .i64 2)]
def NM:AV:=(.tuple [(.int .i64 9),(.int .i64 0)])
theorem KC:bM Proofs.Tryz.prog F0 D0 200 107 NL ag.empty (cr true 20 NM)=true:=by kernel_rfl
end
end Go.AM
namespace Go.AM
open Go
noncomputable section
def NN:List AV:=[(.islice [(.int .i64 0),(.int .i64 0)] 0 2 1),(.islice [(.int .i64 0),(.int .i64 1)] 0 2 1)]
def NO:AV:=(.islice [(.int .i64 0),(.int .i64 0)] 0 2 1)
theorem KD:bM Proofs.Tryz.prog F0 D0 200 124 NN ag.empty (cr false 20 NO)=true:=by kernel_rfl
end
end Go.AM
namespace Go.AM
open Go
noncomputable section
def NP:List AV:=[(.islice [(.int .i64 0),(.int .i64 1)] 0 2 1),(.islice [(.int .i64 0),(.int .i64 1)] 0 2 1)]
def NQ:AV:=(.islice [(.int .i64 0),(.int .i64 1)] 0 2 1)
theorem KE:bM Proofs.Tryz.prog F0 D0 200 124 NP ag.empty (cr false 20 NQ)=true:=by kernel_rfl
end
end Go.AM
namespace Go.AM
open Go
noncomputable section
def NR:List AV:=[(.islice [(.int .i64 0),(.int .i64 2)] 0 2 1),(.islice [(.int .i64 0),(.int .i64 1)] 0 2 1)]
def NS:AV:=(.islice [(.int .i64 0),(.int .i64 2)] 0 2 1)
theorem KF:bM Proofs.Tryz.prog F0 D0 200 124 NR ag.empty (cr false 20 NS)=true:=by kernel_rfl
end
end Go.AM
namespace Go.AM
open Go
noncomputable section
def NT:List AV:=[(.islice [(.int .i64 1),(.int .i64 0)] 0 2 1),(.islice [(.int .i64 0),(.int .i64 1)] 0 2 1)]
def NU:AV:=(.islice [(.int .i64 1),(.int .i64 0)] 0 2 1)
theorem KG:bM Proofs.Tryz.prog F0 D0 200 124 NT ag.empty (cr false 20 NU)=true:=by kernel_rfl
end
end Go.AM
namespace Go.AM
open Go
noncomputable section
def NV:List AV:=[(.islice [(.int .i64 1),(.int .i64 1)] 0 2 1),(.islice [(.int .i64 0),(.int .i64 1)] 0 2 1)]
def NW:AV:=(.islice [(.int .i64 1),(.int .i64 1)] 0 2 1)
theorem KH:bM Proofs.Tryz.prog F0 D0 200 124 NV ag.empty (cr false 20 NW)=true:=by kernel_rfl
end
end Go.AM
namespace Go.AM
open Go
noncomputable section
def NX:List AV:=[(.islice [(.int .i64 1),(.int .i64 2)] 0 2 1),(.islice [(.int .i64 0),(.int .i64 1)] 0 2 1)]
def NY:AV:=(.islice [(.int .i64 1),(.int .i64 2)] 0 2 1)
theorem KI:bM Proofs.Tryz.prog F0 D0 200 124 NX ag.empty (cr false 20 NY)=true:=by kernel_rfl
end
end Go.AM
namespace Go.AM
open Go
noncomputable section
def NZ:List AV:=[(.islice [(.int .i64 2),(.int .i64 0)] 0 2 1),(.islice [(.int .i64 0),(.int .i64 1)] 0 2 1)]
def N3:AV:=(.islice [(.int .i64 2),(.int .i64 0)] 0 2 1)
theorem KJ:bM Proofs.Tryz.prog F0 D0 200 124 NZ ag.empty (cr false 20 N3)=true:=by kernel_rfl
end
end Go.AM
namespace Go.AM
open Go
noncomputable section
def N7:List AV:=[(.islice [(.int .i64 2),(.int .i64 1)] 0 2 1),(.islice [(.int .i64 0),(.int .i64 1)] 0 2 1)]
def N8:AV:=(.islice [(.int .i64 2),(.int .i64 1)] 0 2 1)
theorem KK:bM Proofs.Tryz.prog F0 D0 200 124 N7 ag.empty (cr false 20 N8)=true:=by kernel_rfl
end
end Go.AM
namespace Go.AM
open Go
noncomputable section
def N9:List AV:=[(.islice [(.int .i64 2),(.int .i64 2)] 0 2 1),(.islice [(.int .i64 0),(.int .i64 1)] 0 2 1)]
def Oa:AV:=(.islice [(.int .i64 2),(.int .i64 2)] 0 2 1)
theorem KL:bM Proofs.Tryz.prog F0 D0 200 124 N9 ag.empty (cr false 20 Oa)=true:=by kernel_rfl
end
end Go.AM
namespace Go.AM
open Go
noncomputable section
def Ob:List AV:=[(.islice [(.int .i64 0),(.int .i64 0),(.int .i64 0)] 0 3 1),(.islice [(.int .i64 0),(.int .i64 2)] 0 2 1)]
def Oc:AV:=(.islice [(.int .i64 0),(.int .i64 0)] 0 2 1)
theorem KM:bM Proofs.Tryz.prog F0 D0 200 124 Ob ag.empty (cr false 20 Oc)=true:=by kernel_rfl
end
end Go.AM
namespace Go.AM
open Go
noncomputable section
def Od:List AV:=[(.islice [(.int .i64 0),(.int .i64 0),(.int .i64 1)] 0 3 1),(.islice [(.int .i64 0),(.int .i64 2)] 0 2 1)]
def Oe:AV:=(.islice [(.int .i64 0),(.int .i64 1)] 0 2 1)
theorem KN:bM Proofs.Tryz.prog F0 D0 200 124 Od ag.empty (cr false 20 Oe)=true:=by kernel_rfl
end
end Go.AM
namespace Go.AM
open Go
noncomputable section
def Of:List AV:=[(.islice [(.int .i64 0),(.int .i64 0),(.int .i64 1)] 0 3 1),(.islice [(.int .i64 2),(.int .i64 1)] 0 2 1)]
def Og:AV:=(.islice [(.int .i64 1),(.int .i64 0)] 0 2 1)
theorem KO:bM Proofs.Tryz.prog F0 D0 200 124 Of ag.empty (cr false 20 Og)=true:=by kernel_rfl
end
end Go.AM
namespace Go.AM
open Go
noncomputable section
def Oh:List AV:=[(.islice [(.int .i64 0),(.int .i64 0),(.int .i64 2)] 0 3 1),(.islice [(.int .i64 0),(.int .i64 2)] 0 2 1)]
def Oi:AV:=(.islice [(.int .i64 0),(.int .i64 2)] 0 2 1)
theorem KP:bM Proofs.Tryz.prog F0 D0 200 124 Oh ag.empty (cr false 20 Oi)=true:=by kernel_rfl
end
end Go.AM
namespace Go.AM
open Go
noncomputable section
def Oj:List AV:=[(.islice [(.int .i64 0),(.int .i64 1),(.int .i64 0)] 0 3 1),(.islice [(.int .i64 0),(.int .i64 2)] 0 2 1)]
def Ol:AV:=(.islice [(.int .i64 0),(.int .i64 0)] 0 2 1)
theorem KQ:bM Proofs.Tryz.prog F0 D0 200 124 Oj ag.empty (cr false 20 Ol)=true:=by kernel_rfl
end
end Go.AM
namespace Go.AM
open Go
noncomputable section
def Om:List AV:=[(.islice [(.int .i64 0),(.int .i64 1),(.int .i64 1)] 0 3 1),(.islice [(.int .i64 0),(.int .i64 2)] 0 2 1)]
def On:AV:=(.islice [(.int .i64 0),(.int .i64 1)] 0 2 1)
theorem KR:bM Proofs.Tryz.prog F0 D0 200 124 Om ag.empty (cr false 20 On)=true:=by kernel_rfl
end
end Go.AM
namespace Go.AM
open Go
noncomputable section
def Oo:List AV:=[(.islice [(.int .i64 0),(.int .i64 1),(.int .i64 1)] 0 3 1),(.islice [(.int .i64 2),(.int .i64 1)] 0 2 1)]
def Oq:AV:=(.islice [(.int .i64 1),(.int .i64 1)] 0 2 1)
theorem KS:bM Proofs.Tryz.prog F0 D0 200 124 Oo ag.empty (cr false 20 Oq)=true:=by kernel_rfl
end
end Go.AM
namespace Go.AM
open Go
noncomputable section
def Ot:List AV:=[(.islice [(.int .i64 0),(.int .i64 1),(.int .i64 2)] 0 3 1),(.islice [(.int .i64 0),(.int .i64 2)] 0 2 1)]
def Ou:AV:=(.islice [(.int .i64 0),(.int .i64 2)] 0 2 1)
theorem KT:bM Proofs.Tryz.prog F0 D0 200 124 Ot ag.empty (cr false 20 Ou)=true:=by kernel_rfl
end
end Go.AM
namespace Go.AM
open Go
noncomputable section
def Ov:List AV:=[(.islice [(.int .i64 0),(.int .i64 2),(.int .i64 0)] 0 3 1),(.islice [(.int .i64 0),(.int .i64 2)] 0 2 1)]
def Ow:AV:=(.islice [(.int .i64 0),(.int .i64 0)] 0 2 1)
theorem KU:bM Proofs.Tryz.prog F0 D0 200 124 Ov ag.empty (cr false 20 Ow)=true:=by kernel_rfl
end
end Go.AM
namespace Go.AM
open Go
noncomputable section
def Ox:List AV:=[(.islice [(.int .i64 0),(.int .i64 2),(.int .i64 1)] 0 3 1),(.islice [(.int .i64 0),(.int .i64 2)] 0 2 1)]
def Oy:AV:=(.islice [(.int .i64 0),(.int .i64 1)] 0 2 1)
theorem KV:bM Proofs.Tryz.prog F0 D0 200 124 Ox ag.empty (cr false 20 Oy)=true:=by kernel_rfl
end
end Go.AM
namespace Go.AM
open Go
noncomputable section
def Oz:List AV:=[(.islice [(.int .i64 0),(.int .i64 2),(.int .i64 1)] 0 3 1),(.islice [(.int .i64 2),(.int .i64 1)] 0 2 1)]
def OA:AV:=(.islice [(.int .i64 1),(.int .i64 2)] 0 2 1)
theorem KW:bM Proofs.Tryz.prog F0 D0 200 124 Oz ag.empty (cr false 20 OA)=true:=by kernel_rfl
end
end Go.AM
namespace Go.AM
open Go
noncomputable section
def OB:List AV:=[(.islice [(.int .i64 0),(.int .i64 2),(.int .i64 1)] 0 3 1),(.islice [(.int .i64 0),(.int .i64 1)] 0 2 1)]
def OC:AV:=(.islice [(.int .i64 0),(.int .i64 2)] 0 2 1)
theorem KX:bM Proofs.Tryz.prog F0 D0 200 124 OB ag.empty (cr false 20 OC)=true:=by kernel_rfl
end
end Go.AM
namespace Go.AM
open Go
noncomputable section
def OD:List AV:=[(.islice [(.int .i64 0),(.int .i64 2),(.int .i64 2)] 0 3 1),(.islice [(.int .i64 0),(.int .i64 2)] 0 2 1)]
def OE:AV:=(.islice [(.int .i64 0),(.int .i64 2)] 0 2 1)
theorem KY:bM Proofs.Tryz.prog F0 D0 200 124 OD ag.empty (cr false 20 OE)=true:=by kernel_rfl
end
end Go.AM
namespace Go.AM
open Go
noncomputable section
def OF:List AV:=[(.islice [(.int .i64 1),(.int .i64 0),(.int .i64 0)] 0 3 1),(.islice [(.int .i64 0),(.int .i64 2)] 0 2 1)]
def OG:AV:=(.islice [(.int .i64 1),(.int .i64 0)] 0 2 1)
theorem KZ:bM Proofs.Tryz.prog F0 D0 200 124 OF ag.empty (cr false 20 OG)=true:=by kernel_rfl
end
end Go.AM
namespace Go.AM
open Go
noncomputable section
def OH:List AV:=[(.islice [(.int .i64 1),(.int .i64 0),(.int .i64 1)] 0 3 1),(.islice [(.int .i64 0),(.int .i64 2)] 0 2 1)]
def OI:AV:=(.islice [(.int .i64 1),(.int .i64 1)] 0 2 1)
theorem K4:bM Proofs.Tryz.prog F0 D0 200 124 OH ag.empty (cr false 20 OI)=true:=by kernel_rfl
end
end Go.AM
namespace Go.AM
open Go
noncomputable section
def OJ:List AV:=[(.islice [(.int .i64 1),(.int .i64 0),(.int .i64 2)] 0 3 1),(.islice [(.int .i64 0),(.int .i64 2)] 0 2 1)]
def OK:AV:=(.islice [(.int .i64 1),(.int .i64 2)] 0 2 1)
theorem K5:bM Proofs.Tryz.prog F0 D0 200 124 OJ ag.empty (cr false 20 OK)=true:=by kernel_rfl
end
end Go.AM
namespace Go.AM
open Go
noncomputable section
def OL:List AV:=[(.islice [(.int .i64 1),(.int .i64 0),(.int .i64 2)] 0 3 1),(.islice [(.int .i64 2),(.int .i64 1)] 0 2 1)]
def OM:AV:=(.islice [(.int .i64 2),(.int .i64 0)] 0 2 1)
theorem K6:bM Proofs.Tryz.prog F0 D0 200 124 OL ag.empty (cr false 20 OM)=true:=by kernel_rfl
end
end Go.AM
namespace Go.AM
open Go
noncomputable section
def ON:List AV:=[(.islice [(.int .i64 1),(.int .i64 1),(.int .i64 0)] 0 3 1),(.islice [(.int .i64 0),(.int .i64 2)] 0 2 1)]
def OO:AV:=(.islice [(.int .i64 1),(.int .i64 0)] 0 2 1)
theorem K7:bM Proofs.Tryz.prog F0 D0 200 124 ON ag.empty (cr false 20 OO)=true:=by kernel_rfl
end
end Go.AM
namespace Go.AM
open Go
noncomputable section
def OP:List AV:=[(.islice [(.int .i64 1),(.int .i64 1),(.int .i64 1)] 0 3 1),(.islice [(.int .i64 0),(.int .i64 2)] 0 2 1)]
def OQ:AV:=(.islice [(.int .i64 1),(.int .i64 1)] 0 2 1)
theorem K8:bM Proofs.Tryz.prog F0 D0 200 124 OP ag.empty (cr false 20 OQ)=true:=by kernel_rfl
end
end Go.AM
namespace Go.AM
open Go
noncomputable section
def OR:List AV:=[(.islice [(.int .i64 1),(.int .i64 1),(.int .i64 2)] 0 3 1),(.islice [(.int .i64 0),(.int .i64 2)] 0 2 1)]
def OS:AV:=(.islice [(.int .i64 1),(.int .i64 2)] 0 2 1)
theorem K9:bM Proofs.Tryz.prog F0 D0 200 124 OR ag.empty (cr false 20 OS)=true:=by kernel_rfl
end
end Go.AM
namespace Go.AM
open Go
noncomputable section
def OT:List AV:=[(.islice [(.int .i64 1),(.int .i64 1),(.int .i64 2)] 0 3 1),(.islice [(.int .i64 2),(.int .i64 1)] 0 2 1)]
def OU:AV:=(.islice [(.int .i64 2),(.int .i64 1)] 0 2 1)
theorem Lc:bM Proofs.Tryz.prog F0 D0 200 124 OT ag.empty (cr false 20 OU)=true:=by kernel_rfl
end
end Go.AM
namespace Go.AM
open Go
noncomputable section
def OV:List AV:=[(.islice [(.int .i64 1),(.int .i64 2),(.int .i64 0)] 0 3 1),(.islice [(.int .i64 0),(.int .i64 2)] 0 2 1)]
def OW:AV:=(.islice [(.int .i64 1),(.int .i64 0)] 0 2 1)
theorem Ld:bM Proofs.Tryz.prog F0 D0 200 124 OV ag.empty (cr false 20 OW)=true:=by kernel_rfl
end
end Go.AM
namespace Go.AM
open Go
noncomputable section
def OX:List AV:=[(.islice [(.int .i64 1),(.int .i64 2),(.int .i64 1)] 0 3 1),(.islice [(.int .i64 0),(.int .i64 2)] 0 2 1)]
def OY:AV:=(.islice [(.int .i64 1),(.int .i64 1)] 0 2 1)
theorem Le:bM Proofs.Tryz.prog F0 D0 200 124 OX ag.empty (cr false 20 OY)=true:=by kernel_rfl
end
end Go.AM
namespace Go.AM
open Go
noncomputable section
def OZ:List AV:=[(.islice [(.int .i64 1),(.int .i64 2),(.int .i64 2)] 0 3 1),(.islice [(.int .i64 0),(.int .i64 2)] 0 2 1)]
def O0:AV:=(.islice [(.int .i64 1),(.int .i64 2)] 0 2 1)
theorem Lf:bM Proofs.Tryz.prog F0 D0 200 124 OZ ag.empty (cr false 20 O0)=true:=by kernel_rfl
end
end Go.AM
namespace Go.AM
open Go
noncomputable section
def O1:List AV:=[(.islice [(.int .i64 1),(.int .i64 2),(.int .i64 2)] 0 3 1),(.islice [(.int .i64 2),(.int .i64 1)] 0 2 1)]
def O2:AV:=(.islice [(.int .i64 2),(.int .i64 2)] 0 2 1)
theorem Lg:bM Proofs.Tryz.prog F0 D0 200 124 O1 ag.empty (cr false 20 O2)=true:=by kernel_rfl
end
end Go.AM
namespace Go.AM
open Go
noncomputable section
def O3:List AV:=[(.islice [(.int .i64 2),(.int .i64 0),(.int .i64 0)] 0 3 1),(.islice [(.int .i64 0),(.int .i64 2)] 0 2 1)]
def O4:AV:=(.islice [(.int .i64 2),(.int .i64 0)] 0 2 1)
theorem Lh:bM Proofs.Tryz.prog F0 D0 200 124 O3 ag.empty (cr false 20 O4)=true:=by kernel_rfl
end
end Go.AM
namespace Go.AM
open Go
noncomputable section
def O5:List AV:=[(.islice [(.int .i64 2),(.int .i64 0),(.int .i64 1)] 0 3 1),(.islice [(.int .i64 0),(.int .i64 2)] 0 2 1)]
def O6:AV:=(.islice [(.int .i64 2),(.int .i64 1)] 0 2 1)
theorem Li:bM Proofs.Tryz.prog F0 D0 200 124 O5 ag.empty (cr false 20 O6)=true:=by kernel_rfl
end
end Go.AM
namespace Go.AM
open Go
noncomputable section
def O7:List AV:=[(.islice [(.int .i64 2),(.int .i64 0),(.int .i64 2)] 0 3 1),(.islice [(.int .i64 0),(.int .i64 2)] 0 2 1)]
def O8:AV:=(.islice [(.int .i64 2),(.int .i64 2)] 0 2 1)
theorem Lj:bM Proofs.Tryz.prog F0 D0 200 124 O7 ag.empty (cr false 20 O8)=true:=by kernel_rfl
end
end Go.AM
namespace Go.AM
open Go
noncomputable section
def O9:List AV:=[(.islice [(.int .i64 2),(.int .i64 1),(.int .i64 0)] 0 3 1),(.islice [(.int .i64 0),(.int .i64 2)] 0 2 1)]
def Pa:AV:=(.islice [(.int .i64 2),(.int .i64 0)] 0 2 1)
theorem Ll:bM Proofs.Tryz.prog F0 D0 200 124 O9 ag.empty (cr false 20 Pa)=true:=by kernel_rfl
end
end Go.AM
namespace Go.AM
open Go
noncomputable section
def Pb:List AV:=[(.islice [(.int .i64 2),(.int .i64 1),(.int .i64 1)] 0 3 1),(.islice [(.int .i64 0),(.int .i64 2)] 0 2 1)]
def Pc:AV:=(.islice [(.int .i64 2),(.int .i64 1)] 0 2 1)
theorem Lm:bM Proofs.Tryz.prog F0 D0 200 124 Pb ag.empty (cr false 20 Pc)=true:=by kernel_rfl
end
end Go.AM
namespace Go.AM
open Go
noncomputable section
def Pd:List AV:=[(.islice [(.int .i64 2),(.int .i64 1),(.int .i64 2)] 0 3 1),(.islice [(.int .i64 0),(.int .i64 2)] 0 2 1)]
def Pe:AV:=(.islice [(.int .i64 2),(.int .i64 2)] 0 2 1)
theorem Ln:bM Proofs.Tryz.prog F0 D0 200 124 Pd ag.empty (cr false 20 Pe)=true:=by kernel_rfl
end
end Go.AM
namespace Go.AM
open Go
noncomputable section
def Pf:List AV:=[(.islice [(.int .i64 2),(.int .i64 2),(.int .i64 0)] 0 3 1),(.islice [(.int .i64 0),(.int .i64 2)] 0 2 1)]
def Pg:AV:=(.islice [(.int .i64 2),(.int .i64 0)] 0 2 1)
theorem Lo:bM Proofs.Tryz.prog F0 D0 200 124 Pf ag.empty (cr false 20 Pg)=true:=by kernel_rfl
end
end Go.AM
namespace Go.AM
open Go
noncomputable section
def Ph:List AV:=[(.islice [(.int .i64 2),(.int .i64 2),(.int .i64 1)] 0 3 1),(.islice [(.int .i64 0),(.int .i64 2)] 0 2 1)]
def Pj:AV:=(.islice [(.int .i64 2),(.int .i64 1)] 0 2 1)
theorem Lq:bM Proofs.Tryz.prog F0 D0 200 124 Ph ag.empty (cr false 20 Pj)=true:=by kernel_rfl
end
end Go.AM
namespace Go.AM
open Go
noncomputable section
def Pk:List AV:=[(.islice [(.int .i64 2),(.int .i64 2),(.int .i64 2)] 0 3 1),(.islice [(.int .i64 0),(.int .i64 2)] 0 2 1)]
def Pm:AV:=(.islice [(.int .i64 2),(.int .i64 2)] 0 2 1)
theorem Lr:bM Proofs.Tryz.prog F0 D0 200 124 Pk ag.empty (cr false 20 Pm)=true:=by kernel_rfl
end
end Go.AM
namespace Go.AM
open Go
noncomputable section
def Pn:List AV:=[(.str [80]),(.islice [(.int .i64 0),(.int .i64 1)] 0 2 1)]
def Po:AV:=(.str [80,47,0,1])
theorem Ls:bM Proofs.Tryz.prog F0 D0 200 71 Pn ag.empty (cr true 20 Po)=true:=by kernel_rfl
end
end Go.AM
namespace Go.AM
open Go
noncomputable section
def Pp:List AV:=[(.str [80]),(.islice [(.int .i64 1),(.int .i64 2)] 0 2 1)]
def Pq:AV:=(.str [80,47,1,2])
theorem Lt:bM Proofs.Tryz.prog F0 D0 200 71 Pp ag.empty (cr true 20 Pq)=true:=by kernel_rfl
end
end Go.AM
namespace Go.AM
open Go
noncomputable section
def Pr:List AV:=[(.str [80]),(.islice [(.int .i64 0),(.int .i64 2)] 0 2 1)]
def Pt:AV:=(.str [80,47,0,2])
theorem Lu:bM Proofs.Tryz.prog F0 D0 200 71 Pr ag.empty (cr true 20 Pt)=true:=by kernel_rfl
end
end Go.AM
namespace Go.AM
open Go
noncomputable section
def Pu:List AV:=[(.islice [(.int .i64 0),(.int .i64 2),(.int .i64 1)] 0 3 1),(.islice [(.int .i64 0),(.int .i64 1)] 0 2 1)]
def Pv:AV:=(.islice [(.int .i64 0),(.int .i64 2)] 0 2 1)
theorem Lw:bM Proofs.Tryz.prog F0 D0 200 124 Pu ag.empty (cr true 20 Pv)=true:=by kernel_rfl
end
end Go.AM
namespace Go.AM
open Go
noncomputable section
def Pw:List AV:=[(.islice [(.int .i64 0),(.int .i64 2),(.int .i64 1)] 0 3 1),(.islice [(.int .i64 0),(.int .i64 2)] 0 2 1)]
def Px:AV:=(.islice [(.int .i64 0),(.int .i64 1)] 0 2 1)
theorem Lx:bM Proofs.Tryz.prog F0 D0 200 124 Pw ag.empty (cr true 20 Px)=true:=by kernel_rfl
end
end Go.AM
namespace Go.AM
open Go
noncomputable section
def Py:List AV:=[(.islice [(.int .i64 0),(.int .i64 2),(.int .i64 1)] 0 3 1),(.islice [(.int .i64 2),(.int .i64 1)] 0 2 1)]
def Pz:AV:=(.islice [(.int .i64 1),(.int .i64 2)] 0 2 1)
theorem Lz:bM Proofs.Tryz.prog F0 D0 200 124 Py ag.empty (cr true 20 Pz)=true:=by kernel_rfl
end
end Go.AM
namespace Go.AM
open Go
noncomputable section
def PA:List AV:=[(.islice [(.int .i64 1),(.int .i64 2)] 0 2 1),(.islice [(.int .i64 0),(.int .i64 1)] 0 2 1)]
def PC:AV:=(.islice [(.int .i64 1),(.int .i64 2)] 0 2 1)
theorem LA:bM Proofs.Tryz.prog F0 D0 200 124 PA ag.empty (cr true 20 PC)=true:=by kernel_rfl
end
end Go.AM
namespace Go.AM
open Go
noncomputable section
def F1:tJ:=fun x=>if x=146 then some (iO (fS Q5 Q6) (iO (fS Q7 Q8) (iO (fS Q9 Ra) (iO (fS Rb Rc) (iO (fS Re Rf) (iO (fS Rg Rh) (iO (fS Ri Rj) (iO (fS Rk Rl) (iO (fS Rm Rn) (iO (fS Ro Rp) (fS NH NI))))))))))) else if x=88 then some (fS NJ NK) else if x=107 then some (fS NL NM) else if x=124 then some (iO (dM 20 NN NO) (iO (dM 20 NP NQ) (iO (dM 20 NR NS) (iO (dM 20 NT NU) (iO (dM 20 NV NW) (iO (dM 20 NX NY) (iO (dM 20 NZ N3) (iO (dM 20 N7 N8) (iO (dM 20 N9 Oa) (iO (dM 20 Ob Oc) (iO (dM 20 Od Oe) (iO (dM 20 Of Og) (iO (dM 20 Oh Oi) (iO (dM 20 Oj Ol) (iO (dM 20 Om On) (iO (dM 20 Oo Oq) (iO (dM 20 Ot Ou) (iO (dM 20 Ov Ow) (iO (dM 20 Ox Oy) (iO (dM 20 Oz OA) (iO (dM 20 OB OC) (iO (dM 20 OD OE) (iO (dM 20 OF OG) (iO (dM 20 OH OI) (iO (dM 20 OJ OK) (iO (dM 20 OL OM) (iO (dM 20 ON OO) (iO (dM 20 OP OQ) (iO (dM 20 OR OS) (iO (dM 20 OT OU) (iO (dM 20 OV OW) (iO (dM 20 OX OY) (iO (dM 20 OZ O0) (iO (dM 20 O1 O2) (iO (dM 20 O3 O4) (iO (dM 20 O5 O6) (iO (dM 20 O7 O8) (iO (dM 20 O9 Pa) (iO (dM 20 Pb Pc) (iO (dM 20 Pd Pe) (iO (dM 20 Pf Pg) (iO (dM 20 Ph Pj) (iO (dM 20 Pk Pm) (iO (fS Pu Pv) (iO (fS Pw Px) (iO (fS Py Pz) (fS PA PC))))))))))))))))))))))))))))))))))))))))))))))) else if x=71 then some (iO (fS Pn Po) (iO (fS Pp Pq) (fS Pr Pt))) else F0 x
theorem DX:iN Proofs.Tryz.prog F1:=by
 have hs:=iZ mixed ue pW 200
 intro f g hg args h K hK
 unfold F1 at hg
 split at hg
 ·rename_i e
  subst e
  cases hg
  rcases cj hK with hK|hK
  ·exact cp hs (by kernel_rfl) MZ args h K hK
  rcases cj hK with hK|hK
  ·exact cp hs (by kernel_rfl) M0 args h K hK
  rcases cj hK with hK|hK
  ·exact cp hs (by kernel_rfl) M1 args h K hK
  rcases cj hK with hK|hK
  ·exact cp hs (by kernel_rfl) M3 args h K hK
  rcases cj hK with hK|hK
  ·exact cp hs (by kernel_rfl) M4 args h K hK
  rcases cj hK with hK|hK
  ·exact cp hs (by kernel_rfl) M5 args h K hK
  rcases cj hK with hK|hK
  ·exact cp hs (by kernel_rfl) M6 args h K hK
  rcases cj hK with hK|hK
  ·exact cp hs (by kernel_rfl) M7 args h K hK
  rcases cj hK with hK|hK
  ·exact cp hs (by kernel_rfl) M8 args h K hK
  rcases cj hK with hK|hK
  ·exact cp hs (by kernel_rfl) M9 args h K hK
  exact cp hs (by kernel_rfl) KA args h K hK
 split at hg
 ·rename_i e
  subst e
  cases hg
  exact cp hs (by kernel_rfl) KB args h K hK
 split at hg
 ·rename_i e
  subst e
  cases hg
  exact cp hs (by kernel_rfl) KC args h K hK
 split at hg
 ·rename_i e
  subst e
  cases hg
  rcases cj hK with hK|hK
  ·exact bh hs KD args h K hK
  rcases cj hK with hK|hK
  ·exact bh hs KE args h K hK
  rcases cj hK with hK|hK
  ·exact bh hs KF args h K hK
  rcases cj hK with hK|hK
  ·exact bh hs KG args h K hK
  rcases cj hK with hK|hK
  ·exact bh hs KH args h K hK
  rcases cj hK with hK|hK
  ·exact bh hs KI args h K hK
  rcases cj hK with hK|hK
  ·exact bh hs KJ args h K hK
  rcases cj hK with hK|hK
  ·exact bh hs KK args h K hK
  rcases cj hK with hK|hK
  ·exact bh hs KL args h K hK
  rcases cj hK with hK|hK
  ·exact bh hs KM args h K hK
  rcases cj hK with hK|hK
  ·exact bh hs KN args h K hK
  rcases cj hK with hK|hK
  ·exact bh hs KO args h K hK
  rcases cj hK with hK|hK
  ·exact bh hs KP args h K hK
  rcases cj hK with hK|hK
  ·exact bh hs KQ args h K hK
  rcases cj hK with hK|hK
  ·exact bh hs KR args h K hK
  rcases cj hK with hK|hK
  ·exact bh hs KS args h K hK
  rcases cj hK with hK|hK
  ·exact bh hs KT args h K hK
  rcases cj hK with hK|hK
  ·exact bh hs KU args h K hK
  rcases cj hK with hK|hK
  ·exact bh hs KV args h K hK
  rcases cj hK with hK|hK
  ·exact bh hs KW args h K hK
  rcases cj hK with hK|hK
  ·exact bh hs KX args h K hK
  rcases cj hK with hK|hK
  ·exact bh hs KY args h K hK
  rcases cj hK with hK|hK
  ·exact bh hs KZ args h K hK
  rcases cj hK with hK|hK
  ·exact bh hs K4 args h K hK
  rcases cj hK with hK|hK
  ·exact bh hs K5 args h K hK
  rcases cj hK with hK|hK
  ·exact bh hs K6 args h K hK
  rcases cj hK with hK|hK
  ·exact bh hs K7 args h K hK
  rcases cj hK with hK|hK
  ·exact bh hs K8 args h K hK
  rcases cj hK with hK|hK
  ·exact bh hs K9 args h K hK
  rcases cj hK with hK|hK
  ·exact bh hs Lc args h K hK
  rcases cj hK with hK|hK
  ·exact bh hs Ld args h K hK
  rcases cj hK with hK|hK
  ·exact bh hs Le args h K hK
  rcases cj hK with hK|hK
  ·exact bh hs Lf args h K hK
  rcases cj hK with hK|hK
  ·exact bh hs Lg args h K hK
  rcases cj hK with hK|hK
  ·exact bh hs Lh args h K hK
  rcases cj hK with hK|hK
  ·exact bh hs Li args h K hK
  rcases cj hK with hK|hK
  ·exact bh hs Lj args h K hK
  rcases cj hK with hK|hK
  ·exact bh hs Ll args h K hK
  rcases cj hK with hK|hK
  ·exact bh hs Lm args h K hK
  rcases cj hK with hK|hK
  ·exact bh hs Ln args h K hK
  rcases cj hK with hK|hK
  ·exact bh hs Lo args h K hK
  rcases cj hK with hK|hK
  ·exact bh hs Lq args h K hK
  rcases cj hK with hK|hK
  ·exact bh hs Lr args h K hK
  rcases cj hK with hK|hK
  ·exact cp hs (by kernel_rfl) Lw args h K hK
  rcases cj hK with hK|hK
  ·exact cp hs (by kernel_rfl) Lx args h K hK
  rcases cj hK with hK|hK
  ·exact cp hs (by kernel_rfl) Lz args h K hK
  exact cp hs (by kernel_rfl) LA args h K hK
 split at hg
 ·rename_i e
  subst e
  cases hg
  rcases cj hK with hK|hK
  ·exact cp hs (by kernel_rfl) Ls args h K hK
  rcases cj hK with hK|hK
  ·exact cp hs (by kernel_rfl) Lt args h K hK
  exact cp hs (by kernel_rfl) Lu args h K hK
 exact ue f g hg args h K hK
end
end Go.AM
namespace Go.AM
open Go
noncomputable section
def PD:List AV:=[(.agg [(.str [80]),(.islice [(.str [120]),(.str [121])] 0 2 1)])]
def PE:AV:=(.bool true)
theorem LB:bM Proofs.Tryz.prog F1 D0 200 130 PD ag.empty (cr false 20 PE)=true:=by kernel_rfl
end
end Go.AM
namespace Go.AM
open Go
noncomputable section
def PF:List AV:=[(.agg [(.str [80]),(.islice [(.str [120]),(.str [121])] 0 2 1),(.islice [(.int .i64 0),(.bool false),(.str [69]),(.islice [(.str [120]),(.str [121])] 0 2 1)] 0 1 4)])]
def PG:AV:=(.islice [(.str [120]),(.str [121])] 0 2 1)
theorem LC:bM Proofs.Tryz.prog F1 D0 200 108 PF ag.empty (cr false 20 PG)=true:=by kernel_rfl
end
end Go.AM
namespace Go.AM
open Go
noncomputable section
def PI:List AV:=[(.agg [(.int .i64 0),(.bool false),(.str [69]),(.islice [(.str [120]),(.str [121])] 0 2 1)])]
def PJ:AV:=(.bool true)
theorem LD:bM Proofs.Tryz.prog F1 D0 200 132 PI ag.empty (cr false 20 PJ)=true:=by kernel_rfl
end
end Go.AM
namespace Go.AM
open Go
noncomputable section
def PK:List AV:=[(.agg [(.int .i64 0),(.bool false),(.str [69]),(.islice [(.str [120]),(.str [122])] 0 2 1)])]
def PM:AV:=(.bool true)
theorem LF:bM Proofs.Tryz.prog F1 D0 200 132 PK ag.empty (cr false 20 PM)=true:=by kernel_rfl
end
end Go.AM