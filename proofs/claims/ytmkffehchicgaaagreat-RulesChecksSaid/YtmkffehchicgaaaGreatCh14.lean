/- Parts of a proof, merged out of smaller texts: the abstract machine and what functions do. Conditions: none. -/
import Derived.Test.YtmkffehchicgaaaGreatCh3
import Derived.Test.YtmkffehchicgaaaGreatCh8
import Derived.Test.YtmkffehchicgaaaGreatCh9
import Derived.Test.YtmkffehchicgaaaGreatCh10
import Derived.Test.YtmkffehchicgaaaGreatCh11
import Derived.KernelRfl
set_option linter.unusedVariables false
namespace Go.Proofs
open Go.RowKit Go.Maps Go.Sort Go.Shelf
theorem Tryz.Ie(m:Nat):AnyZ.SortsIn Tryz.prog Tryz.uD Fence.wide m:=
 ⟨fun blk off cap ss W hH hblk hsz=>callsIn_wide.2 (AnyM.slices_Sort_string Tryz.HQ blk off cap ss W hH hblk hsz),
  fun p cap W=>callsIn_wide.2 (AnyM.slices_Sort_string_none Tryz.HQ p cap W)⟩
theorem Tryz.Fb:AM.CD Tryz.prog 50 114 100:=fun mb W=>callsIn_wide.1 (AnyZ.keys_in Tryz.GG Fence.wide 5 trivial rfl mb W)
set_option maxHeartbeats 1000000 in
theorem Tryz.BR:AM.xI Tryz.prog 49 114 9:=by
 refine ⟨fun Bm b nn D0 w h1 h2 hown hmax hbytes=>(callsIn_wide (n:=5)).1 ?_,fun Bm w h1 h2=>?_⟩
 ·have hseq:SeqGives Fence.wide 2 Tryz.prog 114 #[.pointer (some ⟨Bm,0,none⟩)] encStr (fun ss=>ss.Perm (strKeys D0)) (Maps.size D0) w:=
   AnyZ.keys_gives (ρ:=Tryz.tK) { Tryz.GG with } Fence.wide _ trivial rfl (by omega) Bm b nn D0 w h1 h2 hown
  exact AnyZ.sorted_in Tryz.ED Fence.wide 5 trivial trivial trivial trivial rfl (by omega) (Tryz.Ie _) (enters_of Tryz.func113 (by kernel_rfl) rfl) 114 #[.pointer (some ⟨Bm,0,none⟩)] trivial (enters_of Tryz.func114 (by kernel_rfl) rfl) _ _ hmax hbytes w hseq
 ·have hseq:SeqGives Fence.wide 2 Tryz.prog 114 #[.pointer (some ⟨Bm,0,none⟩)] encStr (fun ss:List (List UInt8)=>ss = []) 0 w:=
   AnyZ.keys_gives_nil (ρ:=Tryz.tK) { Tryz.GG with } Fence.wide _ trivial rfl Bm w h1 h2
  refine Calls.mono ((callsIn_wide (n:=5)).1 (AnyZ.sorted_in Tryz.ED Fence.wide 5 trivial trivial trivial trivial rfl (by omega) (Tryz.Ie _) (enters_of Tryz.func113 (by kernel_rfl) rfl) 114 #[.pointer (some ⟨Bm,0,none⟩)] trivial (enters_of Tryz.func114 (by kernel_rfl) rfl) _ 0 (Nat.zero_le _) (by omega) w hseq)) fun e w' hR=>?_
  obtain ⟨v,ss,rfl,s1,s2,s3,s4⟩:=hR
  exact ⟨by rw [s3.2 s1],s4⟩
end Go.Proofs
namespace Go.AM
open Go Go.Proofs
noncomputable section
theorem mixed:Tryz.prog.follows .mixedOrders=true:=by kernel_rfl
noncomputable def Pp:Code→List Oper
 |.seq (.region _ ops _) _=>ops.toList
 |_=>[]
noncomputable def SH:Code→Nat
 |.seq (.region id _ _) _=>id
 |_=>0
noncomputable def Kt:List Oper→Oper
 |o :: _=>o
 |[]=>default
noncomputable def SI:Op→Array TypeId
 |.call c=>c.argTypes
 |_=>#[]
def F0:xm:=fun f=>if f=50 then some (Kp 114) else if f=49 then some (DO 114) else none
theorem Ku:Enters Tryz.prog 50:=⟨_,_,Tryz.func50,rfl,by decide⟩
theorem Kv:Enters Tryz.prog 49:=⟨_,_,Tryz.func49,rfl,by decide⟩
theorem Fc:k8 Tryz.prog F0:=by
 intro f g hg args h K hK
 unfold F0 at hg
 split at hg
 ·rename_i e;subst e;cases hg;exact E5 Ku Tryz.Fb args h K hK
 split at hg
 ·rename_i e;subst e;cases hg
  exact BQ Kv (by kernel_rfl) Tryz.BR args h K hK
 ·cases hg
noncomputable def uY:List Oper:=Pp (aj Tryz.f97)
noncomputable def CG:Code:=partOf (aj Tryz.f97) [1]
def D0:nK:=fun f=>if f=97 then some (fun args pan h K=>Nat.ble args.length 2&&GZ Tryz.prog 10 5 uY CG args pan h K) else none
theorem IX:Ia Tryz.prog 97 10 5 uY CG 2:=⟨⟨Tryz.f97,SH (aj Tryz.f97),Kt uY,SI (Kt uY).op,Tryz.func97,by kernel_rfl,by kernel_rfl,by decide,by kernel_rfl,by decide,by decide,by kernel_rfl,by kernel_rfl,by kernel_rfl,by kernel_rfl⟩⟩
theorem qQ:z7 Tryz.prog D0:=by
 intro f g hg
 unfold D0 at hg
 split at hg
 ·rename_i e;subst e;cases hg
  refine ⟨⟨_,_,Tryz.func97,rfl,by decide⟩,fun args pan h K hh w0 μ w vs pv h1 h2 h3=>?_⟩
  simp only [Bool.and_eq_true] at hh
  exact (DN mixed IX (Nat.le_of_ble_eq_true hh.1) hh.2).2 w0 μ w vs pv h1 h2 h3
 cases hg
end
end Go.AM
namespace Go.AM
open Go Go.Proofs
noncomputable section
noncomputable def F.ee.L0:Code:=partOf (aj Tryz.f116) [1,1,0,1,0,0]
noncomputable def F.ee.cy(K:Out→ag→Bool):AX→St→Bool:=(aX 0 (cI false (au Tryz.prog (ah Tryz.prog) (partOf (aj Tryz.f116) [1,1,1])) (ay Tryz.prog cc Tryz.f116.results.toList K)))
theorem F.ee.aN{e:Env}{h:ag}{K:AX→St→Bool}:au Tryz.prog (ah Tryz.prog) F.ee.L0 ⟨e,40,[],h⟩ K=(af (bQ .str (e 0) h) fun x14=>af (aJ .lss (e 3) x14) fun x15=>let Q1:=(aa (aa (aa (aa e 22 (e 3)) 23 (e 0)) 24 x14) 25 x15);ax x15 (af (jN (e 0) (e 3)) fun x16=>ah Tryz.prog 163 [x16] h (bJ (fun x17 h18=>af (ji .not x17) fun x21=>let Q2:=(aa (aa (aa (aa (aa (aa Q1 28 (e 0)) 29 (e 3)) 30 x16) 31 x17) 32 x21) 33 x21);ax x21 (af (jN (e 0) (e 3)) fun x22=>ah Tryz.prog 165 [x22] h18 (bJ (fun x23 h24=>af (ji .not x23) fun x27=>let Q3:=(aa (aa (aa (aa (aa (aa (aa (aa (aa (aa (aa Q2 33 (.bool true)) 34 (e 0)) 33 (.bool true)) 35 (e 3)) 33 (.bool true)) 36 x22) 33 (.bool true)) 37 x23) 33 (.bool true)) 38 x27) 39 x27);ax x27 (K .ret ⟨(aa Q3 2 (.bool false)),40,[],h24⟩) (af (aJ .add (e 3) (.int .i64 1)) fun x28=>K .normal ⟨(aa (aa (aa Q3 26 (e 3)) 27 x28) 3 x28),40,[],h24⟩)) (fun v25 h26=>K (.panic v25) ⟨(aa (aa (aa (aa (aa (aa (aa Q2 33 (.bool true)) 34 (e 0)) 33 (.bool true)) 35 (e 3)) 33 (.bool true)) 36 x22) 33 (.bool true)),40,[],h26⟩))) (af (aJ .add (e 3) (.int .i64 1)) fun x29=>K .normal ⟨(aa (aa (aa (aa (aa (aa (aa (aa (aa (aa (aa (aa (aa (aa Q2 33 (.bool false)) 34 bD) 33 (.bool false)) 35 bD) 33 (.bool false)) 36 bD) 33 (.bool false)) 37 bD) 33 (.bool false)) 38 bD) 39 (.bool false)) 26 (e 3)) 27 x29) 3 x29),40,[],h18⟩)) (fun v19 h20=>K (.panic v19) ⟨(aa (aa (aa Q1 28 (e 0)) 29 (e 3)) 30 x16),40,[],h20⟩))) (K (.exit 0) ⟨Q1,40,[],h⟩)):=by kernel_rfl
theorem F.ee.aG{e:Env}{h:ag}{K:Out→ag→Bool}:F.ee.cy K (.exit 0) ⟨e,40,[],h⟩=(K (.ret (.bool true)) h):=by kernel_rfl
theorem F.ee.aZ{e:Env}{h:ag}{K:Out→ag→Bool}:F.ee.cy K .ret ⟨e,40,[],h⟩=(K (.ret (e 2)) h):=by kernel_rfl
theorem F.BS{a0:AV}{h:ag}{K:Out→ag→Bool}:au Tryz.prog (ah Tryz.prog) (aj Tryz.f116) ⟨aF [a0],40,[],h⟩ (ay Tryz.prog cc Tryz.f116.results.toList K)=(af (bQ .str a0 h) fun x0=>af (aJ .lss x0 (.int .i64 1)) fun x1=>ax x1 (K (.ret (.bool false)) h) (af (bQ .str a0 h) fun x2=>af (aJ .gtr x2 (.int .i64 12)) fun x3=>ax x3 (K (.ret (.bool false)) h) (af (jN a0 (.int .i64 0)) fun x4=>ah Tryz.prog 163 [x4] h (bJ (fun x5 h6=>af (ji .not x5) fun x9=>ax x9 (K (.ret (.bool false)) h6) (ah Tryz.prog 164 [a0] h6 (bJ (fun x10 h11=>ax x10 (K (.ret (.bool false)) h11) (bT (au Tryz.prog (ah Tryz.prog) F.ee.L0) ⟨(aa (aa (aa (aa (aa (aa (aa (aa (aa (aa (aa (aa (aa (aa (aa (aa (aa (aa (aa (aa (aa (aa (aa (aa (aa (aa (aa (aa (aa (aF [a0]) 2 (.bool false)) 4 a0) 5 x0) 6 x1) 7 x1) 7 (.bool false)) 8 a0) 7 (.bool false)) 9 x2) 7 (.bool false)) 10 x3) 11 x3) 12 x3) 12 (.bool false)) 13 a0) 12 (.bool false)) 14 x4) 12 (.bool false)) 15 x5) 12 (.bool false)) 16 x9) 17 x9) 18 x9) 18 (.bool false)) 19 a0) 18 (.bool false)) 20 x10) 21 x10) 3 (.int .i64 1)),40,[],h11⟩ (F.ee.cy K))) (fun v12 h13=>K (.panic v12) h13)))) (fun v7 h8=>K (.panic v7) h8))))):=by kernel_rfl
theorem F.Ai{a0:AV}{h:ag}{K:Out→ag→Bool}(hh:au Tryz.prog (ah Tryz.prog) (aj Tryz.f116) ⟨aF [a0],40,[],h⟩ (ay Tryz.prog cc Tryz.f116.results.toList K)=true):Sem Tryz.prog 116 [a0] h K:=
 aP mixed (aM _) Tryz.func116 (c:=aj Tryz.f116) rfl (by decide) (of_decide_eq_true (by kernel_rfl)) hh
noncomputable def F.dQ.L0:Code:=partOf (aj Tryz.f135) [1,1,0,1,0,0]
noncomputable def F.dQ.cy(K:Out→ag→Bool):AX→St→Bool:=(aX 0 (cI false (au Tryz.prog (ah Tryz.prog) (partOf (aj Tryz.f135) [1,1,1])) (ay Tryz.prog cc Tryz.f135.results.toList K)))
theorem F.dQ.aN{e:Env}{h:ag}{K:AX→St→Bool}:au Tryz.prog (ah Tryz.prog) F.dQ.L0 ⟨e,39,[],h⟩ K=(af (aJ .lss (e 23) (e 22)) fun x14=>let Q1:=(aa e 24 x14);ax x14 (af (jN (e 0) (e 23)) fun x15=>ah Tryz.prog 170 [x15] h (bJ (fun x16 h17=>af (ji .not x16) fun x20=>let Q2:=(aa (aa (aa (aa (aa (aa (aa (aa Q1 25 (e 23)) 3 (e 23)) 26 (e 0)) 27 (e 23)) 28 x15) 29 x16) 30 x20) 31 x20);ax x20 (af (jN (e 0) (e 23)) fun x21=>ah Tryz.prog 172 [x21] h17 (bJ (fun x22 h23=>af (ji .not x22) fun x26=>let Q3:=(aa (aa (aa (aa (aa (aa (aa (aa (aa (aa (aa Q2 31 (.bool true)) 32 (e 0)) 31 (.bool true)) 33 (e 23)) 31 (.bool true)) 34 x21) 31 (.bool true)) 35 x22) 31 (.bool true)) 36 x26) 37 x26);ax x26 (K .ret ⟨(aa Q3 2 (.bool false)),39,[],h23⟩) (af (aJ .add (e 23) (.int .i64 1)) fun x27=>K .normal ⟨(aa (aa Q3 38 x27) 23 x27),39,[],h23⟩)) (fun v24 h25=>K (.panic v24) ⟨(aa (aa (aa (aa (aa (aa (aa Q2 31 (.bool true)) 32 (e 0)) 31 (.bool true)) 33 (e 23)) 31 (.bool true)) 34 x21) 31 (.bool true)),39,[],h25⟩))) (af (aJ .add (e 23) (.int .i64 1)) fun x28=>K .normal ⟨(aa (aa (aa (aa (aa (aa (aa (aa (aa (aa (aa (aa (aa Q2 31 (.bool false)) 32 bD) 31 (.bool false)) 33 bD) 31 (.bool false)) 34 bD) 31 (.bool false)) 35 bD) 31 (.bool false)) 36 bD) 37 (.bool false)) 38 x28) 23 x28),39,[],h17⟩)) (fun v18 h19=>K (.panic v18) ⟨(aa (aa (aa (aa (aa Q1 25 (e 23)) 3 (e 23)) 26 (e 0)) 27 (e 23)) 28 x15),39,[],h19⟩))) (K (.exit 0) ⟨Q1,39,[],h⟩)):=by kernel_rfl
theorem F.dQ.aG{e:Env}{h:ag}{K:Out→ag→Bool}:F.dQ.cy K (.exit 0) ⟨e,39,[],h⟩=(K (.ret (.bool true)) h):=by kernel_rfl
theorem F.dQ.aZ{e:Env}{h:ag}{K:Out→ag→Bool}:F.dQ.cy K .ret ⟨e,39,[],h⟩=(K (.ret (e 2)) h):=by kernel_rfl
theorem F.BT{a0:AV}{h:ag}{K:Out→ag→Bool}:au Tryz.prog (ah Tryz.prog) (aj Tryz.f135) ⟨aF [a0],39,[],h⟩ (ay Tryz.prog cc Tryz.f135.results.toList K)=(af (iF .string a0 (.str [])) fun x0=>ax x0 (K (.ret (.bool false)) h) (af (bQ .str a0 h) fun x1=>af (aJ .gtr x1 (.int .i64 12)) fun x2=>ax x2 (K (.ret (.bool false)) h) (af (jN a0 (.int .i64 0)) fun x3=>ah Tryz.prog 170 [x3] h (bJ (fun x4 h5=>af (ji .not x4) fun x8=>ax x8 (K (.ret (.bool false)) h5) (ah Tryz.prog 171 [a0] h5 (bJ (fun x9 h10=>ax x9 (K (.ret (.bool false)) h10) (af (bQ .str a0 h10) fun x13=>bT (au Tryz.prog (ah Tryz.prog) F.dQ.L0) ⟨(aa (aa (aa (aa (aa (aa (aa (aa (aa (aa (aa (aa (aa (aa (aa (aa (aa (aa (aa (aa (aa (aa (aa (aa (aa (aa (aa (aa (aa (aa (aF [a0]) 2 (.bool false)) 4 a0) 5 x0) 6 x0) 6 (.bool false)) 7 a0) 6 (.bool false)) 8 x1) 6 (.bool false)) 9 x2) 10 x2) 11 x2) 11 (.bool false)) 12 a0) 11 (.bool false)) 13 x3) 11 (.bool false)) 14 x4) 11 (.bool false)) 15 x8) 16 x8) 17 x8) 17 (.bool false)) 18 a0) 17 (.bool false)) 19 x9) 20 x9) 21 a0) 22 x13) 23 (.int .i64 0)),39,[],h10⟩ (F.dQ.cy K))) (fun v11 h12=>K (.panic v11) h12)))) (fun v6 h7=>K (.panic v6) h7))))):=by kernel_rfl
theorem F.Aj{a0:AV}{h:ag}{K:Out→ag→Bool}(hh:au Tryz.prog (ah Tryz.prog) (aj Tryz.f135) ⟨aF [a0],39,[],h⟩ (ay Tryz.prog cc Tryz.f135.results.toList K)=true):Sem Tryz.prog 135 [a0] h K:=
 aP mixed (aM _) Tryz.func135 (c:=aj Tryz.f135) rfl (by decide) (of_decide_eq_true (by kernel_rfl)) hh
theorem F.yj{a0:AV}{h:ag}{K:Out→ag→Bool}:au Tryz.prog (ah Tryz.prog) (aj Tryz.f163) ⟨aF [a0],17,[],h⟩ (ay Tryz.prog cc Tryz.f163.results.toList K)=(af (aJ .geq a0 (.int .u8 97)) fun x0=>ax x0 (af (aJ .leq a0 (.int .u8 122)) fun x1=>ax x1 (K (.ret (.bool true)) h) (af (aJ .geq a0 (.int .u8 65)) fun x2=>ax x2 (af (aJ .leq a0 (.int .u8 90)) fun x3=>K (.ret x3) h) (K (.ret (.bool false)) h))) (af (aJ .geq a0 (.int .u8 65)) fun x4=>ax x4 (af (aJ .leq a0 (.int .u8 90)) fun x5=>K (.ret x5) h) (K (.ret (.bool false)) h))):=by kernel_rfl
theorem F.vX{a0:AV}{h:ag}{K:Out→ag→Bool}(hh:au Tryz.prog (ah Tryz.prog) (aj Tryz.f163) ⟨aF [a0],17,[],h⟩ (ay Tryz.prog cc Tryz.f163.results.toList K)=true):Sem Tryz.prog 163 [a0] h K:=
 aP mixed (aM _) Tryz.func163 (c:=aj Tryz.f163) rfl (by decide) (of_decide_eq_true (by kernel_rfl)) hh
theorem F.BU{a0:AV}{h:ag}{K:Out→ag→Bool}:au Tryz.prog (ah Tryz.prog) (aj Tryz.f164) ⟨aF [a0],16,[],h⟩ (ay Tryz.prog cc Tryz.f164.results.toList K)=(af (iF .string a0 (.str [97,110,100])) fun x0=>ax x0 (ax x0 (K (.ret (.bool true)) h) (K (.ret (.bool false)) h)) (af (iF .string a0 (.str [111,114])) fun x1=>ax x1 (ax x1 (K (.ret (.bool true)) h) (K (.ret (.bool false)) h)) (af (iF .string a0 (.str [110,111,116])) fun x2=>ax x2 (ax x2 (K (.ret (.bool true)) h) (K (.ret (.bool false)) h)) (af (iF .string a0 (.str [115,111,109,101])) fun x3=>ax x3 (ax x3 (K (.ret (.bool true)) h) (K (.ret (.bool false)) h)) (af (iF .string a0 (.str [97,108,108])) fun x4=>ax x4 (ax x4 (K (.ret (.bool true)) h) (K (.ret (.bool false)) h)) (af (iF .string a0 (.str [108,102,112])) fun x5=>ax x5 (ax x5 (K (.ret (.bool true)) h) (K (.ret (.bool false)) h)) (af (iF .string a0 (.str [112,102,112])) fun x6=>ax x6 (ax x6 (K (.ret (.bool true)) h) (K (.ret (.bool false)) h)) (af (iF .string a0 (.str [116,99])) fun x7=>ax x7 (ax x7 (K (.ret (.bool true)) h) (K (.ret (.bool false)) h)) (af (iF .string a0 (.str [101,120,105,115,116,115])) fun x8=>ax x8 (ax x8 (K (.ret (.bool true)) h) (K (.ret (.bool false)) h)) (af (iF .string a0 (.str [116,114,117,101])) fun x9=>ax x9 (ax x9 (K (.ret (.bool true)) h) (K (.ret (.bool false)) h)) (af (iF .string a0 (.str [102,97,108,115,101])) fun x10=>ax x10 (K (.ret (.bool true)) h) (K (.ret (.bool false)) h)))))))))))):=by kernel_rfl
theorem F.Ak{a0:AV}{h:ag}{K:Out→ag→Bool}(hh:au Tryz.prog (ah Tryz.prog) (aj Tryz.f164) ⟨aF [a0],16,[],h⟩ (ay Tryz.prog cc Tryz.f164.results.toList K)=true):Sem Tryz.prog 164 [a0] h K:=
 aP mixed (aM _) Tryz.func164 (c:=aj Tryz.f164) rfl (by decide) (of_decide_eq_true (by kernel_rfl)) hh
theorem F.Al{a0:AV}{h:ag}{K:Out→ag→Bool}:au Tryz.prog (ah Tryz.prog) (aj Tryz.f165) ⟨aF [a0],9,[],h⟩ (ay Tryz.prog cc Tryz.f165.results.toList K)=(af (aJ .geq a0 (.int .u8 48)) fun x0=>ax x0 (af (aJ .leq a0 (.int .u8 57)) fun x1=>K (.ret x1) h) (K (.ret (.bool false)) h)):=by kernel_rfl
theorem F.yl{a0:AV}{h:ag}{K:Out→ag→Bool}(hh:au Tryz.prog (ah Tryz.prog) (aj Tryz.f165) ⟨aF [a0],9,[],h⟩ (ay Tryz.prog cc Tryz.f165.results.toList K)=true):Sem Tryz.prog 165 [a0] h K:=
 aP mixed (aM _) Tryz.func165 (c:=aj Tryz.f165) rfl (by decide) (of_decide_eq_true (by kernel_rfl)) hh
noncomputable def F.dr.L0:Code:=partOf (aj Tryz.f73) [1,0,1,0,0]
noncomputable def F.dr.cy(K:Out→ag→Bool):AX→St→Bool:=(aX 0 (cI false (au Tryz.prog (ah Tryz.prog) (partOf (aj Tryz.f73) [1,1])) (ay Tryz.prog cc Tryz.f73.results.toList K)))
theorem F.dr.aN{e:Env}{h:ag}{K:AX→St→Bool}:au Tryz.prog (ah Tryz.prog) F.dr.L0 ⟨e,18,[],h⟩ K=(af (bQ .slice (e 0) h) fun x0=>af (aJ .lss (e 5) x0) fun x1=>let Q1:=(aa (aa (aa (aa e 6 (e 5)) 7 (e 0)) 8 x0) 9 x1);ax x1 (af (cS 1 (e 0) (e 5)) fun x2=>af (ai none x2 h) fun x3=>af (iF .string x3 (e 1)) fun x4=>let Q2:=(aa (aa (aa (aa (aa (aa Q1 12 (e 0)) 13 (e 5)) 14 x2) 15 x3) 16 (e 1)) 17 x4);ax x4 (K .ret ⟨(aa Q2 4 (.bool true)),18,[],h⟩) (af (aJ .add (e 5) (.int .i64 1)) fun x5=>K .normal ⟨(aa (aa (aa Q2 10 (e 5)) 11 x5) 5 x5),18,[],h⟩)) (K (.exit 0) ⟨Q1,18,[],h⟩)):=by kernel_rfl
theorem F.dr.aG{e:Env}{h:ag}{K:Out→ag→Bool}:F.dr.cy K (.exit 0) ⟨e,18,[],h⟩=(K (.ret (.bool false)) h):=by kernel_rfl
theorem F.dr.aZ{e:Env}{h:ag}{K:Out→ag→Bool}:F.dr.cy K .ret ⟨e,18,[],h⟩=(K (.ret (e 4)) h):=by kernel_rfl
theorem F.qR{a0 a1:AV}{h:ag}{K:Out→ag→Bool}:au Tryz.prog (ah Tryz.prog) (aj Tryz.f73) ⟨aF [a0,a1],18,[],h⟩ (ay Tryz.prog cc Tryz.f73.results.toList K)=(bT (au Tryz.prog (ah Tryz.prog) F.dr.L0) ⟨(aa (aa (aF [a0,a1]) 4 (.bool false)) 5 (.int .i64 0)),18,[],h⟩ (F.dr.cy K)):=by kernel_rfl
theorem F.p7{a0 a1:AV}{h:ag}{K:Out→ag→Bool}(hh:au Tryz.prog (ah Tryz.prog) (aj Tryz.f73) ⟨aF [a0,a1],18,[],h⟩ (ay Tryz.prog cc Tryz.f73.results.toList K)=true):Sem Tryz.prog 73 [a0,a1] h K:=
 aP mixed (aM _) Tryz.func73 (c:=aj Tryz.f73) rfl (by decide) (of_decide_eq_true (by kernel_rfl)) hh
theorem F.ym{a0:AV}{h:ag}{K:Out→ag→Bool}:au Tryz.prog (ah Tryz.prog) (aj Tryz.f170) ⟨aF [a0],17,[],h⟩ (ay Tryz.prog cc Tryz.f170.results.toList K)=(af (aJ .geq a0 (.int .u8 97)) fun x0=>ax x0 (af (aJ .leq a0 (.int .u8 122)) fun x1=>ax x1 (K (.ret (.bool true)) h) (af (aJ .geq a0 (.int .u8 65)) fun x2=>ax x2 (af (aJ .leq a0 (.int .u8 90)) fun x3=>K (.ret x3) h) (K (.ret (.bool false)) h))) (af (aJ .geq a0 (.int .u8 65)) fun x4=>ax x4 (af (aJ .leq a0 (.int .u8 90)) fun x5=>K (.ret x5) h) (K (.ret (.bool false)) h))):=by kernel_rfl
theorem F.vY{a0:AV}{h:ag}{K:Out→ag→Bool}(hh:au Tryz.prog (ah Tryz.prog) (aj Tryz.f170) ⟨aF [a0],17,[],h⟩ (ay Tryz.prog cc Tryz.f170.results.toList K)=true):Sem Tryz.prog 170 [a0] h K:=
 aP mixed (aM _) Tryz.func170 (c:=aj Tryz.f170) rfl (by decide) (of_decide_eq_true (by kernel_rfl)) hh
theorem F.BV{a0:AV}{h:ag}{K:Out→ag→Bool}:au Tryz.prog (ah Tryz.prog) (aj Tryz.f171) ⟨aF [a0],16,[],h⟩ (ay Tryz.prog cc Tryz.f171.results.toList K)=(af (iF .string a0 (.str [97,110,100])) fun x0=>ax x0 (ax x0 (K (.ret (.bool true)) h) (K (.ret (.bool false)) h)) (af (iF .string a0 (.str [111,114])) fun x1=>ax x1 (ax x1 (K (.ret (.bool true)) h) (K (.ret (.bool false)) h)) (af (iF .string a0 (.str [110,111,116])) fun x2=>ax x2 (ax x2 (K (.ret (.bool true)) h) (K (.ret (.bool false)) h)) (af (iF .string a0 (.str [115,111,109,101])) fun x3=>ax x3 (ax x3 (K (.ret (.bool true)) h) (K (.ret (.bool false)) h)) (af (iF .string a0 (.str [97,108,108])) fun x4=>ax x4 (ax x4 (K (.ret (.bool true)) h) (K (.ret (.bool false)) h)) (af (iF .string a0 (.str [108,102,112])) fun x5=>ax x5 (ax x5 (K (.ret (.bool true)) h) (K (.ret (.bool false)) h)) (af (iF .string a0 (.str [112,102,112])) fun x6=>ax x6 (ax x6 (K (.ret (.bool true)) h) (K (.ret (.bool false)) h)) (af (iF .string a0 (.str [116,99])) fun x7=>ax x7 (ax x7 (K (.ret (.bool true)) h) (K (.ret (.bool false)) h)) (af (iF .string a0 (.str [101,120,105,115,116,115])) fun x8=>ax x8 (ax x8 (K (.ret (.bool true)) h) (K (.ret (.bool false)) h)) (af (iF .string a0 (.str [116,114,117,101])) fun x9=>ax x9 (ax x9 (K (.ret (.bool true)) h) (K (.ret (.bool false)) h)) (af (iF .string a0 (.str [102,97,108,115,101])) fun x10=>ax x10 (K (.ret (.bool true)) h) (K (.ret (.bool false)) h)))))))))))):=by kernel_rfl
theorem F.Am{a0:AV}{h:ag}{K:Out→ag→Bool}(hh:au Tryz.prog (ah Tryz.prog) (aj Tryz.f171) ⟨aF [a0],16,[],h⟩ (ay Tryz.prog cc Tryz.f171.results.toList K)=true):Sem Tryz.prog 171 [a0] h K:=
 aP mixed (aM _) Tryz.func171 (c:=aj Tryz.f171) rfl (by decide) (of_decide_eq_true (by kernel_rfl)) hh
theorem F.An{a0:AV}{h:ag}{K:Out→ag→Bool}:au Tryz.prog (ah Tryz.prog) (aj Tryz.f172) ⟨aF [a0],9,[],h⟩ (ay Tryz.prog cc Tryz.f172.results.toList K)=(af (aJ .geq a0 (.int .u8 48)) fun x0=>ax x0 (af (aJ .leq a0 (.int .u8 57)) fun x1=>K (.ret x1) h) (K (.ret (.bool false)) h)):=by kernel_rfl
theorem F.yo{a0:AV}{h:ag}{K:Out→ag→Bool}(hh:au Tryz.prog (ah Tryz.prog) (aj Tryz.f172) ⟨aF [a0],9,[],h⟩ (ay Tryz.prog cc Tryz.f172.results.toList K)=true):Sem Tryz.prog 172 [a0] h K:=
 aP mixed (aM _) Tryz.func172 (c:=aj Tryz.f172) rfl (by decide) (of_decide_eq_true (by kernel_rfl)) hh
noncomputable def F.dX.L0:Code:=partOf (aj Tryz.f35) [1,1,0,1,0,0]
noncomputable def F.dX.cy(K:Out→ag→Bool):AX→St→Bool:=(aX 0 (cI false (au Tryz.prog (ah Tryz.prog) (partOf (aj Tryz.f35) [1,1,1])) (ay Tryz.prog cc Tryz.f35.results.toList K)))
theorem F.dX.aN{e:Env}{h:ag}{K:AX→St→Bool}:au Tryz.prog (ah Tryz.prog) F.dX.L0 ⟨e,26,[],h⟩ K=(af (bQ .slice (e 0) h) fun x3=>af (aJ .lss (e 5) x3) fun x4=>let Q1:=(aa (aa (aa (aa e 11 (e 5)) 12 (e 0)) 13 x3) 14 x4);ax x4 (af (cS 1 (e 0) (e 5)) fun x5=>af (ai none x5 h) fun x6=>af (cS 1 (e 1) (e 5)) fun x7=>af (ai none x7 h) fun x8=>af (nI (.int .i64) x6 x8) fun x9=>let Q2:=(aa (aa (aa (aa (aa (aa (aa (aa (aa Q1 17 (e 0)) 18 (e 5)) 19 x5) 20 x6) 21 (e 1)) 22 (e 5)) 23 x7) 24 x8) 25 x9);ax x9 (K .ret ⟨(aa Q2 4 (.bool false)),26,[],h⟩) (af (aJ .add (e 5) (.int .i64 1)) fun x10=>K .normal ⟨(aa (aa (aa Q2 15 (e 5)) 16 x10) 5 x10),26,[],h⟩)) (K (.exit 0) ⟨Q1,26,[],h⟩)):=by kernel_rfl
theorem F.dX.aG{e:Env}{h:ag}{K:Out→ag→Bool}:F.dX.cy K (.exit 0) ⟨e,26,[],h⟩=(K (.ret (.bool true)) h):=by kernel_rfl
theorem F.dX.aZ{e:Env}{h:ag}{K:Out→ag→Bool}:F.dX.cy K .ret ⟨e,26,[],h⟩=(K (.ret (e 4)) h):=by kernel_rfl
theorem F.Ao{a0 a1:AV}{h:ag}{K:Out→ag→Bool}:au Tryz.prog (ah Tryz.prog) (aj Tryz.f35) ⟨aF [a0,a1],26,[],h⟩ (ay Tryz.prog cc Tryz.f35.results.toList K)=(af (bQ .slice a0 h) fun x0=>af (bQ .slice a1 h) fun x1=>af (nI (.int .i64) x0 x1) fun x2=>ax x2 (K (.ret (.bool false)) h) (bT (au Tryz.prog (ah Tryz.prog) F.dX.L0) ⟨(aa (aa (aa (aa (aa (aa (aa (aF [a0,a1]) 4 (.bool false)) 6 a0) 7 x0) 8 a1) 9 x1) 10 x2) 5 (.int .i64 0)),26,[],h⟩ (F.dX.cy K))):=by kernel_rfl
theorem F.yp{a0 a1:AV}{h:ag}{K:Out→ag→Bool}(hh:au Tryz.prog (ah Tryz.prog) (aj Tryz.f35) ⟨aF [a0,a1],26,[],h⟩ (ay Tryz.prog cc Tryz.f35.results.toList K)=true):Sem Tryz.prog 35 [a0,a1] h K:=
 aP mixed (aM _) Tryz.func35 (c:=aj Tryz.f35) rfl (by decide) (of_decide_eq_true (by kernel_rfl)) hh
noncomputable def F.ej.L0:Code:=partOf (aj Tryz.f86) [1,1,0,0,0]
noncomputable def F.ej.cy(K:Out→ag→Bool):AX→St→Bool:=(aX 0 (cI false (au Tryz.prog (ah Tryz.prog) (partOf (aj Tryz.f86) [1,1,1])) (ay Tryz.prog cc Tryz.f86.results.toList K)))
theorem F.ej.aN{e:Env}{h:ag}{K:AX→St→Bool}:au Tryz.prog (ah Tryz.prog) F.ej.L0 ⟨e,45,[],h⟩ K=(af (bQ .slice (e 0) h) fun x0=>af (aJ .lss (e 5) x0) fun x1=>let Q1:=(aa (aa (aa (aa (aa e 6 (e 5)) 7 (e 0)) 8 x0) 9 x1) 10 x1);ax x1 (af (cS 1 (e 0) (e 5)) fun x2=>af (ai none x2 h) fun x3=>af (aJ .lss x3 (e 1)) fun x4=>let Q2:=(aa (aa (aa (aa (aa (aa (aa (aa (aa (aa (aa (aa (aa Q1 10 (.bool true)) 11 (e 0)) 10 (.bool true)) 12 (e 5)) 10 (.bool true)) 13 x2) 10 (.bool true)) 14 x3) 10 (.bool true)) 15 (e 1)) 10 (.bool true)) 16 x4) 17 x4);ax x4 (af (aJ .add (e 5) (.int .i64 1)) fun x5=>K .normal ⟨(aa (aa (aa Q2 18 (e 5)) 19 x5) 5 x5),45,[],h⟩) (K (.exit 0) ⟨Q2,45,[],h⟩)) (K (.exit 0) ⟨(aa (aa (aa (aa (aa (aa (aa (aa (aa (aa (aa (aa (aa Q1 10 (.bool false)) 11 bD) 10 (.bool false)) 12 bD) 10 (.bool false)) 13 bD) 10 (.bool false)) 14 bD) 10 (.bool false)) 15 bD) 10 (.bool false)) 16 bD) 17 (.bool false)),45,[],h⟩)):=by kernel_rfl
theorem F.ej.aG{e:Env}{h:ag}{K:Out→ag→Bool}:F.ej.cy K (.exit 0) ⟨e,45,[],h⟩=(af (bQ .slice (e 0) h) fun x6=>af (aJ .lss (e 5) x6) fun x7=>ax x7 (af (cS 1 (e 0) (e 5)) fun x8=>af (ai none x8 h) fun x9=>af (iF .string x9 (e 1)) fun x10=>ax x10 (K (.ret (e 0)) h) (af (fR [] [] []) fun c11=>af (gr (some 1) (e 0) none (some (e 5))) fun x12=>af (fR [(.str [])] [(0,1)] [(e 1)]) fun c13=>af (gr (some 1) (e 0) (some (e 5)) none) fun x14=>dg (cz 1 16 (.slice (ag.next h) 0 0 1) x12 (ag.alloc (ag.alloc h (.cells c11)) (.cells c13))) fun x15 h16=>dg (cz 1 16 x15 (.slice (ag.next (ag.alloc h (.cells c11))) 0 1 1) h16) fun x17 h18=>dg (cz 1 16 x17 x14 h18) fun x19 h20=>K (.ret x19) h20)) (af (fR [] [] []) fun c21=>af (gr (some 1) (e 0) none (some (e 5))) fun x22=>af (fR [(.str [])] [(0,1)] [(e 1)]) fun c23=>af (gr (some 1) (e 0) (some (e 5)) none) fun x24=>dg (cz 1 16 (.slice (ag.next h) 0 0 1) x22 (ag.alloc (ag.alloc h (.cells c21)) (.cells c23))) fun x25 h26=>dg (cz 1 16 x25 (.slice (ag.next (ag.alloc h (.cells c21))) 0 1 1) h26) fun x27 h28=>dg (cz 1 16 x27 x24 h28) fun x29 h30=>K (.ret x29) h30)):=by kernel_rfl
theorem F.yq{a0 a1:AV}{h:ag}{K:Out→ag→Bool}:au Tryz.prog (ah Tryz.prog) (aj Tryz.f86) ⟨aF [a0,a1],45,[],h⟩ (ay Tryz.prog cc Tryz.f86.results.toList K)=(bT (au Tryz.prog (ah Tryz.prog) F.ej.L0) ⟨(aa (aa (aF [a0,a1]) 4 .nils) 5 (.int .i64 0)),45,[],h⟩ (F.ej.cy K)):=by kernel_rfl
theorem F.vZ{a0 a1:AV}{h:ag}{K:Out→ag→Bool}(hh:au Tryz.prog (ah Tryz.prog) (aj Tryz.f86) ⟨aF [a0,a1],45,[],h⟩ (ay Tryz.prog cc Tryz.f86.results.toList K)=true):Sem Tryz.prog 86 [a0,a1] h K:=
 aP mixed (aM _) Tryz.func86 (c:=aj Tryz.f86) rfl (by decide) (of_decide_eq_true (by kernel_rfl)) hh
noncomputable def F.cM.L0:Code:=partOf (aj Tryz.f34) [1,1,0,1,0,0]
noncomputable def F.cM.cy(K:Out→ag→Bool):AX→St→Bool:=(aX 0 (cI false (au Tryz.prog (ah Tryz.prog) (partOf (aj Tryz.f34) [1,1,1])) (ay Tryz.prog cc Tryz.f34.results.toList K)))
theorem F.cM.aN{e:Env}{h:ag}{K:AX→St→Bool}:au Tryz.prog (ah Tryz.prog) F.cM.L0 ⟨e,20,[],h⟩ K=(af (bQ .slice (e 0) h) fun x0=>af (aJ .lss (e 4) x0) fun x1=>let Q1:=(aa (aa (aa (aa e 5 (e 4)) 6 (e 0)) 7 x0) 8 x1);ax x1 (af (cS 3 (e 0) (e 4)) fun x2=>af (bK 0 x2) fun x3=>af (bK 0 x3) fun x4=>af (ai none x4 h) fun x5=>ah Tryz.prog 86 [(e 3),x5] h (bJ (fun x6 h7=>af (aJ .add (e 4) (.int .i64 1)) fun x10=>K .normal ⟨(aa (aa (aa (aa (aa (aa (aa (aa (aa (aa (aa (aa Q1 11 (e 3)) 12 (e 0)) 13 (e 4)) 14 x2) 15 x3) 16 x4) 17 x5) 18 x6) 3 x6) 9 (e 4)) 10 x10) 4 x10),20,[],h7⟩) (fun v8 h9=>K (.panic v8) ⟨(aa (aa (aa (aa (aa (aa (aa Q1 11 (e 3)) 12 (e 0)) 13 (e 4)) 14 x2) 15 x3) 16 x4) 17 x5),20,[],h9⟩))) (K (.exit 0) ⟨Q1,20,[],h⟩)):=by kernel_rfl
theorem F.cM.aG{e:Env}{h:ag}{K:Out→ag→Bool}:F.cM.cy K (.exit 0) ⟨e,20,[],h⟩=(K (.ret (e 3)) h):=by kernel_rfl
theorem F.we{a0:AV}{h:ag}{K:Out→ag→Bool}:au Tryz.prog (ah Tryz.prog) (aj Tryz.f34) ⟨aF [a0],20,[],h⟩ (ay Tryz.prog cc Tryz.f34.results.toList K)=(bT (au Tryz.prog (ah Tryz.prog) F.cM.L0) ⟨(aa (aa (aa (aF [a0]) 2 .nils) 3 .nils) 4 (.int .i64 0)),20,[],h⟩ (F.cM.cy K)):=by kernel_rfl
theorem F.uZ{a0:AV}{h:ag}{K:Out→ag→Bool}(hh:au Tryz.prog (ah Tryz.prog) (aj Tryz.f34) ⟨aF [a0],20,[],h⟩ (ay Tryz.prog cc Tryz.f34.results.toList K)=true):Sem Tryz.prog 34 [a0] h K:=
 aP mixed (aM _) Tryz.func34 (c:=aj Tryz.f34) rfl (by decide) (of_decide_eq_true (by kernel_rfl)) hh
noncomputable def F.dL.L0:Code:=partOf (aj Tryz.f58) [1,0,1,0,0]
noncomputable def F.dL.cy(K:Out→ag→Bool):AX→St→Bool:=(aX 0 (cI false (au Tryz.prog (ah Tryz.prog) (partOf (aj Tryz.f58) [1,1])) (ay Tryz.prog cc Tryz.f58.results.toList K)))
theorem F.dL.aN{e:Env}{h:ag}{K:AX→St→Bool}:au Tryz.prog (ah Tryz.prog) F.dL.L0 ⟨e,19,[],h⟩ K=(af (bQ .slice (e 0) h) fun x0=>af (aJ .lss (e 5) x0) fun x1=>let Q1:=(aa (aa (aa (aa e 6 (e 5)) 7 (e 0)) 8 x0) 9 x1);ax x1 (af (cS 1 (e 0) (e 5)) fun x2=>af (ai none x2 h) fun x3=>af (iF .string x3 (e 1)) fun x4=>let Q2:=(aa (aa (aa (aa (aa (aa Q1 12 (e 0)) 13 (e 5)) 14 x2) 15 x3) 16 (e 1)) 17 x4);ax x4 (K .ret ⟨(aa (aa Q2 18 (e 5)) 4 (e 5)),19,[],h⟩) (af (aJ .add (e 5) (.int .i64 1)) fun x5=>K .normal ⟨(aa (aa (aa Q2 10 (e 5)) 11 x5) 5 x5),19,[],h⟩)) (K (.exit 0) ⟨Q1,19,[],h⟩)):=by kernel_rfl
theorem F.dL.aG{e:Env}{h:ag}{K:Out→ag→Bool}:F.dL.cy K (.exit 0) ⟨e,19,[],h⟩=(K (.ret (.int .i64 (-1))) h):=by kernel_rfl
theorem F.dL.aZ{e:Env}{h:ag}{K:Out→ag→Bool}:F.dL.cy K .ret ⟨e,19,[],h⟩=(K (.ret (e 4)) h):=by kernel_rfl
theorem F.Ap{a0 a1:AV}{h:ag}{K:Out→ag→Bool}:au Tryz.prog (ah Tryz.prog) (aj Tryz.f58) ⟨aF [a0,a1],19,[],h⟩ (ay Tryz.prog cc Tryz.f58.results.toList K)=(bT (au Tryz.prog (ah Tryz.prog) F.dL.L0) ⟨(aa (aa (aF [a0,a1]) 4 (.int .i64 0)) 5 (.int .i64 0)),19,[],h⟩ (F.dL.cy K)):=by kernel_rfl
theorem F.yt{a0 a1:AV}{h:ag}{K:Out→ag→Bool}(hh:au Tryz.prog (ah Tryz.prog) (aj Tryz.f58) ⟨aF [a0,a1],19,[],h⟩ (ay Tryz.prog cc Tryz.f58.results.toList K)=true):Sem Tryz.prog 58 [a0,a1] h K:=
 aP mixed (aM _) Tryz.func58 (c:=aj Tryz.f58) rfl (by decide) (of_decide_eq_true (by kernel_rfl)) hh
noncomputable def F.cC.L0:Code:=partOf (aj Tryz.f85) [1,1,0,1,0,0]
noncomputable def F.cC.cy(K:Out→ag→Bool):AX→St→Bool:=(aX 0 (cI false (au Tryz.prog (ah Tryz.prog) (partOf (aj Tryz.f85) [1,1,1])) (ay Tryz.prog cc Tryz.f85.results.toList K)))
noncomputable def F.cC.L1:Code:=partOf (aj Tryz.f85) [1,1,0,1,0,0,1,0,0,1,1,0,0]
noncomputable def F.cC.jT(K:AX→St→Bool):AX→St→Bool:=(aX 2 (aX 1 (cI false (au Tryz.prog (ah Tryz.prog) (partOf (aj Tryz.f85) [1,1,0,1,0,0,1,1])) K)))
theorem F.cC.aN{e:Env}{h:ag}{K:AX→St→Bool}:au Tryz.prog (ah Tryz.prog) F.cC.L0 ⟨e,63,[],h⟩ K=(af (bQ .slice (e 0) h) fun x0=>af (aJ .lss (e 4) x0) fun x1=>let Q1:=(aa (aa (aa (aa e 7 (e 4)) 8 (e 0)) 9 x0) 10 x1);ax x1 (af (cS 3 (e 0) (e 4)) fun x2=>af (bK 0 x2) fun x3=>af (bK 0 x3) fun x4=>af (ai none x4 h) fun x5=>af (cS 3 (e 0) (e 4)) fun x6=>af (bK 0 x6) fun x7=>af (bK 1 x7) fun x8=>af (ai none x8 h) fun x9=>af (bQ .slice x9 h) fun x10=>af (kJ [(.str []),(.int .i64 0)] [(0,1),(1,1)] [x5,x10]) fun x11=>af (fR [(.str []),(.int .i64 0)] [(0,2)] [x11]) fun c12=>dg (cz 2 24 (e 3) (.slice (ag.next h) 0 1 2) (ag.alloc h (.cells c12))) fun x13 h14=>bT (au Tryz.prog (ah Tryz.prog) F.cC.L1) ⟨(aa (aa (aa (aa (aa (aa (aa (aa (aa (aa (aa (aa (aa (aa (aa (aa (aa (aa (aa Q1 13 (e 3)) 14 (e 0)) 15 (e 4)) 16 x2) 17 x3) 18 x4) 19 x5) 20 (e 0)) 21 (e 4)) 22 x6) 23 x7) 24 x8) 25 x9) 26 x10) 27 x11) 28 (.slice (ag.next h) 0 1 2)) 29 x13) 3 x13) 5 (.int .i64 0)),63,[],h14⟩ (F.cC.jT K)) (K (.exit 0) ⟨Q1,63,[],h⟩)):=by kernel_rfl
theorem F.cC.aG{e:Env}{h:ag}{K:Out→ag→Bool}:F.cC.cy K (.exit 0) ⟨e,63,[],h⟩=(K (.ret (e 3)) h):=by kernel_rfl
theorem F.cC.dS{e:Env}{h:ag}{K:AX→St→Bool}:au Tryz.prog (ah Tryz.prog) F.cC.L1 ⟨e,63,[],h⟩ K=(af (cS 3 (e 0) (e 4)) fun x15=>af (bK 2 x15) fun x16=>af (ai none x16 h) fun x17=>af (bQ .slice x17 h) fun x18=>af (aJ .lss (e 5) x18) fun x19=>let Q1:=(aa (aa (aa (aa (aa (aa (aa (aa e 30 (e 5)) 31 (e 0)) 32 (e 4)) 33 x15) 34 x16) 35 x17) 36 x18) 37 x19);ax x19 (af (cS 3 (e 0) (e 4)) fun x20=>af (bK 2 x20) fun x21=>af (ai none x21 h) fun x22=>af (cS 4 x22 (e 5)) fun x23=>af (ai (some 4) x23 h) fun x24=>af (bL 4 (.ptr (ag.next h) 0) x24 (ag.alloc h (.cells [(.int .i64 0),(.bool false),(.str []),.nils]))) fun h25=>af (bK 0 (.ptr (ag.next h) 0)) fun x26=>af (ai none x26 h25) fun x27=>af (iF (.int .i64) x27 (.int .i64 0)) fun x28=>let Q2:=(aa (aa (aa (aa (aa (aa (aa (aa (aa (aa (aa (aa Q1 40 (e 0)) 41 (e 4)) 42 x20) 43 x21) 44 x22) 45 (e 5)) 46 x23) 47 x24) 6 (.ptr (ag.next h) 0)) 48 x26) 49 x27) 50 x28);ax x28 (af (bK 2 (.ptr (ag.next h) 0)) fun x29=>af (bK 0 x29) fun x30=>af (ai none x30 h25) fun x31=>af (bK 2 (.ptr (ag.next h) 0)) fun x32=>af (bK 1 x32) fun x33=>af (ai none x33 h25) fun x34=>af (bQ .slice x34 h25) fun x35=>af (kJ [(.str []),(.int .i64 0)] [(0,1),(1,1)] [x31,x35]) fun x36=>af (fR [(.str []),(.int .i64 0)] [(0,2)] [x36]) fun c37=>dg (cz 2 24 (e 3) (.slice (ag.next h25) 0 1 2) (ag.alloc h25 (.cells c37))) fun x38 h39=>af (aJ .add (e 5) (.int .i64 1)) fun x40=>K .normal ⟨(aa (aa (aa (aa (aa (aa (aa (aa (aa (aa (aa (aa (aa (aa (aa Q2 51 (e 3)) 52 x29) 53 x30) 54 x31) 55 x32) 56 x33) 57 x34) 58 x35) 59 x36) 60 (.slice (ag.next h25) 0 1 2)) 61 x38) 3 x38) 38 (e 5)) 39 x40) 5 x40),63,[],h39⟩) (af (aJ .add (e 5) (.int .i64 1)) fun x41=>K .normal ⟨(aa (aa (aa Q2 38 (e 5)) 39 x41) 5 x41),63,[],h25⟩)) (K (.exit 2) ⟨Q1,63,[],h⟩)):=by kernel_rfl
theorem F.cC.cG{e:Env}{h:ag}{K:AX→St→Bool}:F.cC.jT K (.exit 2) ⟨e,63,[],h⟩=(af (aJ .add (e 4) (.int .i64 1)) fun x42=>K .normal ⟨(aa (aa (aa e 11 (e 4)) 12 x42) 4 x42),63,[],h⟩):=by kernel_rfl
theorem F.Aq{a0:AV}{h:ag}{K:Out→ag→Bool}:au Tryz.prog (ah Tryz.prog) (aj Tryz.f85) ⟨aF [a0],63,[],h⟩ (ay Tryz.prog cc Tryz.f85.results.toList K)=(bT (au Tryz.prog (ah Tryz.prog) F.cC.L0) ⟨(aa (aa (aa (aF [a0]) 2 .nils) 3 .nils) 4 (.int .i64 0)),63,[],h⟩ (F.cC.cy K)):=by kernel_rfl
theorem F.yu{a0:AV}{h:ag}{K:Out→ag→Bool}(hh:au Tryz.prog (ah Tryz.prog) (aj Tryz.f85) ⟨aF [a0],63,[],h⟩ (ay Tryz.prog cc Tryz.f85.results.toList K)=true):Sem Tryz.prog 85 [a0] h K:=
 aP mixed (aM _) Tryz.func85 (c:=aj Tryz.f85) rfl (by decide) (of_decide_eq_true (by kernel_rfl)) hh
noncomputable def F.dM.L0:Code:=partOf (aj Tryz.f134) [1,0,1,0,0]
noncomputable def F.dM.cy(K:Out→ag→Bool):AX→St→Bool:=(aX 0 (cI false (au Tryz.prog (ah Tryz.prog) (partOf (aj Tryz.f134) [1,1])) (ay Tryz.prog cc Tryz.f134.results.toList K)))
theorem F.dM.aN{e:Env}{h:ag}{K:AX→St→Bool}:au Tryz.prog (ah Tryz.prog) F.dM.L0 ⟨e,19,[],h⟩ K=(af (bQ .slice (e 0) h) fun x0=>af (aJ .lss (e 3) x0) fun x1=>let Q1:=(aa (aa (aa (aa e 4 (e 3)) 5 (e 0)) 6 x0) 7 x1);ax x1 (af (cS 1 (e 0) (e 3)) fun x2=>af (ai none x2 h) fun x3=>ah Tryz.prog 116 [x3] h (bJ (fun x4 h5=>af (ji .not x4) fun x8=>let Q2:=(aa (aa (aa (aa (aa (aa Q1 10 (e 0)) 11 (e 3)) 12 x2) 13 x3) 14 x4) 15 x8);ax x8 (K .ret ⟨(aa Q2 2 (.bool false)),19,[],h5⟩) (af (aJ .add (e 3) (.int .i64 1)) fun x9=>K .normal ⟨(aa (aa (aa Q2 8 (e 3)) 9 x9) 3 x9),19,[],h5⟩)) (fun v6 h7=>K (.panic v6) ⟨(aa (aa (aa (aa Q1 10 (e 0)) 11 (e 3)) 12 x2) 13 x3),19,[],h7⟩))) (K (.exit 0) ⟨Q1,19,[],h⟩)):=by kernel_rfl
theorem F.dM.aG{e:Env}{h:ag}{K:Out→ag→Bool}:F.dM.cy K (.exit 0) ⟨e,19,[],h⟩=(af (bQ .slice (e 0) h) fun x10=>af (aJ .leq x10 (.int .i64 12)) fun x11=>K (.ret x11) h):=by kernel_rfl
theorem F.dM.aZ{e:Env}{h:ag}{K:Out→ag→Bool}:F.dM.cy K .ret ⟨e,19,[],h⟩=(K (.ret (e 2)) h):=by kernel_rfl
theorem F.Ar{a0:AV}{h:ag}{K:Out→ag→Bool}:au Tryz.prog (ah Tryz.prog) (aj Tryz.f134) ⟨aF [a0],19,[],h⟩ (ay Tryz.prog cc Tryz.f134.results.toList K)=(bT (au Tryz.prog (ah Tryz.prog) F.dM.L0) ⟨(aa (aa (aF [a0]) 2 (.bool false)) 3 (.int .i64 0)),19,[],h⟩ (F.dM.cy K)):=by kernel_rfl
theorem F.yw{a0:AV}{h:ag}{K:Out→ag→Bool}(hh:au Tryz.prog (ah Tryz.prog) (aj Tryz.f134) ⟨aF [a0],19,[],h⟩ (ay Tryz.prog cc Tryz.f134.results.toList K)=true):Sem Tryz.prog 134 [a0] h K:=
 aP mixed (aM _) Tryz.func134 (c:=aj Tryz.f134) rfl (by decide) (of_decide_eq_true (by kernel_rfl)) hh
theorem F.jc{a0 a1:AV}{h:ag}{K:Out→ag→Bool}:au Tryz.prog (ah Tryz.prog) (aj Tryz.f168) ⟨aF [a0,a1],9,[],h⟩ (ay Tryz.prog cc Tryz.f168.results.toList K)=(ah Tryz.prog 190 [a0,a1] h (bJ (fun x0 h1=>af (aJ .geq x0 (.int .i64 0)) fun x4=>K (.ret x4) h1) (fun v2 h3=>K (.panic v2) h3))):=by kernel_rfl
theorem F.iV{a0 a1:AV}{h:ag}{K:Out→ag→Bool}(hh:au Tryz.prog (ah Tryz.prog) (aj Tryz.f168) ⟨aF [a0,a1],9,[],h⟩ (ay Tryz.prog cc Tryz.f168.results.toList K)=true):Sem Tryz.prog 168 [a0,a1] h K:=
 aP mixed (aM _) Tryz.func168 (c:=aj Tryz.f168) rfl (by decide) (of_decide_eq_true (by kernel_rfl)) hh
noncomputable def F.bu.L0:Code:=partOf (aj Tryz.f190) [1,0,1,0,0]
noncomputable def F.bu.cy(K:Out→ag→Bool):AX→St→Bool:=(aX 0 (cI false (au Tryz.prog (ah Tryz.prog) (partOf (aj Tryz.f190) [1,1])) (ay Tryz.prog cc Tryz.f190.results.toList K)))
theorem F.bu.aN{e:Env}{h:ag}{K:AX→St→Bool}:au Tryz.prog (ah Tryz.prog) F.bu.L0 ⟨e,19,[],h⟩ K=(af (aJ .lss (e 8) (e 7)) fun x1=>let Q1:=(aa e 9 x1);ax x1 (af (cS 1 (e 0) (e 8)) fun x2=>af (ai none x2 h) fun x3=>pZ (e 1) fun f9 a10 a11=>ah Tryz.prog f9 (a10++([x3]++a11)) h (bJ (fun x4 h5=>let Q2:=(aa (aa (aa (aa (aa (aa (aa (aa Q1 10 (e 8)) 5 (e 8)) 11 (e 1)) 12 (e 0)) 13 (e 8)) 14 x2) 15 x3) 16 x4);ax x4 (K .ret ⟨(aa (aa Q2 17 (e 8)) 4 (e 8)),19,[],h5⟩) (af (aJ .add (e 8) (.int .i64 1)) fun x8=>K .normal ⟨(aa (aa Q2 18 x8) 8 x8),19,[],h5⟩)) (fun v6 h7=>K (.panic v6) ⟨(aa (aa (aa (aa (aa (aa (aa Q1 10 (e 8)) 5 (e 8)) 11 (e 1)) 12 (e 0)) 13 (e 8)) 14 x2) 15 x3),19,[],h7⟩))) (K (.exit 0) ⟨Q1,19,[],h⟩)):=by kernel_rfl
theorem F.bu.aG{e:Env}{h:ag}{K:Out→ag→Bool}:F.bu.cy K (.exit 0) ⟨e,19,[],h⟩=(K (.ret (.int .i64 (-1))) h):=by kernel_rfl
theorem F.bu.aZ{e:Env}{h:ag}{K:Out→ag→Bool}:F.bu.cy K .ret ⟨e,19,[],h⟩=(K (.ret (e 4)) h):=by kernel_rfl
theorem F.jJ{a0 a1:AV}{h:ag}{K:Out→ag→Bool}:au Tryz.prog (ah Tryz.prog) (aj Tryz.f190) ⟨aF [a0,a1],19,[],h⟩ (ay Tryz.prog cc Tryz.f190.results.toList K)=(af (bQ .slice a0 h) fun x0=>bT (au Tryz.prog (ah Tryz.prog) F.bu.L0) ⟨(aa (aa (aa (aa (aF [a0,a1]) 4 (.int .i64 0)) 6 a0) 7 x0) 8 (.int .i64 0)),19,[],h⟩ (F.bu.cy K)):=by kernel_rfl
theorem F.jD{a0 a1:AV}{h:ag}{K:Out→ag→Bool}(hh:au Tryz.prog (ah Tryz.prog) (aj Tryz.f190) ⟨aF [a0,a1],19,[],h⟩ (ay Tryz.prog cc Tryz.f190.results.toList K)=true):Sem Tryz.prog 190 [a0,a1] h K:=
 aP mixed (aM _) Tryz.func190 (c:=aj Tryz.f190) rfl (by decide) (of_decide_eq_true (by kernel_rfl)) hh
theorem F.jU{a0 a1:AV}{h:ag}{K:Out→ag→Bool}:au Tryz.prog (ah Tryz.prog) (aj Tryz.f155) ⟨aF [a0,a1],9,[],h⟩ (ay Tryz.prog cc Tryz.f155.results.toList K)=(ah Tryz.prog 157 [a0,a1] h (bJ (fun x0 h1=>af (aJ .geq x0 (.int .i64 0)) fun x4=>K (.ret x4) h1) (fun v2 h3=>K (.panic v2) h3))):=by kernel_rfl
theorem F.jK{a0 a1:AV}{h:ag}{K:Out→ag→Bool}(hh:au Tryz.prog (ah Tryz.prog) (aj Tryz.f155) ⟨aF [a0,a1],9,[],h⟩ (ay Tryz.prog cc Tryz.f155.results.toList K)=true):Sem Tryz.prog 155 [a0,a1] h K:=
 aP mixed (aM _) Tryz.func155 (c:=aj Tryz.f155) rfl (by decide) (of_decide_eq_true (by kernel_rfl)) hh
noncomputable def F.bz.L0:Code:=partOf (aj Tryz.f157) [1,0,1,0,0]
noncomputable def F.bz.cy(K:Out→ag→Bool):AX→St→Bool:=(aX 0 (cI false (au Tryz.prog (ah Tryz.prog) (partOf (aj Tryz.f157) [1,1])) (ay Tryz.prog cc Tryz.f157.results.toList K)))
theorem F.bz.aN{e:Env}{h:ag}{K:AX→St→Bool}:au Tryz.prog (ah Tryz.prog) F.bz.L0 ⟨e,19,[],h⟩ K=(af (aJ .lss (e 8) (e 7)) fun x1=>ax x1 (af (cS 1 (e 0) (e 8)) fun x2=>af (ai none x2 h) fun x3=>af (iF .string (e 1) x3) fun x4=>let Q1:=(aa (aa (aa (aa (aa (aa (aa (aa (aa e 9 x1) 10 (e 8)) 5 (e 8)) 11 (e 1)) 12 (e 0)) 13 (e 8)) 14 x2) 15 x3) 16 x4);ax x4 (K .ret ⟨(aa (aa Q1 17 (e 8)) 4 (e 8)),19,[],h⟩) (af (aJ .add (e 8) (.int .i64 1)) fun x5=>K .normal ⟨(aa (aa Q1 18 x5) 8 x5),19,[],h⟩)) (K (.exit 0) ⟨(aa e 9 x1),19,[],h⟩)):=by kernel_rfl
theorem F.bz.aG{e:Env}{h:ag}{K:Out→ag→Bool}:F.bz.cy K (.exit 0) ⟨e,19,[],h⟩=(K (.ret (.int .i64 (-1))) h):=by kernel_rfl
theorem F.bz.aZ{e:Env}{h:ag}{K:Out→ag→Bool}:F.bz.cy K .ret ⟨e,19,[],h⟩=(K (.ret (e 4)) h):=by kernel_rfl
theorem F.gX{a0 a1:AV}{h:ag}{K:Out→ag→Bool}:au Tryz.prog (ah Tryz.prog) (aj Tryz.f157) ⟨aF [a0,a1],19,[],h⟩ (ay Tryz.prog cc Tryz.f157.results.toList K)=(af (bQ .slice a0 h) fun x0=>bT (au Tryz.prog (ah Tryz.prog) F.bz.L0) ⟨(aa (aa (aa (aa (aF [a0,a1]) 4 (.int .i64 0)) 6 a0) 7 x0) 8 (.int .i64 0)),19,[],h⟩ (F.bz.cy K)):=by kernel_rfl
theorem F.gN{a0 a1:AV}{h:ag}{K:Out→ag→Bool}(hh:au Tryz.prog (ah Tryz.prog) (aj Tryz.f157) ⟨aF [a0,a1],19,[],h⟩ (ay Tryz.prog cc Tryz.f157.results.toList K)=true):Sem Tryz.prog 157 [a0,a1] h K:=
 aP mixed (aM _) Tryz.func157 (c:=aj Tryz.f157) rfl (by decide) (of_decide_eq_true (by kernel_rfl)) hh
theorem F.yx{a0:AV}{h:ag}{K:Out→ag→Bool}:au Tryz.prog (ah Tryz.prog) (aj Tryz.f169) ⟨aF [a0],6,[],h⟩ (ay Tryz.prog cc Tryz.f169.results.toList K)=(ah Tryz.prog 135 [a0] h (bJ (fun x0 h1=>af (ji .not x0) fun x4=>K (.ret x4) h1) (fun v2 h3=>K (.panic v2) h3))):=by kernel_rfl
theorem F.wg{a0:AV}{h:ag}{K:Out→ag→Bool}(hh:au Tryz.prog (ah Tryz.prog) (aj Tryz.f169) ⟨aF [a0],6,[],h⟩ (ay Tryz.prog cc Tryz.f169.results.toList K)=true):Sem Tryz.prog 169 [a0] h K:=
 aP mixed (aM _) Tryz.func169 (c:=aj Tryz.f169) rfl (by decide) (of_decide_eq_true (by kernel_rfl)) hh
noncomputable def F.dK.L0:Code:=partOf (aj Tryz.f154) [1,0,0]
noncomputable def F.dK.cy(K:Out→ag→Bool):AX→St→Bool:=(aX 0 (ay Tryz.prog cc Tryz.f154.results.toList K))
theorem F.dK.aN{e:Env}{h:ag}{K:AX→St→Bool}:au Tryz.prog (ah Tryz.prog) F.dK.L0 ⟨e,20,[],h⟩ K=(af (aJ .lss (e 7) (e 6)) fun x1=>let Q1:=(aa e 8 x1);ax x1 (af (cS 1 (e 5) (e 7)) fun x2=>af (ai none x2 h) fun x3=>af (ai none (e 1) h) fun x4=>ah Tryz.prog 155 [x4,x3] h (bJ (fun x5 h6=>af (ji .not x5) fun x9=>let Q2:=(aa (aa (aa (aa (aa (aa (aa Q1 9 x2) 10 x3) 4 x3) 11 x4) 12 x3) 13 x5) 14 x9);ax x9 (af (ai none (e 1) h6) fun x10=>af (fR [(.str [])] [(0,1)] [x3]) fun c11=>dg (cz 1 16 x10 (.slice (ag.next h6) 0 1 1) (ag.alloc h6 (.cells c11))) fun x12 h13=>af (bL 1 (e 1) x12 h13) fun h14=>af (aJ .add (e 7) (.int .i64 1)) fun x15=>K .normal ⟨(aa (aa (aa (aa (aa (aa Q2 15 x10) 16 x3) 17 (.slice (ag.next h6) 0 1 1)) 18 x12) 19 x15) 7 x15),20,[],h14⟩) (af (aJ .add (e 7) (.int .i64 1)) fun x16=>K .normal ⟨(aa (aa Q2 19 x16) 7 x16),20,[],h6⟩)) (fun v7 h8=>K (.panic v7) ⟨(aa (aa (aa (aa (aa Q1 9 x2) 10 x3) 4 x3) 11 x4) 12 x3),20,[],h8⟩))) (K (.exit 0) ⟨Q1,20,[],h⟩)):=by kernel_rfl
theorem F.dK.aG{e:Env}{h:ag}{K:Out→ag→Bool}:F.dK.cy K (.exit 0) ⟨e,20,[],h⟩=(K (.ret (.tuple [])) h):=by kernel_rfl
theorem F.qS{a0 a1:AV}{h:ag}{K:Out→ag→Bool}:au Tryz.prog (ah Tryz.prog) (aj Tryz.f154) ⟨aF [a0,a1],20,[],h⟩ (ay Tryz.prog cc Tryz.f154.results.toList K)=(af (bQ .slice a0 h) fun x0=>bT (au Tryz.prog (ah Tryz.prog) F.dK.L0) ⟨(aa (aa (aa (aF [a0,a1]) 5 a0) 6 x0) 7 (.int .i64 0)),20,[],h⟩ (F.dK.cy K)):=by kernel_rfl
theorem F.qh{a0 a1:AV}{h:ag}{K:Out→ag→Bool}(hh:au Tryz.prog (ah Tryz.prog) (aj Tryz.f154) ⟨aF [a0,a1],20,[],h⟩ (ay Tryz.prog cc Tryz.f154.results.toList K)=true):Sem Tryz.prog 154 [a0,a1] h K:=
 aP mixed (aM _) Tryz.func154 (c:=aj Tryz.f154) rfl (by decide) (of_decide_eq_true (by kernel_rfl)) hh
theorem F.BW{a0:AV}{h:ag}{K:Out→ag→Bool}:au Tryz.prog (ah Tryz.prog) (aj Tryz.f130) ⟨aF [a0],18,[],h⟩ (ay Tryz.prog cc Tryz.f130.results.toList K)=(af (ew a0) fun c0=>af (bK 0 (.ptr (ag.next h) 0)) fun x1=>af (ai none x1 (ag.alloc h (.cells c0))) fun x2=>ah Tryz.prog 135 [x2] (ag.alloc h (.cells c0)) (bJ (fun x3 h4=>ax x3 (af (bK 1 (.ptr (ag.next h) 0)) fun x7=>af (ai none x7 h4) fun x8=>af (bQ .slice x8 h4) fun x9=>af (aJ .leq x9 (.int .i64 12)) fun x10=>ax x10 (af (bK 1 (.ptr (ag.next h) 0)) fun x11=>af (ai none x11 h4) fun x12=>ah Tryz.prog 168 [x12,(.func 169 [] [])] h4 (bJ (fun x13 h14=>af (ji .not x13) fun x17=>K (.ret x17) h14) (fun v15 h16=>K (.panic v15) h16))) (K (.ret (.bool false)) h4)) (K (.ret (.bool false)) h4)) (fun v5 h6=>K (.panic v5) h6))):=by kernel_rfl
theorem F.As{a0:AV}{h:ag}{K:Out→ag→Bool}(hh:au Tryz.prog (ah Tryz.prog) (aj Tryz.f130) ⟨aF [a0],18,[],h⟩ (ay Tryz.prog cc Tryz.f130.results.toList K)=true):Sem Tryz.prog 130 [a0] h K:=
 aP mixed (aM _) Tryz.func130 (c:=aj Tryz.f130) rfl (by decide) (of_decide_eq_true (by kernel_rfl)) hh
theorem F.pg{a0 a1:AV}{h:ag}{K:Out→ag→Bool}:au Tryz.prog (ah Tryz.prog) (aj Tryz.f131) ⟨aF [a0,a1],35,[],h⟩ (ay Tryz.prog cc Tryz.f131.results.toList K)=(af (ew a1) fun c0=>af (b6 a0) fun x1=>af (bK 1 x1) fun x2=>af (ai none x2 (ag.alloc h (.cells c0))) fun x3=>af (bK 0 (.ptr (ag.next h) 0)) fun x4=>af (ai none x4 (ag.alloc h (.cells c0))) fun x5=>af (ei .string (.int .i64 0) true x3 x5 (ag.alloc h (.cells c0))) fun x6=>af (cj x6 0) fun x7=>af (cj x6 1) fun x8=>af (b6 a0) fun x9=>af (bK 1 x9) fun x10=>af (ai none x10 (ag.alloc h (.cells c0))) fun x11=>af (bK 0 (.ptr (ag.next h) 0)) fun x12=>af (ai none x12 (ag.alloc h (.cells c0))) fun x13=>af (bK 1 (.ptr (ag.next h) 0)) fun x14=>af (ai none x14 (ag.alloc h (.cells c0))) fun x15=>af (bQ .slice x15 (ag.alloc h (.cells c0))) fun x16=>af (eF .string x11 x13 x16 (ag.alloc h (.cells c0))) fun h17=>af (ji .not x8) fun x18=>ax x18 (K (.ret (.bool true)) h17) (af (bK 1 (.ptr (ag.next h) 0)) fun x19=>af (ai none x19 h17) fun x20=>af (bQ .slice x20 h17) fun x21=>af (iF (.int .i64) x7 x21) fun x22=>K (.ret x22) h17)):=by kernel_rfl
theorem F.og{a0 a1:AV}{h:ag}{K:Out→ag→Bool}(hh:au Tryz.prog (ah Tryz.prog) (aj Tryz.f131) ⟨aF [a0,a1],35,[],h⟩ (ay Tryz.prog cc Tryz.f131.results.toList K)=true):Sem Tryz.prog 131 [a0,a1] h K:=
 aP mixed (aM _) Tryz.func131 (c:=aj Tryz.f131) rfl (by decide) (of_decide_eq_true (by kernel_rfl)) hh
noncomputable def F.cV.L0:Code:=partOf (aj Tryz.f108) [1,1,1,1,0,1,0,0]
noncomputable def F.cV.cy(K:Out→ag→Bool):AX→St→Bool:=(aX 0 (cI false (au Tryz.prog (ah Tryz.prog) (partOf (aj Tryz.f108) [1,1,1,1,1])) (ay Tryz.prog cc Tryz.f108.results.toList K)))
theorem F.cV.aN{e:Env}{h:ag}{K:AX→St→Bool}:au Tryz.prog (ah Tryz.prog) F.cV.L0 ⟨e,27,[],h⟩ K=(af (aJ .lss (e 16) (e 15)) fun x11=>ax x11 (af (cS 4 (e 14) (e 16)) fun x12=>af (ai (some 4) x12 h) fun x13=>af (bL 4 (.ptr (ag.next h) 0) x13 (ag.alloc h (.cells [(.int .i64 0),(.bool false),(.str []),.nils]))) fun h14=>af (bK 2 (.ptr (ag.next h) 0)) fun x15=>af (bK 1 x15) fun x16=>af (ai none x16 h14) fun x17=>pZ (e 4) fun f23 a24 a25=>ah Tryz.prog f23 (a24++([x17]++a25)) h14 (bJ (fun x18 h19=>af (aJ .add (e 16) (.int .i64 1)) fun x22=>K .normal ⟨(aa (aa (aa (aa (aa (aa (aa (aa (aa (aa (aa e 17 x11) 18 x12) 19 x13) 6 (.ptr (ag.next h) 0)) 20 (e 4)) 21 x15) 22 x16) 23 x17) 24 x18) 25 x22) 16 x22),27,[],h19⟩) (fun v20 h21=>K (.panic v20) ⟨(aa (aa (aa (aa (aa (aa (aa (aa e 17 x11) 18 x12) 19 x13) 6 (.ptr (ag.next h) 0)) 20 (e 4)) 21 x15) 22 x16) 23 x17),27,[],h21⟩))) (K (.exit 0) ⟨(aa e 17 x11),27,[],h⟩)):=by kernel_rfl
theorem F.cV.aG{e:Env}{h:ag}{K:Out→ag→Bool}:F.cV.cy K (.exit 0) ⟨e,27,[],h⟩=(af (ai none (e 3) h) fun x26=>K (.ret x26) h):=by kernel_rfl
theorem F.tW{a0:AV}{h:ag}{K:Out→ag→Bool}:au Tryz.prog (ah Tryz.prog) (aj Tryz.f108) ⟨aF [a0],27,[],h⟩ (ay Tryz.prog cc Tryz.f108.results.toList K)=(af (ew a0) fun c0=>af (bK 0 (.ptr (ag.next h) 0)) fun x1=>af (bK 1 x1) fun x2=>af (ai none x2 (ag.alloc (ag.alloc h (.cells c0)) (.cells [.nils]))) fun x3=>ah Tryz.prog 154 [x3,(.ptr (ag.next (ag.alloc h (.cells c0))) 0)] (ag.alloc (ag.alloc h (.cells c0)) (.cells [.nils])) (bJ (fun x4 h5=>af (bK 2 (.ptr (ag.next h) 0)) fun x8=>af (ai none x8 h5) fun x9=>af (bQ .slice x9 h5) fun x10=>bT (au Tryz.prog (ah Tryz.prog) F.cV.L0) ⟨(aa (aa (aa (aa (aa (aa (aa (aa (aa (aa (aa (aa (aa (aa (aF [a0]) 1 (.ptr (ag.next h) 0)) 2 .nils) 3 (.ptr (ag.next (ag.alloc h (.cells c0))) 0)) 7 (.func 154 [] [(.ptr (ag.next (ag.alloc h (.cells c0))) 0)])) 4 (.func 154 [] [(.ptr (ag.next (ag.alloc h (.cells c0))) 0)])) 8 (.func 154 [] [(.ptr (ag.next (ag.alloc h (.cells c0))) 0)])) 9 x1) 10 x2) 11 x3) 12 x4) 13 x8) 14 x9) 15 x10) 16 (.int .i64 0)),27,[],h5⟩ (F.cV.cy K)) (fun v6 h7=>K (.panic v6) h7))):=by kernel_rfl
theorem F.sR{a0:AV}{h:ag}{K:Out→ag→Bool}(hh:au Tryz.prog (ah Tryz.prog) (aj Tryz.f108) ⟨aF [a0],27,[],h⟩ (ay Tryz.prog cc Tryz.f108.results.toList K)=true):Sem Tryz.prog 108 [a0] h K:=
 aP mixed (aM _) Tryz.func108 (c:=aj Tryz.f108) rfl (by decide) (of_decide_eq_true (by kernel_rfl)) hh
noncomputable def F.fF.J0(K:Out→ag→Bool)(s:St):Bool:=IN (au Tryz.prog (ah Tryz.prog) (partOf (aj Tryz.f132) [1,0,1,0,1,1,1])) s (aX 0 (cI false (au Tryz.prog (ah Tryz.prog) (partOf (aj Tryz.f132) [1,1])) (ay Tryz.prog cc Tryz.f132.results.toList K)))
theorem F.fF.Au{e:Env}{h:ag}{K:Out→ag→Bool}:F.fF.J0 K ⟨e,40,[],h⟩=(ax (e 10) (af (bK 2 (e 1)) fun x12=>af (bK 0 x12) fun x13=>af (ai none x13 h) fun x14=>af (iF .string x14 (.str [])) fun x15=>ax x15 (af (bK 2 (e 1)) fun x16=>af (bK 1 x16) fun x17=>af (ai none x17 h) fun x18=>af (bQ .slice x18 h) fun x19=>af (iF (.int .i64) x19 (.int .i64 2)) fun x20=>ax x20 (af (bK 2 (e 1)) fun x21=>af (bK 1 x21) fun x22=>af (ai none x22 h) fun x23=>af (cS 1 x23 (.int .i64 0)) fun x24=>af (ai none x24 h) fun x25=>ah Tryz.prog 135 [x25] h (bJ (fun x26 h27=>ax x26 (af (bK 2 (e 1)) fun x30=>af (bK 1 x30) fun x31=>af (ai none x31 h27) fun x32=>af (cS 1 x32 (.int .i64 1)) fun x33=>af (ai none x33 h27) fun x34=>ah Tryz.prog 135 [x34] h27 (bJ (fun x35 h36=>K (.ret x35) h36) (fun v37 h38=>K (.panic v37) h38))) (K (.ret (.bool false)) h27)) (fun v28 h29=>K (.panic v28) h29))) (K (.ret (.bool false)) h)) (K (.ret (.bool false)) h)) (K (.ret (.bool false)) h)):=(uT _ _ _).trans (by kernel_rfl)
theorem F.tX{a0:AV}{h:ag}{K:Out→ag→Bool}:au Tryz.prog (ah Tryz.prog) (aj Tryz.f132) ⟨aF [a0],40,[],h⟩ (ay Tryz.prog cc Tryz.f132.results.toList K)=(af (ew a0) fun c0=>af (bK 0 (.ptr (ag.next h) 0)) fun x1=>af (ai none x1 (ag.alloc h (.cells c0))) fun x2=>af (iF (.int .i64) x2 (.int .i64 0)) fun x3=>let Q1:=(aa (aa (aa (aa (aa (aa (aF [a0]) 1 (.ptr (ag.next h) 0)) 2 (.bool false)) 3 x1) 4 x2) 6 x3) 5 x3);ax x3 (af (bK 2 (.ptr (ag.next h) 0)) fun x4=>af (ai (some 2) x4 (ag.alloc h (.cells c0))) fun x5=>ah Tryz.prog 130 [x5] (ag.alloc h (.cells c0)) (bJ (fun x6 h7=>K (.ret x6) h7) (fun v8 h9=>K (.panic v8) h9))) (af (iF (.int .i64) x2 (.int .i64 1)) fun x10=>ax x10 (F.fF.J0 K ⟨(aa (aa Q1 11 x10) 10 x10),40,[],(ag.alloc h (.cells c0))⟩) (af (iF (.int .i64) x2 (.int .i64 2)) fun x11=>F.fF.J0 K ⟨(aa (aa (aa (aa Q1 11 x10) 10 x10) 12 x11) 10 x11),40,[],(ag.alloc h (.cells c0))⟩))):=by kernel_rfl
theorem F.sU{a0:AV}{h:ag}{K:Out→ag→Bool}(hh:au Tryz.prog (ah Tryz.prog) (aj Tryz.f132) ⟨aF [a0],40,[],h⟩ (ay Tryz.prog cc Tryz.f132.results.toList K)=true):Sem Tryz.prog 132 [a0] h K:=
 aP mixed (aM _) Tryz.func132 (c:=aj Tryz.f132) rfl (by decide) (of_decide_eq_true (by kernel_rfl)) hh
noncomputable def F.bH.L0:Code:=partOf (aj Tryz.f44) [1,1,0,1,0,0]
noncomputable def F.bH.cy(K:Out→ag→Bool):AX→St→Bool:=(aX 0 (cI false (au Tryz.prog (ah Tryz.prog) (partOf (aj Tryz.f44) [1,1,1])) (ay Tryz.prog cc Tryz.f44.results.toList K)))
noncomputable def F.bH.L1:Code:=partOf (aj Tryz.f44) [1,1,1,1,0,1,0,0]
noncomputable def F.bH.jT(K:Out→ag→Bool):AX→St→Bool:=(aX 2 (cI false (au Tryz.prog (ah Tryz.prog) (partOf (aj Tryz.f44) [1,1,1,1,1])) (ay Tryz.prog cc Tryz.f44.results.toList K)))
theorem F.bH.aN{e:Env}{h:ag}{K:AX→St→Bool}:au Tryz.prog (ah Tryz.prog) F.bH.L0 ⟨e,49,[],h⟩ K=(af (bK 2 (e 1)) fun x7=>af (ai none x7 h) fun x8=>af (bQ .slice x8 h) fun x9=>af (aJ .lss (e 4) x9) fun x10=>let Q1:=(aa (aa (aa (aa (aa e 12 (e 4)) 13 x7) 14 x8) 15 x9) 16 x10);ax x10 (af (bK 2 (e 1)) fun x11=>af (ai none x11 h) fun x12=>af (cS 4 x12 (e 4)) fun x13=>af (bK 2 x13) fun x14=>af (bK 1 x14) fun x15=>af (ai none x15 h) fun x16=>dg (cz 1 16 (e 3) x16 h) fun x17 h18=>af (aJ .add (e 4) (.int .i64 1)) fun x19=>K .normal ⟨(aa (aa (aa (aa (aa (aa (aa (aa (aa (aa (aa (aa (aa Q1 19 (e 3)) 20 x11) 21 x12) 22 (e 4)) 23 x13) 24 x14) 25 x15) 26 x16) 27 x17) 3 x17) 17 (e 4)) 18 x19) 4 x19),49,[],h18⟩) (K (.exit 0) ⟨Q1,49,[],h⟩)):=by kernel_rfl
theorem F.bH.aG{e:Env}{h:ag}{K:Out→ag→Bool}:F.bH.cy K (.exit 0) ⟨e,49,[],h⟩=(bT (au Tryz.prog (ah Tryz.prog) F.bH.L1) ⟨(aa (aa e 5 .nils) 6 (.int .i64 0)),49,[],h⟩ (F.bH.jT K)):=by kernel_rfl
theorem F.bH.dS{e:Env}{h:ag}{K:AX→St→Bool}:au Tryz.prog (ah Tryz.prog) F.bH.L1 ⟨e,49,[],h⟩ K=(af (bQ .slice (e 3) h) fun x20=>af (aJ .lss (e 6) x20) fun x21=>let Q1:=(aa (aa (aa (aa e 28 (e 6)) 29 (e 3)) 30 x20) 31 x21);ax x21 (af (cS 1 (e 3) (e 6)) fun x22=>af (ai none x22 h) fun x23=>ah Tryz.prog 73 [(e 5),x23] h (bJ (fun x24 h25=>af (ji .not x24) fun x28=>let Q2:=(aa (aa (aa (aa (aa (aa (aa Q1 34 (e 5)) 35 (e 3)) 36 (e 6)) 37 x22) 38 x23) 39 x24) 40 x28);ax x28 (af (cS 1 (e 3) (e 6)) fun x29=>af (ai none x29 h25) fun x30=>af (fR [(.str [])] [(0,1)] [x30]) fun c31=>dg (cz 1 16 (e 5) (.slice (ag.next h25) 0 1 1) (ag.alloc h25 (.cells c31))) fun x32 h33=>af (aJ .add (e 6) (.int .i64 1)) fun x34=>K .normal ⟨(aa (aa (aa (aa (aa (aa (aa (aa (aa (aa (aa Q2 41 (e 5)) 42 (e 3)) 43 (e 6)) 44 x29) 45 x30) 46 (.slice (ag.next h25) 0 1 1)) 47 x32) 5 x32) 32 (e 6)) 33 x34) 6 x34),49,[],h33⟩) (af (aJ .add (e 6) (.int .i64 1)) fun x35=>K .normal ⟨(aa (aa (aa Q2 32 (e 6)) 33 x35) 6 x35),49,[],h25⟩)) (fun v26 h27=>K (.panic v26) ⟨(aa (aa (aa (aa (aa Q1 34 (e 5)) 35 (e 3)) 36 (e 6)) 37 x22) 38 x23),49,[],h27⟩))) (K (.exit 2) ⟨Q1,49,[],h⟩)):=by kernel_rfl
theorem F.bH.cG{e:Env}{h:ag}{K:Out→ag→Bool}:F.bH.jT K (.exit 2) ⟨e,49,[],h⟩=(K (.ret (e 5)) h):=by kernel_rfl
theorem F.tY{a0:AV}{h:ag}{K:Out→ag→Bool}:au Tryz.prog (ah Tryz.prog) (aj Tryz.f44) ⟨aF [a0],49,[],h⟩ (ay Tryz.prog cc Tryz.f44.results.toList K)=(af (ew a0) fun c0=>af (fR [] [] []) fun c1=>af (bK 0 (.ptr (ag.next h) 0)) fun x2=>af (bK 1 x2) fun x3=>af (ai none x3 (ag.alloc (ag.alloc h (.cells c0)) (.cells c1))) fun x4=>dg (cz 1 16 (.slice (ag.next (ag.alloc h (.cells c0))) 0 0 1) x4 (ag.alloc (ag.alloc h (.cells c0)) (.cells c1))) fun x5 h6=>bT (au Tryz.prog (ah Tryz.prog) F.bH.L0) ⟨(aa (aa (aa (aa (aa (aa (aa (aa (aa (aF [a0]) 1 (.ptr (ag.next h) 0)) 2 .nils) 7 (.slice (ag.next (ag.alloc h (.cells c0))) 0 0 1)) 8 x2) 9 x3) 10 x4) 11 x5) 3 x5) 4 (.int .i64 0)),49,[],h6⟩ (F.bH.cy K)):=by kernel_rfl
theorem F.sV{a0:AV}{h:ag}{K:Out→ag→Bool}(hh:au Tryz.prog (ah Tryz.prog) (aj Tryz.f44) ⟨aF [a0],49,[],h⟩ (ay Tryz.prog cc Tryz.f44.results.toList K)=true):Sem Tryz.prog 44 [a0] h K:=
 aP mixed (aM _) Tryz.func44 (c:=aj Tryz.f44) rfl (by decide) (of_decide_eq_true (by kernel_rfl)) hh
noncomputable def F.cE.L0:Code:=partOf (aj Tryz.f84) [1,1,0,1,0,0]
noncomputable def F.cE.cy(K:Out→ag→Bool):AX→St→Bool:=(aX 0 (cI false (au Tryz.prog (ah Tryz.prog) (partOf (aj Tryz.f84) [1,1,1])) (ay Tryz.prog cc Tryz.f84.results.toList K)))
noncomputable def F.cE.J0(K:AX→St→Bool)(s:St):Bool:=IN (au Tryz.prog (ah Tryz.prog) (partOf (aj Tryz.f84) [1,1,0,1,0,0,1,0,0,1,0,1,0,1,1,1])) s (aX 2 (cI false (au Tryz.prog (ah Tryz.prog) (partOf (aj Tryz.f84) [1,1,0,1,0,0,1,0,0,1,1])) (aX 1 (cI false (au Tryz.prog (ah Tryz.prog) (partOf (aj Tryz.f84) [1,1,0,1,0,0,1,1])) K))))
theorem F.cE.aN{e:Env}{h:ag}{K:AX→St→Bool}:au Tryz.prog (ah Tryz.prog) F.cE.L0 ⟨e,67,[],h⟩ K=(af (bK 2 (e 1)) fun x21=>af (ai none x21 h) fun x22=>af (bQ .slice x22 h) fun x23=>af (aJ .lss (e 3) x23) fun x24=>let Q1:=(aa (aa (aa (aa (aa e 23 (e 3)) 24 x21) 25 x22) 26 x23) 27 x24);ax x24 (af (bK 2 (e 1)) fun x25=>af (ai none x25 h) fun x26=>af (cS 4 x26 (e 3)) fun x27=>af (ai (some 4) x27 h) fun x28=>af (bL 4 (.ptr (ag.next h) 0) x28 (ag.alloc h (.cells [(.int .i64 0),(.bool false),(.str []),.nils]))) fun h29=>af (bK 0 (.ptr (ag.next h) 0)) fun x30=>af (ai none x30 h29) fun x31=>af (iF (.int .i64) x31 (.int .i64 0)) fun x32=>let Q2:=(aa (aa (aa (aa (aa (aa (aa (aa (aa (aa Q1 30 x25) 31 x26) 32 (e 3)) 33 x27) 34 x28) 4 (.ptr (ag.next h) 0)) 35 x30) 36 x31) 38 x32) 37 x32);ax x32 (af (bK 2 (.ptr (ag.next h) 0)) fun x33=>af (bK 0 x33) fun x34=>af (ai none x34 h29) fun x35=>ah Tryz.prog 116 [x35] h29 (bJ (fun x36 h37=>af (ji .not x36) fun x40=>let Q3:=(aa (aa (aa (aa (aa Q2 39 x33) 40 x34) 41 x35) 42 x36) 43 x40);ax x40 (K .ret ⟨(aa Q3 2 (.bool false)),67,[],h37⟩) (af (bK 2 (.ptr (ag.next h) 0)) fun x41=>af (bK 1 x41) fun x42=>af (ai none x42 h37) fun x43=>ah Tryz.prog 134 [x43] h37 (bJ (fun x44 h45=>af (ji .not x44) fun x48=>let Q4:=(aa (aa (aa (aa (aa Q3 58 x41) 59 x42) 60 x43) 61 x44) 62 x48);ax x48 (K .ret ⟨(aa Q4 2 (.bool false)),67,[],h45⟩) (af (aJ .add (e 3) (.int .i64 1)) fun x49=>K .normal ⟨(aa (aa (aa Q4 28 (e 3)) 29 x49) 3 x49),67,[],h45⟩)) (fun v46 h47=>K (.panic v46) ⟨(aa (aa (aa Q3 58 x41) 59 x42) 60 x43),67,[],h47⟩)))) (fun v38 h39=>K (.panic v38) ⟨(aa (aa (aa Q2 39 x33) 40 x34) 41 x35),67,[],h39⟩))) (af (iF (.int .i64) x31 (.int .i64 1)) fun x50=>ax x50 (F.cE.J0 K ⟨(aa (aa Q2 45 x50) 44 x50),67,[],h29⟩) (af (iF (.int .i64) x31 (.int .i64 2)) fun x51=>F.cE.J0 K ⟨(aa (aa (aa (aa Q2 45 x50) 44 x50) 46 x51) 44 x51),67,[],h29⟩))) (K (.exit 0) ⟨Q1,67,[],h⟩)):=by kernel_rfl
theorem F.cE.aG{e:Env}{h:ag}{K:Out→ag→Bool}:F.cE.cy K (.exit 0) ⟨e,67,[],h⟩=(af (ai (some 3) (e 1) h) fun x52=>ah Tryz.prog 44 [x52] h (bJ (fun x53 h54=>af (bQ .slice x53 h54) fun x57=>af (aJ .leq x57 (.int .i64 12)) fun x58=>K (.ret x58) h54) (fun v55 h56=>K (.panic v55) h56))):=by kernel_rfl
theorem F.cE.aZ{e:Env}{h:ag}{K:Out→ag→Bool}:F.cE.cy K .ret ⟨e,67,[],h⟩=(K (.ret (e 2)) h):=by kernel_rfl
theorem F.cE.Au{e:Env}{h:ag}{K:AX→St→Bool}:F.cE.J0 K ⟨e,67,[],h⟩=(ax (e 44) (af (bK 2 (e 4)) fun x59=>af (bK 0 x59) fun x60=>af (ai none x60 h) fun x61=>af (nI .string x61 (.str [])) fun x62=>let Q1:=(aa (aa (aa (aa (aa e 47 x59) 48 x60) 49 x61) 50 x62) 51 x62);ax x62 (K .ret ⟨(aa (aa (aa (aa (aa (aa (aa (aa (aa (aa (aa (aa Q1 51 (.bool true)) 52 bD) 51 (.bool true)) 53 bD) 51 (.bool true)) 54 bD) 51 (.bool true)) 55 bD) 51 (.bool true)) 56 bD) 57 (.bool true)) 2 (.bool false)),67,[],h⟩) (af (bK 2 (e 4)) fun x63=>af (bK 1 x63) fun x64=>af (ai none x64 h) fun x65=>af (bQ .slice x65 h) fun x66=>af (nI (.int .i64) x66 (.int .i64 2)) fun x67=>let Q2:=(aa (aa (aa (aa (aa (aa (aa (aa (aa (aa (aa Q1 51 (.bool false)) 52 x63) 51 (.bool false)) 53 x64) 51 (.bool false)) 54 x65) 51 (.bool false)) 55 x66) 51 (.bool false)) 56 x67) 57 x67);ax x67 (K .ret ⟨(aa Q2 2 (.bool false)),67,[],h⟩) (af (bK 2 (e 4)) fun x68=>af (bK 1 x68) fun x69=>af (ai none x69 h) fun x70=>ah Tryz.prog 134 [x70] h (bJ (fun x71 h72=>af (ji .not x71) fun x75=>let Q3:=(aa (aa (aa (aa (aa Q2 58 x68) 59 x69) 60 x70) 61 x71) 62 x75);ax x75 (K .ret ⟨(aa Q3 2 (.bool false)),67,[],h72⟩) (af (aJ .add (e 3) (.int .i64 1)) fun x76=>K .normal ⟨(aa (aa (aa Q3 28 (e 3)) 29 x76) 3 x76),67,[],h72⟩)) (fun v73 h74=>K (.panic v73) ⟨(aa (aa (aa Q2 58 x68) 59 x69) 60 x70),67,[],h74⟩))))) (K .ret ⟨(aa e 2 (.bool false)),67,[],h⟩)):=(uT _ _ _).trans (by kernel_rfl)
theorem F.BX{a0:AV}{h:ag}{K:Out→ag→Bool}:au Tryz.prog (ah Tryz.prog) (aj Tryz.f84) ⟨aF [a0],67,[],h⟩ (ay Tryz.prog cc Tryz.f84.results.toList K)=(af (ew a0) fun c0=>af (bK 0 (.ptr (ag.next h) 0)) fun x1=>af (bK 0 x1) fun x2=>af (ai none x2 (ag.alloc h (.cells c0))) fun x3=>ah Tryz.prog 116 [x3] (ag.alloc h (.cells c0)) (bJ (fun x4 h5=>af (ji .not x4) fun x8=>ax x8 (K (.ret (.bool false)) h5) (af (bK 0 (.ptr (ag.next h) 0)) fun x9=>af (bK 1 x9) fun x10=>af (ai none x10 h5) fun x11=>ah Tryz.prog 134 [x11] h5 (bJ (fun x12 h13=>af (ji .not x12) fun x16=>ax x16 (K (.ret (.bool false)) h13) (af (bK 2 (.ptr (ag.next h) 0)) fun x17=>af (ai none x17 h13) fun x18=>af (bQ .slice x18 h13) fun x19=>af (aJ .gtr x19 (.int .i64 20)) fun x20=>ax x20 (K (.ret (.bool false)) h13) (bT (au Tryz.prog (ah Tryz.prog) F.cE.L0) ⟨(aa (aa (aa (aa (aa (aa (aa (aa (aa (aa (aa (aa (aa (aa (aa (aa (aa (aa (aa (aa (aa (aa (aa (aa (aa (aa (aa (aa (aa (aa (aF [a0]) 1 (.ptr (ag.next h) 0)) 2 (.bool false)) 5 x1) 6 x2) 7 x3) 8 x4) 9 x8) 10 x8) 10 (.bool false)) 11 x9) 10 (.bool false)) 12 x10) 10 (.bool false)) 13 x11) 10 (.bool false)) 14 x12) 10 (.bool false)) 15 x16) 16 x16) 17 x16) 17 (.bool false)) 18 x17) 17 (.bool false)) 19 x18) 17 (.bool false)) 20 x19) 17 (.bool false)) 21 x20) 22 x20) 3 (.int .i64 0)),67,[],h13⟩ (F.cE.cy K)))) (fun v14 h15=>K (.panic v14) h15)))) (fun v6 h7=>K (.panic v6) h7))):=by kernel_rfl
theorem F.Av{a0:AV}{h:ag}{K:Out→ag→Bool}(hh:au Tryz.prog (ah Tryz.prog) (aj Tryz.f84) ⟨aF [a0],67,[],h⟩ (ay Tryz.prog cc Tryz.f84.results.toList K)=true):Sem Tryz.prog 84 [a0] h K:=
 aP mixed (aM _) Tryz.func84 (c:=aj Tryz.f84) rfl (by decide) (of_decide_eq_true (by kernel_rfl)) hh
end
end Go.AM
namespace Go.AM
open Go Go.Proofs
noncomputable section
noncomputable def F.dJ.L0:Code:=partOf (aj Tryz.f29) [1,1,1,0,1,0,0]
noncomputable def F.dJ.cy(K:Out→ag→Bool):AX→St→Bool:=(aX 0 (cI false (au Tryz.prog (ah Tryz.prog) (partOf (aj Tryz.f29) [1,1,1,1])) (ay Tryz.prog cc Tryz.f29.results.toList K)))
noncomputable def F.dJ.L1:Code:=partOf (aj Tryz.f29) [1,1,1,0,1,0,0,1,0,0,1,1,0,0]
noncomputable def F.dJ.jT(K:AX→St→Bool):AX→St→Bool:=(aX 2 (aX 1 (cI false (au Tryz.prog (ah Tryz.prog) (partOf (aj Tryz.f29) [1,1,1,0,1,0,0,1,1])) K)))
theorem F.dJ.aN{e:Env}{h:ag}{K:AX→St→Bool}:au Tryz.prog (ah Tryz.prog) F.dJ.L0 ⟨e,62,[],h⟩ K=(af (bQ .slice (e 0) h) fun x2=>af (aJ .lss (e 6) x2) fun x3=>let Q1:=(aa (aa (aa (aa (aa e 11 (e 6)) 12 (e 0)) 13 x2) 14 x3) 15 x3);ax x3 (af (aJ .leq (e 5) (e 1)) fun x4=>let Q2:=(aa (aa (aa (aa (aa (aa (aa Q1 15 (.bool true)) 16 (e 5)) 15 (.bool true)) 17 (e 1)) 15 (.bool true)) 18 x4) 19 x4);ax x4 (af (aJ .add (e 5) (.int .i64 1)) fun x5=>af (cS 3 (e 0) (e 6)) fun x6=>af (bK 0 x6) fun x7=>af (ai (some 2) x7 h) fun x8=>ah Tryz.prog 82 [x8] h (bJ (fun x9 h10=>af (aJ .add x5 x9) fun x13=>bT (au Tryz.prog (ah Tryz.prog) F.dJ.L1) ⟨(aa (aa (aa (aa (aa (aa (aa (aa (aa (aa (aa Q2 22 (e 5)) 23 x5) 24 (e 0)) 25 (e 6)) 26 x6) 27 x7) 28 x8) 29 x9) 30 x13) 5 x13) 7 (.int .i64 0)),62,[],h10⟩ (F.dJ.jT K)) (fun v11 h12=>K (.panic v11) ⟨(aa (aa (aa (aa (aa (aa (aa Q2 22 (e 5)) 23 x5) 24 (e 0)) 25 (e 6)) 26 x6) 27 x7) 28 x8),62,[],h12⟩))) (K (.exit 0) ⟨Q2,62,[],h⟩)) (K (.exit 0) ⟨(aa (aa (aa (aa (aa (aa (aa Q1 15 (.bool false)) 16 bD) 15 (.bool false)) 17 bD) 15 (.bool false)) 18 bD) 19 (.bool false)),62,[],h⟩)):=by kernel_rfl
theorem F.dJ.aG{e:Env}{h:ag}{K:Out→ag→Bool}:F.dJ.cy K (.exit 0) ⟨e,62,[],h⟩=(af (aJ .leq (e 5) (e 1)) fun x14=>K (.ret x14) h):=by kernel_rfl
theorem F.dJ.dS{e:Env}{h:ag}{K:AX→St→Bool}:au Tryz.prog (ah Tryz.prog) F.dJ.L1 ⟨e,62,[],h⟩ K=(af (cS 3 (e 0) (e 6)) fun x15=>af (bK 2 x15) fun x16=>af (ai none x16 h) fun x17=>af (bQ .slice x17 h) fun x18=>af (aJ .lss (e 7) x18) fun x19=>let Q1:=(aa (aa (aa (aa (aa (aa (aa (aa (aa e 31 (e 7)) 32 (e 0)) 33 (e 6)) 34 x15) 35 x16) 36 x17) 37 x18) 38 x19) 39 x19);ax x19 (af (aJ .leq (e 5) (e 1)) fun x20=>let Q2:=(aa (aa (aa (aa (aa (aa (aa Q1 39 (.bool true)) 40 (e 5)) 39 (.bool true)) 41 (e 1)) 39 (.bool true)) 42 x20) 43 x20);ax x20 (af (aJ .add (e 5) (.int .i64 1)) fun x21=>af (cS 3 (e 0) (e 6)) fun x22=>af (bK 2 x22) fun x23=>af (ai none x23 h) fun x24=>af (cS 4 x24 (e 7)) fun x25=>af (bK 2 x25) fun x26=>af (ai (some 2) x26 h) fun x27=>ah Tryz.prog 82 [x27] h (bJ (fun x28 h29=>af (aJ .add x21 x28) fun x32=>af (aJ .add (e 7) (.int .i64 1)) fun x33=>K .normal ⟨(aa (aa (aa (aa (aa (aa (aa (aa (aa (aa (aa (aa (aa (aa (aa (aa (aa Q2 46 (e 5)) 47 x21) 48 (e 0)) 49 (e 6)) 50 x22) 51 x23) 52 x24) 53 (e 7)) 54 x25) 55 x26) 56 x27) 57 x28) 58 x32) 5 x32) 44 (e 7)) 45 x33) 7 x33),62,[],h29⟩) (fun v30 h31=>K (.panic v30) ⟨(aa (aa (aa (aa (aa (aa (aa (aa (aa (aa (aa Q2 46 (e 5)) 47 x21) 48 (e 0)) 49 (e 6)) 50 x22) 51 x23) 52 x24) 53 (e 7)) 54 x25) 55 x26) 56 x27),62,[],h31⟩))) (K (.exit 2) ⟨Q2,62,[],h⟩)) (K (.exit 2) ⟨(aa (aa (aa (aa (aa (aa (aa Q1 39 (.bool false)) 40 bD) 39 (.bool false)) 41 bD) 39 (.bool false)) 42 bD) 43 (.bool false)),62,[],h⟩)):=by kernel_rfl
theorem F.dJ.cG{e:Env}{h:ag}{K:AX→St→Bool}:F.dJ.jT K (.exit 2) ⟨e,62,[],h⟩=(af (aJ .add (e 6) (.int .i64 1)) fun x34=>K .normal ⟨(aa (aa (aa e 20 (e 6)) 21 x34) 6 x34),62,[],h⟩):=by kernel_rfl
theorem F.DR{a0 a1:AV}{h:ag}{K:Out→ag→Bool}:au Tryz.prog (ah Tryz.prog) (aj Tryz.f29) ⟨aF [a0,a1],62,[],h⟩ (ay Tryz.prog cc Tryz.f29.results.toList K)=(af (bQ .slice a0 h) fun x0=>af (aJ .gtr x0 (.int .i64 70)) fun x1=>ax x1 (K (.ret (.bool false)) h) (bT (au Tryz.prog (ah Tryz.prog) F.dJ.L0) ⟨(aa (aa (aa (aa (aa (aa (aF [a0,a1]) 4 (.bool false)) 8 a0) 9 x0) 10 x1) 5 (.int .i64 0)) 6 (.int .i64 0)),62,[],h⟩ (F.dJ.cy K))):=by kernel_rfl
theorem F.BY{a0 a1:AV}{h:ag}{K:Out→ag→Bool}(hh:au Tryz.prog (ah Tryz.prog) (aj Tryz.f29) ⟨aF [a0,a1],62,[],h⟩ (ay Tryz.prog cc Tryz.f29.results.toList K)=true):Sem Tryz.prog 29 [a0,a1] h K:=
 aP mixed (aM _) Tryz.func29 (c:=aj Tryz.f29) rfl (by decide) (of_decide_eq_true (by kernel_rfl)) hh
noncomputable def F.fA.L0:Code:=partOf (aj Tryz.f82) [1,1,0,1,0,0]
noncomputable def F.fA.cy(K:Out→ag→Bool):AX→St→Bool:=(aX 0 (cI false (au Tryz.prog (ah Tryz.prog) (partOf (aj Tryz.f82) [1,1,1])) (ay Tryz.prog cc Tryz.f82.results.toList K)))
theorem F.fA.aN{e:Env}{h:ag}{K:AX→St→Bool}:au Tryz.prog (ah Tryz.prog) F.fA.L0 ⟨e,34,[],h⟩ K=(af (bK 1 (e 1)) fun x9=>af (ai none x9 h) fun x10=>af (bQ .slice x10 h) fun x11=>af (aJ .lss (e 4) x11) fun x12=>let Q1:=(aa (aa (aa (aa (aa (aa e 13 (e 4)) 14 x9) 15 x10) 16 x11) 17 x12) 18 x12);ax x12 (af (aJ .lss (e 3) (.int .i64 10000)) fun x13=>let Q2:=(aa (aa (aa (aa (aa Q1 18 (.bool true)) 19 (e 3)) 18 (.bool true)) 20 x13) 21 x13);ax x13 (af (bK 1 (e 1)) fun x14=>af (ai none x14 h) fun x15=>af (cS 1 x15 (e 4)) fun x16=>af (ai none x16 h) fun x17=>af (bQ .str x17 h) fun x18=>af (aJ .quo x18 (.int .i64 20)) fun x19=>af (aJ .add (e 3) x19) fun x20=>af (aJ .add (e 4) (.int .i64 1)) fun x21=>K .normal ⟨(aa (aa (aa (aa (aa (aa (aa (aa (aa (aa (aa (aa (aa Q2 24 (e 3)) 25 x14) 26 x15) 27 (e 4)) 28 x16) 29 x17) 30 x18) 31 x19) 32 x20) 3 x20) 22 (e 4)) 23 x21) 4 x21),34,[],h⟩) (K (.exit 0) ⟨Q2,34,[],h⟩)) (K (.exit 0) ⟨(aa (aa (aa (aa (aa Q1 18 (.bool false)) 19 bD) 18 (.bool false)) 20 bD) 21 (.bool false)),34,[],h⟩)):=by kernel_rfl
theorem F.fA.aG{e:Env}{h:ag}{K:Out→ag→Bool}:F.fA.cy K (.exit 0) ⟨e,34,[],h⟩=(K (.ret (e 3)) h):=by kernel_rfl
theorem F.BZ{a0:AV}{h:ag}{K:Out→ag→Bool}:au Tryz.prog (ah Tryz.prog) (aj Tryz.f82) ⟨aF [a0],34,[],h⟩ (ay Tryz.prog cc Tryz.f82.results.toList K)=(af (ew a0) fun c0=>af (bK 1 (.ptr (ag.next h) 0)) fun x1=>af (ai none x1 (ag.alloc h (.cells c0))) fun x2=>af (bQ .slice x2 (ag.alloc h (.cells c0))) fun x3=>af (bK 0 (.ptr (ag.next h) 0)) fun x4=>af (ai none x4 (ag.alloc h (.cells c0))) fun x5=>af (bQ .str x5 (ag.alloc h (.cells c0))) fun x6=>af (aJ .quo x6 (.int .i64 20)) fun x7=>af (aJ .add x3 x7) fun x8=>bT (au Tryz.prog (ah Tryz.prog) F.fA.L0) ⟨(aa (aa (aa (aa (aa (aa (aa (aa (aa (aa (aa (aa (aF [a0]) 1 (.ptr (ag.next h) 0)) 2 (.int .i64 0)) 5 x1) 6 x2) 7 x3) 8 x4) 9 x5) 10 x6) 11 x7) 12 x8) 3 x8) 4 (.int .i64 0)),34,[],(ag.alloc h (.cells c0))⟩ (F.fA.cy K)):=by kernel_rfl
theorem F.Aw{a0:AV}{h:ag}{K:Out→ag→Bool}(hh:au Tryz.prog (ah Tryz.prog) (aj Tryz.f82) ⟨aF [a0],34,[],h⟩ (ay Tryz.prog cc Tryz.f82.results.toList K)=true):Sem Tryz.prog 82 [a0] h K:=
 aP mixed (aM _) Tryz.func82 (c:=aj Tryz.f82) rfl (by decide) (of_decide_eq_true (by kernel_rfl)) hh
noncomputable def F.bY.L0:Code:=partOf (aj Tryz.f83) [1,1,1,0,1,0,0]
noncomputable def F.bY.cy(K:Out→ag→Bool):AX→St→Bool:=(aX 0 (cI false (au Tryz.prog (ah Tryz.prog) (partOf (aj Tryz.f83) [1,1,1,1])) (ay Tryz.prog cc Tryz.f83.results.toList K)))
noncomputable def F.bY.L1:Code:=partOf (aj Tryz.f83) [1,1,1,0,1,0,0,1,1,0,0,1,1,0,1,0,0]
noncomputable def F.bY.jT(K:AX→St→Bool):AX→St→Bool:=(aX 2 (cI false (au Tryz.prog (ah Tryz.prog) (partOf (aj Tryz.f83) [1,1,1,0,1,0,0,1,1,0,0,1,1,1])) (aX 1 (cI false (au Tryz.prog (ah Tryz.prog) (partOf (aj Tryz.f83) [1,1,1,0,1,0,0,1,1,1])) K))))
noncomputable def F.bY.L2:Code:=partOf (aj Tryz.f83) [1,1,1,1,0,1,0,0]
noncomputable def F.bY.sq(K:Out→ag→Bool):AX→St→Bool:=(aX 4 (cI false (au Tryz.prog (ah Tryz.prog) (partOf (aj Tryz.f83) [1,1,1,1,1])) (ay Tryz.prog cc Tryz.f83.results.toList K)))
theorem F.bY.aN{e:Env}{h:ag}{K:AX→St→Bool}:au Tryz.prog (ah Tryz.prog) F.bY.L0 ⟨e,90,[],h⟩ K=(af (aJ .lss (e 19) (e 18)) fun x5=>let Q1:=(aa e 20 x5);ax x5 (af (cS 3 (e 17) (e 19)) fun x6=>af (ai (some 3) x6 h) fun x7=>af (bL 3 (.ptr (ag.next h) 0) x7 (ag.alloc h (.cells [(.str []),.nils,.nils]))) fun h8=>af (bK 0 (.ptr (ag.next h) 0)) fun x9=>af (ai (some 2) x9 h8) fun x10=>ah Tryz.prog 130 [x10] h8 (bJ (fun x11 h12=>af (ji .not x11) fun x15=>let Q2:=(aa (aa (aa (aa (aa (aa (aa (aa Q1 21 x6) 22 x7) 6 (.ptr (ag.next h) 0)) 23 x9) 24 x10) 25 x11) 26 x15) 27 x15);ax x15 (K .ret ⟨(aa (aa (aa (aa (aa (aa (aa (aa (aa (aa (aa (aa (aa (aa (aa (aa (aa (aa (aa (aa (aa (aa (aa (aa (aa (aa (aa (aa (aa (aa (aa (aa (aa Q2 27 (.bool true)) 28 bD) 27 (.bool true)) 29 bD) 27 (.bool true)) 30 bD) 27 (.bool true)) 31 bD) 27 (.bool true)) 32 bD) 33 (.bool true)) 34 (.bool true)) 34 (.bool true)) 35 bD) 34 (.bool true)) 36 bD) 34 (.bool true)) 37 bD) 34 (.bool true)) 38 bD) 39 (.bool true)) 40 (.bool true)) 40 (.bool true)) 41 bD) 40 (.bool true)) 42 bD) 40 (.bool true)) 43 bD) 40 (.bool true)) 44 bD) 45 (.bool true)) 2 .nilp) 3 (.bool false)),90,[],h12⟩) (af (bK 0 (.ptr (ag.next h) 0)) fun x16=>af (ai (some 2) x16 h12) fun x17=>ah Tryz.prog 131 [(e 4),x17] h12 (bJ (fun x18 h19=>af (ji .not x18) fun x22=>let Q3:=(aa (aa (aa (aa (aa (aa (aa (aa (aa (aa (aa (aa Q2 27 (.bool false)) 28 (e 4)) 27 (.bool false)) 29 x16) 27 (.bool false)) 30 x17) 27 (.bool false)) 31 x18) 27 (.bool false)) 32 x22) 33 x22) 34 x22);ax x22 (K .ret ⟨(aa (aa (aa (aa (aa (aa (aa (aa (aa (aa (aa (aa (aa (aa (aa (aa (aa (aa (aa (aa (aa Q3 34 (.bool true)) 35 bD) 34 (.bool true)) 36 bD) 34 (.bool true)) 37 bD) 34 (.bool true)) 38 bD) 39 (.bool true)) 40 (.bool true)) 40 (.bool true)) 41 bD) 40 (.bool true)) 42 bD) 40 (.bool true)) 43 bD) 40 (.bool true)) 44 bD) 45 (.bool true)) 2 .nilp) 3 (.bool false)),90,[],h19⟩) (af (bK 2 (.ptr (ag.next h) 0)) fun x23=>af (ai none x23 h19) fun x24=>af (bQ .slice x24 h19) fun x25=>af (aJ .gtr x25 (.int .i64 20)) fun x26=>let Q4:=(aa (aa (aa (aa (aa (aa (aa (aa (aa (aa Q3 34 (.bool false)) 35 x23) 34 (.bool false)) 36 x24) 34 (.bool false)) 37 x25) 34 (.bool false)) 38 x26) 39 x26) 40 x26);ax x26 (K .ret ⟨(aa (aa (aa (aa (aa (aa (aa (aa (aa (aa (aa Q4 40 (.bool true)) 41 bD) 40 (.bool true)) 42 bD) 40 (.bool true)) 43 bD) 40 (.bool true)) 44 bD) 45 (.bool true)) 2 .nilp) 3 (.bool false)),90,[],h19⟩) (af (ai (some 3) (.ptr (ag.next h) 0) h19) fun x27=>ah Tryz.prog 108 [x27] h19 (bJ (fun x28 h29=>af (bQ .slice x28 h29) fun x32=>af (aJ .gtr x32 (.int .i64 12)) fun x33=>let Q5:=(aa (aa (aa (aa (aa (aa (aa (aa (aa Q4 40 (.bool false)) 41 x27) 40 (.bool false)) 42 x28) 40 (.bool false)) 43 x32) 40 (.bool false)) 44 x33) 45 x33);ax x33 (K .ret ⟨(aa (aa Q5 2 .nilp) 3 (.bool false)),90,[],h29⟩) (af (bK 2 (.ptr (ag.next h) 0)) fun x34=>af (ai none x34 h29) fun x35=>af (bQ .slice x35 h29) fun x36=>bT (au Tryz.prog (ah Tryz.prog) F.bY.L1) ⟨(aa (aa (aa (aa Q5 46 x34) 47 x35) 48 x36) 49 (.int .i64 0)),90,[],h29⟩ (F.bY.jT K))) (fun v30 h31=>K (.panic v30) ⟨(aa (aa (aa Q4 40 (.bool false)) 41 x27) 40 (.bool false)),90,[],h31⟩))))) (fun v20 h21=>K (.panic v20) ⟨(aa (aa (aa (aa (aa (aa (aa Q2 27 (.bool false)) 28 (e 4)) 27 (.bool false)) 29 x16) 27 (.bool false)) 30 x17) 27 (.bool false)),90,[],h21⟩)))) (fun v13 h14=>K (.panic v13) ⟨(aa (aa (aa (aa (aa Q1 21 x6) 22 x7) 6 (.ptr (ag.next h) 0)) 23 x9) 24 x10),90,[],h14⟩))) (K (.exit 0) ⟨Q1,90,[],h⟩)):=by kernel_rfl
theorem F.bY.aG{e:Env}{h:ag}{K:Out→ag→Bool}:F.bY.cy K (.exit 0) ⟨e,90,[],h⟩=(af (b6 (e 4)) fun x37=>af (bK 2 x37) fun x38=>af (ai none x38 h) fun x39=>af (bQ .map x39 h) fun x40=>af (aJ .add x40 (.int .i64 1)) fun x41=>bT (au Tryz.prog (ah Tryz.prog) F.bY.L2) ⟨(aa (aa (aa (aa (aa (aa (aa e 77 (e 4)) 78 x37) 79 x38) 80 x39) 81 x40) 82 x41) 83 (.int .i64 0)),90,[],h⟩ (F.bY.sq K)):=by kernel_rfl
theorem F.bY.aZ{e:Env}{h:ag}{K:Out→ag→Bool}:F.bY.cy K .ret ⟨e,90,[],h⟩=(K (.ret (.tuple [(e 2),(e 3)])) h):=by kernel_rfl
theorem F.bY.dS{e:Env}{h:ag}{K:AX→St→Bool}:au Tryz.prog (ah Tryz.prog) F.bY.L1 ⟨e,90,[],h⟩ K=(af (aJ .lss (e 49) (e 48)) fun x42=>let Q1:=(aa e 50 x42);ax x42 (af (cS 4 (e 47) (e 49)) fun x43=>af (ai (some 4) x43 h) fun x44=>af (bL 4 (.ptr (ag.next h) 0) x44 (ag.alloc h (.cells [(.int .i64 0),(.bool false),(.str []),.nils]))) fun h45=>af (ai (some 4) (.ptr (ag.next h) 0) h45) fun x46=>ah Tryz.prog 132 [x46] h45 (bJ (fun x47 h48=>af (ji .not x47) fun x51=>let Q2:=(aa (aa (aa (aa (aa (aa (aa Q1 51 x43) 52 x44) 8 (.ptr (ag.next h) 0)) 53 x46) 54 x47) 55 x51) 56 x51);ax x51 (K .ret ⟨(aa (aa (aa (aa (aa (aa (aa (aa (aa (aa (aa (aa (aa (aa (aa (aa (aa (aa Q2 56 (.bool true)) 57 bD) 56 (.bool true)) 58 bD) 56 (.bool true)) 59 bD) 56 (.bool true)) 60 bD) 61 bD) 62 bD) 63 bD) 64 bD) 65 bD) 56 (.bool true)) 66 bD) 67 (.bool true)) 2 .nilp) 3 (.bool false)),90,[],h48⟩) (af (bK 0 (.ptr (ag.next h) 0)) fun x52=>af (ai none x52 h48) fun x53=>af (iF (.int .i64) x53 (.int .i64 0)) fun x54=>let Q3:=(aa (aa (aa (aa (aa (aa (aa (aa Q2 56 (.bool false)) 57 x52) 56 (.bool false)) 58 x53) 56 (.bool false)) 59 x54) 56 (.bool false)) 60 x54);ax x54 (af (bK 2 (.ptr (ag.next h) 0)) fun x55=>af (ai (some 2) x55 h48) fun x56=>ah Tryz.prog 131 [(e 4),x56] h48 (bJ (fun x57 h58=>af (ji .not x57) fun x61=>let Q4:=(aa (aa (aa (aa (aa (aa (aa (aa (aa (aa (aa (aa (aa Q3 60 (.bool true)) 61 (e 4)) 60 (.bool true)) 62 x55) 60 (.bool true)) 63 x56) 60 (.bool true)) 64 x57) 60 (.bool true)) 65 x61) 56 (.bool false)) 66 x61) 67 x61);ax x61 (K .ret ⟨(aa (aa Q4 2 .nilp) 3 (.bool false)),90,[],h58⟩) (af (aJ .add (e 49) (.int .i64 1)) fun x62=>K .normal ⟨(aa (aa Q4 68 x62) 49 x62),90,[],h58⟩)) (fun v59 h60=>K (.panic v59) ⟨(aa (aa (aa (aa (aa (aa (aa Q3 60 (.bool true)) 61 (e 4)) 60 (.bool true)) 62 x55) 60 (.bool true)) 63 x56) 60 (.bool true)),90,[],h60⟩))) (af (aJ .add (e 49) (.int .i64 1)) fun x63=>K .normal ⟨(aa (aa (aa (aa (aa (aa (aa (aa (aa (aa (aa (aa (aa (aa (aa Q3 60 (.bool false)) 61 bD) 60 (.bool false)) 62 bD) 60 (.bool false)) 63 bD) 60 (.bool false)) 64 bD) 60 (.bool false)) 65 bD) 56 (.bool false)) 66 (.bool false)) 67 (.bool false)) 68 x63) 49 x63),90,[],h48⟩))) (fun v49 h50=>K (.panic v49) ⟨(aa (aa (aa (aa Q1 51 x43) 52 x44) 8 (.ptr (ag.next h) 0)) 53 x46),90,[],h50⟩))) (K (.exit 2) ⟨Q1,90,[],h⟩)):=by kernel_rfl
theorem F.bY.cG{e:Env}{h:ag}{K:AX→St→Bool}:F.bY.jT K (.exit 2) ⟨e,90,[],h⟩=(af (b6 (e 4)) fun x64=>af (bK 2 x64) fun x65=>af (ai none x65 h) fun x66=>af (bK 0 (e 6)) fun x67=>af (bK 0 x67) fun x68=>af (ai none x68 h) fun x69=>af (eF .string x66 x69 (.int .i64 0) h) fun h70=>af (aJ .add (e 19) (.int .i64 1)) fun x71=>K .normal ⟨(aa (aa (aa (aa (aa (aa (aa (aa (aa e 69 (e 4)) 70 x64) 71 x65) 72 x66) 73 x67) 74 x68) 75 x69) 76 x71) 19 x71),90,[],h70⟩):=by kernel_rfl
theorem F.bY.iR{e:Env}{h:ag}{K:AX→St→Bool}:F.bY.jT K .ret ⟨e,90,[],h⟩=(K .ret ⟨e,90,[],h⟩):=by kernel_rfl
theorem F.bY.iS{e:Env}{h:ag}{K:AX→St→Bool}:au Tryz.prog (ah Tryz.prog) F.bY.L2 ⟨e,90,[],h⟩ K=(af (aJ .lss (e 83) (e 82)) fun x72=>let Q1:=(aa e 84 x72);ax x72 (ah Tryz.prog 133 [(e 4)] h (bJ (fun x73 h74=>af (ji .not x73) fun x77=>let Q2:=(aa (aa (aa Q1 85 (e 4)) 86 x73) 87 x77);ax x77 (K .ret ⟨(aa (aa (aa Q2 88 (e 4)) 2 (e 4)) 3 (.bool true)),90,[],h74⟩) (af (aJ .add (e 83) (.int .i64 1)) fun x78=>K .normal ⟨(aa (aa Q2 89 x78) 83 x78),90,[],h74⟩)) (fun v75 h76=>K (.panic v75) ⟨(aa Q1 85 (e 4)),90,[],h76⟩))) (K (.exit 4) ⟨Q1,90,[],h⟩)):=by kernel_rfl
theorem F.bY.gw{e:Env}{h:ag}{K:Out→ag→Bool}:F.bY.sq K (.exit 4) ⟨e,90,[],h⟩=(K (.ret (.tuple [.nilp,(.bool false)])) h):=by kernel_rfl
theorem F.bY.u0{e:Env}{h:ag}{K:Out→ag→Bool}:F.bY.sq K .ret ⟨e,90,[],h⟩=(K (.ret (.tuple [(e 2),(e 3)])) h):=by kernel_rfl
theorem F.Fe{a0:AV}{h:ag}{K:Out→ag→Bool}:au Tryz.prog (ah Tryz.prog) (aj Tryz.f83) ⟨aF [a0],90,[],h⟩ (ay Tryz.prog cc Tryz.f83.results.toList K)=(af (kJ [.nils,.nilm,.nilm] [(0,1),(1,1),(2,1)] [a0,(.map (ag.next h)),(.map (ag.next (ag.alloc h (.map [] 0))))]) fun x0=>af (ew x0) fun c1=>af (bQ .slice a0 (ag.alloc (ag.alloc (ag.alloc h (.map [] 0)) (.map [] 0)) (.cells c1))) fun x2=>af (aJ .gtr x2 (.int .i64 60)) fun x3=>ax x3 (K (.ret (.tuple [.nilp,(.bool false)])) (ag.alloc (ag.alloc (ag.alloc h (.map [] 0)) (.map [] 0)) (.cells c1))) (af (bQ .slice a0 (ag.alloc (ag.alloc (ag.alloc h (.map [] 0)) (.map [] 0)) (.cells c1))) fun x4=>bT (au Tryz.prog (ah Tryz.prog) F.bY.L0) ⟨(aa (aa (aa (aa (aa (aa (aa (aa (aa (aa (aa (aa (aa (aa (aF [a0]) 2 .nilp) 3 (.bool false)) 9 a0) 10 (.map (ag.next h))) 11 (.map (ag.next (ag.alloc h (.map [] 0))))) 12 x0) 13 (.ptr (ag.next (ag.alloc (ag.alloc h (.map [] 0)) (.map [] 0))) 0)) 4 (.ptr (ag.next (ag.alloc (ag.alloc h (.map [] 0)) (.map [] 0))) 0)) 14 a0) 15 x2) 16 x3) 17 a0) 18 x4) 19 (.int .i64 0)),90,[],(ag.alloc (ag.alloc (ag.alloc h (.map [] 0)) (.map [] 0)) (.cells c1))⟩ (F.bY.cy K))):=by kernel_rfl
theorem F.DS{a0:AV}{h:ag}{K:Out→ag→Bool}(hh:au Tryz.prog (ah Tryz.prog) (aj Tryz.f83) ⟨aF [a0],90,[],h⟩ (ay Tryz.prog cc Tryz.f83.results.toList K)=true):Sem Tryz.prog 83 [a0] h K:=
 aP mixed (aM _) Tryz.func83 (c:=aj Tryz.f83) rfl (by decide) (of_decide_eq_true (by kernel_rfl)) hh
noncomputable def F.bl.L0:Code:=partOf (aj Tryz.f133) [1,1,0,1,0,0]
noncomputable def F.bl.cy(K:Out→ag→Bool):AX→St→Bool:=(aX 0 (cI false (au Tryz.prog (ah Tryz.prog) (partOf (aj Tryz.f133) [1,1,1])) (ay Tryz.prog cc Tryz.f133.results.toList K)))
noncomputable def F.bl.L1:Code:=partOf (aj Tryz.f133) [1,1,0,1,0,0,1,1,0,0,1,1,0,0]
noncomputable def F.bl.jT(K:AX→St→Bool):AX→St→Bool:=(aX 2 (aX 1 (cI false (au Tryz.prog (ah Tryz.prog) (partOf (aj Tryz.f133) [1,1,0,1,0,0,1,1,1])) K)))
noncomputable def F.bl.J0(K:AX→St→Bool)(s:St):Bool:=IN (au Tryz.prog (ah Tryz.prog) (partOf (aj Tryz.f133) [1,1,0,1,0,0,1,1,0,0,1,1,0,0,1,1,0,0,1,1,1,1])) s (aX 3 (cI false (au Tryz.prog (ah Tryz.prog) (partOf (aj Tryz.f133) [1,1,0,1,0,0,1,1,0,0,1,1,0,0,1,1,1])) K))
theorem F.bl.aN{e:Env}{h:ag}{K:AX→St→Bool}:au Tryz.prog (ah Tryz.prog) F.bl.L0 ⟨e,71,[],h⟩ K=(af (aJ .lss (e 15) (e 14)) fun x4=>ax x4 (af (cS 3 (e 13) (e 15)) fun x5=>af (ai (some 3) x5 h) fun x6=>af (bL 3 (.ptr (ag.next h) 0) x6 (ag.alloc h (.cells [(.str []),.nils,.nils]))) fun h7=>af (bK 2 (.ptr (ag.next h) 0)) fun x8=>af (ai none x8 h7) fun x9=>af (bQ .slice x9 h7) fun x10=>bT (au Tryz.prog (ah Tryz.prog) F.bl.L1) ⟨(aa (aa (aa (aa (aa (aa (aa (aa e 16 x4) 17 x5) 18 x6) 5 (.ptr (ag.next h) 0)) 19 x8) 20 x9) 21 x10) 22 (.int .i64 0)),71,[],h7⟩ (F.bl.jT K)) (K (.exit 0) ⟨(aa e 16 x4),71,[],h⟩)):=by kernel_rfl
theorem F.bl.aG{e:Env}{h:ag}{K:Out→ag→Bool}:F.bl.cy K (.exit 0) ⟨e,71,[],h⟩=(K (.ret (e 3)) h):=by kernel_rfl
theorem F.bl.dS{e:Env}{h:ag}{K:AX→St→Bool}:au Tryz.prog (ah Tryz.prog) F.bl.L1 ⟨e,71,[],h⟩ K=(af (aJ .lss (e 22) (e 21)) fun x11=>let Q1:=(aa e 23 x11);ax x11 (af (cS 4 (e 20) (e 22)) fun x12=>af (ai (some 4) x12 h) fun x13=>af (bL 4 (.ptr (ag.next h) 0) x13 (ag.alloc h (.cells [(.int .i64 0),(.bool false),(.str []),.nils]))) fun h14=>af (b6 (e 0)) fun x15=>af (bK 2 x15) fun x16=>af (ai none x16 h14) fun x17=>af (bK 2 (.ptr (ag.next h) 0)) fun x18=>af (bK 0 x18) fun x19=>af (ai none x19 h14) fun x20=>af (ei .string (.int .i64 0) true x17 x20 h14) fun x21=>af (cj x21 0) fun x22=>af (cj x21 1) fun x23=>af (bK 0 (.ptr (ag.next h) 0)) fun x24=>af (ai none x24 h14) fun x25=>af (nI (.int .i64) x25 (.int .i64 0)) fun x26=>let Q2:=(aa (aa (aa (aa (aa (aa (aa (aa (aa (aa (aa (aa (aa (aa (aa (aa (aa (aa (aa (aa Q1 24 x12) 25 x13) 7 (.ptr (ag.next h) 0)) 27 (e 0)) 28 x15) 29 x16) 30 x17) 31 x18) 32 x19) 33 x20) 34 x21) 26 x21) 35 x22) 36 x23) 8 x22) 9 x23) 37 x24) 38 x25) 39 x26) 40 x26);ax x26 (af (aJ .add (e 22) (.int .i64 1)) fun x27=>K .normal ⟨(aa (aa (aa (aa (aa (aa (aa Q2 40 (.bool true)) 41 bD) 40 (.bool true)) 42 bD) 43 (.bool true)) 68 x27) 22 x27),71,[],h14⟩) (af (ji .not x23) fun x28=>let Q3:=(aa (aa (aa (aa (aa Q2 40 (.bool false)) 41 x23) 40 (.bool false)) 42 x28) 43 x28);ax x28 (af (aJ .add (e 22) (.int .i64 1)) fun x29=>K .normal ⟨(aa (aa Q3 68 x29) 22 x29),71,[],h14⟩) (af (bK 1 (.ptr (ag.next h) 0)) fun x30=>af (ai none x30 h14) fun x31=>ax x31 (af (aJ .add x22 (.int .i64 1)) fun x32=>F.bl.J0 K ⟨(aa (aa (aa (aa (aa Q3 44 x30) 45 x31) 46 x22) 47 x32) 8 x32),71,[],h14⟩) (F.bl.J0 K ⟨(aa (aa Q3 44 x30) 45 x31),71,[],h14⟩)))) (K (.exit 2) ⟨Q1,71,[],h⟩)):=by kernel_rfl
theorem F.bl.cG{e:Env}{h:ag}{K:AX→St→Bool}:F.bl.jT K (.exit 2) ⟨e,71,[],h⟩=(af (aJ .add (e 15) (.int .i64 1)) fun x33=>K .normal ⟨(aa (aa e 69 x33) 15 x33),71,[],h⟩):=by kernel_rfl
theorem F.bl.Au{e:Env}{h:ag}{K:AX→St→Bool}:F.bl.J0 K ⟨e,71,[],h⟩=(af (b6 (e 0)) fun x34=>af (bK 2 x34) fun x35=>af (ai none x35 h) fun x36=>af (bK 0 (e 5)) fun x37=>af (bK 0 x37) fun x38=>af (ai none x38 h) fun x39=>af (ei .string (.int .i64 0) false x36 x39 h) fun x40=>af (aJ .gtr (e 8) x40) fun x41=>let Q1:=(aa (aa (aa (aa (aa (aa (aa (aa (aa (aa e 48 (e 8)) 49 (e 0)) 50 x34) 51 x35) 52 x36) 53 x37) 54 x38) 55 x39) 56 x40) 57 x41);ax x41 (af (b6 (e 0)) fun x42=>af (bK 2 x42) fun x43=>af (ai none x43 h) fun x44=>af (bK 0 (e 5)) fun x45=>af (bK 0 x45) fun x46=>af (ai none x46 h) fun x47=>dg (j4 .string (.int .i64 0) x44 x47 h) fun x48 h49=>af (cj x48 1) fun x50=>af (iu x44 x50 (e 8) h49) fun h51=>af (aJ .add (e 22) (.int .i64 1)) fun x52=>K .normal ⟨(aa (aa (aa (aa (aa (aa (aa (aa (aa (aa (aa (aa (aa Q1 58 (e 0)) 59 x42) 60 x43) 61 x44) 62 x45) 63 x46) 64 x47) 65 (e 8)) 66 x48) 67 x50) 3 (.bool true)) 68 x52) 22 x52),71,[],h51⟩) (af (aJ .add (e 22) (.int .i64 1)) fun x53=>K .normal ⟨(aa (aa Q1 68 x53) 22 x53),71,[],h⟩)):=(uT _ _ _).trans (by kernel_rfl)
theorem F.qi{a0:AV}{h:ag}{K:Out→ag→Bool}:au Tryz.prog (ah Tryz.prog) (aj Tryz.f133) ⟨aF [a0],71,[],h⟩ (ay Tryz.prog cc Tryz.f133.results.toList K)=(af (b6 a0) fun x0=>af (bK 0 x0) fun x1=>af (ai none x1 h) fun x2=>af (bQ .slice x2 h) fun x3=>bT (au Tryz.prog (ah Tryz.prog) F.bl.L0) ⟨(aa (aa (aa (aa (aa (aa (aa (aa (aF [a0]) 2 (.bool false)) 3 (.bool false)) 10 a0) 11 x0) 12 x1) 13 x2) 14 x3) 15 (.int .i64 0)),71,[],h⟩ (F.bl.cy K)):=by kernel_rfl
theorem F.pq{a0:AV}{h:ag}{K:Out→ag→Bool}(hh:au Tryz.prog (ah Tryz.prog) (aj Tryz.f133) ⟨aF [a0],71,[],h⟩ (ay Tryz.prog cc Tryz.f133.results.toList K)=true):Sem Tryz.prog 133 [a0] h K:=
 aP mixed (aM _) Tryz.func133 (c:=aj Tryz.f133) rfl (by decide) (of_decide_eq_true (by kernel_rfl)) hh
noncomputable def F.bE.L0:Code:=partOf (aj Tryz.f31) [1,1,0,1,0,0]
noncomputable def F.bE.cy(K:Out→ag→Bool):AX→St→Bool:=(aX 0 (cI false (au Tryz.prog (ah Tryz.prog) (partOf (aj Tryz.f31) [1,1,1])) (ay Tryz.prog cc Tryz.f31.results.toList K)))
noncomputable def F.bE.L1:Code:=partOf (aj Tryz.f31) [1,1,1,1,0,1,0,0]
noncomputable def F.bE.jT(K:Out→ag→Bool):AX→St→Bool:=(aX 2 (cI false (au Tryz.prog (ah Tryz.prog) (partOf (aj Tryz.f31) [1,1,1,1,1])) (ay Tryz.prog cc Tryz.f31.results.toList K)))
noncomputable def F.bE.L2:Code:=partOf (aj Tryz.f31) [1,1,1,1,0,1,0,0,1,0,0,1,0,0]
noncomputable def F.bE.sq(K:AX→St→Bool):AX→St→Bool:=(aX 4 (aX 3 (cI false (au Tryz.prog (ah Tryz.prog) (partOf (aj Tryz.f31) [1,1,1,1,0,1,0,0,1,1])) K)))
theorem F.bE.aN{e:Env}{h:ag}{K:AX→St→Bool}:au Tryz.prog (ah Tryz.prog) F.bE.L0 ⟨e,67,[],h⟩ K=(af (bQ .slice (e 0) h) fun x2=>af (aJ .lss (e 3) x2) fun x3=>let Q1:=(aa (aa (aa (aa e 12 (e 3)) 13 (e 0)) 14 x2) 15 x3);ax x3 (af (cS 3 (e 0) (e 3)) fun x4=>af (ai (some 3) x4 h) fun x5=>ah Tryz.prog 84 [x5] h (bJ (fun x6 h7=>af (ji .not x6) fun x10=>let Q2:=(aa (aa (aa (aa (aa (aa Q1 18 (e 0)) 19 (e 3)) 20 x4) 21 x5) 22 x6) 23 x10);ax x10 (K .ret ⟨(aa Q2 2 (.bool false)),67,[],h7⟩) (af (aJ .add (e 3) (.int .i64 1)) fun x11=>K .normal ⟨(aa (aa (aa Q2 16 (e 3)) 17 x11) 3 x11),67,[],h7⟩)) (fun v8 h9=>K (.panic v8) ⟨(aa (aa (aa (aa Q1 18 (e 0)) 19 (e 3)) 20 x4) 21 x5),67,[],h9⟩))) (K (.exit 0) ⟨Q1,67,[],h⟩)):=by kernel_rfl
theorem F.bE.aG{e:Env}{h:ag}{K:Out→ag→Bool}:F.bE.cy K (.exit 0) ⟨e,67,[],h⟩=(ah Tryz.prog 85 [(e 0)] h (bJ (fun x12 h13=>bT (au Tryz.prog (ah Tryz.prog) F.bE.L1) ⟨(aa (aa (aa (aa e 24 (e 0)) 25 x12) 4 x12) 5 (.int .i64 0)),67,[],h13⟩ (F.bE.jT K)) (fun v14 h15=>K (.panic v14) h15))):=by kernel_rfl
theorem F.bE.aZ{e:Env}{h:ag}{K:Out→ag→Bool}:F.bE.cy K .ret ⟨e,67,[],h⟩=(K (.ret (e 2)) h):=by kernel_rfl
theorem F.bE.dS{e:Env}{h:ag}{K:AX→St→Bool}:au Tryz.prog (ah Tryz.prog) F.bE.L1 ⟨e,67,[],h⟩ K=(af (bQ .slice (e 4) h) fun x16=>af (aJ .lss (e 5) x16) fun x17=>let Q1:=(aa (aa (aa (aa e 26 (e 5)) 27 (e 4)) 28 x16) 29 x17);ax x17 (bT (au Tryz.prog (ah Tryz.prog) F.bE.L2) ⟨(aa Q1 6 (.int .i64 0)),67,[],h⟩ (F.bE.sq K)) (K (.exit 2) ⟨Q1,67,[],h⟩)):=by kernel_rfl
theorem F.bE.cG{e:Env}{h:ag}{K:Out→ag→Bool}:F.bE.jT K (.exit 2) ⟨e,67,[],h⟩=(ah Tryz.prog 32 [(e 0)] h (bJ (fun x18 h19=>af (cj x18 0) fun x22=>af (cj x18 1) fun x23=>K (.ret x23) h19) (fun v20 h21=>K (.panic v20) h21))):=by kernel_rfl
theorem F.bE.iR{e:Env}{h:ag}{K:Out→ag→Bool}:F.bE.jT K .ret ⟨e,67,[],h⟩=(K (.ret (e 2)) h):=by kernel_rfl
theorem F.bE.iS{e:Env}{h:ag}{K:AX→St→Bool}:au Tryz.prog (ah Tryz.prog) F.bE.L2 ⟨e,67,[],h⟩ K=(af (aJ .lss (e 6) (e 5)) fun x24=>let Q1:=(aa (aa (aa e 32 (e 6)) 33 (e 5)) 34 x24);ax x24 (af (cS 2 (e 4) (e 6)) fun x25=>af (bK 0 x25) fun x26=>af (ai none x26 h) fun x27=>af (cS 2 (e 4) (e 5)) fun x28=>af (bK 0 x28) fun x29=>af (ai none x29 h) fun x30=>af (iF .string x27 x30) fun x31=>let Q2:=(aa (aa (aa (aa (aa (aa (aa (aa (aa (aa (aa (aa Q1 37 (e 4)) 38 (e 6)) 39 x25) 40 x26) 41 x27) 42 (e 4)) 43 (e 5)) 44 x28) 45 x29) 46 x30) 47 x31) 48 x31);ax x31 (af (cS 2 (e 4) (e 6)) fun x32=>af (bK 1 x32) fun x33=>af (ai none x33 h) fun x34=>af (cS 2 (e 4) (e 5)) fun x35=>af (bK 1 x35) fun x36=>af (ai none x36 h) fun x37=>af (nI (.int .i64) x34 x37) fun x38=>let Q3:=(aa (aa (aa (aa (aa (aa (aa (aa (aa (aa (aa (aa (aa (aa (aa (aa (aa (aa (aa (aa (aa (aa (aa Q2 48 (.bool true)) 49 (e 4)) 48 (.bool true)) 50 (e 6)) 48 (.bool true)) 51 x32) 48 (.bool true)) 52 x33) 48 (.bool true)) 53 x34) 48 (.bool true)) 54 (e 4)) 48 (.bool true)) 55 (e 5)) 48 (.bool true)) 56 x35) 48 (.bool true)) 57 x36) 48 (.bool true)) 58 x37) 48 (.bool true)) 59 x38) 60 x38);ax x38 (K .ret ⟨(aa Q3 2 (.bool false)),67,[],h⟩) (af (aJ .add (e 6) (.int .i64 1)) fun x39=>K .normal ⟨(aa (aa (aa Q3 35 (e 6)) 36 x39) 6 x39),67,[],h⟩)) (af (aJ .add (e 6) (.int .i64 1)) fun x40=>K .normal ⟨(aa (aa (aa (aa (aa (aa (aa (aa (aa (aa (aa (aa (aa (aa (aa (aa (aa (aa (aa (aa (aa (aa (aa (aa (aa (aa Q2 48 (.bool false)) 49 bD) 48 (.bool false)) 50 bD) 48 (.bool false)) 51 bD) 48 (.bool false)) 52 bD) 48 (.bool false)) 53 bD) 48 (.bool false)) 54 bD) 48 (.bool false)) 55 bD) 48 (.bool false)) 56 bD) 48 (.bool false)) 57 bD) 48 (.bool false)) 58 bD) 48 (.bool false)) 59 bD) 60 (.bool false)) 35 (e 6)) 36 x40) 6 x40),67,[],h⟩)) (K (.exit 4) ⟨Q1,67,[],h⟩)):=by kernel_rfl
theorem F.bE.gw{e:Env}{h:ag}{K:AX→St→Bool}:F.bE.sq K (.exit 4) ⟨e,67,[],h⟩=(af (aJ .add (e 5) (.int .i64 1)) fun x41=>K .normal ⟨(aa (aa (aa e 30 (e 5)) 31 x41) 5 x41),67,[],h⟩):=by kernel_rfl
theorem F.bE.u0{e:Env}{h:ag}{K:AX→St→Bool}:F.bE.sq K .ret ⟨e,67,[],h⟩=(K .ret ⟨e,67,[],h⟩):=by kernel_rfl
theorem F.Ax{a0:AV}{h:ag}{K:Out→ag→Bool}:au Tryz.prog (ah Tryz.prog) (aj Tryz.f31) ⟨aF [a0],67,[],h⟩ (ay Tryz.prog cc Tryz.f31.results.toList K)=(af (bQ .slice a0 h) fun x0=>af (aJ .gtr x0 (.int .i64 60)) fun x1=>ax x1 (K (.ret (.bool false)) h) (bT (au Tryz.prog (ah Tryz.prog) F.bE.L0) ⟨(aa (aa (aa (aa (aa (aF [a0]) 2 (.bool false)) 9 a0) 10 x0) 11 x1) 3 (.int .i64 0)),67,[],h⟩ (F.bE.cy K))):=by kernel_rfl
theorem F.yy{a0:AV}{h:ag}{K:Out→ag→Bool}(hh:au Tryz.prog (ah Tryz.prog) (aj Tryz.f31) ⟨aF [a0],67,[],h⟩ (ay Tryz.prog cc Tryz.f31.results.toList K)=true):Sem Tryz.prog 31 [a0] h K:=
 aP mixed (aM _) Tryz.func31 (c:=aj Tryz.f31) rfl (by decide) (of_decide_eq_true (by kernel_rfl)) hh
noncomputable def F.bh.L0:Code:=partOf (aj Tryz.f32) [1,1,1,0,1,0,0]
noncomputable def F.bh.cy(K:Out→ag→Bool):AX→St→Bool:=(aX 0 (cI false (au Tryz.prog (ah Tryz.prog) (partOf (aj Tryz.f32) [1,1,1,1])) (ay Tryz.prog cc Tryz.f32.results.toList K)))
noncomputable def F.bh.L1:Code:=partOf (aj Tryz.f32) [1,1,1,0,1,0,0,1,0,1,1,0,0]
noncomputable def F.bh.jT(K:AX→St→Bool):AX→St→Bool:=(aX 2 (aX 1 K))
noncomputable def F.bh.L2:Code:=partOf (aj Tryz.f32) [1,1,1,0,1,0,0,1,0,1,1,0,0,1,0,0,1,0,1,0,0]
noncomputable def F.bh.sq(K:AX→St→Bool):AX→St→Bool:=(aX 4 (cI false (au Tryz.prog (ah Tryz.prog) (partOf (aj Tryz.f32) [1,1,1,0,1,0,0,1,0,1,1,0,0,1,0,0,1,1])) (aX 3 (cI false (au Tryz.prog (ah Tryz.prog) (partOf (aj Tryz.f32) [1,1,1,0,1,0,0,1,0,1,1,0,0,1,1])) K))))
noncomputable def F.bh.J0(K:AX→St→Bool)(s:St):Bool:=IN (au Tryz.prog (ah Tryz.prog) (partOf (aj Tryz.f32) [1,1,1,0,1,0,0,1,0,1,1,0,0,1,0,0,1,0,1,0,0,1,0,0,1,1,1,0,1,1])) s (aX 5 (cI false (au Tryz.prog (ah Tryz.prog) (partOf (aj Tryz.f32) [1,1,1,0,1,0,0,1,0,1,1,0,0,1,0,0,1,0,1,0,0,1,1])) K))
theorem F.bh.aN{e:Env}{h:ag}{K:AX→St→Bool}:au Tryz.prog (ah Tryz.prog) F.bh.L0 ⟨e,89,[],h⟩ K=(ax (e 6) (bT (au Tryz.prog (ah Tryz.prog) F.bh.L1) ⟨(aa (aa (aa e 18 (e 6)) 6 (.bool false)) 7 (.int .i64 0)),89,[],h⟩ (F.bh.jT K)) (K (.exit 0) ⟨(aa e 18 (e 6)),89,[],h⟩)):=by kernel_rfl
theorem F.bh.aG{e:Env}{h:ag}{K:Out→ag→Bool}:F.bh.cy K (.exit 0) ⟨e,89,[],h⟩=(K (.ret (.tuple [(e 5),(.bool true)])) h):=by kernel_rfl
theorem F.bh.aZ{e:Env}{h:ag}{K:Out→ag→Bool}:F.bh.cy K .ret ⟨e,89,[],h⟩=(K (.ret (.tuple [(e 2),(e 3)])) h):=by kernel_rfl
theorem F.bh.dS{e:Env}{h:ag}{K:AX→St→Bool}:au Tryz.prog (ah Tryz.prog) F.bh.L1 ⟨e,89,[],h⟩ K=(af (bQ .slice (e 0) h) fun x7=>af (aJ .lss (e 7) x7) fun x8=>let Q1:=(aa (aa (aa (aa e 19 (e 7)) 20 (e 0)) 21 x7) 22 x8);ax x8 (af (cS 3 (e 0) (e 7)) fun x9=>af (bK 0 x9) fun x10=>af (bK 0 x10) fun x11=>af (ai none x11 h) fun x12=>ah Tryz.prog 58 [(e 4),x12] h (bJ (fun x13 h14=>bT (au Tryz.prog (ah Tryz.prog) F.bh.L2) ⟨(aa (aa (aa (aa (aa (aa (aa (aa (aa (aa Q1 25 (e 4)) 26 (e 0)) 27 (e 7)) 28 x9) 29 x10) 30 x11) 31 x12) 32 x13) 8 x13) 9 (.int .i64 0)),89,[],h14⟩ (F.bh.sq K)) (fun v15 h16=>K (.panic v15) ⟨(aa (aa (aa (aa (aa (aa (aa Q1 25 (e 4)) 26 (e 0)) 27 (e 7)) 28 x9) 29 x10) 30 x11) 31 x12),89,[],h16⟩))) (K (.exit 2) ⟨Q1,89,[],h⟩)):=by kernel_rfl
theorem F.bh.cG{e:Env}{h:ag}{K:AX→St→Bool}:F.bh.jT K (.exit 2) ⟨e,89,[],h⟩=(K .normal ⟨e,89,[],h⟩):=by kernel_rfl
theorem F.bh.iR{e:Env}{h:ag}{K:AX→St→Bool}:F.bh.jT K .ret ⟨e,89,[],h⟩=(K .ret ⟨e,89,[],h⟩):=by kernel_rfl
theorem F.bh.iS{e:Env}{h:ag}{K:AX→St→Bool}:au Tryz.prog (ah Tryz.prog) F.bh.L2 ⟨e,89,[],h⟩ K=(af (cS 3 (e 0) (e 7)) fun x17=>af (bK 2 x17) fun x18=>af (ai none x18 h) fun x19=>af (bQ .slice x19 h) fun x20=>af (aJ .lss (e 9) x20) fun x21=>let Q1:=(aa (aa (aa (aa (aa (aa (aa (aa e 33 (e 9)) 34 (e 0)) 35 (e 7)) 36 x17) 37 x18) 38 x19) 39 x20) 40 x21);ax x21 (af (cS 3 (e 0) (e 7)) fun x22=>af (bK 2 x22) fun x23=>af (ai none x23 h) fun x24=>af (cS 4 x24 (e 9)) fun x25=>af (ai (some 4) x25 h) fun x26=>af (bL 4 (.ptr (ag.next h) 0) x26 (ag.alloc h (.cells [(.int .i64 0),(.bool false),(.str []),.nils]))) fun h27=>af (bK 2 (.ptr (ag.next h) 0)) fun x28=>af (bK 0 x28) fun x29=>af (ai none x29 h27) fun x30=>ah Tryz.prog 58 [(e 4),x30] h27 (bJ (fun x31 h32=>af (bK 0 (.ptr (ag.next h) 0)) fun x35=>af (ai none x35 h32) fun x36=>af (iF (.int .i64) x36 (.int .i64 0)) fun x37=>let Q2:=(aa (aa (aa (aa (aa (aa (aa (aa (aa (aa (aa (aa (aa (aa (aa (aa (aa (aa (aa Q1 43 (e 0)) 44 (e 7)) 45 x22) 46 x23) 47 x24) 48 (e 9)) 49 x25) 50 x26) 10 (.ptr (ag.next h) 0)) 51 (e 4)) 52 x28) 53 x29) 54 x30) 55 x31) 11 x31) 56 x35) 57 x36) 58 x37) 59 x37);ax x37 (af (aJ .geq x31 (.int .i64 0)) fun x38=>let Q3:=(aa (aa (aa (aa (aa Q2 59 (.bool true)) 60 x31) 59 (.bool true)) 61 x38) 62 x38);ax x38 (af (cS 1 (e 5) x31) fun x39=>af (ai none x39 h32) fun x40=>af (bK 1 (.ptr (ag.next h) 0)) fun x41=>af (ai none x41 h32) fun x42=>let Q4:=(aa (aa (aa (aa (aa (aa (aa Q3 63 (e 5)) 64 x31) 65 x39) 66 x40) 12 x40) 67 x41) 68 x42);ax x42 (af (aJ .add x40 (.int .i64 1)) fun x43=>F.bh.J0 K ⟨(aa (aa (aa Q4 69 x40) 70 x43) 12 x43),89,[],h32⟩) (F.bh.J0 K ⟨Q4,89,[],h32⟩)) (af (aJ .add (e 9) (.int .i64 1)) fun x44=>K .normal ⟨(aa (aa (aa Q3 41 (e 9)) 42 x44) 9 x44),89,[],h32⟩)) (af (aJ .add (e 9) (.int .i64 1)) fun x45=>K .normal ⟨(aa (aa (aa (aa (aa (aa (aa (aa Q2 59 (.bool false)) 60 bD) 59 (.bool false)) 61 bD) 62 (.bool false)) 41 (e 9)) 42 x45) 9 x45),89,[],h32⟩)) (fun v33 h34=>K (.panic v33) ⟨(aa (aa (aa (aa (aa (aa (aa (aa (aa (aa (aa (aa (aa Q1 43 (e 0)) 44 (e 7)) 45 x22) 46 x23) 47 x24) 48 (e 9)) 49 x25) 50 x26) 10 (.ptr (ag.next h) 0)) 51 (e 4)) 52 x28) 53 x29) 54 x30),89,[],h34⟩))) (K (.exit 4) ⟨Q1,89,[],h⟩)):=by kernel_rfl
theorem F.bh.gw{e:Env}{h:ag}{K:AX→St→Bool}:F.bh.sq K (.exit 4) ⟨e,89,[],h⟩=(af (cS 1 (e 5) (e 8)) fun x46=>af (ai none x46 h) fun x47=>af (bQ .slice (e 4) h) fun x48=>af (aJ .gtr x47 x48) fun x49=>let Q1:=(aa (aa (aa (aa (aa (aa (aa e 81 (e 5)) 82 (e 8)) 83 x46) 84 x47) 85 (e 4)) 86 x48) 87 x49);ax x49 (K .ret ⟨(aa (aa Q1 2 .nils) 3 (.bool false)),89,[],h⟩) (af (aJ .add (e 7) (.int .i64 1)) fun x50=>K .normal ⟨(aa (aa (aa Q1 23 (e 7)) 24 x50) 7 x50),89,[],h⟩)):=by kernel_rfl
theorem F.bh.Au{e:Env}{h:ag}{K:AX→St→Bool}:F.bh.J0 K ⟨e,89,[],h⟩=(af (cS 1 (e 5) (e 8)) fun x51=>af (ai none x51 h) fun x52=>af (aJ .gtr (e 12) x52) fun x53=>let Q1:=(aa (aa (aa (aa (aa (aa e 71 (e 12)) 72 (e 5)) 73 (e 8)) 74 x51) 75 x52) 76 x53);ax x53 (af (cS 1 (e 5) (e 8)) fun x54=>af (bL 1 x54 (e 12) h) fun h55=>af (aJ .add (e 9) (.int .i64 1)) fun x56=>K .normal ⟨(aa (aa (aa (aa (aa (aa (aa (aa Q1 77 (e 5)) 78 (e 8)) 79 (e 12)) 80 x54) 6 (.bool true)) 41 (e 9)) 42 x56) 9 x56),89,[],h55⟩) (af (aJ .add (e 9) (.int .i64 1)) fun x57=>K .normal ⟨(aa (aa (aa Q1 41 (e 9)) 42 x57) 9 x57),89,[],h⟩)):=(uT _ _ _).trans (by kernel_rfl)
theorem F.yz{a0:AV}{h:ag}{K:Out→ag→Bool}:au Tryz.prog (ah Tryz.prog) (aj Tryz.f32) ⟨aF [a0],89,[],h⟩ (ay Tryz.prog cc Tryz.f32.results.toList K)=(ah Tryz.prog 34 [a0] h (bJ (fun x0 h1=>af (bQ .slice x0 h1) fun x4=>dg (fy 1 8 [(.int .i64 0)] x4 x4 h1) fun x5 h6=>bT (au Tryz.prog (ah Tryz.prog) F.bh.L0) ⟨(aa (aa (aa (aa (aa (aa (aa (aa (aa (aa (aF [a0]) 2 .nils) 3 (.bool false)) 13 a0) 14 x0) 4 x0) 15 x0) 16 x4) 17 x5) 5 x5) 6 (.bool true)),89,[],h6⟩ (F.bh.cy K)) (fun v2 h3=>K (.panic v2) h3))):=by kernel_rfl
theorem F.wh{a0:AV}{h:ag}{K:Out→ag→Bool}(hh:au Tryz.prog (ah Tryz.prog) (aj Tryz.f32) ⟨aF [a0],89,[],h⟩ (ay Tryz.prog cc Tryz.f32.results.toList K)=true):Sem Tryz.prog 32 [a0] h K:=
 aP mixed (aM _) Tryz.func32 (c:=aj Tryz.f32) rfl (by decide) (of_decide_eq_true (by kernel_rfl)) hh
end
end Go.AM
namespace Go.AM
open Go Go.Proofs
noncomputable section
noncomputable def F.cT.L0:Code:=partOf (aj Tryz.f69) [1,1,0,1,0,0]
noncomputable def F.cT.cy(K:Out→ag→Bool):AX→St→Bool:=(aX 0 (cI false (au Tryz.prog (ah Tryz.prog) (partOf (aj Tryz.f69) [1,1,1])) (ay Tryz.prog cc Tryz.f69.results.toList K)))
theorem F.cT.aN{e:Env}{h:ag}{K:AX→St→Bool}:au Tryz.prog (ah Tryz.prog) F.cT.L0 ⟨e,24,[],h⟩ K=(af (aJ .lss (e 10) (e 9)) fun x1=>ax x1 (af (cS 1 (e 8) (e 10)) fun x2=>af (ai none x2 h) fun x3=>af (b6 (e 0)) fun x4=>af (bK 0 x4) fun x5=>af (ai none x5 h) fun x6=>af (aJ .mul (e 5) x6) fun x7=>af (aJ .add x7 x3) fun x8=>af (aJ .add (e 10) (.int .i64 1)) fun x9=>K .normal ⟨(aa (aa (aa (aa (aa (aa (aa (aa (aa (aa (aa (aa (aa (aa (aa e 11 x1) 12 x2) 13 x3) 7 x3) 14 (e 5)) 15 (e 0)) 16 x4) 17 x5) 18 x6) 19 x7) 20 x3) 21 x8) 5 x8) 22 x9) 10 x9),24,[],h⟩) (K (.exit 0) ⟨(aa e 11 x1),24,[],h⟩)):=by kernel_rfl
theorem F.cT.aG{e:Env}{h:ag}{K:Out→ag→Bool}:F.cT.cy K (.exit 0) ⟨e,24,[],h⟩=(K (.ret (e 5)) h):=by kernel_rfl
theorem F.mh{a0 a1:AV}{h:ag}{K:Out→ag→Bool}:au Tryz.prog (ah Tryz.prog) (aj Tryz.f69) ⟨aF [a0,a1],24,[],h⟩ (ay Tryz.prog cc Tryz.f69.results.toList K)=(af (bQ .slice a1 h) fun x0=>bT (au Tryz.prog (ah Tryz.prog) F.cT.L0) ⟨(aa (aa (aa (aa (aa (aF [a0,a1]) 4 (.int .i64 0)) 5 (.int .i64 0)) 8 a1) 9 x0) 10 (.int .i64 0)),24,[],h⟩ (F.cT.cy K)):=by kernel_rfl
theorem F.lR{a0 a1:AV}{h:ag}{K:Out→ag→Bool}(hh:au Tryz.prog (ah Tryz.prog) (aj Tryz.f69) ⟨aF [a0,a1],24,[],h⟩ (ay Tryz.prog cc Tryz.f69.results.toList K)=true):Sem Tryz.prog 69 [a0,a1] h K:=
 aP mixed (aM _) Tryz.func69 (c:=aj Tryz.f69) rfl (by decide) (of_decide_eq_true (by kernel_rfl)) hh
noncomputable def F.fJ.L0:Code:=partOf (aj Tryz.f124) [1,1,0,1,0,0]
noncomputable def F.fJ.cy(K:Out→ag→Bool):AX→St→Bool:=(aX 0 (cI false (au Tryz.prog (ah Tryz.prog) (partOf (aj Tryz.f124) [1,1,1])) (ay Tryz.prog cc Tryz.f124.results.toList K)))
theorem F.fJ.aN{e:Env}{h:ag}{K:AX→St→Bool}:au Tryz.prog (ah Tryz.prog) F.fJ.L0 ⟨e,27,[],h⟩ K=(af (aJ .lss (e 13) (e 12)) fun x4=>ax x4 (af (cS 1 (e 11) (e 13)) fun x5=>af (ai none x5 h) fun x6=>af (cS 1 (e 0) x6) fun x7=>af (ai none x7 h) fun x8=>af (cS 1 (e 5) (e 13)) fun x9=>af (bL 1 x9 x8 h) fun h10=>af (aJ .add (e 13) (.int .i64 1)) fun x11=>K .normal ⟨(aa (aa (aa (aa (aa (aa (aa (aa (aa (aa (aa (aa (aa (aa (aa e 14 x4) 15 (e 13)) 16 x5) 17 x6) 6 (e 13)) 7 x6) 18 (e 5)) 19 (e 13)) 20 (e 0)) 21 x6) 22 x7) 23 x8) 24 x9) 25 x11) 13 x11),27,[],h10⟩) (K (.exit 0) ⟨(aa e 14 x4),27,[],h⟩)):=by kernel_rfl
theorem F.fJ.aG{e:Env}{h:ag}{K:Out→ag→Bool}:F.fJ.cy K (.exit 0) ⟨e,27,[],h⟩=(K (.ret (e 5)) h):=by kernel_rfl
theorem F.tu{a0 a1:AV}{h:ag}{K:Out→ag→Bool}:au Tryz.prog (ah Tryz.prog) (aj Tryz.f124) ⟨aF [a0,a1],27,[],h⟩ (ay Tryz.prog cc Tryz.f124.results.toList K)=(af (bQ .slice a1 h) fun x0=>dg (fy 1 8 [(.int .i64 0)] x0 x0 h) fun x1 h2=>af (bQ .slice a1 h2) fun x3=>bT (au Tryz.prog (ah Tryz.prog) F.fJ.L0) ⟨(aa (aa (aa (aa (aa (aa (aa (aa (aF [a0,a1]) 4 .nils) 8 a1) 9 x0) 10 x1) 5 x1) 11 a1) 12 x3) 13 (.int .i64 0)),27,[],h2⟩ (F.fJ.cy K)):=by kernel_rfl
theorem F.qT{a0 a1:AV}{h:ag}{K:Out→ag→Bool}(hh:au Tryz.prog (ah Tryz.prog) (aj Tryz.f124) ⟨aF [a0,a1],27,[],h⟩ (ay Tryz.prog cc Tryz.f124.results.toList K)=true):Sem Tryz.prog 124 [a0,a1] h K:=
 aP mixed (aM _) Tryz.func124 (c:=aj Tryz.f124) rfl (by decide) (of_decide_eq_true (by kernel_rfl)) hh
theorem F.qW{a0 a1 a2:AV}{h:ag}{K:Out→ag→Bool}:au Tryz.prog (ah Tryz.prog) (aj Tryz.f129) ⟨aF [a0,a1,a2],47,[],h⟩ (ay Tryz.prog cc Tryz.f129.results.toList K)=(af (ew a1) fun c0=>af (bK 0 (.ptr (ag.next h) 0)) fun x1=>af (ai none x1 (ag.alloc h (.cells c0))) fun x2=>af (iF (.int .i64) x2 (.int .i64 0)) fun x3=>ax x3 (af (b6 a0) fun x4=>af (bK 1 x4) fun x5=>af (ai none x5 (ag.alloc h (.cells c0))) fun x6=>af (bK 2 (.ptr (ag.next h) 0)) fun x7=>af (bK 0 x7) fun x8=>af (ai none x8 (ag.alloc h (.cells c0))) fun x9=>af (ei .string .nils false x6 x9 (ag.alloc h (.cells c0))) fun x10=>ah Tryz.prog 69 [a0,a2] (ag.alloc h (.cells c0)) (bJ (fun x11 h12=>if ((af (ei .string .nils false x6 x9 h12) fun x13=>AV.beq x13 x10)&&((af (ai none x8 h12) fun x14=>AV.beq x14 x9)&&((af (ai none x5 h12) fun x15=>AV.beq x15 x6)&&true)))=true then (af (cS 1 x10 x11) fun x16=>af (ai none x16 h12) fun x17=>af (bK 1 (.ptr (ag.next h) 0)) fun x18=>af (ai none x18 h12) fun x19=>af (nI .bool x17 x19) fun x20=>K (.ret x20) h12) else false) (fun _ _=>false))) (af (iF (.int .i64) x2 (.int .i64 1)) fun x21=>ax x21 (af (cS 1 a2 (.int .i64 0)) fun x22=>af (ai none x22 (ag.alloc h (.cells c0))) fun x23=>af (cS 1 a2 (.int .i64 1)) fun x24=>af (ai none x24 (ag.alloc h (.cells c0))) fun x25=>af (iF (.int .i64) x23 x25) fun x26=>af (bK 1 (.ptr (ag.next h) 0)) fun x27=>af (ai none x27 (ag.alloc h (.cells c0))) fun x28=>af (nI .bool x26 x28) fun x29=>K (.ret x29) (ag.alloc h (.cells c0))) (af (iF (.int .i64) x2 (.int .i64 2)) fun x30=>ax x30 (af (cS 1 a2 (.int .i64 0)) fun x31=>af (ai none x31 (ag.alloc h (.cells c0))) fun x32=>af (cS 1 a2 (.int .i64 1)) fun x33=>af (ai none x33 (ag.alloc h (.cells c0))) fun x34=>af (aJ .lss x32 x34) fun x35=>af (bK 1 (.ptr (ag.next h) 0)) fun x36=>af (ai none x36 (ag.alloc h (.cells c0))) fun x37=>af (nI .bool x35 x37) fun x38=>K (.ret x38) (ag.alloc h (.cells c0))) (af (bK 1 (.ptr (ag.next h) 0)) fun x39=>af (ai none x39 (ag.alloc h (.cells c0))) fun x40=>af (nI .bool (.bool false) x40) fun x41=>K (.ret x41) (ag.alloc h (.cells c0)))))):=by kernel_rfl
theorem F.qj{a0 a1 a2:AV}{h:ag}{K:Out→ag→Bool}(hh:au Tryz.prog (ah Tryz.prog) (aj Tryz.f129) ⟨aF [a0,a1,a2],47,[],h⟩ (ay Tryz.prog cc Tryz.f129.results.toList K)=true):Sem Tryz.prog 129 [a0,a1,a2] h K:=
 aP mixed (aM _) Tryz.func129 (c:=aj Tryz.f129) rfl (by decide) (of_decide_eq_true (by kernel_rfl)) hh
noncomputable def F.cu.L0:Code:=partOf (aj Tryz.f109) [1,1,1,1,0,1,0,0]
noncomputable def F.cu.cy(K:Out→ag→Bool):AX→St→Bool:=(aX 0 (cI false (au Tryz.prog (ah Tryz.prog) (partOf (aj Tryz.f109) [1,1,1,1,1])) (ay Tryz.prog cc Tryz.f109.results.toList K)))
noncomputable def F.cu.L1:Code:=partOf (aj Tryz.f109) [1,1,1,1,0,1,0,0,1,1,0,0,1,1,1,0,1,0,0]
noncomputable def F.cu.jT(K:AX→St→Bool):AX→St→Bool:=(aX 2 (cI false (au Tryz.prog (ah Tryz.prog) (partOf (aj Tryz.f109) [1,1,1,1,0,1,0,0,1,1,0,0,1,1,1,1])) (aX 1 (cI false (au Tryz.prog (ah Tryz.prog) (partOf (aj Tryz.f109) [1,1,1,1,0,1,0,0,1,1,1])) K))))
theorem F.cu.aN{e:Env}{h:ag}{K:AX→St→Bool}:au Tryz.prog (ah Tryz.prog) F.cu.L0 ⟨e,63,[],h⟩ K=(af (aJ .lss (e 30) (e 29)) fun x23=>ax x23 (af (cS 4 (e 28) (e 30)) fun x24=>af (ai (some 4) x24 h) fun x25=>af (bL 4 (.ptr (ag.next h) 0) x25 (ag.alloc h (.cells [(.int .i64 0),(.bool false),(.str []),.nils]))) fun h26=>af (bK 2 (.ptr (ag.next h) 0)) fun x27=>af (bK 1 x27) fun x28=>af (ai none x28 h26) fun x29=>pZ (e 6) fun f35 a36 a37=>ah Tryz.prog f35 (a36++([x29]++a37)) h26 (bJ (fun x30 h31=>af (bQ .slice x30 h31) fun x34=>bT (au Tryz.prog (ah Tryz.prog) F.cu.L1) ⟨(aa (aa (aa (aa (aa (aa (aa (aa (aa (aa (aa (aa (aa (aa e 31 x23) 32 x24) 33 x25) 9 (.ptr (ag.next h) 0)) 34 (e 6)) 35 x27) 36 x28) 37 x29) 38 x30) 10 x30) 11 (.int .i64 (-1))) 39 x30) 40 x34) 41 (.int .i64 0)),63,[],h31⟩ (F.cu.jT K)) (fun v32 h33=>K (.panic v32) ⟨(aa (aa (aa (aa (aa (aa (aa (aa e 31 x23) 32 x24) 33 x25) 9 (.ptr (ag.next h) 0)) 34 (e 6)) 35 x27) 36 x28) 37 x29),63,[],h33⟩))) (K (.exit 0) ⟨(aa e 31 x23),63,[],h⟩)):=by kernel_rfl
theorem F.cu.aG{e:Env}{h:ag}{K:Out→ag→Bool}:F.cu.cy K (.exit 0) ⟨e,63,[],h⟩=(af (ai (some 8) (e 7) h) fun x38=>af (bL 8 (e 4) x38 h) fun h39=>af (eL Tryz.prog ⟨(aa e 62 x38),63,[],h39⟩ Tryz.f109.results.toList) fun vs=>K (.ret (oneOf vs)) h39):=by kernel_rfl
theorem F.cu.dS{e:Env}{h:ag}{K:AX→St→Bool}:au Tryz.prog (ah Tryz.prog) F.cu.L1 ⟨e,63,[],h⟩ K=(af (aJ .lss (e 41) (e 40)) fun x40=>ax x40 (af (cS 1 (e 39) (e 41)) fun x41=>af (ai none x41 h) fun x42=>af (td true (e 11) [x42]) fun x43=>af (aJ .add (e 41) (.int .i64 1)) fun x44=>K .normal ⟨(aa (aa (aa (aa (aa (aa (aa (aa (aa (aa e 42 x40) 43 x41) 44 x42) 13 x42) 45 (e 11)) 46 x42) 47 x43) 11 x43) 48 x44) 41 x44),63,[],h⟩) (K (.exit 2) ⟨(aa e 42 x40),63,[],h⟩)):=by kernel_rfl
theorem F.cu.cG{e:Env}{h:ag}{K:AX→St→Bool}:F.cu.jT K (.exit 2) ⟨e,63,[],h⟩=(af (bK 6 (e 7)) fun x45=>af (ai none x45 h) fun x46=>af (fR [.nils] [(0,1)] [(e 10)]) fun c47=>af (bK 7 (e 7)) fun x48=>af (ai none x48 (ag.alloc h (.cells c47))) fun x49=>af (fR [(.int .i64 0)] [(0,1)] [(e 11)]) fun c50=>dg (cz 1 24 x46 (.slice (ag.next h) 0 1 1) (ag.alloc (ag.alloc h (.cells c47)) (.cells c50))) fun x51 h52=>if ((af (ai none x48 h52) fun x53=>AV.beq x53 x49)&&true)=true then (af (bK 6 (e 7)) fun x54=>dg (cz 1 8 x49 (.slice (ag.next (ag.alloc h (.cells c47))) 0 1 1) h52) fun x55 h56=>af (bL 1 x54 x51 h56) fun h57=>af (bK 7 (e 7)) fun x58=>af (bL 1 x58 x55 h57) fun h59=>af (aJ .add (e 30) (.int .i64 1)) fun x60=>K .normal ⟨(aa (aa (aa (aa (aa (aa (aa (aa (aa (aa (aa (aa (aa (aa e 49 x45) 50 x46) 51 (e 10)) 52 (.slice (ag.next h) 0 1 1)) 54 x48) 55 x49) 56 (e 11)) 57 (.slice (ag.next (ag.alloc h (.cells c47))) 0 1 1)) 53 x51) 59 x54) 58 x55) 60 x58) 61 x60) 30 x60),63,[],h59⟩) else false):=by kernel_rfl
theorem F.yA{a0 a1:AV}{h:ag}{K:Out→ag→Bool}:au Tryz.prog (ah Tryz.prog) (aj Tryz.f109) ⟨aF [a0,a1],63,[],h⟩ (ay Tryz.prog cc Tryz.f109.results.toList K)=(af (ew a1) fun c0=>af (ai (some 3) (.ptr (ag.next h) 0) (ag.alloc (ag.alloc h (.cells c0)) (.cells [(.int .i64 0),(.str []),.nils,.nils,(.int .i64 0),.nils,.nils,.nils]))) fun x1=>ah Tryz.prog 108 [x1] (ag.alloc (ag.alloc h (.cells c0)) (.cells [(.int .i64 0),(.str []),.nils,.nils,(.int .i64 0),.nils,.nils,.nils])) (bJ (fun x2 h3=>af (bL 1 (.ptr (ag.next h3) 0) x2 (ag.alloc h3 (.cells [.nils]))) fun h6=>af (ai (some 3) (.ptr (ag.next h) 0) h6) fun x7=>af (ai none (.ptr (ag.next h3) 0) h6) fun x8=>af (bQ .slice x8 h6) fun x9=>af (bK 0 (.ptr (ag.next h) 0)) fun x10=>af (bK 1 x10) fun x11=>af (ai none x11 h6) fun x12=>ah Tryz.prog 156 [x12,(.ptr (ag.next h3) 0)] (ag.alloc h6 (.cells [(.int .i64 0),(.str []),.nils,.nils,(.int .i64 0),.nils,.nils,.nils])) (bJ (fun x13 h14=>if ((af (bQ .slice x8 h14) fun x15=>AV.beq x15 x9)&&((af (ai none (.ptr (ag.next h3) 0) h14) fun x16=>AV.beq x16 x8)&&((af (ai (some 3) (.ptr (ag.next h) 0) h14) fun x17=>AV.beq x17 x7)&&true)))=true then (af (kJ [(.int .i64 0),(.str []),.nils,.nils,(.int .i64 0),.nils,.nils,.nils] [(0,1),(1,3),(4,1),(5,1)] [a0,x7,x9,x13]) fun x18=>af (bL 8 (.ptr (ag.next h6) 0) x18 h14) fun h19=>af (bK 2 (.ptr (ag.next h) 0)) fun x20=>af (ai none x20 h19) fun x21=>af (bQ .slice x21 h19) fun x22=>bT (au Tryz.prog (ah Tryz.prog) F.cu.L0) ⟨(aa (aa (aa (aa (aa (aa (aa (aa (aa (aa (aa (aa (aa (aa (aa (aa (aa (aa (aa (aa (aa (aa (aF [a0,a1]) 3 (.ptr (ag.next h) 0)) 4 (.ptr (ag.next (ag.alloc h (.cells c0))) 0)) 14 x1) 15 x2) 5 (.ptr (ag.next h3) 0)) 16 (.func 156 [] [(.ptr (ag.next h3) 0)])) 6 (.func 156 [] [(.ptr (ag.next h3) 0)])) 17 a0) 18 x7) 19 x8) 20 x9) 21 (.func 156 [] [(.ptr (ag.next h3) 0)])) 22 x10) 23 x11) 24 x12) 7 (.ptr (ag.next h6) 0)) 25 x13) 26 x18) 27 x20) 28 x21) 29 x22) 30 (.int .i64 0)),63,[],h19⟩ (F.cu.cy K)) else false) (fun _ _=>false))) (fun v4 h5=>K (.panic v4) h5))):=by kernel_rfl
theorem F.wj{a0 a1:AV}{h:ag}{K:Out→ag→Bool}(hh:au Tryz.prog (ah Tryz.prog) (aj Tryz.f109) ⟨aF [a0,a1],63,[],h⟩ (ay Tryz.prog cc Tryz.f109.results.toList K)=true):Sem Tryz.prog 109 [a0,a1] h K:=
 aP mixed (aM _) Tryz.func109 (c:=aj Tryz.f109) rfl (by decide) (of_decide_eq_true (by kernel_rfl)) hh
noncomputable def F.eS.L0:Code:=partOf (aj Tryz.f156) [1,1,0,1,0,0]
noncomputable def F.eS.cy(K:Out→ag→Bool):AX→St→Bool:=(aX 0 (cI false (au Tryz.prog (ah Tryz.prog) (partOf (aj Tryz.f156) [1,1,1])) (ay Tryz.prog cc Tryz.f156.results.toList K)))
theorem F.eS.aN{e:Env}{h:ag}{K:AX→St→Bool}:au Tryz.prog (ah Tryz.prog) F.eS.L0 ⟨e,21,[],h⟩ K=(af (aJ .lss (e 9) (e 8)) fun x1=>ax x1 (af (cS 1 (e 7) (e 9)) fun x2=>af (ai none x2 h) fun x3=>af (ai none (e 1) h) fun x4=>ah Tryz.prog 157 [x4,x3] h (bJ (fun x5 h6=>af (fR [(.int .i64 0)] [(0,1)] [x5]) fun c9=>dg (cz 1 8 (e 4) (.slice (ag.next h6) 0 1 1) (ag.alloc h6 (.cells c9))) fun x10 h11=>af (aJ .add (e 9) (.int .i64 1)) fun x12=>K .normal ⟨(aa (aa (aa (aa (aa (aa (aa (aa (aa (aa (aa (aa (aa e 10 x1) 11 x2) 12 x3) 6 x3) 13 (e 4)) 14 x4) 15 x3) 16 x5) 17 (.slice (ag.next h6) 0 1 1)) 18 x10) 4 x10) 19 x12) 9 x12),21,[],h11⟩) (fun v7 h8=>K (.panic v7) ⟨(aa (aa (aa (aa (aa (aa (aa e 10 x1) 11 x2) 12 x3) 6 x3) 13 (e 4)) 14 x4) 15 x3),21,[],h8⟩))) (K (.exit 0) ⟨(aa e 10 x1),21,[],h⟩)):=by kernel_rfl
theorem F.eS.aG{e:Env}{h:ag}{K:Out→ag→Bool}:F.eS.cy K (.exit 0) ⟨e,21,[],h⟩=(K (.ret (e 4)) h):=by kernel_rfl
theorem F.u6{a0 a1:AV}{h:ag}{K:Out→ag→Bool}:au Tryz.prog (ah Tryz.prog) (aj Tryz.f156) ⟨aF [a0,a1],21,[],h⟩ (ay Tryz.prog cc Tryz.f156.results.toList K)=(af (bQ .slice a0 h) fun x0=>bT (au Tryz.prog (ah Tryz.prog) F.eS.L0) ⟨(aa (aa (aa (aa (aa (aF [a0,a1]) 3 .nils) 4 .nils) 7 a0) 8 x0) 9 (.int .i64 0)),21,[],h⟩ (F.eS.cy K)):=by kernel_rfl
theorem F.tZ{a0 a1:AV}{h:ag}{K:Out→ag→Bool}(hh:au Tryz.prog (ah Tryz.prog) (aj Tryz.f156) ⟨aF [a0,a1],21,[],h⟩ (ay Tryz.prog cc Tryz.f156.results.toList K)=true):Sem Tryz.prog 156 [a0,a1] h K:=
 aP mixed (aM _) Tryz.func156 (c:=aj Tryz.f156) rfl (by decide) (of_decide_eq_true (by kernel_rfl)) hh
theorem F.sW{a0 a1 a2:AV}{h:ag}{K:Out→ag→Bool}:au Tryz.prog (ah Tryz.prog) (aj Tryz.f122) ⟨aF [a0,a1,a2],18,[],h⟩ (ay Tryz.prog cc Tryz.f122.results.toList K)=(af (ew a0) fun c0=>af (ew a1) fun c1=>af (ew a2) fun c2=>af (bK 4 (.ptr (ag.next (ag.alloc h (.cells c0))) 0)) fun x3=>af (ai none x3 (ag.alloc (ag.alloc (ag.alloc h (.cells c0)) (.cells c1)) (.cells c2))) fun x4=>dg (fy 1 8 [(.int .i64 0)] x4 x4 (ag.alloc (ag.alloc (ag.alloc h (.cells c0)) (.cells c1)) (.cells c2))) fun x5 h6=>af (bL 1 (.ptr (ag.next h6) 0) x5 (ag.alloc h6 (.cells [.nils]))) fun h7=>af (bL 1 (.ptr (ag.next h7) 0) (.func 166 [] [(.ptr (ag.next (ag.alloc h (.cells c0))) 0),(.ptr (ag.next h) 0),(.ptr (ag.next h6) 0)]) (ag.alloc h7 (.cells [.nilf]))) fun h8=>af (bL 1 (.ptr (ag.next h8) 0) (.func 167 [] [(.ptr (ag.next (ag.alloc h (.cells c0))) 0),(.ptr (ag.next (ag.alloc (ag.alloc h (.cells c0)) (.cells c1))) 0),(.ptr (ag.next h6) 0),(.ptr (ag.next h) 0),(.ptr (ag.next h7) 0),(.ptr (ag.next h8) 0)]) (ag.alloc h8 (.cells [.nilf]))) fun h9=>af (ai none (.ptr (ag.next h7) 0) h9) fun x10=>pZ x10 fun f23 a24 a25=>ah Tryz.prog f23 (a24++([(.int .i64 (-1))]++a25)) h9 (bJ (fun x11 h12=>ax x11 (af (ai none (.ptr (ag.next h8) 0) h12) fun x15=>pZ x15 fun f20 a21 a22=>ah Tryz.prog f20 (a21++([(.int .i64 0)]++a22)) h12 (bJ (fun x16 h17=>K (.ret (.tuple [])) h17) (fun v18 h19=>K (.panic v18) h19))) (K (.ret (.tuple [])) h12)) (fun v13 h14=>K (.panic v13) h14))):=by kernel_rfl
theorem F.qX{a0 a1 a2:AV}{h:ag}{K:Out→ag→Bool}(hh:au Tryz.prog (ah Tryz.prog) (aj Tryz.f122) ⟨aF [a0,a1,a2],18,[],h⟩ (ay Tryz.prog cc Tryz.f122.results.toList K)=true):Sem Tryz.prog 122 [a0,a1,a2] h K:=
 aP mixed (aM _) Tryz.func122 (c:=aj Tryz.f122) rfl (by decide) (of_decide_eq_true (by kernel_rfl)) hh
noncomputable def F.cF.L0:Code:=partOf (aj Tryz.f166) [1,0,1,0,0]
noncomputable def F.cF.cy(K:Out→ag→Bool):AX→St→Bool:=(aX 0 (cI false (au Tryz.prog (ah Tryz.prog) (partOf (aj Tryz.f166) [1,1])) (ay Tryz.prog cc Tryz.f166.results.toList K)))
theorem F.cF.aN{e:Env}{h:ag}{K:AX→St→Bool}:au Tryz.prog (ah Tryz.prog) F.cF.L0 ⟨e,38,[],h⟩ K=(af (aJ .lss (e 12) (e 11)) fun x4=>let Q1:=(aa e 13 x4);ax x4 (af (cS 4 (e 10) (e 12)) fun x5=>af (ai (some 4) x5 h) fun x6=>af (bL 4 (.ptr (ag.next h) 0) x6 (ag.alloc h (.cells [(.int .i64 0),(.bool false),(.str []),.nils]))) fun h7=>af (bK 7 (e 1)) fun x8=>af (ai none x8 h7) fun x9=>af (cS 1 x9 (e 12)) fun x10=>af (ai none x10 h7) fun x11=>af (iF (.int .i64) x11 (e 0)) fun x12=>let Q2:=(aa (aa (aa (aa (aa (aa (aa (aa (aa (aa (aa (aa (aa Q1 14 (e 12)) 15 x5) 16 x6) 7 (.ptr (ag.next h) 0)) 6 (e 12)) 17 x8) 18 x9) 19 (e 12)) 20 x10) 21 x11) 22 (e 0)) 23 x12) 24 x12);ax x12 (af (ai none (e 2) h7) fun x13=>af (ai (some 4) (.ptr (ag.next h) 0) h7) fun x14=>af (ai none (e 3) h7) fun x15=>af (bK 6 (e 1)) fun x16=>af (ai none x16 h7) fun x17=>af (cS 1 x17 (e 12)) fun x18=>af (ai none x18 h7) fun x19=>ah Tryz.prog 124 [x15,x19] h7 (bJ (fun x20 h21=>if ((af (ai (some 4) (.ptr (ag.next h) 0) h21) fun x22=>AV.beq x22 x14)&&((af (ai none (e 2) h21) fun x23=>AV.beq x23 x13)&&true))=true then (ah Tryz.prog 129 [x13,x14,x20] h21 (bJ (fun x24 h25=>af (ji .not x24) fun x26=>let Q3:=(aa (aa (aa (aa (aa (aa (aa (aa (aa (aa (aa (aa (aa (aa (aa (aa (aa (aa (aa (aa (aa (aa (aa Q2 24 (.bool true)) 25 x13) 24 (.bool true)) 26 x14) 24 (.bool true)) 27 x15) 24 (.bool true)) 28 x16) 24 (.bool true)) 29 x17) 24 (.bool true)) 30 (e 12)) 24 (.bool true)) 31 x18) 24 (.bool true)) 32 x19) 24 (.bool true)) 33 x20) 24 (.bool true)) 34 x24) 24 (.bool true)) 35 x26) 36 x26);ax x26 (K .ret ⟨(aa Q3 5 (.bool false)),38,[],h25⟩) (af (aJ .add (e 12) (.int .i64 1)) fun x27=>K .normal ⟨(aa (aa Q3 37 x27) 12 x27),38,[],h25⟩)) (fun _ _=>false))) else false) (fun _ _=>false))) (af (aJ .add (e 12) (.int .i64 1)) fun x28=>K .normal ⟨(aa (aa (aa (aa (aa (aa (aa (aa (aa (aa (aa (aa (aa (aa (aa (aa (aa (aa (aa (aa (aa (aa (aa (aa (aa Q2 24 (.bool false)) 25 bD) 24 (.bool false)) 26 bD) 24 (.bool false)) 27 bD) 24 (.bool false)) 28 bD) 24 (.bool false)) 29 bD) 24 (.bool false)) 30 bD) 24 (.bool false)) 31 bD) 24 (.bool false)) 32 bD) 24 (.bool false)) 33 bD) 24 (.bool false)) 34 bD) 24 (.bool false)) 35 bD) 36 (.bool false)) 37 x28) 12 x28),38,[],h7⟩)) (K (.exit 0) ⟨Q1,38,[],h⟩)):=by kernel_rfl
theorem F.cF.aG{e:Env}{h:ag}{K:Out→ag→Bool}:F.cF.cy K (.exit 0) ⟨e,38,[],h⟩=(K (.ret (.bool true)) h):=by kernel_rfl
theorem F.cF.aZ{e:Env}{h:ag}{K:Out→ag→Bool}:F.cF.cy K .ret ⟨e,38,[],h⟩=(K (.ret (e 5)) h):=by kernel_rfl
theorem F.qm{a0 a1 a2 a3:AV}{h:ag}{K:Out→ag→Bool}:au Tryz.prog (ah Tryz.prog) (aj Tryz.f166) ⟨aF [a0,a1,a2,a3],38,[],h⟩ (ay Tryz.prog cc Tryz.f166.results.toList K)=(af (bK 1 a1) fun x0=>af (bK 2 x0) fun x1=>af (ai none x1 h) fun x2=>af (bQ .slice x2 h) fun x3=>bT (au Tryz.prog (ah Tryz.prog) F.cF.L0) ⟨(aa (aa (aa (aa (aa (aa (aF [a0,a1,a2,a3]) 5 (.bool false)) 8 x0) 9 x1) 10 x2) 11 x3) 12 (.int .i64 0)),38,[],h⟩ (F.cF.cy K)):=by kernel_rfl
theorem F.pz{a0 a1 a2 a3:AV}{h:ag}{K:Out→ag→Bool}(hh:au Tryz.prog (ah Tryz.prog) (aj Tryz.f166) ⟨aF [a0,a1,a2,a3],38,[],h⟩ (ay Tryz.prog cc Tryz.f166.results.toList K)=true):Sem Tryz.prog 166 [a0,a1,a2,a3] h K:=
 aP mixed (aM _) Tryz.func166 (c:=aj Tryz.f166) rfl (by decide) (of_decide_eq_true (by kernel_rfl)) hh
noncomputable def F.dy.L0:Code:=partOf (aj Tryz.f167) [1,1,0,1,0,0]
noncomputable def F.dy.cy(K:Out→ag→Bool):AX→St→Bool:=(aX 0 (cI false (au Tryz.prog (ah Tryz.prog) (partOf (aj Tryz.f167) [1,1,1])) (ay Tryz.prog cc Tryz.f167.results.toList K)))
theorem F.dy.aN{e:Env}{h:ag}{K:AX→St→Bool}:au Tryz.prog (ah Tryz.prog) F.dy.L0 ⟨e,39,[],h⟩ K=(af (aJ .lss (e 21) (e 20)) fun x16=>let Q1:=(aa e 22 x16);ax x16 (af (ai none (e 3) h) fun x17=>af (cS 1 x17 (e 0)) fun x18=>af (bL 1 x18 (e 21) h) fun h19=>af (ai none (e 5) h19) fun x20=>pZ x20 fun f37 a38 a39=>ah Tryz.prog f37 (a38++([(e 0)]++a39)) h19 (bJ (fun x21 h22=>let Q2:=(aa (aa (aa (aa (aa (aa (aa (aa (aa (aa Q1 23 (e 21)) 9 (e 21)) 24 x17) 25 (e 0)) 26 (e 21)) 27 x18) 28 x20) 29 (e 0)) 30 x21) 31 x21);ax x21 (af (ai none (e 6) h22) fun x25=>af (aJ .add (e 0) (.int .i64 1)) fun x26=>pZ x25 fun f33 a34 a35=>ah Tryz.prog f33 (a34++([x26]++a35)) h22 (bJ (fun x27 h28=>af (ji .not x27) fun x31=>let Q3:=(aa (aa (aa (aa (aa (aa (aa (aa (aa (aa (aa Q2 31 (.bool true)) 32 x25) 31 (.bool true)) 33 (e 0)) 31 (.bool true)) 34 x26) 31 (.bool true)) 35 x27) 31 (.bool true)) 36 x31) 37 x31);ax x31 (K .ret ⟨(aa Q3 8 (.bool false)),39,[],h28⟩) (af (aJ .add (e 21) (.int .i64 1)) fun x32=>K .normal ⟨(aa (aa Q3 38 x32) 21 x32),39,[],h28⟩)) (fun v29 h30=>K (.panic v29) ⟨(aa (aa (aa (aa (aa (aa (aa Q2 31 (.bool true)) 32 x25) 31 (.bool true)) 33 (e 0)) 31 (.bool true)) 34 x26) 31 (.bool true)),39,[],h30⟩))) (af (aJ .add (e 21) (.int .i64 1)) fun x36=>K .normal ⟨(aa (aa (aa (aa (aa (aa (aa (aa (aa (aa (aa (aa (aa Q2 31 (.bool false)) 32 bD) 31 (.bool false)) 33 bD) 31 (.bool false)) 34 bD) 31 (.bool false)) 35 bD) 31 (.bool false)) 36 bD) 37 (.bool false)) 38 x36) 21 x36),39,[],h22⟩)) (fun v23 h24=>K (.panic v23) ⟨(aa (aa (aa (aa (aa (aa (aa (aa Q1 23 (e 21)) 9 (e 21)) 24 x17) 25 (e 0)) 26 (e 21)) 27 x18) 28 x20) 29 (e 0)),39,[],h24⟩))) (K (.exit 0) ⟨Q1,39,[],h⟩)):=by kernel_rfl
theorem F.dy.aG{e:Env}{h:ag}{K:Out→ag→Bool}:F.dy.cy K (.exit 0) ⟨e,39,[],h⟩=(K (.ret (.bool true)) h):=by kernel_rfl
theorem F.kQ{a0 a1 a2 a3 a4 a5 a6:AV}{h:ag}{K:Out→ag→Bool}:au Tryz.prog (ah Tryz.prog) (aj Tryz.f167) ⟨aF [a0,a1,a2,a3,a4,a5,a6],39,[],h⟩ (ay Tryz.prog cc Tryz.f167.results.toList K)=(af (bK 4 a1) fun x0=>af (ai none x0 h) fun x1=>af (iF (.int .i64) a0 x1) fun x2=>ax x2 (af (ai none a2 h) fun x3=>af (ai none a3 h) fun x4=>pZ x3 fun f9 a10 a11=>ah Tryz.prog f9 (a10++([x4]++a11)) h (bJ (fun x5 h6=>K (.ret x5) h6) (fun v7 h8=>K (.panic v7) h8))) (af (ai none a4 h) fun x12=>af (b6 x12) fun x13=>af (bK 0 x13) fun x14=>af (ai none x14 h) fun x15=>bT (au Tryz.prog (ah Tryz.prog) F.dy.L0) ⟨(aa (aa (aa (aa (aa (aa (aa (aa (aa (aa (aF [a0,a1,a2,a3,a4,a5,a6]) 8 (.bool false)) 10 a0) 11 x0) 12 x1) 13 x2) 17 x12) 18 x13) 19 x14) 20 x15) 21 (.int .i64 0)),39,[],h⟩ (F.dy.cy K))):=by kernel_rfl
theorem F.kz{a0 a1 a2 a3 a4 a5 a6:AV}{h:ag}{K:Out→ag→Bool}(hh:au Tryz.prog (ah Tryz.prog) (aj Tryz.f167) ⟨aF [a0,a1,a2,a3,a4,a5,a6],39,[],h⟩ (ay Tryz.prog cc Tryz.f167.results.toList K)=true):Sem Tryz.prog 167 [a0,a1,a2,a3,a4,a5,a6] h K:=
 aP mixed (aM _) Tryz.func167 (c:=aj Tryz.f167) rfl (by decide) (of_decide_eq_true (by kernel_rfl)) hh
noncomputable def F.bV.L0:Code:=partOf (aj Tryz.f110) [1,1,0,0]
noncomputable def F.bV.cy(K:Out→ag→Bool):AX→St→Bool:=(aX 0 (ay Tryz.prog cc Tryz.f110.results.toList K))
noncomputable def F.bV.L1:Code:=partOf (aj Tryz.f110) [1,1,0,0,1,0,0,1,1,0,0]
noncomputable def F.bV.jT(K:AX→St→Bool):AX→St→Bool:=(aX 2 (aX 1 (cI false (au Tryz.prog (ah Tryz.prog) (partOf (aj Tryz.f110) [1,1,0,0,1,1])) K)))
theorem F.bV.aN{e:Env}{h:ag}{K:AX→St→Bool}:au Tryz.prog (ah Tryz.prog) F.bV.L0 ⟨e,22,[],h⟩ K=(af (ai none (e 6) h) fun x3=>ax x3 (af (bL 1 (e 6) (.bool false) h) fun h4=>af (bQ .slice (e 1) h4) fun x5=>bT (au Tryz.prog (ah Tryz.prog) F.bV.L1) ⟨(aa (aa (aa (aa e 9 x3) 10 (e 1)) 11 x5) 12 (.int .i64 0)),22,[],h4⟩ (F.bV.jT K)) (K (.exit 0) ⟨(aa e 9 x3),22,[],h⟩)):=by kernel_rfl
theorem F.bV.aG{e:Env}{h:ag}{K:Out→ag→Bool}:F.bV.cy K (.exit 0) ⟨e,22,[],h⟩=(K (.ret (.tuple [])) h):=by kernel_rfl
theorem F.bV.dS{e:Env}{h:ag}{K:AX→St→Bool}:au Tryz.prog (ah Tryz.prog) F.bV.L1 ⟨e,22,[],h⟩ K=(af (aJ .lss (e 12) (e 11)) fun x6=>ax x6 (af (cS 8 (e 10) (e 12)) fun x7=>af (ai (some 8) x7 h) fun x8=>af (bL 8 (.ptr (ag.next h) 0) x8 (ag.alloc h (.cells [(.int .i64 0),(.str []),.nils,.nils,(.int .i64 0),.nils,.nils,.nils]))) fun h9=>af (ai none (e 3) h9) fun x10=>af (ai (some 8) (.ptr (ag.next h) 0) h9) fun x11=>ah Tryz.prog 122 [x10,x11,(.func 158 [] [(.ptr (ag.next h) 0),(e 3),(e 6),(e 5)])] h9 (bJ (fun x12 h13=>af (aJ .add (e 12) (.int .i64 1)) fun x16=>K .normal ⟨(aa (aa (aa (aa (aa (aa (aa (aa (aa (aa e 13 x6) 14 x7) 15 x8) 8 (.ptr (ag.next h) 0)) 16 x10) 17 x11) 18 (.func 158 [] [(.ptr (ag.next h) 0),(e 3),(e 6),(e 5)])) 19 x12) 20 x16) 12 x16),22,[],h13⟩) (fun v14 h15=>K (.panic v14) ⟨(aa (aa (aa (aa (aa (aa (aa e 13 x6) 14 x7) 15 x8) 8 (.ptr (ag.next h) 0)) 16 x10) 17 x11) 18 (.func 158 [] [(.ptr (ag.next h) 0),(e 3),(e 6),(e 5)])),22,[],h15⟩))) (K (.exit 2) ⟨(aa e 13 x6),22,[],h⟩)):=by kernel_rfl
theorem F.bV.cG{e:Env}{h:ag}{K:AX→St→Bool}:F.bV.jT K (.exit 2) ⟨e,22,[],h⟩=(af (ai none (e 6) h) fun x17=>af (bL 1 (.ptr (ag.next h) 0) x17 (ag.alloc h (.cells [(.bool false)]))) fun h18=>K .normal ⟨(aa (aa e 21 x17) 6 (.ptr (ag.next h) 0)),22,[],h18⟩):=by kernel_rfl
theorem F.qY{a0 a1 a2:AV}{h:ag}{K:Out→ag→Bool}:au Tryz.prog (ah Tryz.prog) (aj Tryz.f110) ⟨aF [a0,a1,a2],22,[],h⟩ (ay Tryz.prog cc Tryz.f110.results.toList K)=(af (ew a0) fun c0=>af (ew a2) fun c1=>af (bL 1 (.ptr (ag.next (ag.alloc (ag.alloc h (.cells c0)) (.cells c1))) 0) (.bool true) (ag.alloc (ag.alloc (ag.alloc h (.cells c0)) (.cells c1)) (.cells [(.bool false)]))) fun h2=>bT (au Tryz.prog (ah Tryz.prog) F.bV.L0) ⟨(aa (aa (aa (aF [a0,a1,a2]) 3 (.ptr (ag.next h) 0)) 5 (.ptr (ag.next (ag.alloc h (.cells c0))) 0)) 6 (.ptr (ag.next (ag.alloc (ag.alloc h (.cells c0)) (.cells c1))) 0)),22,[],h2⟩ (F.bV.cy K)):=by kernel_rfl
theorem F.qp{a0 a1 a2:AV}{h:ag}{K:Out→ag→Bool}(hh:au Tryz.prog (ah Tryz.prog) (aj Tryz.f110) ⟨aF [a0,a1,a2],22,[],h⟩ (ay Tryz.prog cc Tryz.f110.results.toList K)=true):Sem Tryz.prog 110 [a0,a1,a2] h K:=
 aP mixed (aM _) Tryz.func110 (c:=aj Tryz.f110) rfl (by decide) (of_decide_eq_true (by kernel_rfl)) hh
theorem F.pE{a0 a1 a2 a3 a4:AV}{h:ag}{K:Out→ag→Bool}:au Tryz.prog (ah Tryz.prog) (aj Tryz.f158) ⟨aF [a0,a1,a2,a3,a4],38,[],h⟩ (ay Tryz.prog cc Tryz.f158.results.toList K)=(af (bK 5 a1) fun x0=>af (ai none x0 h) fun x1=>ah Tryz.prog 124 [a0,x1] h (bJ (fun x2 h3=>af (ai none a2 h3) fun x6=>af (b6 x6) fun x7=>af (bK 1 x7) fun x8=>af (ai none x8 h3) fun x9=>af (bK 1 a1) fun x10=>af (bK 0 x10) fun x11=>af (bK 0 x11) fun x12=>af (ai none x12 h3) fun x13=>af (ei .string .nils false x9 x13 h3) fun x14=>af (ai none a2 h3) fun x15=>ah Tryz.prog 69 [x15,x2] h3 (bJ (fun x16 h17=>af (cS 1 x14 x16) fun x20=>af (ai none x20 h17) fun x21=>af (ji .not x21) fun x22=>ax x22 (af (ai none a2 h17) fun x23=>ah Tryz.prog 69 [x23,x2] h17 (bJ (fun x24 h25=>af (cS 1 x14 x24) fun x28=>af (bL 1 x28 (.bool true) h25) fun h29=>af (bL 1 a3 (.bool true) h29) fun h30=>af (ai none a4 h30) fun x31=>af (ai (some 8) a1 h30) fun x32=>pZ x31 fun f37 a38 a39=>ah Tryz.prog f37 (a38++([x32,a0]++a39)) h30 (bJ (fun x33 h34=>K (.ret (.bool true)) h34) (fun v35 h36=>K (.panic v35) h36))) (fun v26 h27=>K (.panic v26) h27))) (K (.ret (.bool true)) h17)) (fun v18 h19=>K (.panic v18) h19))) (fun v4 h5=>K (.panic v4) h5))):=by kernel_rfl
theorem F.oh{a0 a1 a2 a3 a4:AV}{h:ag}{K:Out→ag→Bool}(hh:au Tryz.prog (ah Tryz.prog) (aj Tryz.f158) ⟨aF [a0,a1,a2,a3,a4],38,[],h⟩ (ay Tryz.prog cc Tryz.f158.results.toList K)=true):Sem Tryz.prog 158 [a0,a1,a2,a3,a4] h K:=
 aP mixed (aM _) Tryz.func158 (c:=aj Tryz.f158) rfl (by decide) (of_decide_eq_true (by kernel_rfl)) hh
noncomputable def F.aW.L0:Code:=partOf (aj Tryz.f46) [1,0,1,0,0]
noncomputable def F.aW.cy(K:Out→ag→Bool):AX→St→Bool:=(aX 0 (cI false (au Tryz.prog (ah Tryz.prog) (partOf (aj Tryz.f46) [1,1])) (ay Tryz.prog cc Tryz.f46.results.toList K)))
noncomputable def F.aW.L1:Code:=partOf (aj Tryz.f46) [1,1,1,0,0]
noncomputable def F.aW.jT(K:Out→ag→Bool):AX→St→Bool:=(aX 2 (ay Tryz.prog cc Tryz.f46.results.toList K))
noncomputable def F.aW.L2:Code:=partOf (aj Tryz.f46) [1,1,1,0,0,1,1,0,0,1,1,0,1,0,0]
noncomputable def F.aW.sq(K:AX→St→Bool):AX→St→Bool:=(aX 4 (cI false (au Tryz.prog (ah Tryz.prog) (partOf (aj Tryz.f46) [1,1,1,0,0,1,1,0,0,1,1,1])) (aX 3 (cI false (au Tryz.prog (ah Tryz.prog) (partOf (aj Tryz.f46) [1,1,1,0,0,1,1,1])) K))))
theorem F.aW.aN{e:Env}{h:ag}{K:AX→St→Bool}:au Tryz.prog (ah Tryz.prog) F.aW.L0 ⟨e,62,[],h⟩ K=(af (uy false (e 17) h) (kr [] (DK (fun x5 h6=>af (cj x5 0) fun x9=>ax x9 (af (qE (e 17) h6) fun x10=>af (cj x10 1) fun x11=>af (td true (e 6) [x11]) fun x12=>K .normal ⟨(aa (aa (aa (aa (aa (aa (aa (aa (aa e 18 x5) 19 x9) 20 x10) 21 x11) 8 x11) 22 (e 6)) 23 x11) 24 x12) 6 x12),62,[],h6⟩) (K (.exit 0) ⟨(aa (aa e 18 x5) 19 x9),62,[],h6⟩)) (fun v7 h8=>K (.panic v7) ⟨e,62,[],h8⟩)))):=by kernel_rfl
theorem F.aW.aG{e:Env}{h:ag}{K:Out→ag→Bool}:F.aW.cy K (.exit 0) ⟨e,62,[],h⟩=(af (aJ .add (e 6) (.int .i64 1)) fun x13=>bT (au Tryz.prog (ah Tryz.prog) F.aW.L1) ⟨(aa (aa (aa e 25 (e 6)) 26 x13) 27 (.int .i64 0)),62,[],h⟩ (F.aW.jT K)):=by kernel_rfl
theorem F.aW.dS{e:Env}{h:ag}{K:AX→St→Bool}:au Tryz.prog (ah Tryz.prog) F.aW.L1 ⟨e,62,[],h⟩ K=(af (aJ .lss (e 27) (e 26)) fun x14=>ax x14 (af (b6 (e 0)) fun x15=>af (bK 0 x15) fun x16=>af (ai none x16 h) fun x17=>af (bQ .slice x17 h) fun x18=>bT (au Tryz.prog (ah Tryz.prog) F.aW.L2) ⟨(aa (aa (aa (aa (aa (aa (aa (aa (aa (aa e 28 x14) 29 (e 27)) 9 (e 27)) 10 .nils) 30 (e 0)) 31 x15) 32 x16) 33 x17) 34 x18) 35 (.int .i64 0)),62,[],h⟩ (F.aW.sq K)) (K (.exit 2) ⟨(aa e 28 x14),62,[],h⟩)):=by kernel_rfl
theorem F.aW.cG{e:Env}{h:ag}{K:Out→ag→Bool}:F.aW.jT K (.exit 2) ⟨e,62,[],h⟩=(K (.ret (.tuple [])) h):=by kernel_rfl
theorem F.aW.iS{e:Env}{h:ag}{K:AX→St→Bool}:au Tryz.prog (ah Tryz.prog) F.aW.L2 ⟨e,62,[],h⟩ K=(af (aJ .lss (e 35) (e 34)) fun x19=>let Q1:=(aa e 36 x19);ax x19 (af (cS 3 (e 33) (e 35)) fun x20=>af (ai (some 3) x20 h) fun x21=>af (bL 3 (.ptr (ag.next h) 0) x21 (ag.alloc h (.cells [(.str []),.nils,.nils]))) fun h22=>af (b6 (e 0)) fun x23=>af (bK 2 x23) fun x24=>af (ai none x24 h22) fun x25=>af (bK 0 (.ptr (ag.next h) 0)) fun x26=>af (bK 0 x26) fun x27=>af (ai none x27 h22) fun x28=>af (ei .string (.int .i64 0) false x25 x28 h22) fun x29=>af (iF (.int .i64) x29 (e 9)) fun x30=>let Q2:=(aa (aa (aa (aa (aa (aa (aa (aa (aa (aa (aa (aa (aa (aa (aa Q1 37 (e 35)) 38 x20) 39 x21) 12 (.ptr (ag.next h) 0)) 11 (e 35)) 40 (e 0)) 41 x23) 42 x24) 43 x25) 44 x26) 45 x27) 46 x28) 47 x29) 48 (e 9)) 49 x30);ax x30 (af (ai (some 3) (.ptr (ag.next h) 0) h22) fun x31=>ah Tryz.prog 109 [(e 35),x31] h22 (bJ (fun x32 h33=>af (fR [(.int .i64 0),(.str []),.nils,.nils,(.int .i64 0),.nils,.nils,.nils] [(0,8)] [x32]) fun c36=>dg (cz 8 152 (e 10) (.slice (ag.next h33) 0 1 8) (ag.alloc h33 (.cells c36))) fun x37 h38=>af (aJ .add (e 35) (.int .i64 1)) fun x39=>K .normal ⟨(aa (aa (aa (aa (aa (aa (aa (aa (aa Q2 50 (e 10)) 51 (e 35)) 52 x31) 53 x32) 54 (.slice (ag.next h33) 0 1 8)) 55 x37) 10 x37) 56 x39) 35 x39),62,[],h38⟩) (fun v34 h35=>K (.panic v34) ⟨(aa (aa (aa Q2 50 (e 10)) 51 (e 35)) 52 x31),62,[],h35⟩))) (af (aJ .add (e 35) (.int .i64 1)) fun x40=>K .normal ⟨(aa (aa Q2 56 x40) 35 x40),62,[],h22⟩)) (K (.exit 4) ⟨Q1,62,[],h⟩)):=by kernel_rfl
theorem F.aW.gw{e:Env}{h:ag}{K:AX→St→Bool}:F.aW.sq K (.exit 4) ⟨e,62,[],h⟩=(ah Tryz.prog 110 [(e 1),(e 10),(e 2)] h (bJ (fun x41 h42=>af (aJ .add (e 27) (.int .i64 1)) fun x45=>K .normal ⟨(aa (aa (aa (aa (aa (aa e 57 (e 1)) 58 (e 10)) 59 (e 2)) 60 x41) 61 x45) 27 x45),62,[],h42⟩) (fun v43 h44=>K (.panic v43) ⟨(aa (aa (aa e 57 (e 1)) 58 (e 10)) 59 (e 2)),62,[],h44⟩))):=by kernel_rfl
theorem F.qZ{a0 a1 a2:AV}{h:ag}{K:Out→ag→Bool}:au Tryz.prog (ah Tryz.prog) (aj Tryz.f46) ⟨aF [a0,a1,a2],62,[],h⟩ (ay Tryz.prog cc Tryz.f46.results.toList K)=(af (b6 a0) fun x0=>af (bK 2 x0) fun x1=>af (ai none x1 h) fun x2=>dg (kV .map x2 h) fun x3 h4=>bT (au Tryz.prog (ah Tryz.prog) F.aW.L0) ⟨(aa (aa (aa (aa (aa (aa (aF [a0,a1,a2]) 6 (.int .i64 0)) 13 a0) 14 x0) 15 x1) 16 x2) 17 x3),62,[],h4⟩ (F.aW.cy K)):=by kernel_rfl
theorem F.qq{a0 a1 a2:AV}{h:ag}{K:Out→ag→Bool}(hh:au Tryz.prog (ah Tryz.prog) (aj Tryz.f46) ⟨aF [a0,a1,a2],62,[],h⟩ (ay Tryz.prog cc Tryz.f46.results.toList K)=true):Sem Tryz.prog 46 [a0,a1,a2] h K:=
 aP mixed (aM _) Tryz.func46 (c:=aj Tryz.f46) rfl (by decide) (of_decide_eq_true (by kernel_rfl)) hh
noncomputable def F.az.L0:Code:=partOf (aj Tryz.f45) [1,1,1,0,1,0,0]
noncomputable def F.az.cy(K:Out→ag→Bool):AX→St→Bool:=(aX 0 (cI false (au Tryz.prog (ah Tryz.prog) (partOf (aj Tryz.f45) [1,1,1,1])) (ay Tryz.prog cc Tryz.f45.results.toList K)))
noncomputable def F.az.L1:Code:=partOf (aj Tryz.f45) [1,1,1,1,0,1,0,0]
noncomputable def F.az.jT(K:Out→ag→Bool):AX→St→Bool:=(aX 2 (cI false (au Tryz.prog (ah Tryz.prog) (partOf (aj Tryz.f45) [1,1,1,1,1])) (ay Tryz.prog cc Tryz.f45.results.toList K)))
noncomputable def F.az.L2:Code:=partOf (aj Tryz.f45) [1,1,1,1,1,1,1,0,1,0,0]
noncomputable def F.az.sq(K:Out→ag→Bool):AX→St→Bool:=(aX 4 (cI false (au Tryz.prog (ah Tryz.prog) (partOf (aj Tryz.f45) [1,1,1,1,1,1,1,1])) (ay Tryz.prog cc Tryz.f45.results.toList K)))
noncomputable def F.az.L3:Code:=partOf (aj Tryz.f45) [1,1,1,1,1,1,1,1,0,1,0,0]
noncomputable def F.az.Of(K:Out→ag→Bool):AX→St→Bool:=(aX 6 (cI false (au Tryz.prog (ah Tryz.prog) (partOf (aj Tryz.f45) [1,1,1,1,1,1,1,1,1])) (ay Tryz.prog cc Tryz.f45.results.toList K)))
noncomputable def F.az.L4:Code:=partOf (aj Tryz.f45) [1,1,1,1,1,1,1,1,0,1,0,0,1,1,0,0,1,1,1,0,0]
noncomputable def F.az.Ph(K:AX→St→Bool):AX→St→Bool:=(aX 8 (aX 7 (cI false (au Tryz.prog (ah Tryz.prog) (partOf (aj Tryz.f45) [1,1,1,1,1,1,1,1,0,1,0,0,1,1,1])) K)))
noncomputable def F.az.L5:Code:=partOf (aj Tryz.f45) [1,1,1,1,1,1,1,1,1,0,1,0,0]
noncomputable def F.az.SJ(K:Out→ag→Bool):AX→St→Bool:=(aX 10 (cI false (au Tryz.prog (ah Tryz.prog) (partOf (aj Tryz.f45) [1,1,1,1,1,1,1,1,1,1])) (ay Tryz.prog cc Tryz.f45.results.toList K)))
noncomputable def F.az.L6:Code:=partOf (aj Tryz.f45) [1,1,1,1,1,1,1,1,1,0,1,0,0,1,1,0,0,1,1,1,1,0,0]
noncomputable def F.az.SY(K:AX→St→Bool):AX→St→Bool:=(aX 12 (aX 11 (cI false (au Tryz.prog (ah Tryz.prog) (partOf (aj Tryz.f45) [1,1,1,1,1,1,1,1,1,0,1,0,0,1,1,1])) K)))
theorem F.az.aN{e:Env}{h:ag}{K:AX→St→Bool}:au Tryz.prog (ah Tryz.prog) F.az.L0 ⟨e,198,[],h⟩ K=(af (uy false (e 46) h) (kr [] (DK (fun x19 h20=>af (cj x19 0) fun x23=>let Q1:=(aa (aa e 47 x19) 48 x23);ax x23 (af (qE (e 46) h20) fun x24=>af (cj x24 0) fun x25=>af (cj x24 1) fun x26=>af (b6 (e 7)) fun x27=>af (bK 2 x27) fun x28=>af (ai none x28 h20) fun x29=>af (ei .string (.int .i64 0) true x29 x25 h20) fun x30=>af (cj x30 0) fun x31=>af (cj x30 1) fun x32=>af (ji .not x32) fun x33=>let Q2:=(aa (aa (aa (aa (aa (aa (aa (aa (aa (aa (aa (aa (aa (aa (aa (aa (aa (aa (aa Q1 49 x24) 50 x25) 51 x26) 9 x25) 10 x26) 53 (e 7)) 54 x27) 55 x28) 56 x29) 57 x25) 58 x30) 52 x30) 59 x31) 60 x32) 11 x31) 12 x32) 61 x32) 62 x33) 63 x33);ax x33 (af (ai (some 2) (e 3) h20) fun x34=>ah Tryz.prog 88 [x34,x25,x26] h20 (bJ (fun x35 h36=>af (aJ .lss x35 (.int .i64 0)) fun x39=>let Q3:=(aa (aa (aa (aa (aa (aa (aa (aa (aa (aa (aa Q2 63 (.bool true)) 64 x34) 63 (.bool true)) 65 x25) 63 (.bool true)) 66 x26) 63 (.bool true)) 67 x35) 63 (.bool true)) 68 x39) 69 x39);ax x39 (K .ret ⟨(aa (aa (aa Q3 4 .nilp) 5 .nilp) 6 (.int .i64 4)),198,[],h36⟩) (K .normal ⟨Q3,198,[],h36⟩)) (fun v37 h38=>K (.panic v37) ⟨(aa (aa (aa (aa (aa (aa (aa Q2 63 (.bool true)) 64 x34) 63 (.bool true)) 65 x25) 63 (.bool true)) 66 x26) 63 (.bool true)),198,[],h38⟩))) (K .normal ⟨(aa (aa (aa (aa (aa (aa (aa (aa (aa (aa (aa Q2 63 (.bool false)) 64 bD) 63 (.bool false)) 65 bD) 63 (.bool false)) 66 bD) 63 (.bool false)) 67 bD) 63 (.bool false)) 68 bD) 69 (.bool false)),198,[],h20⟩)) (K (.exit 0) ⟨Q1,198,[],h20⟩)) (fun v21 h22=>K (.panic v21) ⟨e,198,[],h22⟩)))):=by kernel_rfl
theorem F.az.aG{e:Env}{h:ag}{K:Out→ag→Bool}:F.az.cy K (.exit 0) ⟨e,198,[],h⟩=(af (bK 1 (e 3)) fun x40=>af (ai none x40 h) fun x41=>af (bQ .slice x41 h) fun x42=>bT (au Tryz.prog (ah Tryz.prog) F.az.L1) ⟨(aa (aa (aa (aa e 70 x40) 71 x41) 72 x42) 73 (.int .i64 0)),198,[],h⟩ (F.az.jT K)):=by kernel_rfl
theorem F.az.aZ{e:Env}{h:ag}{K:Out→ag→Bool}:F.az.cy K .ret ⟨e,198,[],h⟩=(K (.ret (.tuple [(e 4),(e 5),(e 6)])) h):=by kernel_rfl
theorem F.az.dS{e:Env}{h:ag}{K:AX→St→Bool}:au Tryz.prog (ah Tryz.prog) F.az.L1 ⟨e,198,[],h⟩ K=(af (aJ .lss (e 73) (e 72)) fun x43=>ax x43 (af (cS 3 (e 71) (e 73)) fun x44=>af (ai (some 3) x44 h) fun x45=>af (bL 3 (.ptr (ag.next h) 0) x45 (ag.alloc h (.cells [(.str []),(.int .i64 0),.nils]))) fun h46=>af (b6 (e 7)) fun x47=>af (bK 2 x47) fun x48=>af (ai none x48 h46) fun x49=>af (bK 0 (.ptr (ag.next h) 0)) fun x50=>af (ai none x50 h46) fun x51=>af (ei .string (.int .i64 0) true x49 x51 h46) fun x52=>af (cj x52 0) fun x53=>af (cj x52 1) fun x54=>let Q1:=(aa (aa (aa (aa (aa (aa (aa (aa (aa (aa (aa (aa (aa (aa (aa (aa (aa e 74 x43) 75 x44) 76 x45) 14 (.ptr (ag.next h) 0)) 78 (e 7)) 79 x47) 80 x48) 81 x49) 82 x50) 83 x51) 84 x52) 77 x52) 85 x53) 86 x54) 15 x53) 16 x54) 87 x54);ax x54 (K .ret ⟨(aa (aa (aa Q1 4 .nilp) 5 .nilp) 6 (.int .i64 4)),198,[],h46⟩) (af (aJ .add (e 73) (.int .i64 1)) fun x55=>K .normal ⟨(aa (aa Q1 88 x55) 73 x55),198,[],h46⟩)) (K (.exit 2) ⟨(aa e 74 x43),198,[],h⟩)):=by kernel_rfl
theorem F.az.cG{e:Env}{h:ag}{K:Out→ag→Bool}:F.az.jT K (.exit 2) ⟨e,198,[],h⟩=(af (bK 1 (e 3)) fun x56=>af (ai none x56 h) fun x57=>af (bQ .slice x57 h) fun x58=>af (b6 (e 7)) fun x59=>af (bK 2 x59) fun x60=>af (ai none x60 h) fun x61=>af (bQ .map x61 h) fun x62=>af (aJ .add x58 x62) fun x63=>af (aJ .gtr x63 (.int .i64 8)) fun x64=>ax x64 (K (.ret (.tuple [.nilp,.nilp,(.int .i64 5)])) h) (af (bK 0 (e 3)) fun x65=>af (ai none x65 h) fun x66=>af (kJ [(.int .i64 0),.nilm] [(0,1),(1,1)] [x66,(.map (ag.next h))]) fun x67=>af (ew x67) fun c68=>af (b6 (e 7)) fun x69=>af (bK 2 x69) fun x70=>af (ai none x70 (ag.alloc (ag.alloc h (.map [] 0)) (.cells c68))) fun x71=>dg (kV .map x71 (ag.alloc (ag.alloc h (.map [] 0)) (.cells c68))) fun x72 h73=>bT (au Tryz.prog (ah Tryz.prog) F.az.L2) ⟨(aa (aa (aa (aa (aa (aa (aa (aa (aa (aa (aa (aa (aa (aa (aa (aa (aa (aa (aa (aa (aa e 89 x56) 90 x57) 91 x58) 92 (e 7)) 93 x59) 94 x60) 95 x61) 96 x62) 97 x63) 98 x64) 99 x65) 100 x66) 101 (.map (ag.next h))) 102 x67) 103 (.ptr (ag.next (ag.alloc h (.map [] 0))) 0)) 17 (.ptr (ag.next (ag.alloc h (.map [] 0))) 0)) 104 (e 7)) 105 x69) 106 x70) 107 x71) 108 x72),198,[],h73⟩ (F.az.sq K))):=by kernel_rfl
theorem F.az.iR{e:Env}{h:ag}{K:Out→ag→Bool}:F.az.jT K .ret ⟨e,198,[],h⟩=(K (.ret (.tuple [(e 4),(e 5),(e 6)])) h):=by kernel_rfl
theorem F.az.iS{e:Env}{h:ag}{K:AX→St→Bool}:au Tryz.prog (ah Tryz.prog) F.az.L2 ⟨e,198,[],h⟩ K=(af (uy false (e 108) h) (kr [] (DK (fun x74 h75=>af (cj x74 0) fun x78=>let Q1:=(aa (aa e 109 x74) 110 x78);ax x78 (af (qE (e 108) h75) fun x79=>af (cj x79 0) fun x80=>af (bK 0 (e 3)) fun x81=>af (ai none x81 h75) fun x82=>af (b6 (e 7)) fun x83=>af (bK 1 x83) fun x84=>af (ai none x84 h75) fun x85=>af (ei .string (.int .i64 0) false x85 x80 h75) fun x86=>ah Tryz.prog 107 [x82,x86] h75 (bJ (fun x87 h88=>af (cj x87 0) fun x89=>af (cj x87 1) fun x90=>af (nI (.int .i64) x90 (.int .i64 0)) fun x91=>let Q2:=(aa (aa (aa (aa (aa (aa (aa (aa (aa (aa (aa (aa (aa (aa (aa (aa (aa (aa (aa Q1 111 x79) 112 x80) 18 x80) 114 x81) 115 x82) 116 (e 7)) 117 x83) 118 x84) 119 x85) 120 x80) 121 x86) 122 x87) 113 x87) 123 x89) 124 x90) 19 x89) 20 x90) 125 x90) 126 x91);ax x91 (K .ret ⟨(aa (aa (aa Q2 4 .nilp) 5 .nilp) 6 (.int .i64 5)),198,[],h88⟩) (af (b6 (e 17)) fun x92=>af (bK 1 x92) fun x93=>af (ai none x93 h88) fun x94=>dg (fy 1 1 [(.bool false)] x89 x89 h88) fun x95 h96=>af (eF .string x94 x80 x95 h96) fun h97=>K .normal ⟨(aa (aa (aa (aa (aa (aa (aa Q2 127 (e 17)) 128 x92) 129 x93) 130 x94) 131 x80) 132 x89) 133 x95),198,[],h97⟩)) (fun _ _=>false))) (K (.exit 4) ⟨Q1,198,[],h75⟩)) (fun v76 h77=>K (.panic v76) ⟨e,198,[],h77⟩)))):=by kernel_rfl
theorem F.az.gw{e:Env}{h:ag}{K:Out→ag→Bool}:F.az.sq K (.exit 4) ⟨e,198,[],h⟩=(af (bQ .slice (e 0) h) fun x98=>bT (au Tryz.prog (ah Tryz.prog) F.az.L3) ⟨(aa (aa (aa e 134 (e 0)) 135 x98) 136 (.int .i64 0)),198,[],h⟩ (F.az.Of K)):=by kernel_rfl
theorem F.az.u0{e:Env}{h:ag}{K:Out→ag→Bool}:F.az.sq K .ret ⟨e,198,[],h⟩=(K (.ret (.tuple [(e 4),(e 5),(e 6)])) h):=by kernel_rfl
theorem F.az.Ff{e:Env}{h:ag}{K:AX→St→Bool}:au Tryz.prog (ah Tryz.prog) F.az.L3 ⟨e,198,[],h⟩ K=(af (aJ .lss (e 136) (e 135)) fun x99=>ax x99 (af (cS 3 (e 134) (e 136)) fun x100=>af (ai (some 3) x100 h) fun x101=>af (bL 3 (.ptr (ag.next h) 0) x101 (ag.alloc h (.cells [(.str []),.nils,.nils]))) fun h102=>af (ai (some 3) (.ptr (ag.next h) 0) h102) fun x103=>ah Tryz.prog 108 [x103] h102 (bJ (fun x104 h105=>af (bQ .slice x104 h105) fun x108=>bT (au Tryz.prog (ah Tryz.prog) F.az.L4) ⟨(aa (aa (aa (aa (aa (aa (aa (aa (aa e 137 x99) 138 x100) 139 x101) 22 (.ptr (ag.next h) 0)) 23 (.int .i64 1)) 140 x103) 141 x104) 142 x108) 143 (.int .i64 0)),198,[],h105⟩ (F.az.Ph K)) (fun v106 h107=>K (.panic v106) ⟨(aa (aa (aa (aa (aa (aa e 137 x99) 138 x100) 139 x101) 22 (.ptr (ag.next h) 0)) 23 (.int .i64 1)) 140 x103),198,[],h107⟩))) (K (.exit 6) ⟨(aa e 137 x99),198,[],h⟩)):=by kernel_rfl
theorem F.az.Kw{e:Env}{h:ag}{K:Out→ag→Bool}:F.az.Of K (.exit 6) ⟨e,198,[],h⟩=(af (bK 1 (e 3)) fun x109=>af (ai none x109 h) fun x110=>af (bQ .slice x110 h) fun x111=>bT (au Tryz.prog (ah Tryz.prog) F.az.L5) ⟨(aa (aa (aa (aa e 153 x109) 154 x110) 155 x111) 156 (.int .i64 0)),198,[],h⟩ (F.az.SJ K)):=by kernel_rfl
theorem F.az.Md{e:Env}{h:ag}{K:Out→ag→Bool}:F.az.Of K .ret ⟨e,198,[],h⟩=(K (.ret (.tuple [(e 4),(e 5),(e 6)])) h):=by kernel_rfl
theorem F.az.Fg{e:Env}{h:ag}{K:AX→St→Bool}:au Tryz.prog (ah Tryz.prog) F.az.L4 ⟨e,198,[],h⟩ K=(af (aJ .lss (e 143) (e 142)) fun x112=>let Q1:=(aa e 144 x112);ax x112 (af (bK 0 (e 3)) fun x113=>af (ai none x113 h) fun x114=>af (aJ .mul (e 23) x114) fun x115=>af (aJ .gtr x115 (.int .i64 65536)) fun x116=>let Q2:=(aa (aa (aa (aa (aa (aa (aa Q1 145 (e 23)) 146 x113) 147 x114) 148 x115) 23 x115) 149 x115) 150 x116);ax x116 (K .ret ⟨(aa (aa (aa Q2 4 .nilp) 5 .nilp) 6 (.int .i64 5)),198,[],h⟩) (af (aJ .add (e 143) (.int .i64 1)) fun x117=>K .normal ⟨(aa (aa Q2 151 x117) 143 x117),198,[],h⟩)) (K (.exit 8) ⟨Q1,198,[],h⟩)):=by kernel_rfl
theorem F.az.Ay{e:Env}{h:ag}{K:AX→St→Bool}:F.az.Ph K (.exit 8) ⟨e,198,[],h⟩=(af (aJ .add (e 136) (.int .i64 1)) fun x118=>K .normal ⟨(aa (aa e 152 x118) 136 x118),198,[],h⟩):=by kernel_rfl
theorem F.az.Me{e:Env}{h:ag}{K:AX→St→Bool}:F.az.Ph K .ret ⟨e,198,[],h⟩=(K .ret ⟨e,198,[],h⟩):=by kernel_rfl
theorem F.az.Og{e:Env}{h:ag}{K:AX→St→Bool}:au Tryz.prog (ah Tryz.prog) F.az.L5 ⟨e,198,[],h⟩ K=(af (aJ .lss (e 156) (e 155)) fun x119=>let Q1:=(aa e 157 x119);ax x119 (af (cS 3 (e 154) (e 156)) fun x120=>af (ai (some 3) x120 h) fun x121=>af (bL 3 (.ptr (ag.next h) 0) x121 (ag.alloc h (.cells [(.str []),(.int .i64 0),.nils]))) fun h122=>af (bK 0 (e 3)) fun x123=>af (ai none x123 h122) fun x124=>af (bK 1 (.ptr (ag.next h) 0)) fun x125=>af (ai none x125 h122) fun x126=>ah Tryz.prog 107 [x124,x126] h122 (bJ (fun x127 h128=>af (cj x127 0) fun x131=>af (cj x127 1) fun x132=>af (b6 (e 17)) fun x133=>af (bK 1 x133) fun x134=>af (ai none x134 h128) fun x135=>af (bK 0 (.ptr (ag.next h) 0)) fun x136=>af (ai none x136 h128) fun x137=>dg (fy 1 1 [(.bool false)] x131 x131 h128) fun x138 h139=>af (eF .string x135 x137 x138 h139) fun h140=>af (bK 2 (.ptr (ag.next h) 0)) fun x141=>af (ai none x141 h140) fun x142=>af (bQ .slice x142 h140) fun x143=>bT (au Tryz.prog (ah Tryz.prog) F.az.L6) ⟨(aa (aa (aa (aa (aa (aa (aa (aa (aa (aa (aa (aa (aa (aa (aa (aa (aa (aa (aa (aa (aa (aa (aa (aa (aa Q1 158 x120) 159 x121) 25 (.ptr (ag.next h) 0)) 161 x123) 162 x124) 163 x125) 164 x126) 165 x127) 160 x127) 166 x131) 167 x132) 26 x131) 27 x132) 168 (e 17)) 169 x133) 170 x134) 171 x135) 172 x136) 173 x137) 174 x131) 175 x138) 176 x141) 177 x142) 178 x143) 179 (.int .i64 0)),198,[],h140⟩ (F.az.SY K)) (fun v129 h130=>K (.panic v129) ⟨(aa (aa (aa (aa (aa (aa (aa Q1 158 x120) 159 x121) 25 (.ptr (ag.next h) 0)) 161 x123) 162 x124) 163 x125) 164 x126),198,[],h130⟩))) (K (.exit 10) ⟨Q1,198,[],h⟩)):=by kernel_rfl
theorem F.az.IY{e:Env}{h:ag}{K:Out→ag→Bool}:F.az.SJ K (.exit 10) ⟨e,198,[],h⟩=(K (.ret (.tuple [(e 7),(e 17),(.int .i64 0)])) h):=by kernel_rfl
theorem F.az.Oh{e:Env}{h:ag}{K:AX→St→Bool}:au Tryz.prog (ah Tryz.prog) F.az.L6 ⟨e,198,[],h⟩ K=(af (aJ .lss (e 179) (e 178)) fun x144=>ax x144 (af (cS 1 (e 177) (e 179)) fun x145=>af (ai none x145 h) fun x146=>af (b6 (e 17)) fun x147=>af (bK 1 x147) fun x148=>af (ai none x148 h) fun x149=>af (bK 0 (e 25)) fun x150=>af (ai none x150 h) fun x151=>af (ei .string .nils false x149 x151 h) fun x152=>ah Tryz.prog 69 [(e 17),x146] h (bJ (fun x153 h154=>if ((af (ei .string .nils false x149 x151 h154) fun x155=>AV.beq x155 x152)&&((af (ai none x150 h154) fun x156=>AV.beq x156 x151)&&((af (ai none x148 h154) fun x157=>AV.beq x157 x149)&&true)))=true then (af (cS 1 x152 x153) fun x158=>af (bL 1 x158 (.bool true) h154) fun h159=>af (aJ .add (e 179) (.int .i64 1)) fun x160=>K .normal ⟨(aa (aa (aa (aa (aa (aa (aa (aa (aa (aa (aa (aa (aa (aa (aa (aa (aa e 180 x144) 181 x145) 182 x146) 29 x146) 183 (e 17)) 184 x147) 185 x148) 186 x149) 187 x150) 188 x151) 189 x152) 190 (e 17)) 191 x146) 192 x153) 193 x158) 194 x160) 179 x160),198,[],h159⟩) else false) (fun _ _=>false))) (K (.exit 12) ⟨(aa e 180 x144),198,[],h⟩)):=by kernel_rfl
theorem F.az.IZ{e:Env}{h:ag}{K:AX→St→Bool}:F.az.SY K (.exit 12) ⟨e,198,[],h⟩=(af (aJ .add (e 156) (.int .i64 1)) fun x161=>K .normal ⟨(aa (aa e 195 x161) 156 x161),198,[],h⟩):=by kernel_rfl
theorem F.wk{a0 a1:AV}{h:ag}{K:Out→ag→Bool}:au Tryz.prog (ah Tryz.prog) (aj Tryz.f45) ⟨aF [a0,a1],198,[],h⟩ (ay Tryz.prog cc Tryz.f45.results.toList K)=(af (ew a1) fun c0=>ah Tryz.prog 83 [a0] (ag.alloc h (.cells c0)) (bJ (fun x1 h2=>af (cj x1 0) fun x5=>af (cj x1 1) fun x6=>af (ji .not x6) fun x7=>ax x7 (K (.ret (.tuple [.nilp,.nilp,(.int .i64 1)])) h2) (af (ai (some 2) (.ptr (ag.next h) 0) h2) fun x8=>ah Tryz.prog 87 [x8] h2 (bJ (fun x9 h10=>af (ji .not x9) fun x13=>ax x13 (K (.ret (.tuple [.nilp,.nilp,(.int .i64 1)])) h10) (af (b6 x5) fun x14=>af (bK 1 x14) fun x15=>af (ai none x15 h10) fun x16=>dg (kV .map x16 h10) fun x17 h18=>bT (au Tryz.prog (ah Tryz.prog) F.az.L0) ⟨(aa (aa (aa (aa (aa (aa (aa (aa (aa (aa (aa (aa (aa (aa (aa (aa (aa (aa (aa (aa (aa (aa (aa (aa (aa (aa (aF [a0,a1]) 3 (.ptr (ag.next h) 0)) 4 .nilp) 5 .nilp) 6 (.int .i64 0)) 31 a0) 32 x1) 30 x1) 33 x5) 34 x6) 7 x5) 8 x6) 35 x6) 36 x7) 37 x7) 37 (.bool false)) 38 x8) 37 (.bool false)) 39 x9) 37 (.bool false)) 40 x13) 41 x13) 42 x5) 43 x14) 44 x15) 45 x16) 46 x17),198,[],h18⟩ (F.az.cy K))) (fun v11 h12=>K (.panic v11) h12)))) (fun v3 h4=>K (.panic v3) h4))):=by kernel_rfl
theorem F.u7{a0 a1:AV}{h:ag}{K:Out→ag→Bool}(hh:au Tryz.prog (ah Tryz.prog) (aj Tryz.f45) ⟨aF [a0,a1],198,[],h⟩ (ay Tryz.prog cc Tryz.f45.results.toList K)=true):Sem Tryz.prog 45 [a0,a1] h K:=
 aP mixed (aM _) Tryz.func45 (c:=aj Tryz.f45) rfl (by decide) (of_decide_eq_true (by kernel_rfl)) hh
end
end Go.AM
namespace Go.AM
open Go
noncomputable section
def SZ:List AV:=[(.int .u8 80)]
def S0:AV:=(.bool true)
theorem OH:bN Proofs.Tryz.prog F0 D0 200 146 SZ ag.empty (cp true 20 S0)=true:=by kernel_rfl
end
end Go.AM
namespace Go.AM
open Go
noncomputable section
def S1:List AV:=[(.int .u8 40)]
def S2:AV:=(.bool false)
theorem OI:bN Proofs.Tryz.prog F0 D0 200 146 S1 ag.empty (cp true 20 S2)=true:=by kernel_rfl
end
end Go.AM
namespace Go.AM
open Go
noncomputable section
def S3:List AV:=[(.int .u8 120)]
def S4:AV:=(.bool true)
theorem OJ:bN Proofs.Tryz.prog F0 D0 200 146 S3 ag.empty (cp true 20 S4)=true:=by kernel_rfl
end
end Go.AM
namespace Go.AM
open Go
noncomputable section
def S5:List AV:=[(.int .u8 32)]
def S6:AV:=(.bool false)
theorem OK:bN Proofs.Tryz.prog F0 D0 200 146 S5 ag.empty (cp true 20 S6)=true:=by kernel_rfl
end
end Go.AM
namespace Go.AM
open Go
noncomputable section
def S7:List AV:=[(.int .u8 121)]
def S8:AV:=(.bool true)
theorem OL:bN Proofs.Tryz.prog F0 D0 200 146 S7 ag.empty (cp true 20 S8)=true:=by kernel_rfl
end
end Go.AM
namespace Go.AM
open Go
noncomputable section
def S9:List AV:=[(.int .u8 41)]
def Ta:AV:=(.bool false)
theorem OM:bN Proofs.Tryz.prog F0 D0 200 146 S9 ag.empty (cp true 20 Ta)=true:=by kernel_rfl
end
end Go.AM
namespace Go.AM
open Go
noncomputable section
def Tb:List AV:=[(.int .u8 58)]
def Tc:AV:=(.bool false)
theorem ON:bN Proofs.Tryz.prog F0 D0 200 146 Tb ag.empty (cp true 20 Tc)=true:=by kernel_rfl
end
end Go.AM
namespace Go.AM
open Go
noncomputable section
def Td:List AV:=[(.int .u8 69)]
def Te:AV:=(.bool true)
theorem OO:bN Proofs.Tryz.prog F0 D0 200 146 Td ag.empty (cp true 20 Te)=true:=by kernel_rfl
end
end Go.AM
namespace Go.AM
open Go
noncomputable section
def Tf:List AV:=[(.int .u8 46)]
def Tg:AV:=(.bool false)
theorem OP:bN Proofs.Tryz.prog F0 D0 200 146 Tf ag.empty (cp true 20 Tg)=true:=by kernel_rfl
end
end Go.AM
namespace Go.AM
open Go
noncomputable section
def Th:List AV:=[(.int .u8 122)]
def Ti:AV:=(.bool true)
theorem OQ:bN Proofs.Tryz.prog F0 D0 200 146 Th ag.empty (cp true 20 Ti)=true:=by kernel_rfl
end
end Go.AM
namespace Go.AM
open Go
noncomputable section
def Pq:List AV:=[(.int .u8 44)]
def Pr:AV:=(.bool false)
theorem Mf:bN Proofs.Tryz.prog F0 D0 200 146 Pq ag.empty (cp true 20 Pr)=true:=by kernel_rfl
end
end Go.AM
namespace Go.AM
open Go
noncomputable section
def Pt:List AV:=[(.agg [(.int .i64 3),(.islice [(.str [69]),(.int .i64 2),(.islice [(.islice [(.int .i64 0),(.int .i64 1)] 0 2 1),(.islice [(.int .i64 1),(.int .i64 2)] 0 2 1)] 0 2 1)] 0 1 3)]),(.str [69]),(.int .i64 2)]
def Pu:AV:=(.int .i64 0)
theorem Mg:bN Proofs.Tryz.prog F0 D0 200 88 Pt ag.empty (cp true 20 Pu)=true:=by kernel_rfl
end
end Go.AM
namespace Go.AM
open Go
noncomputable section
def Pv:List AV:=[(.int .i64 3),(.int .i64 2)]
def Pw:AV:=(.tuple [(.int .i64 9),(.int .i64 0)])
theorem Mh:bN Proofs.Tryz.prog F0 D0 200 107 Pv ag.empty (cp true 20 Pw)=true:=by kernel_rfl
end
end Go.AM
namespace Go.AM
open Go
noncomputable section
def Px:List AV:=[(.islice [(.int .i64 0),(.int .i64 0)] 0 2 1),(.islice [(.int .i64 0),(.int .i64 1)] 0 2 1)]
def Py:AV:=(.islice [(.int .i64 0),(.int .i64 0)] 0 2 1)
theorem Mi:bN Proofs.Tryz.prog F0 D0 200 124 Px ag.empty (cp false 20 Py)=true:=by kernel_rfl
end
end Go.AM
namespace Go.AM
open Go
noncomputable section
def Pz:List AV:=[(.islice [(.int .i64 0),(.int .i64 1)] 0 2 1),(.islice [(.int .i64 0),(.int .i64 1)] 0 2 1)]
def PA:AV:=(.islice [(.int .i64 0),(.int .i64 1)] 0 2 1)
theorem Mj:bN Proofs.Tryz.prog F0 D0 200 124 Pz ag.empty (cp false 20 PA)=true:=by kernel_rfl
end
end Go.AM
namespace Go.AM
open Go
noncomputable section
def PC:List AV:=[(.islice [(.int .i64 0),(.int .i64 2)] 0 2 1),(.islice [(.int .i64 0),(.int .i64 1)] 0 2 1)]
def PD:AV:=(.islice [(.int .i64 0),(.int .i64 2)] 0 2 1)
theorem Mk:bN Proofs.Tryz.prog F0 D0 200 124 PC ag.empty (cp false 20 PD)=true:=by kernel_rfl
end
end Go.AM
namespace Go.AM
open Go
noncomputable section
def PE:List AV:=[(.islice [(.int .i64 1),(.int .i64 0)] 0 2 1),(.islice [(.int .i64 0),(.int .i64 1)] 0 2 1)]
def PF:AV:=(.islice [(.int .i64 1),(.int .i64 0)] 0 2 1)
theorem Ml:bN Proofs.Tryz.prog F0 D0 200 124 PE ag.empty (cp false 20 PF)=true:=by kernel_rfl
end
end Go.AM
namespace Go.AM
open Go
noncomputable section
def PG:List AV:=[(.islice [(.int .i64 1),(.int .i64 1)] 0 2 1),(.islice [(.int .i64 0),(.int .i64 1)] 0 2 1)]
def PI:AV:=(.islice [(.int .i64 1),(.int .i64 1)] 0 2 1)
theorem Mm:bN Proofs.Tryz.prog F0 D0 200 124 PG ag.empty (cp false 20 PI)=true:=by kernel_rfl
end
end Go.AM
namespace Go.AM
open Go
noncomputable section
def PJ:List AV:=[(.islice [(.int .i64 1),(.int .i64 2)] 0 2 1),(.islice [(.int .i64 0),(.int .i64 1)] 0 2 1)]
def PK:AV:=(.islice [(.int .i64 1),(.int .i64 2)] 0 2 1)
theorem Mn:bN Proofs.Tryz.prog F0 D0 200 124 PJ ag.empty (cp false 20 PK)=true:=by kernel_rfl
end
end Go.AM
namespace Go.AM
open Go
noncomputable section
def PM:List AV:=[(.islice [(.int .i64 2),(.int .i64 0)] 0 2 1),(.islice [(.int .i64 0),(.int .i64 1)] 0 2 1)]
def PN:AV:=(.islice [(.int .i64 2),(.int .i64 0)] 0 2 1)
theorem Mo:bN Proofs.Tryz.prog F0 D0 200 124 PM ag.empty (cp false 20 PN)=true:=by kernel_rfl
end
end Go.AM
namespace Go.AM
open Go
noncomputable section
def PO:List AV:=[(.islice [(.int .i64 2),(.int .i64 1)] 0 2 1),(.islice [(.int .i64 0),(.int .i64 1)] 0 2 1)]
def PR:AV:=(.islice [(.int .i64 2),(.int .i64 1)] 0 2 1)
theorem Mp:bN Proofs.Tryz.prog F0 D0 200 124 PO ag.empty (cp false 20 PR)=true:=by kernel_rfl
end
end Go.AM
namespace Go.AM
open Go
noncomputable section
def PS:List AV:=[(.islice [(.int .i64 2),(.int .i64 2)] 0 2 1),(.islice [(.int .i64 0),(.int .i64 1)] 0 2 1)]
def PT:AV:=(.islice [(.int .i64 2),(.int .i64 2)] 0 2 1)
theorem Mq:bN Proofs.Tryz.prog F0 D0 200 124 PS ag.empty (cp false 20 PT)=true:=by kernel_rfl
end
end Go.AM
namespace Go.AM
open Go
noncomputable section
def PU:List AV:=[(.islice [(.int .i64 0),(.int .i64 0),(.int .i64 0)] 0 3 1),(.islice [(.int .i64 0),(.int .i64 2)] 0 2 1)]
def PV:AV:=(.islice [(.int .i64 0),(.int .i64 0)] 0 2 1)
theorem Mr:bN Proofs.Tryz.prog F0 D0 200 124 PU ag.empty (cp false 20 PV)=true:=by kernel_rfl
end
end Go.AM
namespace Go.AM
open Go
noncomputable section
def PW:List AV:=[(.islice [(.int .i64 0),(.int .i64 0),(.int .i64 1)] 0 3 1),(.islice [(.int .i64 0),(.int .i64 2)] 0 2 1)]
def PX:AV:=(.islice [(.int .i64 0),(.int .i64 1)] 0 2 1)
theorem Ms:bN Proofs.Tryz.prog F0 D0 200 124 PW ag.empty (cp false 20 PX)=true:=by kernel_rfl
end
end Go.AM
namespace Go.AM
open Go
noncomputable section
def PY:List AV:=[(.islice [(.int .i64 0),(.int .i64 0),(.int .i64 1)] 0 3 1),(.islice [(.int .i64 2),(.int .i64 1)] 0 2 1)]
def PZ:AV:=(.islice [(.int .i64 1),(.int .i64 0)] 0 2 1)
theorem Mt:bN Proofs.Tryz.prog F0 D0 200 124 PY ag.empty (cp false 20 PZ)=true:=by kernel_rfl
end
end Go.AM
namespace Go.AM
open Go
noncomputable section
def P0:List AV:=[(.islice [(.int .i64 0),(.int .i64 0),(.int .i64 2)] 0 3 1),(.islice [(.int .i64 0),(.int .i64 2)] 0 2 1)]
def P4:AV:=(.islice [(.int .i64 0),(.int .i64 2)] 0 2 1)
theorem Mv:bN Proofs.Tryz.prog F0 D0 200 124 P0 ag.empty (cp false 20 P4)=true:=by kernel_rfl
end
end Go.AM
namespace Go.AM
open Go
noncomputable section
def P7:List AV:=[(.islice [(.int .i64 0),(.int .i64 1),(.int .i64 0)] 0 3 1),(.islice [(.int .i64 0),(.int .i64 2)] 0 2 1)]
def P8:AV:=(.islice [(.int .i64 0),(.int .i64 0)] 0 2 1)
theorem Mw:bN Proofs.Tryz.prog F0 D0 200 124 P7 ag.empty (cp false 20 P8)=true:=by kernel_rfl
end
end Go.AM
namespace Go.AM
open Go
noncomputable section
def P9:List AV:=[(.islice [(.int .i64 0),(.int .i64 1),(.int .i64 1)] 0 3 1),(.islice [(.int .i64 0),(.int .i64 2)] 0 2 1)]
def Qa:AV:=(.islice [(.int .i64 0),(.int .i64 1)] 0 2 1)
theorem Mx:bN Proofs.Tryz.prog F0 D0 200 124 P9 ag.empty (cp false 20 Qa)=true:=by kernel_rfl
end
end Go.AM
namespace Go.AM
open Go
noncomputable section
def Qb:List AV:=[(.islice [(.int .i64 0),(.int .i64 1),(.int .i64 1)] 0 3 1),(.islice [(.int .i64 2),(.int .i64 1)] 0 2 1)]
def Qc:AV:=(.islice [(.int .i64 1),(.int .i64 1)] 0 2 1)
theorem My:bN Proofs.Tryz.prog F0 D0 200 124 Qb ag.empty (cp false 20 Qc)=true:=by kernel_rfl
end
end Go.AM
namespace Go.AM
open Go
noncomputable section
def Qd:List AV:=[(.islice [(.int .i64 0),(.int .i64 1),(.int .i64 2)] 0 3 1),(.islice [(.int .i64 0),(.int .i64 2)] 0 2 1)]
def Qe:AV:=(.islice [(.int .i64 0),(.int .i64 2)] 0 2 1)
theorem Mz:bN Proofs.Tryz.prog F0 D0 200 124 Qd ag.empty (cp false 20 Qe)=true:=by kernel_rfl
end
end Go.AM
namespace Go.AM
open Go
noncomputable section
def Qf:List AV:=[(.islice [(.int .i64 0),(.int .i64 2),(.int .i64 0)] 0 3 1),(.islice [(.int .i64 0),(.int .i64 2)] 0 2 1)]
def Qg:AV:=(.islice [(.int .i64 0),(.int .i64 0)] 0 2 1)
theorem MA:bN Proofs.Tryz.prog F0 D0 200 124 Qf ag.empty (cp false 20 Qg)=true:=by kernel_rfl
end
end Go.AM
namespace Go.AM
open Go
noncomputable section
def Qh:List AV:=[(.islice [(.int .i64 0),(.int .i64 2),(.int .i64 1)] 0 3 1),(.islice [(.int .i64 0),(.int .i64 2)] 0 2 1)]
def Qi:AV:=(.islice [(.int .i64 0),(.int .i64 1)] 0 2 1)
theorem MB:bN Proofs.Tryz.prog F0 D0 200 124 Qh ag.empty (cp false 20 Qi)=true:=by kernel_rfl
end
end Go.AM
namespace Go.AM
open Go
noncomputable section
def Qj:List AV:=[(.islice [(.int .i64 0),(.int .i64 2),(.int .i64 1)] 0 3 1),(.islice [(.int .i64 2),(.int .i64 1)] 0 2 1)]
def Qk:AV:=(.islice [(.int .i64 1),(.int .i64 2)] 0 2 1)
theorem MC:bN Proofs.Tryz.prog F0 D0 200 124 Qj ag.empty (cp false 20 Qk)=true:=by kernel_rfl
end
end Go.AM
namespace Go.AM
open Go
noncomputable section
def Ql:List AV:=[(.islice [(.int .i64 0),(.int .i64 2),(.int .i64 1)] 0 3 1),(.islice [(.int .i64 0),(.int .i64 1)] 0 2 1)]
def Qm:AV:=(.islice [(.int .i64 0),(.int .i64 2)] 0 2 1)
theorem MD:bN Proofs.Tryz.prog F0 D0 200 124 Ql ag.empty (cp false 20 Qm)=true:=by kernel_rfl
end
end Go.AM
namespace Go.AM
open Go
noncomputable section
def Qn:List AV:=[(.islice [(.int .i64 0),(.int .i64 2),(.int .i64 2)] 0 3 1),(.islice [(.int .i64 0),(.int .i64 2)] 0 2 1)]
def Qo:AV:=(.islice [(.int .i64 0),(.int .i64 2)] 0 2 1)
theorem ME:bN Proofs.Tryz.prog F0 D0 200 124 Qn ag.empty (cp false 20 Qo)=true:=by kernel_rfl
end
end Go.AM
namespace Go.AM
open Go
noncomputable section
def Qp:List AV:=[(.islice [(.int .i64 1),(.int .i64 0),(.int .i64 0)] 0 3 1),(.islice [(.int .i64 0),(.int .i64 2)] 0 2 1)]
def Qq:AV:=(.islice [(.int .i64 1),(.int .i64 0)] 0 2 1)
theorem MF:bN Proofs.Tryz.prog F0 D0 200 124 Qp ag.empty (cp false 20 Qq)=true:=by kernel_rfl
end
end Go.AM
namespace Go.AM
open Go
noncomputable section
def Qr:List AV:=[(.islice [(.int .i64 1),(.int .i64 0),(.int .i64 1)] 0 3 1),(.islice [(.int .i64 0),(.int .i64 2)] 0 2 1)]
def Qs:AV:=(.islice [(.int .i64 1),(.int .i64 1)] 0 2 1)
theorem MG:bN Proofs.Tryz.prog F0 D0 200 124 Qr ag.empty (cp false 20 Qs)=true:=by kernel_rfl
end
end Go.AM
namespace Go.AM
open Go
noncomputable section
def Qt:List AV:=[(.islice [(.int .i64 1),(.int .i64 0),(.int .i64 2)] 0 3 1),(.islice [(.int .i64 0),(.int .i64 2)] 0 2 1)]
def Qu:AV:=(.islice [(.int .i64 1),(.int .i64 2)] 0 2 1)
theorem MH:bN Proofs.Tryz.prog F0 D0 200 124 Qt ag.empty (cp false 20 Qu)=true:=by kernel_rfl
end
end Go.AM
namespace Go.AM
open Go
noncomputable section
def Qv:List AV:=[(.islice [(.int .i64 1),(.int .i64 0),(.int .i64 2)] 0 3 1),(.islice [(.int .i64 2),(.int .i64 1)] 0 2 1)]
def Qw:AV:=(.islice [(.int .i64 2),(.int .i64 0)] 0 2 1)
theorem MI:bN Proofs.Tryz.prog F0 D0 200 124 Qv ag.empty (cp false 20 Qw)=true:=by kernel_rfl
end
end Go.AM
namespace Go.AM
open Go
noncomputable section
def Qx:List AV:=[(.islice [(.int .i64 1),(.int .i64 1),(.int .i64 0)] 0 3 1),(.islice [(.int .i64 0),(.int .i64 2)] 0 2 1)]
def Qy:AV:=(.islice [(.int .i64 1),(.int .i64 0)] 0 2 1)
theorem MJ:bN Proofs.Tryz.prog F0 D0 200 124 Qx ag.empty (cp false 20 Qy)=true:=by kernel_rfl
end
end Go.AM
namespace Go.AM
open Go
noncomputable section
def Qz:List AV:=[(.islice [(.int .i64 1),(.int .i64 1),(.int .i64 1)] 0 3 1),(.islice [(.int .i64 0),(.int .i64 2)] 0 2 1)]
def QA:AV:=(.islice [(.int .i64 1),(.int .i64 1)] 0 2 1)
theorem MK:bN Proofs.Tryz.prog F0 D0 200 124 Qz ag.empty (cp false 20 QA)=true:=by kernel_rfl
end
end Go.AM
namespace Go.AM
open Go
noncomputable section
def QB:List AV:=[(.islice [(.int .i64 1),(.int .i64 1),(.int .i64 2)] 0 3 1),(.islice [(.int .i64 0),(.int .i64 2)] 0 2 1)]
def QC:AV:=(.islice [(.int .i64 1),(.int .i64 2)] 0 2 1)
theorem ML:bN Proofs.Tryz.prog F0 D0 200 124 QB ag.empty (cp false 20 QC)=true:=by kernel_rfl
end
end Go.AM
namespace Go.AM
open Go
noncomputable section
def QD:List AV:=[(.islice [(.int .i64 1),(.int .i64 1),(.int .i64 2)] 0 3 1),(.islice [(.int .i64 2),(.int .i64 1)] 0 2 1)]
def QE:AV:=(.islice [(.int .i64 2),(.int .i64 1)] 0 2 1)
theorem MM:bN Proofs.Tryz.prog F0 D0 200 124 QD ag.empty (cp false 20 QE)=true:=by kernel_rfl
end
end Go.AM
namespace Go.AM
open Go
noncomputable section
def QF:List AV:=[(.islice [(.int .i64 1),(.int .i64 2),(.int .i64 0)] 0 3 1),(.islice [(.int .i64 0),(.int .i64 2)] 0 2 1)]
def QG:AV:=(.islice [(.int .i64 1),(.int .i64 0)] 0 2 1)
theorem MN:bN Proofs.Tryz.prog F0 D0 200 124 QF ag.empty (cp false 20 QG)=true:=by kernel_rfl
end
end Go.AM
namespace Go.AM
open Go
noncomputable section
def QH:List AV:=[(.islice [(.int .i64 1),(.int .i64 2),(.int .i64 1)] 0 3 1),(.islice [(.int .i64 0),(.int .i64 2)] 0 2 1)]
def QI:AV:=(.islice [(.int .i64 1),(.int .i64 1)] 0 2 1)
theorem MO:bN Proofs.Tryz.prog F0 D0 200 124 QH ag.empty (cp false 20 QI)=true:=by kernel_rfl
end
end Go.AM
namespace Go.AM
open Go
noncomputable section
def QJ:List AV:=[(.islice [(.int .i64 1),(.int .i64 2),(.int .i64 2)] 0 3 1),(.islice [(.int .i64 0),(.int .i64 2)] 0 2 1)]
def QK:AV:=(.islice [(.int .i64 1),(.int .i64 2)] 0 2 1)
theorem MP:bN Proofs.Tryz.prog F0 D0 200 124 QJ ag.empty (cp false 20 QK)=true:=by kernel_rfl
end
end Go.AM
namespace Go.AM
open Go
noncomputable section
def QL:List AV:=[(.islice [(.int .i64 1),(.int .i64 2),(.int .i64 2)] 0 3 1),(.islice [(.int .i64 2),(.int .i64 1)] 0 2 1)]
def QM:AV:=(.islice [(.int .i64 2),(.int .i64 2)] 0 2 1)
theorem MQ:bN Proofs.Tryz.prog F0 D0 200 124 QL ag.empty (cp false 20 QM)=true:=by kernel_rfl
end
end Go.AM
namespace Go.AM
open Go
noncomputable section
def QN:List AV:=[(.islice [(.int .i64 2),(.int .i64 0),(.int .i64 0)] 0 3 1),(.islice [(.int .i64 0),(.int .i64 2)] 0 2 1)]
def QO:AV:=(.islice [(.int .i64 2),(.int .i64 0)] 0 2 1)
theorem MR:bN Proofs.Tryz.prog F0 D0 200 124 QN ag.empty (cp false 20 QO)=true:=by kernel_rfl
end
end Go.AM
namespace Go.AM
open Go
noncomputable section
def QS:List AV:=[(.islice [(.int .i64 2),(.int .i64 0),(.int .i64 1)] 0 3 1),(.islice [(.int .i64 0),(.int .i64 2)] 0 2 1)]
def QU:AV:=(.islice [(.int .i64 2),(.int .i64 1)] 0 2 1)
theorem MS:bN Proofs.Tryz.prog F0 D0 200 124 QS ag.empty (cp false 20 QU)=true:=by kernel_rfl
end
end Go.AM
namespace Go.AM
open Go
noncomputable section
def QV:List AV:=[(.islice [(.int .i64 2),(.int .i64 0),(.int .i64 2)] 0 3 1),(.islice [(.int .i64 0),(.int .i64 2)] 0 2 1)]
def QW:AV:=(.islice [(.int .i64 2),(.int .i64 2)] 0 2 1)
theorem MT:bN Proofs.Tryz.prog F0 D0 200 124 QV ag.empty (cp false 20 QW)=true:=by kernel_rfl
end
end Go.AM
namespace Go.AM
open Go
noncomputable section
def QX:List AV:=[(.islice [(.int .i64 2),(.int .i64 1),(.int .i64 0)] 0 3 1),(.islice [(.int .i64 0),(.int .i64 2)] 0 2 1)]
def QY:AV:=(.islice [(.int .i64 2),(.int .i64 0)] 0 2 1)
theorem MU:bN Proofs.Tryz.prog F0 D0 200 124 QX ag.empty (cp false 20 QY)=true:=by kernel_rfl
end
end Go.AM
namespace Go.AM
open Go
noncomputable section
def QZ:List AV:=[(.islice [(.int .i64 2),(.int .i64 1),(.int .i64 1)] 0 3 1),(.islice [(.int .i64 0),(.int .i64 2)] 0 2 1)]
def Q0:AV:=(.islice [(.int .i64 2),(.int .i64 1)] 0 2 1)
theorem MV:bN Proofs.Tryz.prog F0 D0 200 124 QZ ag.empty (cp false 20 Q0)=true:=by kernel_rfl
end
end Go.AM
namespace Go.AM
open Go
noncomputable section
def Q8:List AV:=[(.islice [(.int .i64 2),(.int .i64 1),(.int .i64 2)] 0 3 1),(.islice [(.int .i64 0),(.int .i64 2)] 0 2 1)]
def Q9:AV:=(.islice [(.int .i64 2),(.int .i64 2)] 0 2 1)
theorem MW:bN Proofs.Tryz.prog F0 D0 200 124 Q8 ag.empty (cp false 20 Q9)=true:=by kernel_rfl
end
end Go.AM
namespace Go.AM
open Go
noncomputable section
def Ra:List AV:=[(.islice [(.int .i64 2),(.int .i64 2),(.int .i64 0)] 0 3 1),(.islice [(.int .i64 0),(.int .i64 2)] 0 2 1)]
def Rb:AV:=(.islice [(.int .i64 2),(.int .i64 0)] 0 2 1)
theorem MX:bN Proofs.Tryz.prog F0 D0 200 124 Ra ag.empty (cp false 20 Rb)=true:=by kernel_rfl
end
end Go.AM
namespace Go.AM
open Go
noncomputable section
def Rc:List AV:=[(.islice [(.int .i64 2),(.int .i64 2),(.int .i64 1)] 0 3 1),(.islice [(.int .i64 0),(.int .i64 2)] 0 2 1)]
def Re:AV:=(.islice [(.int .i64 2),(.int .i64 1)] 0 2 1)
theorem MY:bN Proofs.Tryz.prog F0 D0 200 124 Rc ag.empty (cp false 20 Re)=true:=by kernel_rfl
end
end Go.AM
namespace Go.AM
open Go
noncomputable section
def Rf:List AV:=[(.islice [(.int .i64 2),(.int .i64 2),(.int .i64 2)] 0 3 1),(.islice [(.int .i64 0),(.int .i64 2)] 0 2 1)]
def Rg:AV:=(.islice [(.int .i64 2),(.int .i64 2)] 0 2 1)
theorem MZ:bN Proofs.Tryz.prog F0 D0 200 124 Rf ag.empty (cp false 20 Rg)=true:=by kernel_rfl
end
end Go.AM
namespace Go.AM
open Go
noncomputable section
def Rh:List AV:=[(.str [80]),(.islice [(.int .i64 0),(.int .i64 1)] 0 2 1)]
def Ri:AV:=(.str [80,47,0,1])
theorem M0:bN Proofs.Tryz.prog F0 D0 200 71 Rh ag.empty (cp true 20 Ri)=true:=by kernel_rfl
end
end Go.AM
namespace Go.AM
open Go
noncomputable section
def Rj:List AV:=[(.str [80]),(.islice [(.int .i64 1),(.int .i64 2)] 0 2 1)]
def Rk:AV:=(.str [80,47,1,2])
theorem M1:bN Proofs.Tryz.prog F0 D0 200 71 Rj ag.empty (cp true 20 Rk)=true:=by kernel_rfl
end
end Go.AM
namespace Go.AM
open Go
noncomputable section
def Rl:List AV:=[(.str [80]),(.islice [(.int .i64 0),(.int .i64 2)] 0 2 1)]
def Rm:AV:=(.str [80,47,0,2])
theorem M3:bN Proofs.Tryz.prog F0 D0 200 71 Rl ag.empty (cp true 20 Rm)=true:=by kernel_rfl
end
end Go.AM
namespace Go.AM
open Go
noncomputable section
def Rn:List AV:=[(.islice [(.int .i64 0),(.int .i64 2),(.int .i64 1)] 0 3 1),(.islice [(.int .i64 0),(.int .i64 1)] 0 2 1)]
def Ro:AV:=(.islice [(.int .i64 0),(.int .i64 2)] 0 2 1)
theorem M4:bN Proofs.Tryz.prog F0 D0 200 124 Rn ag.empty (cp true 20 Ro)=true:=by kernel_rfl
end
end Go.AM
namespace Go.AM
open Go
noncomputable section
def Rp:List AV:=[(.islice [(.int .i64 0),(.int .i64 2),(.int .i64 1)] 0 3 1),(.islice [(.int .i64 0),(.int .i64 2)] 0 2 1)]
def Rq:AV:=(.islice [(.int .i64 0),(.int .i64 1)] 0 2 1)
theorem M5:bN Proofs.Tryz.prog F0 D0 200 124 Rp ag.empty (cp true 20 Rq)=true:=by kernel_rfl
end
end Go.AM
namespace Go.AM
open Go
noncomputable section
def Rr:List AV:=[(.islice [(.int .i64 0),(.int .i64 2),(.int .i64 1)] 0 3 1),(.islice [(.int .i64 2),(.int .i64 1)] 0 2 1)]
def Rs:AV:=(.islice [(.int .i64 1),(.int .i64 2)] 0 2 1)
theorem M6:bN Proofs.Tryz.prog F0 D0 200 124 Rr ag.empty (cp true 20 Rs)=true:=by kernel_rfl
end
end Go.AM
namespace Go.AM
open Go
noncomputable section
def Rt:List AV:=[(.islice [(.int .i64 1),(.int .i64 2)] 0 2 1),(.islice [(.int .i64 0),(.int .i64 1)] 0 2 1)]
def Ru:AV:=(.islice [(.int .i64 1),(.int .i64 2)] 0 2 1)
theorem M7:bN Proofs.Tryz.prog F0 D0 200 124 Rt ag.empty (cp true 20 Ru)=true:=by kernel_rfl
end
end Go.AM
namespace Go.AM
open Go
noncomputable section
def F1:xm:=fun x=>if x=146 then some (iZ (gi SZ S0) (iZ (gi S1 S2) (iZ (gi S3 S4) (iZ (gi S5 S6) (iZ (gi S7 S8) (iZ (gi S9 Ta) (iZ (gi Tb Tc) (iZ (gi Td Te) (iZ (gi Tf Tg) (iZ (gi Th Ti) (gi Pq Pr))))))))))) else if x=88 then some (gi Pt Pu) else if x=107 then some (gi Pv Pw) else if x=124 then some (iZ (dI 20 Px Py) (iZ (dI 20 Pz PA) (iZ (dI 20 PC PD) (iZ (dI 20 PE PF) (iZ (dI 20 PG PI) (iZ (dI 20 PJ PK) (iZ (dI 20 PM PN) (iZ (dI 20 PO PR) (iZ (dI 20 PS PT) (iZ (dI 20 PU PV) (iZ (dI 20 PW PX) (iZ (dI 20 PY PZ) (iZ (dI 20 P0 P4) (iZ (dI 20 P7 P8) (iZ (dI 20 P9 Qa) (iZ (dI 20 Qb Qc) (iZ (dI 20 Qd Qe) (iZ (dI 20 Qf Qg) (iZ (dI 20 Qh Qi) (iZ (dI 20 Qj Qk) (iZ (dI 20 Ql Qm) (iZ (dI 20 Qn Qo) (iZ (dI 20 Qp Qq) (iZ (dI 20 Qr Qs) (iZ (dI 20 Qt Qu) (iZ (dI 20 Qv Qw) (iZ (dI 20 Qx Qy) (iZ (dI 20 Qz QA) (iZ (dI 20 QB QC) (iZ (dI 20 QD QE) (iZ (dI 20 QF QG) (iZ (dI 20 QH QI) (iZ (dI 20 QJ QK) (iZ (dI 20 QL QM) (iZ (dI 20 QN QO) (iZ (dI 20 QS QU) (iZ (dI 20 QV QW) (iZ (dI 20 QX QY) (iZ (dI 20 QZ Q0) (iZ (dI 20 Q8 Q9) (iZ (dI 20 Ra Rb) (iZ (dI 20 Rc Re) (iZ (dI 20 Rf Rg) (iZ (gi Rn Ro) (iZ (gi Rp Rq) (iZ (gi Rr Rs) (gi Rt Ru))))))))))))))))))))))))))))))))))))))))))))))) else if x=71 then some (iZ (gi Rh Ri) (iZ (gi Rj Rk) (gi Rl Rm))) else F0 x
theorem Fh:k8 Proofs.Tryz.prog F1:=by
 have hs:=jj mixed Fc qQ 200
 intro f g hg args h K hK
 unfold F1 at hg
 split at hg
 ·rename_i e
  subst e
  cases hg
  rcases b7 hK with hK|hK
  ·exact cg hs (by kernel_rfl) OH args h K hK
  rcases b7 hK with hK|hK
  ·exact cg hs (by kernel_rfl) OI args h K hK
  rcases b7 hK with hK|hK
  ·exact cg hs (by kernel_rfl) OJ args h K hK
  rcases b7 hK with hK|hK
  ·exact cg hs (by kernel_rfl) OK args h K hK
  rcases b7 hK with hK|hK
  ·exact cg hs (by kernel_rfl) OL args h K hK
  rcases b7 hK with hK|hK
  ·exact cg hs (by kernel_rfl) OM args h K hK
  rcases b7 hK with hK|hK
  ·exact cg hs (by kernel_rfl) ON args h K hK
  rcases b7 hK with hK|hK
  ·exact cg hs (by kernel_rfl) OO args h K hK
  rcases b7 hK with hK|hK
  ·exact cg hs (by kernel_rfl) OP args h K hK
  rcases b7 hK with hK|hK
  ·exact cg hs (by kernel_rfl) OQ args h K hK
  exact cg hs (by kernel_rfl) Mf args h K hK
 split at hg
 ·rename_i e
  subst e
  cases hg
  exact cg hs (by kernel_rfl) Mg args h K hK
 split at hg
 ·rename_i e
  subst e
  cases hg
  exact cg hs (by kernel_rfl) Mh args h K hK
 split at hg
 ·rename_i e
  subst e
  cases hg
  rcases b7 hK with hK|hK
  ·exact bg hs Mi args h K hK
  rcases b7 hK with hK|hK
  ·exact bg hs Mj args h K hK
  rcases b7 hK with hK|hK
  ·exact bg hs Mk args h K hK
  rcases b7 hK with hK|hK
  ·exact bg hs Ml args h K hK
  rcases b7 hK with hK|hK
  ·exact bg hs Mm args h K hK
  rcases b7 hK with hK|hK
  ·exact bg hs Mn args h K hK
  rcases b7 hK with hK|hK
  ·exact bg hs Mo args h K hK
  rcases b7 hK with hK|hK
  ·exact bg hs Mp args h K hK
  rcases b7 hK with hK|hK
  ·exact bg hs Mq args h K hK
  rcases b7 hK with hK|hK
  ·exact bg hs Mr args h K hK
  rcases b7 hK with hK|hK
  ·exact bg hs Ms args h K hK
  rcases b7 hK with hK|hK
  ·exact bg hs Mt args h K hK
  rcases b7 hK with hK|hK
  ·exact bg hs Mv args h K hK
  rcases b7 hK with hK|hK
  ·exact bg hs Mw args h K hK
  rcases b7 hK with hK|hK
  ·exact bg hs Mx args h K hK
  rcases b7 hK with hK|hK
  ·exact bg hs My args h K hK
  rcases b7 hK with hK|hK
  ·exact bg hs Mz args h K hK
  rcases b7 hK with hK|hK
  ·exact bg hs MA args h K hK
  rcases b7 hK with hK|hK
  ·exact bg hs MB args h K hK
  rcases b7 hK with hK|hK
  ·exact bg hs MC args h K hK
  rcases b7 hK with hK|hK
  ·exact bg hs MD args h K hK
  rcases b7 hK with hK|hK
  ·exact bg hs ME args h K hK
  rcases b7 hK with hK|hK
  ·exact bg hs MF args h K hK
  rcases b7 hK with hK|hK
  ·exact bg hs MG args h K hK
  rcases b7 hK with hK|hK
  ·exact bg hs MH args h K hK
  rcases b7 hK with hK|hK
  ·exact bg hs MI args h K hK
  rcases b7 hK with hK|hK
  ·exact bg hs MJ args h K hK
  rcases b7 hK with hK|hK
  ·exact bg hs MK args h K hK
  rcases b7 hK with hK|hK
  ·exact bg hs ML args h K hK
  rcases b7 hK with hK|hK
  ·exact bg hs MM args h K hK
  rcases b7 hK with hK|hK
  ·exact bg hs MN args h K hK
  rcases b7 hK with hK|hK
  ·exact bg hs MO args h K hK
  rcases b7 hK with hK|hK
  ·exact bg hs MP args h K hK
  rcases b7 hK with hK|hK
  ·exact bg hs MQ args h K hK
  rcases b7 hK with hK|hK
  ·exact bg hs MR args h K hK
  rcases b7 hK with hK|hK
  ·exact bg hs MS args h K hK
  rcases b7 hK with hK|hK
  ·exact bg hs MT args h K hK
  rcases b7 hK with hK|hK
  ·exact bg hs MU args h K hK
  rcases b7 hK with hK|hK
  ·exact bg hs MV args h K hK
  rcases b7 hK with hK|hK
  ·exact bg hs MW args h K hK
  rcases b7 hK with hK|hK
  ·exact bg hs MX args h K hK
  rcases b7 hK with hK|hK
  ·exact bg hs MY args h K hK
  rcases b7 hK with hK|hK
  ·exact bg hs MZ args h K hK
  rcases b7 hK with hK|hK
  ·exact cg hs (by kernel_rfl) M4 args h K hK
  rcases b7 hK with hK|hK
  ·exact cg hs (by kernel_rfl) M5 args h K hK
  rcases b7 hK with hK|hK
  ·exact cg hs (by kernel_rfl) M6 args h K hK
  exact cg hs (by kernel_rfl) M7 args h K hK
 split at hg
 ·rename_i e
  subst e
  cases hg
  rcases b7 hK with hK|hK
  ·exact cg hs (by kernel_rfl) M0 args h K hK
  rcases b7 hK with hK|hK
  ·exact cg hs (by kernel_rfl) M1 args h K hK
  exact cg hs (by kernel_rfl) M3 args h K hK
 exact Fc f g hg args h K hK
end
end Go.AM
namespace Go.AM
open Go
noncomputable section
def Rv:List AV:=[(.agg [(.str [80]),(.islice [(.str [120]),(.str [121])] 0 2 1)])]
def Rw:AV:=(.bool true)
theorem M8:bN Proofs.Tryz.prog F1 D0 200 130 Rv ag.empty (cp false 20 Rw)=true:=by kernel_rfl
end
end Go.AM
namespace Go.AM
open Go
noncomputable section
def Rx:List AV:=[(.agg [(.str [80]),(.islice [(.str [120]),(.str [121])] 0 2 1),(.islice [(.int .i64 0),(.bool false),(.str [69]),(.islice [(.str [120]),(.str [121])] 0 2 1)] 0 1 4)])]
def Ry:AV:=(.islice [(.str [120]),(.str [121])] 0 2 1)
theorem M9:bN Proofs.Tryz.prog F1 D0 200 108 Rx ag.empty (cp false 20 Ry)=true:=by kernel_rfl
end
end Go.AM
namespace Go.AM
open Go
noncomputable section
def Rz:List AV:=[(.agg [(.int .i64 0),(.bool false),(.str [69]),(.islice [(.str [120]),(.str [121])] 0 2 1)])]
def RA:AV:=(.bool true)
theorem Na:bN Proofs.Tryz.prog F1 D0 200 132 Rz ag.empty (cp false 20 RA)=true:=by kernel_rfl
end
end Go.AM
namespace Go.AM
open Go
noncomputable section
def RB:List AV:=[(.agg [(.int .i64 0),(.bool false),(.str [69]),(.islice [(.str [120]),(.str [122])] 0 2 1)])]
def RC:AV:=(.bool true)
theorem Nb:bN Proofs.Tryz.prog F1 D0 200 132 RB ag.empty (cp false 20 RC)=true:=by kernel_rfl
end
end Go.AM