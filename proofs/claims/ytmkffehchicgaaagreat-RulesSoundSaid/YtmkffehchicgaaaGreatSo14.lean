/- Parts of a proof, merged out of smaller texts: the abstract machine and what functions do. Conditions: none. -/
import Derived.Test.YtmkffehchicgaaaGreatSo3
import Derived.Test.YtmkffehchicgaaaGreatSo8
import Derived.Test.YtmkffehchicgaaaGreatSo9
import Derived.Test.YtmkffehchicgaaaGreatSo10
import Derived.Test.YtmkffehchicgaaaGreatSo11
import Derived.KernelRfl
set_option linter.unusedVariables false
namespace Go.Proofs
open Go.RowKit Go.Maps Go.Sort Go.Shelf
theorem Tryz.Ft(m:Nat):AnyZ.SortsIn Tryz.prog Tryz.sE Fence.wide m:=
 ⟨fun blk off cap ss W hH hblk hsz=>callsIn_wide.2 (AnyM.slices_Sort_string Tryz.E9 blk off cap ss W hH hblk hsz),
  fun p cap W=>callsIn_wide.2 (AnyM.slices_Sort_string_none Tryz.E9 p cap W)⟩
theorem Tryz.CS:AM.AF Tryz.prog 50 114 100:=fun mb W=>callsIn_wide.1 (AnyZ.keys_in Tryz.D9 Fence.wide 5 trivial rfl mb W)
set_option maxHeartbeats 1000000 in
theorem Tryz.zJ:AM.vq Tryz.prog 49 114 9:=by
 refine ⟨fun Bm b nn D0 w h1 h2 hown hmax hbytes=>(callsIn_wide (n:=5)).1 ?_,fun Bm w h1 h2=>?_⟩
 ·have hseq:SeqGives Fence.wide 2 Tryz.prog 114 #[.pointer (some ⟨Bm,0,none⟩)] encStr (fun ss=>ss.Perm (strKeys D0)) (Maps.size D0) w:=
   AnyZ.keys_gives (ρ:=Tryz.rE) { Tryz.D9 with } Fence.wide _ trivial rfl (by omega) Bm b nn D0 w h1 h2 hown
  exact AnyZ.sorted_in Tryz.Co Fence.wide 5 trivial trivial trivial trivial rfl (by omega) (Tryz.Ft _) (enters_of Tryz.func113 (by kernel_rfl) rfl) 114 #[.pointer (some ⟨Bm,0,none⟩)] trivial (enters_of Tryz.func114 (by kernel_rfl) rfl) _ _ hmax hbytes w hseq
 ·have hseq:SeqGives Fence.wide 2 Tryz.prog 114 #[.pointer (some ⟨Bm,0,none⟩)] encStr (fun ss:List (List UInt8)=>ss = []) 0 w:=
   AnyZ.keys_gives_nil (ρ:=Tryz.rE) { Tryz.D9 with } Fence.wide _ trivial rfl Bm w h1 h2
  refine Calls.mono ((callsIn_wide (n:=5)).1 (AnyZ.sorted_in Tryz.Co Fence.wide 5 trivial trivial trivial trivial rfl (by omega) (Tryz.Ft _) (enters_of Tryz.func113 (by kernel_rfl) rfl) 114 #[.pointer (some ⟨Bm,0,none⟩)] trivial (enters_of Tryz.func114 (by kernel_rfl) rfl) _ 0 (Nat.zero_le _) (by omega) w hseq)) fun e w' hR=>?_
  obtain ⟨v,ss,rfl,s1,s2,s3,s4⟩:=hR
  exact ⟨by rw [s3.2 s1],s4⟩
end Go.Proofs
namespace Go.AM
open Go Go.Proofs
noncomputable section
theorem mixed:Tryz.prog.follows .mixedOrders=true:=by kernel_rfl
noncomputable def MA:Code→List Oper
 |.seq (.region _ ops _) _=>ops.toList
 |_=>[]
noncomputable def PE:Code→Nat
 |.seq (.region id _ _) _=>id
 |_=>0
noncomputable def HK:List Oper→Oper
 |o :: _=>o
 |[]=>default
noncomputable def PF:Op→Array TypeId
 |.call c=>c.argTypes
 |_=>#[]
def F0:sC:=fun f=>if f=50 then some (Fp 114) else if f=49 then some (qu 114) else none
theorem HL:Enters Tryz.prog 50:=⟨_,_,Tryz.func50,rfl,by decide⟩
theorem HM:Enters Tryz.prog 49:=⟨_,_,Tryz.func49,rfl,by decide⟩
theorem ta:gZ Tryz.prog F0:=by
 intro f g hg args h K hK
 unfold F0 at hg
 split at hg
 ·rename_i e;subst e;cases hg;exact CM HL Tryz.CS args h K hK
 split at hg
 ·rename_i e;subst e;cases hg
  exact zI HM (by kernel_rfl) Tryz.zJ args h K hK
 ·cases hg
noncomputable def tc:List Oper:=MA (ai Tryz.f97)
noncomputable def AI:Code:=partOf (ai Tryz.f97) [1]
def D0:mB:=fun f=>if f=97 then some (fun args pan h K=>Nat.ble args.length 2&&Es Tryz.prog 10 5 tc AI args pan h K) else none
theorem Ge:Fo Tryz.prog 97 10 5 tc AI 2:=⟨⟨Tryz.f97,PE (ai Tryz.f97),HK tc,PF (HK tc).op,Tryz.func97,by kernel_rfl,by kernel_rfl,by decide,by kernel_rfl,by decide,by decide,by kernel_rfl,by kernel_rfl,by kernel_rfl,by kernel_rfl⟩⟩
theorem oQ:xP Tryz.prog D0:=by
 intro f g hg
 unfold D0 at hg
 split at hg
 ·rename_i e;subst e;cases hg
  refine ⟨⟨_,_,Tryz.func97,rfl,by decide⟩,fun args pan h K hh w0 μ w vs pv h1 h2 h3=>?_⟩
  simp only [Bool.and_eq_true] at hh
  exact (BK mixed Ge (Nat.le_of_ble_eq_true hh.1) hh.2).2 w0 μ w vs pv h1 h2 h3
 cases hg
end
end Go.AM
namespace Go.AM
open Go Go.Proofs
noncomputable section
noncomputable def F.dF.L0:Code:=partOf (ai Tryz.f116) [1,1,0,1,0,0]
noncomputable def F.dF.cB(K:Out→af→Bool):AX→St→Bool:=(aY 0 (cD false (au Tryz.prog (ah Tryz.prog) (partOf (ai Tryz.f116) [1,1,1])) (az Tryz.prog cg Tryz.f116.results.toList K)))
theorem F.dF.aP{e:Env}{h:af}{K:AX→St→Bool}:au Tryz.prog (ah Tryz.prog) F.dF.L0 ⟨e,40,[],h⟩ K=(ag (bR .str (e 0) h) fun x14=>ag (aF .lss (e 3) x14) fun x15=>let Q1:=(aa (aa (aa (aa e 22 (e 3)) 23 (e 0)) 24 x14) 25 x15);ay x15 (ag (iU (e 0) (e 3)) fun x16=>ah Tryz.prog 163 [x16] h (bO (fun x17 h18=>ag (jl .not x17) fun x21=>let Q2:=(aa (aa (aa (aa (aa (aa Q1 28 (e 0)) 29 (e 3)) 30 x16) 31 x17) 32 x21) 33 x21);ay x21 (ag (iU (e 0) (e 3)) fun x22=>ah Tryz.prog 165 [x22] h18 (bO (fun x23 h24=>ag (jl .not x23) fun x27=>let Q3:=(aa (aa (aa (aa (aa (aa (aa (aa (aa (aa (aa Q2 33 (.bool true)) 34 (e 0)) 33 (.bool true)) 35 (e 3)) 33 (.bool true)) 36 x22) 33 (.bool true)) 37 x23) 33 (.bool true)) 38 x27) 39 x27);ay x27 (K .ret ⟨(aa Q3 2 (.bool false)),40,[],h24⟩) (ag (aF .add (e 3) (.int .i64 1)) fun x28=>K .normal ⟨(aa (aa (aa Q3 26 (e 3)) 27 x28) 3 x28),40,[],h24⟩)) (fun v25 h26=>K (.panic v25) ⟨(aa (aa (aa (aa (aa (aa (aa Q2 33 (.bool true)) 34 (e 0)) 33 (.bool true)) 35 (e 3)) 33 (.bool true)) 36 x22) 33 (.bool true)),40,[],h26⟩))) (ag (aF .add (e 3) (.int .i64 1)) fun x29=>K .normal ⟨(aa (aa (aa (aa (aa (aa (aa (aa (aa (aa (aa (aa (aa (aa Q2 33 (.bool false)) 34 bG) 33 (.bool false)) 35 bG) 33 (.bool false)) 36 bG) 33 (.bool false)) 37 bG) 33 (.bool false)) 38 bG) 39 (.bool false)) 26 (e 3)) 27 x29) 3 x29),40,[],h18⟩)) (fun v19 h20=>K (.panic v19) ⟨(aa (aa (aa Q1 28 (e 0)) 29 (e 3)) 30 x16),40,[],h20⟩))) (K (.exit 0) ⟨Q1,40,[],h⟩)):=by kernel_rfl
theorem F.dF.aG{e:Env}{h:af}{K:Out→af→Bool}:F.dF.cB K (.exit 0) ⟨e,40,[],h⟩=(K (.ret (.bool true)) h):=by kernel_rfl
theorem F.dF.bp{e:Env}{h:af}{K:Out→af→Bool}:F.dF.cB K .ret ⟨e,40,[],h⟩=(K (.ret (e 2)) h):=by kernel_rfl
theorem F.zK{a0:AV}{h:af}{K:Out→af→Bool}:au Tryz.prog (ah Tryz.prog) (ai Tryz.f116) ⟨aB [a0],40,[],h⟩ (az Tryz.prog cg Tryz.f116.results.toList K)=(ag (bR .str a0 h) fun x0=>ag (aF .lss x0 (.int .i64 1)) fun x1=>ay x1 (K (.ret (.bool false)) h) (ag (bR .str a0 h) fun x2=>ag (aF .gtr x2 (.int .i64 12)) fun x3=>ay x3 (K (.ret (.bool false)) h) (ag (iU a0 (.int .i64 0)) fun x4=>ah Tryz.prog 163 [x4] h (bO (fun x5 h6=>ag (jl .not x5) fun x9=>ay x9 (K (.ret (.bool false)) h6) (ah Tryz.prog 164 [a0] h6 (bO (fun x10 h11=>ay x10 (K (.ret (.bool false)) h11) (bS (au Tryz.prog (ah Tryz.prog) F.dF.L0) ⟨(aa (aa (aa (aa (aa (aa (aa (aa (aa (aa (aa (aa (aa (aa (aa (aa (aa (aa (aa (aa (aa (aa (aa (aa (aa (aa (aa (aa (aa (aB [a0]) 2 (.bool false)) 4 a0) 5 x0) 6 x1) 7 x1) 7 (.bool false)) 8 a0) 7 (.bool false)) 9 x2) 7 (.bool false)) 10 x3) 11 x3) 12 x3) 12 (.bool false)) 13 a0) 12 (.bool false)) 14 x4) 12 (.bool false)) 15 x5) 12 (.bool false)) 16 x9) 17 x9) 18 x9) 18 (.bool false)) 19 a0) 18 (.bool false)) 20 x10) 21 x10) 3 (.int .i64 1)),40,[],h11⟩ (F.dF.cB K))) (fun v12 h13=>K (.panic v12) h13)))) (fun v7 h8=>K (.panic v7) h8))))):=by kernel_rfl
theorem F.xX{a0:AV}{h:af}{K:Out→af→Bool}(hh:au Tryz.prog (ah Tryz.prog) (ai Tryz.f116) ⟨aB [a0],40,[],h⟩ (az Tryz.prog cg Tryz.f116.results.toList K)=true):Sem Tryz.prog 116 [a0] h K:=
 aN mixed (aL _) Tryz.func116 (c:=ai Tryz.f116) rfl (by decide) (of_decide_eq_true (by kernel_rfl)) hh
noncomputable def F.di.L0:Code:=partOf (ai Tryz.f135) [1,1,0,1,0,0]
noncomputable def F.di.cB(K:Out→af→Bool):AX→St→Bool:=(aY 0 (cD false (au Tryz.prog (ah Tryz.prog) (partOf (ai Tryz.f135) [1,1,1])) (az Tryz.prog cg Tryz.f135.results.toList K)))
theorem F.di.aP{e:Env}{h:af}{K:AX→St→Bool}:au Tryz.prog (ah Tryz.prog) F.di.L0 ⟨e,39,[],h⟩ K=(ag (aF .lss (e 23) (e 22)) fun x14=>let Q1:=(aa e 24 x14);ay x14 (ag (iU (e 0) (e 23)) fun x15=>ah Tryz.prog 170 [x15] h (bO (fun x16 h17=>ag (jl .not x16) fun x20=>let Q2:=(aa (aa (aa (aa (aa (aa (aa (aa Q1 25 (e 23)) 3 (e 23)) 26 (e 0)) 27 (e 23)) 28 x15) 29 x16) 30 x20) 31 x20);ay x20 (ag (iU (e 0) (e 23)) fun x21=>ah Tryz.prog 172 [x21] h17 (bO (fun x22 h23=>ag (jl .not x22) fun x26=>let Q3:=(aa (aa (aa (aa (aa (aa (aa (aa (aa (aa (aa Q2 31 (.bool true)) 32 (e 0)) 31 (.bool true)) 33 (e 23)) 31 (.bool true)) 34 x21) 31 (.bool true)) 35 x22) 31 (.bool true)) 36 x26) 37 x26);ay x26 (K .ret ⟨(aa Q3 2 (.bool false)),39,[],h23⟩) (ag (aF .add (e 23) (.int .i64 1)) fun x27=>K .normal ⟨(aa (aa Q3 38 x27) 23 x27),39,[],h23⟩)) (fun v24 h25=>K (.panic v24) ⟨(aa (aa (aa (aa (aa (aa (aa Q2 31 (.bool true)) 32 (e 0)) 31 (.bool true)) 33 (e 23)) 31 (.bool true)) 34 x21) 31 (.bool true)),39,[],h25⟩))) (ag (aF .add (e 23) (.int .i64 1)) fun x28=>K .normal ⟨(aa (aa (aa (aa (aa (aa (aa (aa (aa (aa (aa (aa (aa Q2 31 (.bool false)) 32 bG) 31 (.bool false)) 33 bG) 31 (.bool false)) 34 bG) 31 (.bool false)) 35 bG) 31 (.bool false)) 36 bG) 37 (.bool false)) 38 x28) 23 x28),39,[],h17⟩)) (fun v18 h19=>K (.panic v18) ⟨(aa (aa (aa (aa (aa Q1 25 (e 23)) 3 (e 23)) 26 (e 0)) 27 (e 23)) 28 x15),39,[],h19⟩))) (K (.exit 0) ⟨Q1,39,[],h⟩)):=by kernel_rfl
theorem F.di.aG{e:Env}{h:af}{K:Out→af→Bool}:F.di.cB K (.exit 0) ⟨e,39,[],h⟩=(K (.ret (.bool true)) h):=by kernel_rfl
theorem F.di.bp{e:Env}{h:af}{K:Out→af→Bool}:F.di.cB K .ret ⟨e,39,[],h⟩=(K (.ret (e 2)) h):=by kernel_rfl
theorem F.zL{a0:AV}{h:af}{K:Out→af→Bool}:au Tryz.prog (ah Tryz.prog) (ai Tryz.f135) ⟨aB [a0],39,[],h⟩ (az Tryz.prog cg Tryz.f135.results.toList K)=(ag (gO .string a0 (.str [])) fun x0=>ay x0 (K (.ret (.bool false)) h) (ag (bR .str a0 h) fun x1=>ag (aF .gtr x1 (.int .i64 12)) fun x2=>ay x2 (K (.ret (.bool false)) h) (ag (iU a0 (.int .i64 0)) fun x3=>ah Tryz.prog 170 [x3] h (bO (fun x4 h5=>ag (jl .not x4) fun x8=>ay x8 (K (.ret (.bool false)) h5) (ah Tryz.prog 171 [a0] h5 (bO (fun x9 h10=>ay x9 (K (.ret (.bool false)) h10) (ag (bR .str a0 h10) fun x13=>bS (au Tryz.prog (ah Tryz.prog) F.di.L0) ⟨(aa (aa (aa (aa (aa (aa (aa (aa (aa (aa (aa (aa (aa (aa (aa (aa (aa (aa (aa (aa (aa (aa (aa (aa (aa (aa (aa (aa (aa (aa (aB [a0]) 2 (.bool false)) 4 a0) 5 x0) 6 x0) 6 (.bool false)) 7 a0) 6 (.bool false)) 8 x1) 6 (.bool false)) 9 x2) 10 x2) 11 x2) 11 (.bool false)) 12 a0) 11 (.bool false)) 13 x3) 11 (.bool false)) 14 x4) 11 (.bool false)) 15 x8) 16 x8) 17 x8) 17 (.bool false)) 18 a0) 17 (.bool false)) 19 x9) 20 x9) 21 a0) 22 x13) 23 (.int .i64 0)),39,[],h10⟩ (F.di.cB K))) (fun v11 h12=>K (.panic v11) h12)))) (fun v6 h7=>K (.panic v6) h7))))):=by kernel_rfl
theorem F.xY{a0:AV}{h:af}{K:Out→af→Bool}(hh:au Tryz.prog (ah Tryz.prog) (ai Tryz.f135) ⟨aB [a0],39,[],h⟩ (az Tryz.prog cg Tryz.f135.results.toList K)=true):Sem Tryz.prog 135 [a0] h K:=
 aN mixed (aL _) Tryz.func135 (c:=ai Tryz.f135) rfl (by decide) (of_decide_eq_true (by kernel_rfl)) hh
theorem F.vN{a0:AV}{h:af}{K:Out→af→Bool}:au Tryz.prog (ah Tryz.prog) (ai Tryz.f163) ⟨aB [a0],17,[],h⟩ (az Tryz.prog cg Tryz.f163.results.toList K)=(ag (aF .geq a0 (.int .u8 97)) fun x0=>ay x0 (ag (aF .leq a0 (.int .u8 122)) fun x1=>ay x1 (K (.ret (.bool true)) h) (ag (aF .geq a0 (.int .u8 65)) fun x2=>ay x2 (ag (aF .leq a0 (.int .u8 90)) fun x3=>K (.ret x3) h) (K (.ret (.bool false)) h))) (ag (aF .geq a0 (.int .u8 65)) fun x4=>ay x4 (ag (aF .leq a0 (.int .u8 90)) fun x5=>K (.ret x5) h) (K (.ret (.bool false)) h))):=by kernel_rfl
theorem F.uq{a0:AV}{h:af}{K:Out→af→Bool}(hh:au Tryz.prog (ah Tryz.prog) (ai Tryz.f163) ⟨aB [a0],17,[],h⟩ (az Tryz.prog cg Tryz.f163.results.toList K)=true):Sem Tryz.prog 163 [a0] h K:=
 aN mixed (aL _) Tryz.func163 (c:=ai Tryz.f163) rfl (by decide) (of_decide_eq_true (by kernel_rfl)) hh
theorem F.zM{a0:AV}{h:af}{K:Out→af→Bool}:au Tryz.prog (ah Tryz.prog) (ai Tryz.f164) ⟨aB [a0],16,[],h⟩ (az Tryz.prog cg Tryz.f164.results.toList K)=(ag (gO .string a0 (.str [97,110,100])) fun x0=>ay x0 (ay x0 (K (.ret (.bool true)) h) (K (.ret (.bool false)) h)) (ag (gO .string a0 (.str [111,114])) fun x1=>ay x1 (ay x1 (K (.ret (.bool true)) h) (K (.ret (.bool false)) h)) (ag (gO .string a0 (.str [110,111,116])) fun x2=>ay x2 (ay x2 (K (.ret (.bool true)) h) (K (.ret (.bool false)) h)) (ag (gO .string a0 (.str [115,111,109,101])) fun x3=>ay x3 (ay x3 (K (.ret (.bool true)) h) (K (.ret (.bool false)) h)) (ag (gO .string a0 (.str [97,108,108])) fun x4=>ay x4 (ay x4 (K (.ret (.bool true)) h) (K (.ret (.bool false)) h)) (ag (gO .string a0 (.str [108,102,112])) fun x5=>ay x5 (ay x5 (K (.ret (.bool true)) h) (K (.ret (.bool false)) h)) (ag (gO .string a0 (.str [112,102,112])) fun x6=>ay x6 (ay x6 (K (.ret (.bool true)) h) (K (.ret (.bool false)) h)) (ag (gO .string a0 (.str [116,99])) fun x7=>ay x7 (ay x7 (K (.ret (.bool true)) h) (K (.ret (.bool false)) h)) (ag (gO .string a0 (.str [101,120,105,115,116,115])) fun x8=>ay x8 (ay x8 (K (.ret (.bool true)) h) (K (.ret (.bool false)) h)) (ag (gO .string a0 (.str [116,114,117,101])) fun x9=>ay x9 (ay x9 (K (.ret (.bool true)) h) (K (.ret (.bool false)) h)) (ag (gO .string a0 (.str [102,97,108,115,101])) fun x10=>ay x10 (K (.ret (.bool true)) h) (K (.ret (.bool false)) h)))))))))))):=by kernel_rfl
theorem F.xZ{a0:AV}{h:af}{K:Out→af→Bool}(hh:au Tryz.prog (ah Tryz.prog) (ai Tryz.f164) ⟨aB [a0],16,[],h⟩ (az Tryz.prog cg Tryz.f164.results.toList K)=true):Sem Tryz.prog 164 [a0] h K:=
 aN mixed (aL _) Tryz.func164 (c:=ai Tryz.f164) rfl (by decide) (of_decide_eq_true (by kernel_rfl)) hh
theorem F.ya{a0:AV}{h:af}{K:Out→af→Bool}:au Tryz.prog (ah Tryz.prog) (ai Tryz.f165) ⟨aB [a0],9,[],h⟩ (az Tryz.prog cg Tryz.f165.results.toList K)=(ag (aF .geq a0 (.int .u8 48)) fun x0=>ay x0 (ag (aF .leq a0 (.int .u8 57)) fun x1=>K (.ret x1) h) (K (.ret (.bool false)) h)):=by kernel_rfl
theorem F.vO{a0:AV}{h:af}{K:Out→af→Bool}(hh:au Tryz.prog (ah Tryz.prog) (ai Tryz.f165) ⟨aB [a0],9,[],h⟩ (az Tryz.prog cg Tryz.f165.results.toList K)=true):Sem Tryz.prog 165 [a0] h K:=
 aN mixed (aL _) Tryz.func165 (c:=ai Tryz.f165) rfl (by decide) (of_decide_eq_true (by kernel_rfl)) hh
noncomputable def F.cM.L0:Code:=partOf (ai Tryz.f73) [1,0,1,0,0]
noncomputable def F.cM.cB(K:Out→af→Bool):AX→St→Bool:=(aY 0 (cD false (au Tryz.prog (ah Tryz.prog) (partOf (ai Tryz.f73) [1,1])) (az Tryz.prog cg Tryz.f73.results.toList K)))
theorem F.cM.aP{e:Env}{h:af}{K:AX→St→Bool}:au Tryz.prog (ah Tryz.prog) F.cM.L0 ⟨e,18,[],h⟩ K=(ag (bR .slice (e 0) h) fun x0=>ag (aF .lss (e 5) x0) fun x1=>let Q1:=(aa (aa (aa (aa e 6 (e 5)) 7 (e 0)) 8 x0) 9 x1);ay x1 (ag (dx 1 (e 0) (e 5)) fun x2=>ag (aj none x2 h) fun x3=>ag (gO .string x3 (e 1)) fun x4=>let Q2:=(aa (aa (aa (aa (aa (aa Q1 12 (e 0)) 13 (e 5)) 14 x2) 15 x3) 16 (e 1)) 17 x4);ay x4 (K .ret ⟨(aa Q2 4 (.bool true)),18,[],h⟩) (ag (aF .add (e 5) (.int .i64 1)) fun x5=>K .normal ⟨(aa (aa (aa Q2 10 (e 5)) 11 x5) 5 x5),18,[],h⟩)) (K (.exit 0) ⟨Q1,18,[],h⟩)):=by kernel_rfl
theorem F.cM.aG{e:Env}{h:af}{K:Out→af→Bool}:F.cM.cB K (.exit 0) ⟨e,18,[],h⟩=(K (.ret (.bool false)) h):=by kernel_rfl
theorem F.cM.bp{e:Env}{h:af}{K:Out→af→Bool}:F.cM.cB K .ret ⟨e,18,[],h⟩=(K (.ret (e 4)) h):=by kernel_rfl
theorem F.oR{a0 a1:AV}{h:af}{K:Out→af→Bool}:au Tryz.prog (ah Tryz.prog) (ai Tryz.f73) ⟨aB [a0,a1],18,[],h⟩ (az Tryz.prog cg Tryz.f73.results.toList K)=(bS (au Tryz.prog (ah Tryz.prog) F.cM.L0) ⟨(aa (aa (aB [a0,a1]) 4 (.bool false)) 5 (.int .i64 0)),18,[],h⟩ (F.cM.cB K)):=by kernel_rfl
theorem F.nV{a0 a1:AV}{h:af}{K:Out→af→Bool}(hh:au Tryz.prog (ah Tryz.prog) (ai Tryz.f73) ⟨aB [a0,a1],18,[],h⟩ (az Tryz.prog cg Tryz.f73.results.toList K)=true):Sem Tryz.prog 73 [a0,a1] h K:=
 aN mixed (aL _) Tryz.func73 (c:=ai Tryz.f73) rfl (by decide) (of_decide_eq_true (by kernel_rfl)) hh
theorem F.vQ{a0:AV}{h:af}{K:Out→af→Bool}:au Tryz.prog (ah Tryz.prog) (ai Tryz.f170) ⟨aB [a0],17,[],h⟩ (az Tryz.prog cg Tryz.f170.results.toList K)=(ag (aF .geq a0 (.int .u8 97)) fun x0=>ay x0 (ag (aF .leq a0 (.int .u8 122)) fun x1=>ay x1 (K (.ret (.bool true)) h) (ag (aF .geq a0 (.int .u8 65)) fun x2=>ay x2 (ag (aF .leq a0 (.int .u8 90)) fun x3=>K (.ret x3) h) (K (.ret (.bool false)) h))) (ag (aF .geq a0 (.int .u8 65)) fun x4=>ay x4 (ag (aF .leq a0 (.int .u8 90)) fun x5=>K (.ret x5) h) (K (.ret (.bool false)) h))):=by kernel_rfl
theorem F.ur{a0:AV}{h:af}{K:Out→af→Bool}(hh:au Tryz.prog (ah Tryz.prog) (ai Tryz.f170) ⟨aB [a0],17,[],h⟩ (az Tryz.prog cg Tryz.f170.results.toList K)=true):Sem Tryz.prog 170 [a0] h K:=
 aN mixed (aL _) Tryz.func170 (c:=ai Tryz.f170) rfl (by decide) (of_decide_eq_true (by kernel_rfl)) hh
theorem F.zN{a0:AV}{h:af}{K:Out→af→Bool}:au Tryz.prog (ah Tryz.prog) (ai Tryz.f171) ⟨aB [a0],16,[],h⟩ (az Tryz.prog cg Tryz.f171.results.toList K)=(ag (gO .string a0 (.str [97,110,100])) fun x0=>ay x0 (ay x0 (K (.ret (.bool true)) h) (K (.ret (.bool false)) h)) (ag (gO .string a0 (.str [111,114])) fun x1=>ay x1 (ay x1 (K (.ret (.bool true)) h) (K (.ret (.bool false)) h)) (ag (gO .string a0 (.str [110,111,116])) fun x2=>ay x2 (ay x2 (K (.ret (.bool true)) h) (K (.ret (.bool false)) h)) (ag (gO .string a0 (.str [115,111,109,101])) fun x3=>ay x3 (ay x3 (K (.ret (.bool true)) h) (K (.ret (.bool false)) h)) (ag (gO .string a0 (.str [97,108,108])) fun x4=>ay x4 (ay x4 (K (.ret (.bool true)) h) (K (.ret (.bool false)) h)) (ag (gO .string a0 (.str [108,102,112])) fun x5=>ay x5 (ay x5 (K (.ret (.bool true)) h) (K (.ret (.bool false)) h)) (ag (gO .string a0 (.str [112,102,112])) fun x6=>ay x6 (ay x6 (K (.ret (.bool true)) h) (K (.ret (.bool false)) h)) (ag (gO .string a0 (.str [116,99])) fun x7=>ay x7 (ay x7 (K (.ret (.bool true)) h) (K (.ret (.bool false)) h)) (ag (gO .string a0 (.str [101,120,105,115,116,115])) fun x8=>ay x8 (ay x8 (K (.ret (.bool true)) h) (K (.ret (.bool false)) h)) (ag (gO .string a0 (.str [116,114,117,101])) fun x9=>ay x9 (ay x9 (K (.ret (.bool true)) h) (K (.ret (.bool false)) h)) (ag (gO .string a0 (.str [102,97,108,115,101])) fun x10=>ay x10 (K (.ret (.bool true)) h) (K (.ret (.bool false)) h)))))))))))):=by kernel_rfl
theorem F.yb{a0:AV}{h:af}{K:Out→af→Bool}(hh:au Tryz.prog (ah Tryz.prog) (ai Tryz.f171) ⟨aB [a0],16,[],h⟩ (az Tryz.prog cg Tryz.f171.results.toList K)=true):Sem Tryz.prog 171 [a0] h K:=
 aN mixed (aL _) Tryz.func171 (c:=ai Tryz.f171) rfl (by decide) (of_decide_eq_true (by kernel_rfl)) hh
theorem F.yc{a0:AV}{h:af}{K:Out→af→Bool}:au Tryz.prog (ah Tryz.prog) (ai Tryz.f172) ⟨aB [a0],9,[],h⟩ (az Tryz.prog cg Tryz.f172.results.toList K)=(ag (aF .geq a0 (.int .u8 48)) fun x0=>ay x0 (ag (aF .leq a0 (.int .u8 57)) fun x1=>K (.ret x1) h) (K (.ret (.bool false)) h)):=by kernel_rfl
theorem F.vR{a0:AV}{h:af}{K:Out→af→Bool}(hh:au Tryz.prog (ah Tryz.prog) (ai Tryz.f172) ⟨aB [a0],9,[],h⟩ (az Tryz.prog cg Tryz.f172.results.toList K)=true):Sem Tryz.prog 172 [a0] h K:=
 aN mixed (aL _) Tryz.func172 (c:=ai Tryz.f172) rfl (by decide) (of_decide_eq_true (by kernel_rfl)) hh
noncomputable def F.dH.L0:Code:=partOf (ai Tryz.f86) [1,1,0,0,0]
noncomputable def F.dH.cB(K:Out→af→Bool):AX→St→Bool:=(aY 0 (cD false (au Tryz.prog (ah Tryz.prog) (partOf (ai Tryz.f86) [1,1,1])) (az Tryz.prog cg Tryz.f86.results.toList K)))
theorem F.dH.aP{e:Env}{h:af}{K:AX→St→Bool}:au Tryz.prog (ah Tryz.prog) F.dH.L0 ⟨e,45,[],h⟩ K=(ag (bR .slice (e 0) h) fun x0=>ag (aF .lss (e 5) x0) fun x1=>let Q1:=(aa (aa (aa (aa (aa e 6 (e 5)) 7 (e 0)) 8 x0) 9 x1) 10 x1);ay x1 (ag (dx 1 (e 0) (e 5)) fun x2=>ag (aj none x2 h) fun x3=>ag (aF .lss x3 (e 1)) fun x4=>let Q2:=(aa (aa (aa (aa (aa (aa (aa (aa (aa (aa (aa (aa (aa Q1 10 (.bool true)) 11 (e 0)) 10 (.bool true)) 12 (e 5)) 10 (.bool true)) 13 x2) 10 (.bool true)) 14 x3) 10 (.bool true)) 15 (e 1)) 10 (.bool true)) 16 x4) 17 x4);ay x4 (ag (aF .add (e 5) (.int .i64 1)) fun x5=>K .normal ⟨(aa (aa (aa Q2 18 (e 5)) 19 x5) 5 x5),45,[],h⟩) (K (.exit 0) ⟨Q2,45,[],h⟩)) (K (.exit 0) ⟨(aa (aa (aa (aa (aa (aa (aa (aa (aa (aa (aa (aa (aa Q1 10 (.bool false)) 11 bG) 10 (.bool false)) 12 bG) 10 (.bool false)) 13 bG) 10 (.bool false)) 14 bG) 10 (.bool false)) 15 bG) 10 (.bool false)) 16 bG) 17 (.bool false)),45,[],h⟩)):=by kernel_rfl
theorem F.dH.aG{e:Env}{h:af}{K:Out→af→Bool}:F.dH.cB K (.exit 0) ⟨e,45,[],h⟩=(ag (bR .slice (e 0) h) fun x6=>ag (aF .lss (e 5) x6) fun x7=>ay x7 (ag (dx 1 (e 0) (e 5)) fun x8=>ag (aj none x8 h) fun x9=>ag (gO .string x9 (e 1)) fun x10=>ay x10 (K (.ret (e 0)) h) (ag (fE [] [] []) fun c11=>ag (fq (some 1) (e 0) none (some (e 5))) fun x12=>ag (fE [(.str [])] [(0,1)] [(e 1)]) fun c13=>ag (fq (some 1) (e 0) (some (e 5)) none) fun x14=>cL (cq 1 16 (.slice (af.next h) 0 0 1) x12 (af.alloc (af.alloc h (.cells c11)) (.cells c13))) fun x15 h16=>cL (cq 1 16 x15 (.slice (af.next (af.alloc h (.cells c11))) 0 1 1) h16) fun x17 h18=>cL (cq 1 16 x17 x14 h18) fun x19 h20=>K (.ret x19) h20)) (ag (fE [] [] []) fun c21=>ag (fq (some 1) (e 0) none (some (e 5))) fun x22=>ag (fE [(.str [])] [(0,1)] [(e 1)]) fun c23=>ag (fq (some 1) (e 0) (some (e 5)) none) fun x24=>cL (cq 1 16 (.slice (af.next h) 0 0 1) x22 (af.alloc (af.alloc h (.cells c21)) (.cells c23))) fun x25 h26=>cL (cq 1 16 x25 (.slice (af.next (af.alloc h (.cells c21))) 0 1 1) h26) fun x27 h28=>cL (cq 1 16 x27 x24 h28) fun x29 h30=>K (.ret x29) h30)):=by kernel_rfl
theorem F.vS{a0 a1:AV}{h:af}{K:Out→af→Bool}:au Tryz.prog (ah Tryz.prog) (ai Tryz.f86) ⟨aB [a0,a1],45,[],h⟩ (az Tryz.prog cg Tryz.f86.results.toList K)=(bS (au Tryz.prog (ah Tryz.prog) F.dH.L0) ⟨(aa (aa (aB [a0,a1]) 4 .nils) 5 (.int .i64 0)),45,[],h⟩ (F.dH.cB K)):=by kernel_rfl
theorem F.uu{a0 a1:AV}{h:af}{K:Out→af→Bool}(hh:au Tryz.prog (ah Tryz.prog) (ai Tryz.f86) ⟨aB [a0,a1],45,[],h⟩ (az Tryz.prog cg Tryz.f86.results.toList K)=true):Sem Tryz.prog 86 [a0,a1] h K:=
 aN mixed (aL _) Tryz.func86 (c:=ai Tryz.f86) rfl (by decide) (of_decide_eq_true (by kernel_rfl)) hh
noncomputable def F.cO.L0:Code:=partOf (ai Tryz.f34) [1,1,0,1,0,0]
noncomputable def F.cO.cB(K:Out→af→Bool):AX→St→Bool:=(aY 0 (cD false (au Tryz.prog (ah Tryz.prog) (partOf (ai Tryz.f34) [1,1,1])) (az Tryz.prog cg Tryz.f34.results.toList K)))
theorem F.cO.aP{e:Env}{h:af}{K:AX→St→Bool}:au Tryz.prog (ah Tryz.prog) F.cO.L0 ⟨e,20,[],h⟩ K=(ag (bR .slice (e 0) h) fun x0=>ag (aF .lss (e 4) x0) fun x1=>let Q1:=(aa (aa (aa (aa e 5 (e 4)) 6 (e 0)) 7 x0) 8 x1);ay x1 (ag (dx 3 (e 0) (e 4)) fun x2=>ag (bQ 0 x2) fun x3=>ag (bQ 0 x3) fun x4=>ag (aj none x4 h) fun x5=>ah Tryz.prog 86 [(e 3),x5] h (bO (fun x6 h7=>ag (aF .add (e 4) (.int .i64 1)) fun x10=>K .normal ⟨(aa (aa (aa (aa (aa (aa (aa (aa (aa (aa (aa (aa Q1 11 (e 3)) 12 (e 0)) 13 (e 4)) 14 x2) 15 x3) 16 x4) 17 x5) 18 x6) 3 x6) 9 (e 4)) 10 x10) 4 x10),20,[],h7⟩) (fun v8 h9=>K (.panic v8) ⟨(aa (aa (aa (aa (aa (aa (aa Q1 11 (e 3)) 12 (e 0)) 13 (e 4)) 14 x2) 15 x3) 16 x4) 17 x5),20,[],h9⟩))) (K (.exit 0) ⟨Q1,20,[],h⟩)):=by kernel_rfl
theorem F.cO.aG{e:Env}{h:af}{K:Out→af→Bool}:F.cO.cB K (.exit 0) ⟨e,20,[],h⟩=(K (.ret (e 3)) h):=by kernel_rfl
theorem F.uv{a0:AV}{h:af}{K:Out→af→Bool}:au Tryz.prog (ah Tryz.prog) (ai Tryz.f34) ⟨aB [a0],20,[],h⟩ (az Tryz.prog cg Tryz.f34.results.toList K)=(bS (au Tryz.prog (ah Tryz.prog) F.cO.L0) ⟨(aa (aa (aa (aB [a0]) 2 .nils) 3 .nils) 4 (.int .i64 0)),20,[],h⟩ (F.cO.cB K)):=by kernel_rfl
theorem F.td{a0:AV}{h:af}{K:Out→af→Bool}(hh:au Tryz.prog (ah Tryz.prog) (ai Tryz.f34) ⟨aB [a0],20,[],h⟩ (az Tryz.prog cg Tryz.f34.results.toList K)=true):Sem Tryz.prog 34 [a0] h K:=
 aN mixed (aL _) Tryz.func34 (c:=ai Tryz.f34) rfl (by decide) (of_decide_eq_true (by kernel_rfl)) hh
noncomputable def F.dy.L0:Code:=partOf (ai Tryz.f58) [1,0,1,0,0]
noncomputable def F.dy.cB(K:Out→af→Bool):AX→St→Bool:=(aY 0 (cD false (au Tryz.prog (ah Tryz.prog) (partOf (ai Tryz.f58) [1,1])) (az Tryz.prog cg Tryz.f58.results.toList K)))
theorem F.dy.aP{e:Env}{h:af}{K:AX→St→Bool}:au Tryz.prog (ah Tryz.prog) F.dy.L0 ⟨e,19,[],h⟩ K=(ag (bR .slice (e 0) h) fun x0=>ag (aF .lss (e 5) x0) fun x1=>let Q1:=(aa (aa (aa (aa e 6 (e 5)) 7 (e 0)) 8 x0) 9 x1);ay x1 (ag (dx 1 (e 0) (e 5)) fun x2=>ag (aj none x2 h) fun x3=>ag (gO .string x3 (e 1)) fun x4=>let Q2:=(aa (aa (aa (aa (aa (aa Q1 12 (e 0)) 13 (e 5)) 14 x2) 15 x3) 16 (e 1)) 17 x4);ay x4 (K .ret ⟨(aa (aa Q2 18 (e 5)) 4 (e 5)),19,[],h⟩) (ag (aF .add (e 5) (.int .i64 1)) fun x5=>K .normal ⟨(aa (aa (aa Q2 10 (e 5)) 11 x5) 5 x5),19,[],h⟩)) (K (.exit 0) ⟨Q1,19,[],h⟩)):=by kernel_rfl
theorem F.dy.aG{e:Env}{h:af}{K:Out→af→Bool}:F.dy.cB K (.exit 0) ⟨e,19,[],h⟩=(K (.ret (.int .i64 (-1))) h):=by kernel_rfl
theorem F.dy.bp{e:Env}{h:af}{K:Out→af→Bool}:F.dy.cB K .ret ⟨e,19,[],h⟩=(K (.ret (e 4)) h):=by kernel_rfl
theorem F.yd{a0 a1:AV}{h:af}{K:Out→af→Bool}:au Tryz.prog (ah Tryz.prog) (ai Tryz.f58) ⟨aB [a0,a1],19,[],h⟩ (az Tryz.prog cg Tryz.f58.results.toList K)=(bS (au Tryz.prog (ah Tryz.prog) F.dy.L0) ⟨(aa (aa (aB [a0,a1]) 4 (.int .i64 0)) 5 (.int .i64 0)),19,[],h⟩ (F.dy.cB K)):=by kernel_rfl
theorem F.vT{a0 a1:AV}{h:af}{K:Out→af→Bool}(hh:au Tryz.prog (ah Tryz.prog) (ai Tryz.f58) ⟨aB [a0,a1],19,[],h⟩ (az Tryz.prog cg Tryz.f58.results.toList K)=true):Sem Tryz.prog 58 [a0,a1] h K:=
 aN mixed (aL _) Tryz.func58 (c:=ai Tryz.f58) rfl (by decide) (of_decide_eq_true (by kernel_rfl)) hh
noncomputable def F.cp.L0:Code:=partOf (ai Tryz.f85) [1,1,0,1,0,0]
noncomputable def F.cp.cB(K:Out→af→Bool):AX→St→Bool:=(aY 0 (cD false (au Tryz.prog (ah Tryz.prog) (partOf (ai Tryz.f85) [1,1,1])) (az Tryz.prog cg Tryz.f85.results.toList K)))
noncomputable def F.cp.L1:Code:=partOf (ai Tryz.f85) [1,1,0,1,0,0,1,0,0,1,1,0,0]
noncomputable def F.cp.jj(K:AX→St→Bool):AX→St→Bool:=(aY 2 (aY 1 (cD false (au Tryz.prog (ah Tryz.prog) (partOf (ai Tryz.f85) [1,1,0,1,0,0,1,1])) K)))
theorem F.cp.aP{e:Env}{h:af}{K:AX→St→Bool}:au Tryz.prog (ah Tryz.prog) F.cp.L0 ⟨e,63,[],h⟩ K=(ag (bR .slice (e 0) h) fun x0=>ag (aF .lss (e 4) x0) fun x1=>let Q1:=(aa (aa (aa (aa e 7 (e 4)) 8 (e 0)) 9 x0) 10 x1);ay x1 (ag (dx 3 (e 0) (e 4)) fun x2=>ag (bQ 0 x2) fun x3=>ag (bQ 0 x3) fun x4=>ag (aj none x4 h) fun x5=>ag (dx 3 (e 0) (e 4)) fun x6=>ag (bQ 0 x6) fun x7=>ag (bQ 1 x7) fun x8=>ag (aj none x8 h) fun x9=>ag (bR .slice x9 h) fun x10=>ag (jo [(.str []),(.int .i64 0)] [(0,1),(1,1)] [x5,x10]) fun x11=>ag (fE [(.str []),(.int .i64 0)] [(0,2)] [x11]) fun c12=>cL (cq 2 24 (e 3) (.slice (af.next h) 0 1 2) (af.alloc h (.cells c12))) fun x13 h14=>bS (au Tryz.prog (ah Tryz.prog) F.cp.L1) ⟨(aa (aa (aa (aa (aa (aa (aa (aa (aa (aa (aa (aa (aa (aa (aa (aa (aa (aa (aa Q1 13 (e 3)) 14 (e 0)) 15 (e 4)) 16 x2) 17 x3) 18 x4) 19 x5) 20 (e 0)) 21 (e 4)) 22 x6) 23 x7) 24 x8) 25 x9) 26 x10) 27 x11) 28 (.slice (af.next h) 0 1 2)) 29 x13) 3 x13) 5 (.int .i64 0)),63,[],h14⟩ (F.cp.jj K)) (K (.exit 0) ⟨Q1,63,[],h⟩)):=by kernel_rfl
theorem F.cp.aG{e:Env}{h:af}{K:Out→af→Bool}:F.cp.cB K (.exit 0) ⟨e,63,[],h⟩=(K (.ret (e 3)) h):=by kernel_rfl
theorem F.cp.dc{e:Env}{h:af}{K:AX→St→Bool}:au Tryz.prog (ah Tryz.prog) F.cp.L1 ⟨e,63,[],h⟩ K=(ag (dx 3 (e 0) (e 4)) fun x15=>ag (bQ 2 x15) fun x16=>ag (aj none x16 h) fun x17=>ag (bR .slice x17 h) fun x18=>ag (aF .lss (e 5) x18) fun x19=>let Q1:=(aa (aa (aa (aa (aa (aa (aa (aa e 30 (e 5)) 31 (e 0)) 32 (e 4)) 33 x15) 34 x16) 35 x17) 36 x18) 37 x19);ay x19 (ag (dx 3 (e 0) (e 4)) fun x20=>ag (bQ 2 x20) fun x21=>ag (aj none x21 h) fun x22=>ag (dx 4 x22 (e 5)) fun x23=>ag (aj (some 4) x23 h) fun x24=>ag (bH 4 (.ptr (af.next h) 0) x24 (af.alloc h (.cells [(.int .i64 0),(.bool false),(.str []),.nils]))) fun h25=>ag (bQ 0 (.ptr (af.next h) 0)) fun x26=>ag (aj none x26 h25) fun x27=>ag (gO (.int .i64) x27 (.int .i64 0)) fun x28=>let Q2:=(aa (aa (aa (aa (aa (aa (aa (aa (aa (aa (aa (aa Q1 40 (e 0)) 41 (e 4)) 42 x20) 43 x21) 44 x22) 45 (e 5)) 46 x23) 47 x24) 6 (.ptr (af.next h) 0)) 48 x26) 49 x27) 50 x28);ay x28 (ag (bQ 2 (.ptr (af.next h) 0)) fun x29=>ag (bQ 0 x29) fun x30=>ag (aj none x30 h25) fun x31=>ag (bQ 2 (.ptr (af.next h) 0)) fun x32=>ag (bQ 1 x32) fun x33=>ag (aj none x33 h25) fun x34=>ag (bR .slice x34 h25) fun x35=>ag (jo [(.str []),(.int .i64 0)] [(0,1),(1,1)] [x31,x35]) fun x36=>ag (fE [(.str []),(.int .i64 0)] [(0,2)] [x36]) fun c37=>cL (cq 2 24 (e 3) (.slice (af.next h25) 0 1 2) (af.alloc h25 (.cells c37))) fun x38 h39=>ag (aF .add (e 5) (.int .i64 1)) fun x40=>K .normal ⟨(aa (aa (aa (aa (aa (aa (aa (aa (aa (aa (aa (aa (aa (aa (aa Q2 51 (e 3)) 52 x29) 53 x30) 54 x31) 55 x32) 56 x33) 57 x34) 58 x35) 59 x36) 60 (.slice (af.next h25) 0 1 2)) 61 x38) 3 x38) 38 (e 5)) 39 x40) 5 x40),63,[],h39⟩) (ag (aF .add (e 5) (.int .i64 1)) fun x41=>K .normal ⟨(aa (aa (aa Q2 38 (e 5)) 39 x41) 5 x41),63,[],h25⟩)) (K (.exit 2) ⟨Q1,63,[],h⟩)):=by kernel_rfl
theorem F.cp.cx{e:Env}{h:af}{K:AX→St→Bool}:F.cp.jj K (.exit 2) ⟨e,63,[],h⟩=(ag (aF .add (e 4) (.int .i64 1)) fun x42=>K .normal ⟨(aa (aa (aa e 11 (e 4)) 12 x42) 4 x42),63,[],h⟩):=by kernel_rfl
theorem F.ye{a0:AV}{h:af}{K:Out→af→Bool}:au Tryz.prog (ah Tryz.prog) (ai Tryz.f85) ⟨aB [a0],63,[],h⟩ (az Tryz.prog cg Tryz.f85.results.toList K)=(bS (au Tryz.prog (ah Tryz.prog) F.cp.L0) ⟨(aa (aa (aa (aB [a0]) 2 .nils) 3 .nils) 4 (.int .i64 0)),63,[],h⟩ (F.cp.cB K)):=by kernel_rfl
theorem F.vU{a0:AV}{h:af}{K:Out→af→Bool}(hh:au Tryz.prog (ah Tryz.prog) (ai Tryz.f85) ⟨aB [a0],63,[],h⟩ (az Tryz.prog cg Tryz.f85.results.toList K)=true):Sem Tryz.prog 85 [a0] h K:=
 aN mixed (aL _) Tryz.func85 (c:=ai Tryz.f85) rfl (by decide) (of_decide_eq_true (by kernel_rfl)) hh
noncomputable def F.de.L0:Code:=partOf (ai Tryz.f134) [1,0,1,0,0]
noncomputable def F.de.cB(K:Out→af→Bool):AX→St→Bool:=(aY 0 (cD false (au Tryz.prog (ah Tryz.prog) (partOf (ai Tryz.f134) [1,1])) (az Tryz.prog cg Tryz.f134.results.toList K)))
theorem F.de.aP{e:Env}{h:af}{K:AX→St→Bool}:au Tryz.prog (ah Tryz.prog) F.de.L0 ⟨e,19,[],h⟩ K=(ag (bR .slice (e 0) h) fun x0=>ag (aF .lss (e 3) x0) fun x1=>let Q1:=(aa (aa (aa (aa e 4 (e 3)) 5 (e 0)) 6 x0) 7 x1);ay x1 (ag (dx 1 (e 0) (e 3)) fun x2=>ag (aj none x2 h) fun x3=>ah Tryz.prog 116 [x3] h (bO (fun x4 h5=>ag (jl .not x4) fun x8=>let Q2:=(aa (aa (aa (aa (aa (aa Q1 10 (e 0)) 11 (e 3)) 12 x2) 13 x3) 14 x4) 15 x8);ay x8 (K .ret ⟨(aa Q2 2 (.bool false)),19,[],h5⟩) (ag (aF .add (e 3) (.int .i64 1)) fun x9=>K .normal ⟨(aa (aa (aa Q2 8 (e 3)) 9 x9) 3 x9),19,[],h5⟩)) (fun v6 h7=>K (.panic v6) ⟨(aa (aa (aa (aa Q1 10 (e 0)) 11 (e 3)) 12 x2) 13 x3),19,[],h7⟩))) (K (.exit 0) ⟨Q1,19,[],h⟩)):=by kernel_rfl
theorem F.de.aG{e:Env}{h:af}{K:Out→af→Bool}:F.de.cB K (.exit 0) ⟨e,19,[],h⟩=(ag (bR .slice (e 0) h) fun x10=>ag (aF .leq x10 (.int .i64 12)) fun x11=>K (.ret x11) h):=by kernel_rfl
theorem F.de.bp{e:Env}{h:af}{K:Out→af→Bool}:F.de.cB K .ret ⟨e,19,[],h⟩=(K (.ret (e 2)) h):=by kernel_rfl
theorem F.yf{a0:AV}{h:af}{K:Out→af→Bool}:au Tryz.prog (ah Tryz.prog) (ai Tryz.f134) ⟨aB [a0],19,[],h⟩ (az Tryz.prog cg Tryz.f134.results.toList K)=(bS (au Tryz.prog (ah Tryz.prog) F.de.L0) ⟨(aa (aa (aB [a0]) 2 (.bool false)) 3 (.int .i64 0)),19,[],h⟩ (F.de.cB K)):=by kernel_rfl
theorem F.vV{a0:AV}{h:af}{K:Out→af→Bool}(hh:au Tryz.prog (ah Tryz.prog) (ai Tryz.f134) ⟨aB [a0],19,[],h⟩ (az Tryz.prog cg Tryz.f134.results.toList K)=true):Sem Tryz.prog 134 [a0] h K:=
 aN mixed (aL _) Tryz.func134 (c:=ai Tryz.f134) rfl (by decide) (of_decide_eq_true (by kernel_rfl)) hh
theorem F.hG{a0 a1:AV}{h:af}{K:Out→af→Bool}:au Tryz.prog (ah Tryz.prog) (ai Tryz.f168) ⟨aB [a0,a1],9,[],h⟩ (az Tryz.prog cg Tryz.f168.results.toList K)=(ah Tryz.prog 190 [a0,a1] h (bO (fun x0 h1=>ag (aF .geq x0 (.int .i64 0)) fun x4=>K (.ret x4) h1) (fun v2 h3=>K (.panic v2) h3))):=by kernel_rfl
theorem F.gN{a0 a1:AV}{h:af}{K:Out→af→Bool}(hh:au Tryz.prog (ah Tryz.prog) (ai Tryz.f168) ⟨aB [a0,a1],9,[],h⟩ (az Tryz.prog cg Tryz.f168.results.toList K)=true):Sem Tryz.prog 168 [a0,a1] h K:=
 aN mixed (aL _) Tryz.func168 (c:=ai Tryz.f168) rfl (by decide) (of_decide_eq_true (by kernel_rfl)) hh
noncomputable def F.bh.L0:Code:=partOf (ai Tryz.f190) [1,0,1,0,0]
noncomputable def F.bh.cB(K:Out→af→Bool):AX→St→Bool:=(aY 0 (cD false (au Tryz.prog (ah Tryz.prog) (partOf (ai Tryz.f190) [1,1])) (az Tryz.prog cg Tryz.f190.results.toList K)))
theorem F.bh.aP{e:Env}{h:af}{K:AX→St→Bool}:au Tryz.prog (ah Tryz.prog) F.bh.L0 ⟨e,19,[],h⟩ K=(ag (aF .lss (e 8) (e 7)) fun x1=>let Q1:=(aa e 9 x1);ay x1 (ag (dx 1 (e 0) (e 8)) fun x2=>ag (aj none x2 h) fun x3=>me (e 1) fun f9 a10 a11=>ah Tryz.prog f9 (a10++([x3]++a11)) h (bO (fun x4 h5=>let Q2:=(aa (aa (aa (aa (aa (aa (aa (aa Q1 10 (e 8)) 5 (e 8)) 11 (e 1)) 12 (e 0)) 13 (e 8)) 14 x2) 15 x3) 16 x4);ay x4 (K .ret ⟨(aa (aa Q2 17 (e 8)) 4 (e 8)),19,[],h5⟩) (ag (aF .add (e 8) (.int .i64 1)) fun x8=>K .normal ⟨(aa (aa Q2 18 x8) 8 x8),19,[],h5⟩)) (fun v6 h7=>K (.panic v6) ⟨(aa (aa (aa (aa (aa (aa (aa Q1 10 (e 8)) 5 (e 8)) 11 (e 1)) 12 (e 0)) 13 (e 8)) 14 x2) 15 x3),19,[],h7⟩))) (K (.exit 0) ⟨Q1,19,[],h⟩)):=by kernel_rfl
theorem F.bh.aG{e:Env}{h:af}{K:Out→af→Bool}:F.bh.cB K (.exit 0) ⟨e,19,[],h⟩=(K (.ret (.int .i64 (-1))) h):=by kernel_rfl
theorem F.bh.bp{e:Env}{h:af}{K:Out→af→Bool}:F.bh.cB K .ret ⟨e,19,[],h⟩=(K (.ret (e 4)) h):=by kernel_rfl
theorem F.iO{a0 a1:AV}{h:af}{K:Out→af→Bool}:au Tryz.prog (ah Tryz.prog) (ai Tryz.f190) ⟨aB [a0,a1],19,[],h⟩ (az Tryz.prog cg Tryz.f190.results.toList K)=(ag (bR .slice a0 h) fun x0=>bS (au Tryz.prog (ah Tryz.prog) F.bh.L0) ⟨(aa (aa (aa (aa (aB [a0,a1]) 4 (.int .i64 0)) 6 a0) 7 x0) 8 (.int .i64 0)),19,[],h⟩ (F.bh.cB K)):=by kernel_rfl
theorem F.iH{a0 a1:AV}{h:af}{K:Out→af→Bool}(hh:au Tryz.prog (ah Tryz.prog) (ai Tryz.f190) ⟨aB [a0,a1],19,[],h⟩ (az Tryz.prog cg Tryz.f190.results.toList K)=true):Sem Tryz.prog 190 [a0,a1] h K:=
 aN mixed (aL _) Tryz.func190 (c:=ai Tryz.f190) rfl (by decide) (of_decide_eq_true (by kernel_rfl)) hh
theorem F.ja{a0 a1:AV}{h:af}{K:Out→af→Bool}:au Tryz.prog (ah Tryz.prog) (ai Tryz.f155) ⟨aB [a0,a1],9,[],h⟩ (az Tryz.prog cg Tryz.f155.results.toList K)=(ah Tryz.prog 157 [a0,a1] h (bO (fun x0 h1=>ag (aF .geq x0 (.int .i64 0)) fun x4=>K (.ret x4) h1) (fun v2 h3=>K (.panic v2) h3))):=by kernel_rfl
theorem F.iP{a0 a1:AV}{h:af}{K:Out→af→Bool}(hh:au Tryz.prog (ah Tryz.prog) (ai Tryz.f155) ⟨aB [a0,a1],9,[],h⟩ (az Tryz.prog cg Tryz.f155.results.toList K)=true):Sem Tryz.prog 155 [a0,a1] h K:=
 aN mixed (aL _) Tryz.func155 (c:=ai Tryz.f155) rfl (by decide) (of_decide_eq_true (by kernel_rfl)) hh
noncomputable def F.bl.L0:Code:=partOf (ai Tryz.f157) [1,0,1,0,0]
noncomputable def F.bl.cB(K:Out→af→Bool):AX→St→Bool:=(aY 0 (cD false (au Tryz.prog (ah Tryz.prog) (partOf (ai Tryz.f157) [1,1])) (az Tryz.prog cg Tryz.f157.results.toList K)))
theorem F.bl.aP{e:Env}{h:af}{K:AX→St→Bool}:au Tryz.prog (ah Tryz.prog) F.bl.L0 ⟨e,19,[],h⟩ K=(ag (aF .lss (e 8) (e 7)) fun x1=>ay x1 (ag (dx 1 (e 0) (e 8)) fun x2=>ag (aj none x2 h) fun x3=>ag (gO .string (e 1) x3) fun x4=>let Q1:=(aa (aa (aa (aa (aa (aa (aa (aa (aa e 9 x1) 10 (e 8)) 5 (e 8)) 11 (e 1)) 12 (e 0)) 13 (e 8)) 14 x2) 15 x3) 16 x4);ay x4 (K .ret ⟨(aa (aa Q1 17 (e 8)) 4 (e 8)),19,[],h⟩) (ag (aF .add (e 8) (.int .i64 1)) fun x5=>K .normal ⟨(aa (aa Q1 18 x5) 8 x5),19,[],h⟩)) (K (.exit 0) ⟨(aa e 9 x1),19,[],h⟩)):=by kernel_rfl
theorem F.bl.aG{e:Env}{h:af}{K:Out→af→Bool}:F.bl.cB K (.exit 0) ⟨e,19,[],h⟩=(K (.ret (.int .i64 (-1))) h):=by kernel_rfl
theorem F.bl.bp{e:Env}{h:af}{K:Out→af→Bool}:F.bl.cB K .ret ⟨e,19,[],h⟩=(K (.ret (e 4)) h):=by kernel_rfl
theorem F.fR{a0 a1:AV}{h:af}{K:Out→af→Bool}:au Tryz.prog (ah Tryz.prog) (ai Tryz.f157) ⟨aB [a0,a1],19,[],h⟩ (az Tryz.prog cg Tryz.f157.results.toList K)=(ag (bR .slice a0 h) fun x0=>bS (au Tryz.prog (ah Tryz.prog) F.bl.L0) ⟨(aa (aa (aa (aa (aB [a0,a1]) 4 (.int .i64 0)) 6 a0) 7 x0) 8 (.int .i64 0)),19,[],h⟩ (F.bl.cB K)):=by kernel_rfl
theorem F.fK{a0 a1:AV}{h:af}{K:Out→af→Bool}(hh:au Tryz.prog (ah Tryz.prog) (ai Tryz.f157) ⟨aB [a0,a1],19,[],h⟩ (az Tryz.prog cg Tryz.f157.results.toList K)=true):Sem Tryz.prog 157 [a0,a1] h K:=
 aN mixed (aL _) Tryz.func157 (c:=ai Tryz.f157) rfl (by decide) (of_decide_eq_true (by kernel_rfl)) hh
theorem F.vW{a0:AV}{h:af}{K:Out→af→Bool}:au Tryz.prog (ah Tryz.prog) (ai Tryz.f169) ⟨aB [a0],6,[],h⟩ (az Tryz.prog cg Tryz.f169.results.toList K)=(ah Tryz.prog 135 [a0] h (bO (fun x0 h1=>ag (jl .not x0) fun x4=>K (.ret x4) h1) (fun v2 h3=>K (.panic v2) h3))):=by kernel_rfl
theorem F.uw{a0:AV}{h:af}{K:Out→af→Bool}(hh:au Tryz.prog (ah Tryz.prog) (ai Tryz.f169) ⟨aB [a0],6,[],h⟩ (az Tryz.prog cg Tryz.f169.results.toList K)=true):Sem Tryz.prog 169 [a0] h K:=
 aN mixed (aL _) Tryz.func169 (c:=ai Tryz.f169) rfl (by decide) (of_decide_eq_true (by kernel_rfl)) hh
noncomputable def F.cX.L0:Code:=partOf (ai Tryz.f154) [1,0,0]
noncomputable def F.cX.cB(K:Out→af→Bool):AX→St→Bool:=(aY 0 (az Tryz.prog cg Tryz.f154.results.toList K))
theorem F.cX.aP{e:Env}{h:af}{K:AX→St→Bool}:au Tryz.prog (ah Tryz.prog) F.cX.L0 ⟨e,20,[],h⟩ K=(ag (aF .lss (e 7) (e 6)) fun x1=>let Q1:=(aa e 8 x1);ay x1 (ag (dx 1 (e 5) (e 7)) fun x2=>ag (aj none x2 h) fun x3=>ag (aj none (e 1) h) fun x4=>ah Tryz.prog 155 [x4,x3] h (bO (fun x5 h6=>ag (jl .not x5) fun x9=>let Q2:=(aa (aa (aa (aa (aa (aa (aa Q1 9 x2) 10 x3) 4 x3) 11 x4) 12 x3) 13 x5) 14 x9);ay x9 (ag (aj none (e 1) h6) fun x10=>ag (fE [(.str [])] [(0,1)] [x3]) fun c11=>cL (cq 1 16 x10 (.slice (af.next h6) 0 1 1) (af.alloc h6 (.cells c11))) fun x12 h13=>ag (bH 1 (e 1) x12 h13) fun h14=>ag (aF .add (e 7) (.int .i64 1)) fun x15=>K .normal ⟨(aa (aa (aa (aa (aa (aa Q2 15 x10) 16 x3) 17 (.slice (af.next h6) 0 1 1)) 18 x12) 19 x15) 7 x15),20,[],h14⟩) (ag (aF .add (e 7) (.int .i64 1)) fun x16=>K .normal ⟨(aa (aa Q2 19 x16) 7 x16),20,[],h6⟩)) (fun v7 h8=>K (.panic v7) ⟨(aa (aa (aa (aa (aa Q1 9 x2) 10 x3) 4 x3) 11 x4) 12 x3),20,[],h8⟩))) (K (.exit 0) ⟨Q1,20,[],h⟩)):=by kernel_rfl
theorem F.cX.aG{e:Env}{h:af}{K:Out→af→Bool}:F.cX.cB K (.exit 0) ⟨e,20,[],h⟩=(K (.ret (.tuple [])) h):=by kernel_rfl
theorem F.oS{a0 a1:AV}{h:af}{K:Out→af→Bool}:au Tryz.prog (ah Tryz.prog) (ai Tryz.f154) ⟨aB [a0,a1],20,[],h⟩ (az Tryz.prog cg Tryz.f154.results.toList K)=(ag (bR .slice a0 h) fun x0=>bS (au Tryz.prog (ah Tryz.prog) F.cX.L0) ⟨(aa (aa (aa (aB [a0,a1]) 5 a0) 6 x0) 7 (.int .i64 0)),20,[],h⟩ (F.cX.cB K)):=by kernel_rfl
theorem F.og{a0 a1:AV}{h:af}{K:Out→af→Bool}(hh:au Tryz.prog (ah Tryz.prog) (ai Tryz.f154) ⟨aB [a0,a1],20,[],h⟩ (az Tryz.prog cg Tryz.f154.results.toList K)=true):Sem Tryz.prog 154 [a0,a1] h K:=
 aN mixed (aL _) Tryz.func154 (c:=ai Tryz.f154) rfl (by decide) (of_decide_eq_true (by kernel_rfl)) hh
theorem F.zO{a0:AV}{h:af}{K:Out→af→Bool}:au Tryz.prog (ah Tryz.prog) (ai Tryz.f130) ⟨aB [a0],18,[],h⟩ (az Tryz.prog cg Tryz.f130.results.toList K)=(ag (ef a0) fun c0=>ag (bQ 0 (.ptr (af.next h) 0)) fun x1=>ag (aj none x1 (af.alloc h (.cells c0))) fun x2=>ah Tryz.prog 135 [x2] (af.alloc h (.cells c0)) (bO (fun x3 h4=>ay x3 (ag (bQ 1 (.ptr (af.next h) 0)) fun x7=>ag (aj none x7 h4) fun x8=>ag (bR .slice x8 h4) fun x9=>ag (aF .leq x9 (.int .i64 12)) fun x10=>ay x10 (ag (bQ 1 (.ptr (af.next h) 0)) fun x11=>ag (aj none x11 h4) fun x12=>ah Tryz.prog 168 [x12,(.func 169 [] [])] h4 (bO (fun x13 h14=>ag (jl .not x13) fun x17=>K (.ret x17) h14) (fun v15 h16=>K (.panic v15) h16))) (K (.ret (.bool false)) h4)) (K (.ret (.bool false)) h4)) (fun v5 h6=>K (.panic v5) h6))):=by kernel_rfl
theorem F.yg{a0:AV}{h:af}{K:Out→af→Bool}(hh:au Tryz.prog (ah Tryz.prog) (ai Tryz.f130) ⟨aB [a0],18,[],h⟩ (az Tryz.prog cg Tryz.f130.results.toList K)=true):Sem Tryz.prog 130 [a0] h K:=
 aN mixed (aL _) Tryz.func130 (c:=ai Tryz.f130) rfl (by decide) (of_decide_eq_true (by kernel_rfl)) hh
theorem F.nE{a0 a1:AV}{h:af}{K:Out→af→Bool}:au Tryz.prog (ah Tryz.prog) (ai Tryz.f131) ⟨aB [a0,a1],35,[],h⟩ (az Tryz.prog cg Tryz.f131.results.toList K)=(ag (ef a1) fun c0=>ag (bY a0) fun x1=>ag (bQ 1 x1) fun x2=>ag (aj none x2 (af.alloc h (.cells c0))) fun x3=>ag (bQ 0 (.ptr (af.next h) 0)) fun x4=>ag (aj none x4 (af.alloc h (.cells c0))) fun x5=>ag (cV .string (.int .i64 0) true x3 x5 (af.alloc h (.cells c0))) fun x6=>ag (bL x6 0) fun x7=>ag (bL x6 1) fun x8=>ag (bY a0) fun x9=>ag (bQ 1 x9) fun x10=>ag (aj none x10 (af.alloc h (.cells c0))) fun x11=>ag (bQ 0 (.ptr (af.next h) 0)) fun x12=>ag (aj none x12 (af.alloc h (.cells c0))) fun x13=>ag (bQ 1 (.ptr (af.next h) 0)) fun x14=>ag (aj none x14 (af.alloc h (.cells c0))) fun x15=>ag (bR .slice x15 (af.alloc h (.cells c0))) fun x16=>ag (dR .string x11 x13 x16 (af.alloc h (.cells c0))) fun h17=>ag (jl .not x8) fun x18=>ay x18 (K (.ret (.bool true)) h17) (ag (bQ 1 (.ptr (af.next h) 0)) fun x19=>ag (aj none x19 h17) fun x20=>ag (bR .slice x20 h17) fun x21=>ag (gO (.int .i64) x7 x21) fun x22=>K (.ret x22) h17)):=by kernel_rfl
theorem F.mS{a0 a1:AV}{h:af}{K:Out→af→Bool}(hh:au Tryz.prog (ah Tryz.prog) (ai Tryz.f131) ⟨aB [a0,a1],35,[],h⟩ (az Tryz.prog cg Tryz.f131.results.toList K)=true):Sem Tryz.prog 131 [a0,a1] h K:=
 aN mixed (aL _) Tryz.func131 (c:=ai Tryz.f131) rfl (by decide) (of_decide_eq_true (by kernel_rfl)) hh
noncomputable def F.cF.L0:Code:=partOf (ai Tryz.f108) [1,1,1,1,0,1,0,0]
noncomputable def F.cF.cB(K:Out→af→Bool):AX→St→Bool:=(aY 0 (cD false (au Tryz.prog (ah Tryz.prog) (partOf (ai Tryz.f108) [1,1,1,1,1])) (az Tryz.prog cg Tryz.f108.results.toList K)))
theorem F.cF.aP{e:Env}{h:af}{K:AX→St→Bool}:au Tryz.prog (ah Tryz.prog) F.cF.L0 ⟨e,27,[],h⟩ K=(ag (aF .lss (e 16) (e 15)) fun x11=>ay x11 (ag (dx 4 (e 14) (e 16)) fun x12=>ag (aj (some 4) x12 h) fun x13=>ag (bH 4 (.ptr (af.next h) 0) x13 (af.alloc h (.cells [(.int .i64 0),(.bool false),(.str []),.nils]))) fun h14=>ag (bQ 2 (.ptr (af.next h) 0)) fun x15=>ag (bQ 1 x15) fun x16=>ag (aj none x16 h14) fun x17=>me (e 4) fun f23 a24 a25=>ah Tryz.prog f23 (a24++([x17]++a25)) h14 (bO (fun x18 h19=>ag (aF .add (e 16) (.int .i64 1)) fun x22=>K .normal ⟨(aa (aa (aa (aa (aa (aa (aa (aa (aa (aa (aa e 17 x11) 18 x12) 19 x13) 6 (.ptr (af.next h) 0)) 20 (e 4)) 21 x15) 22 x16) 23 x17) 24 x18) 25 x22) 16 x22),27,[],h19⟩) (fun v20 h21=>K (.panic v20) ⟨(aa (aa (aa (aa (aa (aa (aa (aa e 17 x11) 18 x12) 19 x13) 6 (.ptr (af.next h) 0)) 20 (e 4)) 21 x15) 22 x16) 23 x17),27,[],h21⟩))) (K (.exit 0) ⟨(aa e 17 x11),27,[],h⟩)):=by kernel_rfl
theorem F.cF.aG{e:Env}{h:af}{K:Out→af→Bool}:F.cF.cB K (.exit 0) ⟨e,27,[],h⟩=(ag (aj none (e 3) h) fun x26=>K (.ret x26) h):=by kernel_rfl
theorem F.rQ{a0:AV}{h:af}{K:Out→af→Bool}:au Tryz.prog (ah Tryz.prog) (ai Tryz.f108) ⟨aB [a0],27,[],h⟩ (az Tryz.prog cg Tryz.f108.results.toList K)=(ag (ef a0) fun c0=>ag (bQ 0 (.ptr (af.next h) 0)) fun x1=>ag (bQ 1 x1) fun x2=>ag (aj none x2 (af.alloc (af.alloc h (.cells c0)) (.cells [.nils]))) fun x3=>ah Tryz.prog 154 [x3,(.ptr (af.next (af.alloc h (.cells c0))) 0)] (af.alloc (af.alloc h (.cells c0)) (.cells [.nils])) (bO (fun x4 h5=>ag (bQ 2 (.ptr (af.next h) 0)) fun x8=>ag (aj none x8 h5) fun x9=>ag (bR .slice x9 h5) fun x10=>bS (au Tryz.prog (ah Tryz.prog) F.cF.L0) ⟨(aa (aa (aa (aa (aa (aa (aa (aa (aa (aa (aa (aa (aa (aa (aB [a0]) 1 (.ptr (af.next h) 0)) 2 .nils) 3 (.ptr (af.next (af.alloc h (.cells c0))) 0)) 7 (.func 154 [] [(.ptr (af.next (af.alloc h (.cells c0))) 0)])) 4 (.func 154 [] [(.ptr (af.next (af.alloc h (.cells c0))) 0)])) 8 (.func 154 [] [(.ptr (af.next (af.alloc h (.cells c0))) 0)])) 9 x1) 10 x2) 11 x3) 12 x4) 13 x8) 14 x9) 15 x10) 16 (.int .i64 0)),27,[],h5⟩ (F.cF.cB K)) (fun v6 h7=>K (.panic v6) h7))):=by kernel_rfl
theorem F.qJ{a0:AV}{h:af}{K:Out→af→Bool}(hh:au Tryz.prog (ah Tryz.prog) (ai Tryz.f108) ⟨aB [a0],27,[],h⟩ (az Tryz.prog cg Tryz.f108.results.toList K)=true):Sem Tryz.prog 108 [a0] h K:=
 aN mixed (aL _) Tryz.func108 (c:=ai Tryz.f108) rfl (by decide) (of_decide_eq_true (by kernel_rfl)) hh
noncomputable def F.eF.J0(K:Out→af→Bool)(s:St):Bool:=F8 (au Tryz.prog (ah Tryz.prog) (partOf (ai Tryz.f132) [1,0,1,0,1,1,1])) s (aY 0 (cD false (au Tryz.prog (ah Tryz.prog) (partOf (ai Tryz.f132) [1,1])) (az Tryz.prog cg Tryz.f132.results.toList K)))
theorem F.eF.yh{e:Env}{h:af}{K:Out→af→Bool}:F.eF.J0 K ⟨e,40,[],h⟩=(ay (e 10) (ag (bQ 2 (e 1)) fun x12=>ag (bQ 0 x12) fun x13=>ag (aj none x13 h) fun x14=>ag (gO .string x14 (.str [])) fun x15=>ay x15 (ag (bQ 2 (e 1)) fun x16=>ag (bQ 1 x16) fun x17=>ag (aj none x17 h) fun x18=>ag (bR .slice x18 h) fun x19=>ag (gO (.int .i64) x19 (.int .i64 2)) fun x20=>ay x20 (ag (bQ 2 (e 1)) fun x21=>ag (bQ 1 x21) fun x22=>ag (aj none x22 h) fun x23=>ag (dx 1 x23 (.int .i64 0)) fun x24=>ag (aj none x24 h) fun x25=>ah Tryz.prog 135 [x25] h (bO (fun x26 h27=>ay x26 (ag (bQ 2 (e 1)) fun x30=>ag (bQ 1 x30) fun x31=>ag (aj none x31 h27) fun x32=>ag (dx 1 x32 (.int .i64 1)) fun x33=>ag (aj none x33 h27) fun x34=>ah Tryz.prog 135 [x34] h27 (bO (fun x35 h36=>K (.ret x35) h36) (fun v37 h38=>K (.panic v37) h38))) (K (.ret (.bool false)) h27)) (fun v28 h29=>K (.panic v28) h29))) (K (.ret (.bool false)) h)) (K (.ret (.bool false)) h)) (K (.ret (.bool false)) h)):=(sW _ _ _).trans (by kernel_rfl)
theorem F.rR{a0:AV}{h:af}{K:Out→af→Bool}:au Tryz.prog (ah Tryz.prog) (ai Tryz.f132) ⟨aB [a0],40,[],h⟩ (az Tryz.prog cg Tryz.f132.results.toList K)=(ag (ef a0) fun c0=>ag (bQ 0 (.ptr (af.next h) 0)) fun x1=>ag (aj none x1 (af.alloc h (.cells c0))) fun x2=>ag (gO (.int .i64) x2 (.int .i64 0)) fun x3=>let Q1:=(aa (aa (aa (aa (aa (aa (aB [a0]) 1 (.ptr (af.next h) 0)) 2 (.bool false)) 3 x1) 4 x2) 6 x3) 5 x3);ay x3 (ag (bQ 2 (.ptr (af.next h) 0)) fun x4=>ag (aj (some 2) x4 (af.alloc h (.cells c0))) fun x5=>ah Tryz.prog 130 [x5] (af.alloc h (.cells c0)) (bO (fun x6 h7=>K (.ret x6) h7) (fun v8 h9=>K (.panic v8) h9))) (ag (gO (.int .i64) x2 (.int .i64 1)) fun x10=>ay x10 (F.eF.J0 K ⟨(aa (aa Q1 11 x10) 10 x10),40,[],(af.alloc h (.cells c0))⟩) (ag (gO (.int .i64) x2 (.int .i64 2)) fun x11=>F.eF.J0 K ⟨(aa (aa (aa (aa Q1 11 x10) 10 x10) 12 x11) 10 x11),40,[],(af.alloc h (.cells c0))⟩))):=by kernel_rfl
theorem F.qK{a0:AV}{h:af}{K:Out→af→Bool}(hh:au Tryz.prog (ah Tryz.prog) (ai Tryz.f132) ⟨aB [a0],40,[],h⟩ (az Tryz.prog cg Tryz.f132.results.toList K)=true):Sem Tryz.prog 132 [a0] h K:=
 aN mixed (aL _) Tryz.func132 (c:=ai Tryz.f132) rfl (by decide) (of_decide_eq_true (by kernel_rfl)) hh
noncomputable def F.bC.L0:Code:=partOf (ai Tryz.f44) [1,1,0,1,0,0]
noncomputable def F.bC.cB(K:Out→af→Bool):AX→St→Bool:=(aY 0 (cD false (au Tryz.prog (ah Tryz.prog) (partOf (ai Tryz.f44) [1,1,1])) (az Tryz.prog cg Tryz.f44.results.toList K)))
noncomputable def F.bC.L1:Code:=partOf (ai Tryz.f44) [1,1,1,1,0,1,0,0]
noncomputable def F.bC.jj(K:Out→af→Bool):AX→St→Bool:=(aY 2 (cD false (au Tryz.prog (ah Tryz.prog) (partOf (ai Tryz.f44) [1,1,1,1,1])) (az Tryz.prog cg Tryz.f44.results.toList K)))
theorem F.bC.aP{e:Env}{h:af}{K:AX→St→Bool}:au Tryz.prog (ah Tryz.prog) F.bC.L0 ⟨e,49,[],h⟩ K=(ag (bQ 2 (e 1)) fun x7=>ag (aj none x7 h) fun x8=>ag (bR .slice x8 h) fun x9=>ag (aF .lss (e 4) x9) fun x10=>let Q1:=(aa (aa (aa (aa (aa e 12 (e 4)) 13 x7) 14 x8) 15 x9) 16 x10);ay x10 (ag (bQ 2 (e 1)) fun x11=>ag (aj none x11 h) fun x12=>ag (dx 4 x12 (e 4)) fun x13=>ag (bQ 2 x13) fun x14=>ag (bQ 1 x14) fun x15=>ag (aj none x15 h) fun x16=>cL (cq 1 16 (e 3) x16 h) fun x17 h18=>ag (aF .add (e 4) (.int .i64 1)) fun x19=>K .normal ⟨(aa (aa (aa (aa (aa (aa (aa (aa (aa (aa (aa (aa (aa Q1 19 (e 3)) 20 x11) 21 x12) 22 (e 4)) 23 x13) 24 x14) 25 x15) 26 x16) 27 x17) 3 x17) 17 (e 4)) 18 x19) 4 x19),49,[],h18⟩) (K (.exit 0) ⟨Q1,49,[],h⟩)):=by kernel_rfl
theorem F.bC.aG{e:Env}{h:af}{K:Out→af→Bool}:F.bC.cB K (.exit 0) ⟨e,49,[],h⟩=(bS (au Tryz.prog (ah Tryz.prog) F.bC.L1) ⟨(aa (aa e 5 .nils) 6 (.int .i64 0)),49,[],h⟩ (F.bC.jj K)):=by kernel_rfl
theorem F.bC.dc{e:Env}{h:af}{K:AX→St→Bool}:au Tryz.prog (ah Tryz.prog) F.bC.L1 ⟨e,49,[],h⟩ K=(ag (bR .slice (e 3) h) fun x20=>ag (aF .lss (e 6) x20) fun x21=>let Q1:=(aa (aa (aa (aa e 28 (e 6)) 29 (e 3)) 30 x20) 31 x21);ay x21 (ag (dx 1 (e 3) (e 6)) fun x22=>ag (aj none x22 h) fun x23=>ah Tryz.prog 73 [(e 5),x23] h (bO (fun x24 h25=>ag (jl .not x24) fun x28=>let Q2:=(aa (aa (aa (aa (aa (aa (aa Q1 34 (e 5)) 35 (e 3)) 36 (e 6)) 37 x22) 38 x23) 39 x24) 40 x28);ay x28 (ag (dx 1 (e 3) (e 6)) fun x29=>ag (aj none x29 h25) fun x30=>ag (fE [(.str [])] [(0,1)] [x30]) fun c31=>cL (cq 1 16 (e 5) (.slice (af.next h25) 0 1 1) (af.alloc h25 (.cells c31))) fun x32 h33=>ag (aF .add (e 6) (.int .i64 1)) fun x34=>K .normal ⟨(aa (aa (aa (aa (aa (aa (aa (aa (aa (aa (aa Q2 41 (e 5)) 42 (e 3)) 43 (e 6)) 44 x29) 45 x30) 46 (.slice (af.next h25) 0 1 1)) 47 x32) 5 x32) 32 (e 6)) 33 x34) 6 x34),49,[],h33⟩) (ag (aF .add (e 6) (.int .i64 1)) fun x35=>K .normal ⟨(aa (aa (aa Q2 32 (e 6)) 33 x35) 6 x35),49,[],h25⟩)) (fun v26 h27=>K (.panic v26) ⟨(aa (aa (aa (aa (aa Q1 34 (e 5)) 35 (e 3)) 36 (e 6)) 37 x22) 38 x23),49,[],h27⟩))) (K (.exit 2) ⟨Q1,49,[],h⟩)):=by kernel_rfl
theorem F.bC.cx{e:Env}{h:af}{K:Out→af→Bool}:F.bC.jj K (.exit 2) ⟨e,49,[],h⟩=(K (.ret (e 5)) h):=by kernel_rfl
theorem F.rS{a0:AV}{h:af}{K:Out→af→Bool}:au Tryz.prog (ah Tryz.prog) (ai Tryz.f44) ⟨aB [a0],49,[],h⟩ (az Tryz.prog cg Tryz.f44.results.toList K)=(ag (ef a0) fun c0=>ag (fE [] [] []) fun c1=>ag (bQ 0 (.ptr (af.next h) 0)) fun x2=>ag (bQ 1 x2) fun x3=>ag (aj none x3 (af.alloc (af.alloc h (.cells c0)) (.cells c1))) fun x4=>cL (cq 1 16 (.slice (af.next (af.alloc h (.cells c0))) 0 0 1) x4 (af.alloc (af.alloc h (.cells c0)) (.cells c1))) fun x5 h6=>bS (au Tryz.prog (ah Tryz.prog) F.bC.L0) ⟨(aa (aa (aa (aa (aa (aa (aa (aa (aa (aB [a0]) 1 (.ptr (af.next h) 0)) 2 .nils) 7 (.slice (af.next (af.alloc h (.cells c0))) 0 0 1)) 8 x2) 9 x3) 10 x4) 11 x5) 3 x5) 4 (.int .i64 0)),49,[],h6⟩ (F.bC.cB K)):=by kernel_rfl
theorem F.qL{a0:AV}{h:af}{K:Out→af→Bool}(hh:au Tryz.prog (ah Tryz.prog) (ai Tryz.f44) ⟨aB [a0],49,[],h⟩ (az Tryz.prog cg Tryz.f44.results.toList K)=true):Sem Tryz.prog 44 [a0] h K:=
 aN mixed (aL _) Tryz.func44 (c:=ai Tryz.f44) rfl (by decide) (of_decide_eq_true (by kernel_rfl)) hh
noncomputable def F.cu.L0:Code:=partOf (ai Tryz.f84) [1,1,0,1,0,0]
noncomputable def F.cu.cB(K:Out→af→Bool):AX→St→Bool:=(aY 0 (cD false (au Tryz.prog (ah Tryz.prog) (partOf (ai Tryz.f84) [1,1,1])) (az Tryz.prog cg Tryz.f84.results.toList K)))
noncomputable def F.cu.J0(K:AX→St→Bool)(s:St):Bool:=F8 (au Tryz.prog (ah Tryz.prog) (partOf (ai Tryz.f84) [1,1,0,1,0,0,1,0,0,1,0,1,0,1,1,1])) s (aY 2 (cD false (au Tryz.prog (ah Tryz.prog) (partOf (ai Tryz.f84) [1,1,0,1,0,0,1,0,0,1,1])) (aY 1 (cD false (au Tryz.prog (ah Tryz.prog) (partOf (ai Tryz.f84) [1,1,0,1,0,0,1,1])) K))))
theorem F.cu.aP{e:Env}{h:af}{K:AX→St→Bool}:au Tryz.prog (ah Tryz.prog) F.cu.L0 ⟨e,67,[],h⟩ K=(ag (bQ 2 (e 1)) fun x21=>ag (aj none x21 h) fun x22=>ag (bR .slice x22 h) fun x23=>ag (aF .lss (e 3) x23) fun x24=>let Q1:=(aa (aa (aa (aa (aa e 23 (e 3)) 24 x21) 25 x22) 26 x23) 27 x24);ay x24 (ag (bQ 2 (e 1)) fun x25=>ag (aj none x25 h) fun x26=>ag (dx 4 x26 (e 3)) fun x27=>ag (aj (some 4) x27 h) fun x28=>ag (bH 4 (.ptr (af.next h) 0) x28 (af.alloc h (.cells [(.int .i64 0),(.bool false),(.str []),.nils]))) fun h29=>ag (bQ 0 (.ptr (af.next h) 0)) fun x30=>ag (aj none x30 h29) fun x31=>ag (gO (.int .i64) x31 (.int .i64 0)) fun x32=>let Q2:=(aa (aa (aa (aa (aa (aa (aa (aa (aa (aa Q1 30 x25) 31 x26) 32 (e 3)) 33 x27) 34 x28) 4 (.ptr (af.next h) 0)) 35 x30) 36 x31) 38 x32) 37 x32);ay x32 (ag (bQ 2 (.ptr (af.next h) 0)) fun x33=>ag (bQ 0 x33) fun x34=>ag (aj none x34 h29) fun x35=>ah Tryz.prog 116 [x35] h29 (bO (fun x36 h37=>ag (jl .not x36) fun x40=>let Q3:=(aa (aa (aa (aa (aa Q2 39 x33) 40 x34) 41 x35) 42 x36) 43 x40);ay x40 (K .ret ⟨(aa Q3 2 (.bool false)),67,[],h37⟩) (ag (bQ 2 (.ptr (af.next h) 0)) fun x41=>ag (bQ 1 x41) fun x42=>ag (aj none x42 h37) fun x43=>ah Tryz.prog 134 [x43] h37 (bO (fun x44 h45=>ag (jl .not x44) fun x48=>let Q4:=(aa (aa (aa (aa (aa Q3 58 x41) 59 x42) 60 x43) 61 x44) 62 x48);ay x48 (K .ret ⟨(aa Q4 2 (.bool false)),67,[],h45⟩) (ag (aF .add (e 3) (.int .i64 1)) fun x49=>K .normal ⟨(aa (aa (aa Q4 28 (e 3)) 29 x49) 3 x49),67,[],h45⟩)) (fun v46 h47=>K (.panic v46) ⟨(aa (aa (aa Q3 58 x41) 59 x42) 60 x43),67,[],h47⟩)))) (fun v38 h39=>K (.panic v38) ⟨(aa (aa (aa Q2 39 x33) 40 x34) 41 x35),67,[],h39⟩))) (ag (gO (.int .i64) x31 (.int .i64 1)) fun x50=>ay x50 (F.cu.J0 K ⟨(aa (aa Q2 45 x50) 44 x50),67,[],h29⟩) (ag (gO (.int .i64) x31 (.int .i64 2)) fun x51=>F.cu.J0 K ⟨(aa (aa (aa (aa Q2 45 x50) 44 x50) 46 x51) 44 x51),67,[],h29⟩))) (K (.exit 0) ⟨Q1,67,[],h⟩)):=by kernel_rfl
theorem F.cu.aG{e:Env}{h:af}{K:Out→af→Bool}:F.cu.cB K (.exit 0) ⟨e,67,[],h⟩=(ag (aj (some 3) (e 1) h) fun x52=>ah Tryz.prog 44 [x52] h (bO (fun x53 h54=>ag (bR .slice x53 h54) fun x57=>ag (aF .leq x57 (.int .i64 12)) fun x58=>K (.ret x58) h54) (fun v55 h56=>K (.panic v55) h56))):=by kernel_rfl
theorem F.cu.bp{e:Env}{h:af}{K:Out→af→Bool}:F.cu.cB K .ret ⟨e,67,[],h⟩=(K (.ret (e 2)) h):=by kernel_rfl
theorem F.cu.yh{e:Env}{h:af}{K:AX→St→Bool}:F.cu.J0 K ⟨e,67,[],h⟩=(ay (e 44) (ag (bQ 2 (e 4)) fun x59=>ag (bQ 0 x59) fun x60=>ag (aj none x60 h) fun x61=>ag (oz .string x61 (.str [])) fun x62=>let Q1:=(aa (aa (aa (aa (aa e 47 x59) 48 x60) 49 x61) 50 x62) 51 x62);ay x62 (K .ret ⟨(aa (aa (aa (aa (aa (aa (aa (aa (aa (aa (aa (aa Q1 51 (.bool true)) 52 bG) 51 (.bool true)) 53 bG) 51 (.bool true)) 54 bG) 51 (.bool true)) 55 bG) 51 (.bool true)) 56 bG) 57 (.bool true)) 2 (.bool false)),67,[],h⟩) (ag (bQ 2 (e 4)) fun x63=>ag (bQ 1 x63) fun x64=>ag (aj none x64 h) fun x65=>ag (bR .slice x65 h) fun x66=>ag (oz (.int .i64) x66 (.int .i64 2)) fun x67=>let Q2:=(aa (aa (aa (aa (aa (aa (aa (aa (aa (aa (aa Q1 51 (.bool false)) 52 x63) 51 (.bool false)) 53 x64) 51 (.bool false)) 54 x65) 51 (.bool false)) 55 x66) 51 (.bool false)) 56 x67) 57 x67);ay x67 (K .ret ⟨(aa Q2 2 (.bool false)),67,[],h⟩) (ag (bQ 2 (e 4)) fun x68=>ag (bQ 1 x68) fun x69=>ag (aj none x69 h) fun x70=>ah Tryz.prog 134 [x70] h (bO (fun x71 h72=>ag (jl .not x71) fun x75=>let Q3:=(aa (aa (aa (aa (aa Q2 58 x68) 59 x69) 60 x70) 61 x71) 62 x75);ay x75 (K .ret ⟨(aa Q3 2 (.bool false)),67,[],h72⟩) (ag (aF .add (e 3) (.int .i64 1)) fun x76=>K .normal ⟨(aa (aa (aa Q3 28 (e 3)) 29 x76) 3 x76),67,[],h72⟩)) (fun v73 h74=>K (.panic v73) ⟨(aa (aa (aa Q2 58 x68) 59 x69) 60 x70),67,[],h74⟩))))) (K .ret ⟨(aa e 2 (.bool false)),67,[],h⟩)):=(sW _ _ _).trans (by kernel_rfl)
theorem F.zP{a0:AV}{h:af}{K:Out→af→Bool}:au Tryz.prog (ah Tryz.prog) (ai Tryz.f84) ⟨aB [a0],67,[],h⟩ (az Tryz.prog cg Tryz.f84.results.toList K)=(ag (ef a0) fun c0=>ag (bQ 0 (.ptr (af.next h) 0)) fun x1=>ag (bQ 0 x1) fun x2=>ag (aj none x2 (af.alloc h (.cells c0))) fun x3=>ah Tryz.prog 116 [x3] (af.alloc h (.cells c0)) (bO (fun x4 h5=>ag (jl .not x4) fun x8=>ay x8 (K (.ret (.bool false)) h5) (ag (bQ 0 (.ptr (af.next h) 0)) fun x9=>ag (bQ 1 x9) fun x10=>ag (aj none x10 h5) fun x11=>ah Tryz.prog 134 [x11] h5 (bO (fun x12 h13=>ag (jl .not x12) fun x16=>ay x16 (K (.ret (.bool false)) h13) (ag (bQ 2 (.ptr (af.next h) 0)) fun x17=>ag (aj none x17 h13) fun x18=>ag (bR .slice x18 h13) fun x19=>ag (aF .gtr x19 (.int .i64 20)) fun x20=>ay x20 (K (.ret (.bool false)) h13) (bS (au Tryz.prog (ah Tryz.prog) F.cu.L0) ⟨(aa (aa (aa (aa (aa (aa (aa (aa (aa (aa (aa (aa (aa (aa (aa (aa (aa (aa (aa (aa (aa (aa (aa (aa (aa (aa (aa (aa (aa (aa (aB [a0]) 1 (.ptr (af.next h) 0)) 2 (.bool false)) 5 x1) 6 x2) 7 x3) 8 x4) 9 x8) 10 x8) 10 (.bool false)) 11 x9) 10 (.bool false)) 12 x10) 10 (.bool false)) 13 x11) 10 (.bool false)) 14 x12) 10 (.bool false)) 15 x16) 16 x16) 17 x16) 17 (.bool false)) 18 x17) 17 (.bool false)) 19 x18) 17 (.bool false)) 20 x19) 17 (.bool false)) 21 x20) 22 x20) 3 (.int .i64 0)),67,[],h13⟩ (F.cu.cB K)))) (fun v14 h15=>K (.panic v14) h15)))) (fun v6 h7=>K (.panic v6) h7))):=by kernel_rfl
theorem F.yj{a0:AV}{h:af}{K:Out→af→Bool}(hh:au Tryz.prog (ah Tryz.prog) (ai Tryz.f84) ⟨aB [a0],67,[],h⟩ (az Tryz.prog cg Tryz.f84.results.toList K)=true):Sem Tryz.prog 84 [a0] h K:=
 aN mixed (aL _) Tryz.func84 (c:=ai Tryz.f84) rfl (by decide) (of_decide_eq_true (by kernel_rfl)) hh
end
end Go.AM
namespace Go.AM
open Go Go.Proofs
noncomputable section
noncomputable def F.cT.L0:Code:=partOf (ai Tryz.f29) [1,1,1,0,1,0,0]
noncomputable def F.cT.cB(K:Out→af→Bool):AX→St→Bool:=(aY 0 (cD false (au Tryz.prog (ah Tryz.prog) (partOf (ai Tryz.f29) [1,1,1,1])) (az Tryz.prog cg Tryz.f29.results.toList K)))
noncomputable def F.cT.L1:Code:=partOf (ai Tryz.f29) [1,1,1,0,1,0,0,1,0,0,1,1,0,0]
noncomputable def F.cT.jj(K:AX→St→Bool):AX→St→Bool:=(aY 2 (aY 1 (cD false (au Tryz.prog (ah Tryz.prog) (partOf (ai Tryz.f29) [1,1,1,0,1,0,0,1,1])) K)))
theorem F.cT.aP{e:Env}{h:af}{K:AX→St→Bool}:au Tryz.prog (ah Tryz.prog) F.cT.L0 ⟨e,62,[],h⟩ K=(ag (bR .slice (e 0) h) fun x2=>ag (aF .lss (e 6) x2) fun x3=>let Q1:=(aa (aa (aa (aa (aa e 11 (e 6)) 12 (e 0)) 13 x2) 14 x3) 15 x3);ay x3 (ag (aF .leq (e 5) (e 1)) fun x4=>let Q2:=(aa (aa (aa (aa (aa (aa (aa Q1 15 (.bool true)) 16 (e 5)) 15 (.bool true)) 17 (e 1)) 15 (.bool true)) 18 x4) 19 x4);ay x4 (ag (aF .add (e 5) (.int .i64 1)) fun x5=>ag (dx 3 (e 0) (e 6)) fun x6=>ag (bQ 0 x6) fun x7=>ag (aj (some 2) x7 h) fun x8=>ah Tryz.prog 82 [x8] h (bO (fun x9 h10=>ag (aF .add x5 x9) fun x13=>bS (au Tryz.prog (ah Tryz.prog) F.cT.L1) ⟨(aa (aa (aa (aa (aa (aa (aa (aa (aa (aa (aa Q2 22 (e 5)) 23 x5) 24 (e 0)) 25 (e 6)) 26 x6) 27 x7) 28 x8) 29 x9) 30 x13) 5 x13) 7 (.int .i64 0)),62,[],h10⟩ (F.cT.jj K)) (fun v11 h12=>K (.panic v11) ⟨(aa (aa (aa (aa (aa (aa (aa Q2 22 (e 5)) 23 x5) 24 (e 0)) 25 (e 6)) 26 x6) 27 x7) 28 x8),62,[],h12⟩))) (K (.exit 0) ⟨Q2,62,[],h⟩)) (K (.exit 0) ⟨(aa (aa (aa (aa (aa (aa (aa Q1 15 (.bool false)) 16 bG) 15 (.bool false)) 17 bG) 15 (.bool false)) 18 bG) 19 (.bool false)),62,[],h⟩)):=by kernel_rfl
theorem F.cT.aG{e:Env}{h:af}{K:Out→af→Bool}:F.cT.cB K (.exit 0) ⟨e,62,[],h⟩=(ag (aF .leq (e 5) (e 1)) fun x14=>K (.ret x14) h):=by kernel_rfl
theorem F.cT.dc{e:Env}{h:af}{K:AX→St→Bool}:au Tryz.prog (ah Tryz.prog) F.cT.L1 ⟨e,62,[],h⟩ K=(ag (dx 3 (e 0) (e 6)) fun x15=>ag (bQ 2 x15) fun x16=>ag (aj none x16 h) fun x17=>ag (bR .slice x17 h) fun x18=>ag (aF .lss (e 7) x18) fun x19=>let Q1:=(aa (aa (aa (aa (aa (aa (aa (aa (aa e 31 (e 7)) 32 (e 0)) 33 (e 6)) 34 x15) 35 x16) 36 x17) 37 x18) 38 x19) 39 x19);ay x19 (ag (aF .leq (e 5) (e 1)) fun x20=>let Q2:=(aa (aa (aa (aa (aa (aa (aa Q1 39 (.bool true)) 40 (e 5)) 39 (.bool true)) 41 (e 1)) 39 (.bool true)) 42 x20) 43 x20);ay x20 (ag (aF .add (e 5) (.int .i64 1)) fun x21=>ag (dx 3 (e 0) (e 6)) fun x22=>ag (bQ 2 x22) fun x23=>ag (aj none x23 h) fun x24=>ag (dx 4 x24 (e 7)) fun x25=>ag (bQ 2 x25) fun x26=>ag (aj (some 2) x26 h) fun x27=>ah Tryz.prog 82 [x27] h (bO (fun x28 h29=>ag (aF .add x21 x28) fun x32=>ag (aF .add (e 7) (.int .i64 1)) fun x33=>K .normal ⟨(aa (aa (aa (aa (aa (aa (aa (aa (aa (aa (aa (aa (aa (aa (aa (aa (aa Q2 46 (e 5)) 47 x21) 48 (e 0)) 49 (e 6)) 50 x22) 51 x23) 52 x24) 53 (e 7)) 54 x25) 55 x26) 56 x27) 57 x28) 58 x32) 5 x32) 44 (e 7)) 45 x33) 7 x33),62,[],h29⟩) (fun v30 h31=>K (.panic v30) ⟨(aa (aa (aa (aa (aa (aa (aa (aa (aa (aa (aa Q2 46 (e 5)) 47 x21) 48 (e 0)) 49 (e 6)) 50 x22) 51 x23) 52 x24) 53 (e 7)) 54 x25) 55 x26) 56 x27),62,[],h31⟩))) (K (.exit 2) ⟨Q2,62,[],h⟩)) (K (.exit 2) ⟨(aa (aa (aa (aa (aa (aa (aa Q1 39 (.bool false)) 40 bG) 39 (.bool false)) 41 bG) 39 (.bool false)) 42 bG) 43 (.bool false)),62,[],h⟩)):=by kernel_rfl
theorem F.cT.cx{e:Env}{h:af}{K:AX→St→Bool}:F.cT.jj K (.exit 2) ⟨e,62,[],h⟩=(ag (aF .add (e 6) (.int .i64 1)) fun x34=>K .normal ⟨(aa (aa (aa e 20 (e 6)) 21 x34) 6 x34),62,[],h⟩):=by kernel_rfl
theorem F.BN{a0 a1:AV}{h:af}{K:Out→af→Bool}:au Tryz.prog (ah Tryz.prog) (ai Tryz.f29) ⟨aB [a0,a1],62,[],h⟩ (az Tryz.prog cg Tryz.f29.results.toList K)=(ag (bR .slice a0 h) fun x0=>ag (aF .gtr x0 (.int .i64 70)) fun x1=>ay x1 (K (.ret (.bool false)) h) (bS (au Tryz.prog (ah Tryz.prog) F.cT.L0) ⟨(aa (aa (aa (aa (aa (aa (aB [a0,a1]) 4 (.bool false)) 8 a0) 9 x0) 10 x1) 5 (.int .i64 0)) 6 (.int .i64 0)),62,[],h⟩ (F.cT.cB K))):=by kernel_rfl
theorem F.zQ{a0 a1:AV}{h:af}{K:Out→af→Bool}(hh:au Tryz.prog (ah Tryz.prog) (ai Tryz.f29) ⟨aB [a0,a1],62,[],h⟩ (az Tryz.prog cg Tryz.f29.results.toList K)=true):Sem Tryz.prog 29 [a0,a1] h K:=
 aN mixed (aL _) Tryz.func29 (c:=ai Tryz.f29) rfl (by decide) (of_decide_eq_true (by kernel_rfl)) hh
noncomputable def F.eB.L0:Code:=partOf (ai Tryz.f82) [1,1,0,1,0,0]
noncomputable def F.eB.cB(K:Out→af→Bool):AX→St→Bool:=(aY 0 (cD false (au Tryz.prog (ah Tryz.prog) (partOf (ai Tryz.f82) [1,1,1])) (az Tryz.prog cg Tryz.f82.results.toList K)))
theorem F.eB.aP{e:Env}{h:af}{K:AX→St→Bool}:au Tryz.prog (ah Tryz.prog) F.eB.L0 ⟨e,34,[],h⟩ K=(ag (bQ 1 (e 1)) fun x9=>ag (aj none x9 h) fun x10=>ag (bR .slice x10 h) fun x11=>ag (aF .lss (e 4) x11) fun x12=>let Q1:=(aa (aa (aa (aa (aa (aa e 13 (e 4)) 14 x9) 15 x10) 16 x11) 17 x12) 18 x12);ay x12 (ag (aF .lss (e 3) (.int .i64 10000)) fun x13=>let Q2:=(aa (aa (aa (aa (aa Q1 18 (.bool true)) 19 (e 3)) 18 (.bool true)) 20 x13) 21 x13);ay x13 (ag (bQ 1 (e 1)) fun x14=>ag (aj none x14 h) fun x15=>ag (dx 1 x15 (e 4)) fun x16=>ag (aj none x16 h) fun x17=>ag (bR .str x17 h) fun x18=>ag (aF .quo x18 (.int .i64 20)) fun x19=>ag (aF .add (e 3) x19) fun x20=>ag (aF .add (e 4) (.int .i64 1)) fun x21=>K .normal ⟨(aa (aa (aa (aa (aa (aa (aa (aa (aa (aa (aa (aa (aa Q2 24 (e 3)) 25 x14) 26 x15) 27 (e 4)) 28 x16) 29 x17) 30 x18) 31 x19) 32 x20) 3 x20) 22 (e 4)) 23 x21) 4 x21),34,[],h⟩) (K (.exit 0) ⟨Q2,34,[],h⟩)) (K (.exit 0) ⟨(aa (aa (aa (aa (aa Q1 18 (.bool false)) 19 bG) 18 (.bool false)) 20 bG) 21 (.bool false)),34,[],h⟩)):=by kernel_rfl
theorem F.eB.aG{e:Env}{h:af}{K:Out→af→Bool}:F.eB.cB K (.exit 0) ⟨e,34,[],h⟩=(K (.ret (e 3)) h):=by kernel_rfl
theorem F.zR{a0:AV}{h:af}{K:Out→af→Bool}:au Tryz.prog (ah Tryz.prog) (ai Tryz.f82) ⟨aB [a0],34,[],h⟩ (az Tryz.prog cg Tryz.f82.results.toList K)=(ag (ef a0) fun c0=>ag (bQ 1 (.ptr (af.next h) 0)) fun x1=>ag (aj none x1 (af.alloc h (.cells c0))) fun x2=>ag (bR .slice x2 (af.alloc h (.cells c0))) fun x3=>ag (bQ 0 (.ptr (af.next h) 0)) fun x4=>ag (aj none x4 (af.alloc h (.cells c0))) fun x5=>ag (bR .str x5 (af.alloc h (.cells c0))) fun x6=>ag (aF .quo x6 (.int .i64 20)) fun x7=>ag (aF .add x3 x7) fun x8=>bS (au Tryz.prog (ah Tryz.prog) F.eB.L0) ⟨(aa (aa (aa (aa (aa (aa (aa (aa (aa (aa (aa (aa (aB [a0]) 1 (.ptr (af.next h) 0)) 2 (.int .i64 0)) 5 x1) 6 x2) 7 x3) 8 x4) 9 x5) 10 x6) 11 x7) 12 x8) 3 x8) 4 (.int .i64 0)),34,[],(af.alloc h (.cells c0))⟩ (F.eB.cB K)):=by kernel_rfl
theorem F.yl{a0:AV}{h:af}{K:Out→af→Bool}(hh:au Tryz.prog (ah Tryz.prog) (ai Tryz.f82) ⟨aB [a0],34,[],h⟩ (az Tryz.prog cg Tryz.f82.results.toList K)=true):Sem Tryz.prog 82 [a0] h K:=
 aN mixed (aL _) Tryz.func82 (c:=ai Tryz.f82) rfl (by decide) (of_decide_eq_true (by kernel_rfl)) hh
noncomputable def F.bT.L0:Code:=partOf (ai Tryz.f83) [1,1,1,0,1,0,0]
noncomputable def F.bT.cB(K:Out→af→Bool):AX→St→Bool:=(aY 0 (cD false (au Tryz.prog (ah Tryz.prog) (partOf (ai Tryz.f83) [1,1,1,1])) (az Tryz.prog cg Tryz.f83.results.toList K)))
noncomputable def F.bT.L1:Code:=partOf (ai Tryz.f83) [1,1,1,0,1,0,0,1,1,0,0,1,1,0,1,0,0]
noncomputable def F.bT.jj(K:AX→St→Bool):AX→St→Bool:=(aY 2 (cD false (au Tryz.prog (ah Tryz.prog) (partOf (ai Tryz.f83) [1,1,1,0,1,0,0,1,1,0,0,1,1,1])) (aY 1 (cD false (au Tryz.prog (ah Tryz.prog) (partOf (ai Tryz.f83) [1,1,1,0,1,0,0,1,1,1])) K))))
noncomputable def F.bT.L2:Code:=partOf (ai Tryz.f83) [1,1,1,1,0,1,0,0]
noncomputable def F.bT.tU(K:Out→af→Bool):AX→St→Bool:=(aY 4 (cD false (au Tryz.prog (ah Tryz.prog) (partOf (ai Tryz.f83) [1,1,1,1,1])) (az Tryz.prog cg Tryz.f83.results.toList K)))
theorem F.bT.aP{e:Env}{h:af}{K:AX→St→Bool}:au Tryz.prog (ah Tryz.prog) F.bT.L0 ⟨e,90,[],h⟩ K=(ag (aF .lss (e 19) (e 18)) fun x5=>let Q1:=(aa e 20 x5);ay x5 (ag (dx 3 (e 17) (e 19)) fun x6=>ag (aj (some 3) x6 h) fun x7=>ag (bH 3 (.ptr (af.next h) 0) x7 (af.alloc h (.cells [(.str []),.nils,.nils]))) fun h8=>ag (bQ 0 (.ptr (af.next h) 0)) fun x9=>ag (aj (some 2) x9 h8) fun x10=>ah Tryz.prog 130 [x10] h8 (bO (fun x11 h12=>ag (jl .not x11) fun x15=>let Q2:=(aa (aa (aa (aa (aa (aa (aa (aa Q1 21 x6) 22 x7) 6 (.ptr (af.next h) 0)) 23 x9) 24 x10) 25 x11) 26 x15) 27 x15);ay x15 (K .ret ⟨(aa (aa (aa (aa (aa (aa (aa (aa (aa (aa (aa (aa (aa (aa (aa (aa (aa (aa (aa (aa (aa (aa (aa (aa (aa (aa (aa (aa (aa (aa (aa (aa (aa Q2 27 (.bool true)) 28 bG) 27 (.bool true)) 29 bG) 27 (.bool true)) 30 bG) 27 (.bool true)) 31 bG) 27 (.bool true)) 32 bG) 33 (.bool true)) 34 (.bool true)) 34 (.bool true)) 35 bG) 34 (.bool true)) 36 bG) 34 (.bool true)) 37 bG) 34 (.bool true)) 38 bG) 39 (.bool true)) 40 (.bool true)) 40 (.bool true)) 41 bG) 40 (.bool true)) 42 bG) 40 (.bool true)) 43 bG) 40 (.bool true)) 44 bG) 45 (.bool true)) 2 .nilp) 3 (.bool false)),90,[],h12⟩) (ag (bQ 0 (.ptr (af.next h) 0)) fun x16=>ag (aj (some 2) x16 h12) fun x17=>ah Tryz.prog 131 [(e 4),x17] h12 (bO (fun x18 h19=>ag (jl .not x18) fun x22=>let Q3:=(aa (aa (aa (aa (aa (aa (aa (aa (aa (aa (aa (aa Q2 27 (.bool false)) 28 (e 4)) 27 (.bool false)) 29 x16) 27 (.bool false)) 30 x17) 27 (.bool false)) 31 x18) 27 (.bool false)) 32 x22) 33 x22) 34 x22);ay x22 (K .ret ⟨(aa (aa (aa (aa (aa (aa (aa (aa (aa (aa (aa (aa (aa (aa (aa (aa (aa (aa (aa (aa (aa Q3 34 (.bool true)) 35 bG) 34 (.bool true)) 36 bG) 34 (.bool true)) 37 bG) 34 (.bool true)) 38 bG) 39 (.bool true)) 40 (.bool true)) 40 (.bool true)) 41 bG) 40 (.bool true)) 42 bG) 40 (.bool true)) 43 bG) 40 (.bool true)) 44 bG) 45 (.bool true)) 2 .nilp) 3 (.bool false)),90,[],h19⟩) (ag (bQ 2 (.ptr (af.next h) 0)) fun x23=>ag (aj none x23 h19) fun x24=>ag (bR .slice x24 h19) fun x25=>ag (aF .gtr x25 (.int .i64 20)) fun x26=>let Q4:=(aa (aa (aa (aa (aa (aa (aa (aa (aa (aa Q3 34 (.bool false)) 35 x23) 34 (.bool false)) 36 x24) 34 (.bool false)) 37 x25) 34 (.bool false)) 38 x26) 39 x26) 40 x26);ay x26 (K .ret ⟨(aa (aa (aa (aa (aa (aa (aa (aa (aa (aa (aa Q4 40 (.bool true)) 41 bG) 40 (.bool true)) 42 bG) 40 (.bool true)) 43 bG) 40 (.bool true)) 44 bG) 45 (.bool true)) 2 .nilp) 3 (.bool false)),90,[],h19⟩) (ag (aj (some 3) (.ptr (af.next h) 0) h19) fun x27=>ah Tryz.prog 108 [x27] h19 (bO (fun x28 h29=>ag (bR .slice x28 h29) fun x32=>ag (aF .gtr x32 (.int .i64 12)) fun x33=>let Q5:=(aa (aa (aa (aa (aa (aa (aa (aa (aa Q4 40 (.bool false)) 41 x27) 40 (.bool false)) 42 x28) 40 (.bool false)) 43 x32) 40 (.bool false)) 44 x33) 45 x33);ay x33 (K .ret ⟨(aa (aa Q5 2 .nilp) 3 (.bool false)),90,[],h29⟩) (ag (bQ 2 (.ptr (af.next h) 0)) fun x34=>ag (aj none x34 h29) fun x35=>ag (bR .slice x35 h29) fun x36=>bS (au Tryz.prog (ah Tryz.prog) F.bT.L1) ⟨(aa (aa (aa (aa Q5 46 x34) 47 x35) 48 x36) 49 (.int .i64 0)),90,[],h29⟩ (F.bT.jj K))) (fun v30 h31=>K (.panic v30) ⟨(aa (aa (aa Q4 40 (.bool false)) 41 x27) 40 (.bool false)),90,[],h31⟩))))) (fun v20 h21=>K (.panic v20) ⟨(aa (aa (aa (aa (aa (aa (aa Q2 27 (.bool false)) 28 (e 4)) 27 (.bool false)) 29 x16) 27 (.bool false)) 30 x17) 27 (.bool false)),90,[],h21⟩)))) (fun v13 h14=>K (.panic v13) ⟨(aa (aa (aa (aa (aa Q1 21 x6) 22 x7) 6 (.ptr (af.next h) 0)) 23 x9) 24 x10),90,[],h14⟩))) (K (.exit 0) ⟨Q1,90,[],h⟩)):=by kernel_rfl
theorem F.bT.aG{e:Env}{h:af}{K:Out→af→Bool}:F.bT.cB K (.exit 0) ⟨e,90,[],h⟩=(ag (bY (e 4)) fun x37=>ag (bQ 2 x37) fun x38=>ag (aj none x38 h) fun x39=>ag (bR .map x39 h) fun x40=>ag (aF .add x40 (.int .i64 1)) fun x41=>bS (au Tryz.prog (ah Tryz.prog) F.bT.L2) ⟨(aa (aa (aa (aa (aa (aa (aa e 77 (e 4)) 78 x37) 79 x38) 80 x39) 81 x40) 82 x41) 83 (.int .i64 0)),90,[],h⟩ (F.bT.tU K)):=by kernel_rfl
theorem F.bT.bp{e:Env}{h:af}{K:Out→af→Bool}:F.bT.cB K .ret ⟨e,90,[],h⟩=(K (.ret (.tuple [(e 2),(e 3)])) h):=by kernel_rfl
theorem F.bT.dc{e:Env}{h:af}{K:AX→St→Bool}:au Tryz.prog (ah Tryz.prog) F.bT.L1 ⟨e,90,[],h⟩ K=(ag (aF .lss (e 49) (e 48)) fun x42=>let Q1:=(aa e 50 x42);ay x42 (ag (dx 4 (e 47) (e 49)) fun x43=>ag (aj (some 4) x43 h) fun x44=>ag (bH 4 (.ptr (af.next h) 0) x44 (af.alloc h (.cells [(.int .i64 0),(.bool false),(.str []),.nils]))) fun h45=>ag (aj (some 4) (.ptr (af.next h) 0) h45) fun x46=>ah Tryz.prog 132 [x46] h45 (bO (fun x47 h48=>ag (jl .not x47) fun x51=>let Q2:=(aa (aa (aa (aa (aa (aa (aa Q1 51 x43) 52 x44) 8 (.ptr (af.next h) 0)) 53 x46) 54 x47) 55 x51) 56 x51);ay x51 (K .ret ⟨(aa (aa (aa (aa (aa (aa (aa (aa (aa (aa (aa (aa (aa (aa (aa (aa (aa (aa Q2 56 (.bool true)) 57 bG) 56 (.bool true)) 58 bG) 56 (.bool true)) 59 bG) 56 (.bool true)) 60 bG) 61 bG) 62 bG) 63 bG) 64 bG) 65 bG) 56 (.bool true)) 66 bG) 67 (.bool true)) 2 .nilp) 3 (.bool false)),90,[],h48⟩) (ag (bQ 0 (.ptr (af.next h) 0)) fun x52=>ag (aj none x52 h48) fun x53=>ag (gO (.int .i64) x53 (.int .i64 0)) fun x54=>let Q3:=(aa (aa (aa (aa (aa (aa (aa (aa Q2 56 (.bool false)) 57 x52) 56 (.bool false)) 58 x53) 56 (.bool false)) 59 x54) 56 (.bool false)) 60 x54);ay x54 (ag (bQ 2 (.ptr (af.next h) 0)) fun x55=>ag (aj (some 2) x55 h48) fun x56=>ah Tryz.prog 131 [(e 4),x56] h48 (bO (fun x57 h58=>ag (jl .not x57) fun x61=>let Q4:=(aa (aa (aa (aa (aa (aa (aa (aa (aa (aa (aa (aa (aa Q3 60 (.bool true)) 61 (e 4)) 60 (.bool true)) 62 x55) 60 (.bool true)) 63 x56) 60 (.bool true)) 64 x57) 60 (.bool true)) 65 x61) 56 (.bool false)) 66 x61) 67 x61);ay x61 (K .ret ⟨(aa (aa Q4 2 .nilp) 3 (.bool false)),90,[],h58⟩) (ag (aF .add (e 49) (.int .i64 1)) fun x62=>K .normal ⟨(aa (aa Q4 68 x62) 49 x62),90,[],h58⟩)) (fun v59 h60=>K (.panic v59) ⟨(aa (aa (aa (aa (aa (aa (aa Q3 60 (.bool true)) 61 (e 4)) 60 (.bool true)) 62 x55) 60 (.bool true)) 63 x56) 60 (.bool true)),90,[],h60⟩))) (ag (aF .add (e 49) (.int .i64 1)) fun x63=>K .normal ⟨(aa (aa (aa (aa (aa (aa (aa (aa (aa (aa (aa (aa (aa (aa (aa Q3 60 (.bool false)) 61 bG) 60 (.bool false)) 62 bG) 60 (.bool false)) 63 bG) 60 (.bool false)) 64 bG) 60 (.bool false)) 65 bG) 56 (.bool false)) 66 (.bool false)) 67 (.bool false)) 68 x63) 49 x63),90,[],h48⟩))) (fun v49 h50=>K (.panic v49) ⟨(aa (aa (aa (aa Q1 51 x43) 52 x44) 8 (.ptr (af.next h) 0)) 53 x46),90,[],h50⟩))) (K (.exit 2) ⟨Q1,90,[],h⟩)):=by kernel_rfl
theorem F.bT.cx{e:Env}{h:af}{K:AX→St→Bool}:F.bT.jj K (.exit 2) ⟨e,90,[],h⟩=(ag (bY (e 4)) fun x64=>ag (bQ 2 x64) fun x65=>ag (aj none x65 h) fun x66=>ag (bQ 0 (e 6)) fun x67=>ag (bQ 0 x67) fun x68=>ag (aj none x68 h) fun x69=>ag (dR .string x66 x69 (.int .i64 0) h) fun h70=>ag (aF .add (e 19) (.int .i64 1)) fun x71=>K .normal ⟨(aa (aa (aa (aa (aa (aa (aa (aa (aa e 69 (e 4)) 70 x64) 71 x65) 72 x66) 73 x67) 74 x68) 75 x69) 76 x71) 19 x71),90,[],h70⟩):=by kernel_rfl
theorem F.bT.gK{e:Env}{h:af}{K:AX→St→Bool}:F.bT.jj K .ret ⟨e,90,[],h⟩=(K .ret ⟨e,90,[],h⟩):=by kernel_rfl
theorem F.bT.jF{e:Env}{h:af}{K:AX→St→Bool}:au Tryz.prog (ah Tryz.prog) F.bT.L2 ⟨e,90,[],h⟩ K=(ag (aF .lss (e 83) (e 82)) fun x72=>let Q1:=(aa e 84 x72);ay x72 (ah Tryz.prog 133 [(e 4)] h (bO (fun x73 h74=>ag (jl .not x73) fun x77=>let Q2:=(aa (aa (aa Q1 85 (e 4)) 86 x73) 87 x77);ay x77 (K .ret ⟨(aa (aa (aa Q2 88 (e 4)) 2 (e 4)) 3 (.bool true)),90,[],h74⟩) (ag (aF .add (e 83) (.int .i64 1)) fun x78=>K .normal ⟨(aa (aa Q2 89 x78) 83 x78),90,[],h74⟩)) (fun v75 h76=>K (.panic v75) ⟨(aa Q1 85 (e 4)),90,[],h76⟩))) (K (.exit 4) ⟨Q1,90,[],h⟩)):=by kernel_rfl
theorem F.bT.fV{e:Env}{h:af}{K:Out→af→Bool}:F.bT.tU K (.exit 4) ⟨e,90,[],h⟩=(K (.ret (.tuple [.nilp,(.bool false)])) h):=by kernel_rfl
theorem F.bT.tg{e:Env}{h:af}{K:Out→af→Bool}:F.bT.tU K .ret ⟨e,90,[],h⟩=(K (.ret (.tuple [(e 2),(e 3)])) h):=by kernel_rfl
theorem F.CT{a0:AV}{h:af}{K:Out→af→Bool}:au Tryz.prog (ah Tryz.prog) (ai Tryz.f83) ⟨aB [a0],90,[],h⟩ (az Tryz.prog cg Tryz.f83.results.toList K)=(ag (jo [.nils,.nilm,.nilm] [(0,1),(1,1),(2,1)] [a0,(.map (af.next h)),(.map (af.next (af.alloc h (.map [] 0))))]) fun x0=>ag (ef x0) fun c1=>ag (bR .slice a0 (af.alloc (af.alloc (af.alloc h (.map [] 0)) (.map [] 0)) (.cells c1))) fun x2=>ag (aF .gtr x2 (.int .i64 60)) fun x3=>ay x3 (K (.ret (.tuple [.nilp,(.bool false)])) (af.alloc (af.alloc (af.alloc h (.map [] 0)) (.map [] 0)) (.cells c1))) (ag (bR .slice a0 (af.alloc (af.alloc (af.alloc h (.map [] 0)) (.map [] 0)) (.cells c1))) fun x4=>bS (au Tryz.prog (ah Tryz.prog) F.bT.L0) ⟨(aa (aa (aa (aa (aa (aa (aa (aa (aa (aa (aa (aa (aa (aa (aB [a0]) 2 .nilp) 3 (.bool false)) 9 a0) 10 (.map (af.next h))) 11 (.map (af.next (af.alloc h (.map [] 0))))) 12 x0) 13 (.ptr (af.next (af.alloc (af.alloc h (.map [] 0)) (.map [] 0))) 0)) 4 (.ptr (af.next (af.alloc (af.alloc h (.map [] 0)) (.map [] 0))) 0)) 14 a0) 15 x2) 16 x3) 17 a0) 18 x4) 19 (.int .i64 0)),90,[],(af.alloc (af.alloc (af.alloc h (.map [] 0)) (.map [] 0)) (.cells c1))⟩ (F.bT.cB K))):=by kernel_rfl
theorem F.BO{a0:AV}{h:af}{K:Out→af→Bool}(hh:au Tryz.prog (ah Tryz.prog) (ai Tryz.f83) ⟨aB [a0],90,[],h⟩ (az Tryz.prog cg Tryz.f83.results.toList K)=true):Sem Tryz.prog 83 [a0] h K:=
 aN mixed (aL _) Tryz.func83 (c:=ai Tryz.f83) rfl (by decide) (of_decide_eq_true (by kernel_rfl)) hh
noncomputable def F.aW.L0:Code:=partOf (ai Tryz.f133) [1,1,0,1,0,0]
noncomputable def F.aW.cB(K:Out→af→Bool):AX→St→Bool:=(aY 0 (cD false (au Tryz.prog (ah Tryz.prog) (partOf (ai Tryz.f133) [1,1,1])) (az Tryz.prog cg Tryz.f133.results.toList K)))
noncomputable def F.aW.L1:Code:=partOf (ai Tryz.f133) [1,1,0,1,0,0,1,1,0,0,1,1,0,0]
noncomputable def F.aW.jj(K:AX→St→Bool):AX→St→Bool:=(aY 2 (aY 1 (cD false (au Tryz.prog (ah Tryz.prog) (partOf (ai Tryz.f133) [1,1,0,1,0,0,1,1,1])) K)))
noncomputable def F.aW.J0(K:AX→St→Bool)(s:St):Bool:=F8 (au Tryz.prog (ah Tryz.prog) (partOf (ai Tryz.f133) [1,1,0,1,0,0,1,1,0,0,1,1,0,0,1,1,0,0,1,1,1,1])) s (aY 3 (cD false (au Tryz.prog (ah Tryz.prog) (partOf (ai Tryz.f133) [1,1,0,1,0,0,1,1,0,0,1,1,0,0,1,1,1])) K))
theorem F.aW.aP{e:Env}{h:af}{K:AX→St→Bool}:au Tryz.prog (ah Tryz.prog) F.aW.L0 ⟨e,71,[],h⟩ K=(ag (aF .lss (e 15) (e 14)) fun x4=>ay x4 (ag (dx 3 (e 13) (e 15)) fun x5=>ag (aj (some 3) x5 h) fun x6=>ag (bH 3 (.ptr (af.next h) 0) x6 (af.alloc h (.cells [(.str []),.nils,.nils]))) fun h7=>ag (bQ 2 (.ptr (af.next h) 0)) fun x8=>ag (aj none x8 h7) fun x9=>ag (bR .slice x9 h7) fun x10=>bS (au Tryz.prog (ah Tryz.prog) F.aW.L1) ⟨(aa (aa (aa (aa (aa (aa (aa (aa e 16 x4) 17 x5) 18 x6) 5 (.ptr (af.next h) 0)) 19 x8) 20 x9) 21 x10) 22 (.int .i64 0)),71,[],h7⟩ (F.aW.jj K)) (K (.exit 0) ⟨(aa e 16 x4),71,[],h⟩)):=by kernel_rfl
theorem F.aW.aG{e:Env}{h:af}{K:Out→af→Bool}:F.aW.cB K (.exit 0) ⟨e,71,[],h⟩=(K (.ret (e 3)) h):=by kernel_rfl
theorem F.aW.dc{e:Env}{h:af}{K:AX→St→Bool}:au Tryz.prog (ah Tryz.prog) F.aW.L1 ⟨e,71,[],h⟩ K=(ag (aF .lss (e 22) (e 21)) fun x11=>let Q1:=(aa e 23 x11);ay x11 (ag (dx 4 (e 20) (e 22)) fun x12=>ag (aj (some 4) x12 h) fun x13=>ag (bH 4 (.ptr (af.next h) 0) x13 (af.alloc h (.cells [(.int .i64 0),(.bool false),(.str []),.nils]))) fun h14=>ag (bY (e 0)) fun x15=>ag (bQ 2 x15) fun x16=>ag (aj none x16 h14) fun x17=>ag (bQ 2 (.ptr (af.next h) 0)) fun x18=>ag (bQ 0 x18) fun x19=>ag (aj none x19 h14) fun x20=>ag (cV .string (.int .i64 0) true x17 x20 h14) fun x21=>ag (bL x21 0) fun x22=>ag (bL x21 1) fun x23=>ag (bQ 0 (.ptr (af.next h) 0)) fun x24=>ag (aj none x24 h14) fun x25=>ag (oz (.int .i64) x25 (.int .i64 0)) fun x26=>let Q2:=(aa (aa (aa (aa (aa (aa (aa (aa (aa (aa (aa (aa (aa (aa (aa (aa (aa (aa (aa (aa Q1 24 x12) 25 x13) 7 (.ptr (af.next h) 0)) 27 (e 0)) 28 x15) 29 x16) 30 x17) 31 x18) 32 x19) 33 x20) 34 x21) 26 x21) 35 x22) 36 x23) 8 x22) 9 x23) 37 x24) 38 x25) 39 x26) 40 x26);ay x26 (ag (aF .add (e 22) (.int .i64 1)) fun x27=>K .normal ⟨(aa (aa (aa (aa (aa (aa (aa Q2 40 (.bool true)) 41 bG) 40 (.bool true)) 42 bG) 43 (.bool true)) 68 x27) 22 x27),71,[],h14⟩) (ag (jl .not x23) fun x28=>let Q3:=(aa (aa (aa (aa (aa Q2 40 (.bool false)) 41 x23) 40 (.bool false)) 42 x28) 43 x28);ay x28 (ag (aF .add (e 22) (.int .i64 1)) fun x29=>K .normal ⟨(aa (aa Q3 68 x29) 22 x29),71,[],h14⟩) (ag (bQ 1 (.ptr (af.next h) 0)) fun x30=>ag (aj none x30 h14) fun x31=>ay x31 (ag (aF .add x22 (.int .i64 1)) fun x32=>F.aW.J0 K ⟨(aa (aa (aa (aa (aa Q3 44 x30) 45 x31) 46 x22) 47 x32) 8 x32),71,[],h14⟩) (F.aW.J0 K ⟨(aa (aa Q3 44 x30) 45 x31),71,[],h14⟩)))) (K (.exit 2) ⟨Q1,71,[],h⟩)):=by kernel_rfl
theorem F.aW.cx{e:Env}{h:af}{K:AX→St→Bool}:F.aW.jj K (.exit 2) ⟨e,71,[],h⟩=(ag (aF .add (e 15) (.int .i64 1)) fun x33=>K .normal ⟨(aa (aa e 69 x33) 15 x33),71,[],h⟩):=by kernel_rfl
theorem F.aW.yh{e:Env}{h:af}{K:AX→St→Bool}:F.aW.J0 K ⟨e,71,[],h⟩=(ag (bY (e 0)) fun x34=>ag (bQ 2 x34) fun x35=>ag (aj none x35 h) fun x36=>ag (bQ 0 (e 5)) fun x37=>ag (bQ 0 x37) fun x38=>ag (aj none x38 h) fun x39=>ag (cV .string (.int .i64 0) false x36 x39 h) fun x40=>ag (aF .gtr (e 8) x40) fun x41=>let Q1:=(aa (aa (aa (aa (aa (aa (aa (aa (aa (aa e 48 (e 8)) 49 (e 0)) 50 x34) 51 x35) 52 x36) 53 x37) 54 x38) 55 x39) 56 x40) 57 x41);ay x41 (ag (bY (e 0)) fun x42=>ag (bQ 2 x42) fun x43=>ag (aj none x43 h) fun x44=>ag (bQ 0 (e 5)) fun x45=>ag (bQ 0 x45) fun x46=>ag (aj none x46 h) fun x47=>cL (je .string (.int .i64 0) x44 x47 h) fun x48 h49=>ag (bL x48 1) fun x50=>ag (gi x44 x50 (e 8) h49) fun h51=>ag (aF .add (e 22) (.int .i64 1)) fun x52=>K .normal ⟨(aa (aa (aa (aa (aa (aa (aa (aa (aa (aa (aa (aa (aa Q1 58 (e 0)) 59 x42) 60 x43) 61 x44) 62 x45) 63 x46) 64 x47) 65 (e 8)) 66 x48) 67 x50) 3 (.bool true)) 68 x52) 22 x52),71,[],h51⟩) (ag (aF .add (e 22) (.int .i64 1)) fun x53=>K .normal ⟨(aa (aa Q1 68 x53) 22 x53),71,[],h⟩)):=(sW _ _ _).trans (by kernel_rfl)
theorem F.oh{a0:AV}{h:af}{K:Out→af→Bool}:au Tryz.prog (ah Tryz.prog) (ai Tryz.f133) ⟨aB [a0],71,[],h⟩ (az Tryz.prog cg Tryz.f133.results.toList K)=(ag (bY a0) fun x0=>ag (bQ 0 x0) fun x1=>ag (aj none x1 h) fun x2=>ag (bR .slice x2 h) fun x3=>bS (au Tryz.prog (ah Tryz.prog) F.aW.L0) ⟨(aa (aa (aa (aa (aa (aa (aa (aa (aB [a0]) 2 (.bool false)) 3 (.bool false)) 10 a0) 11 x0) 12 x1) 13 x2) 14 x3) 15 (.int .i64 0)),71,[],h⟩ (F.aW.cB K)):=by kernel_rfl
theorem F.nF{a0:AV}{h:af}{K:Out→af→Bool}(hh:au Tryz.prog (ah Tryz.prog) (ai Tryz.f133) ⟨aB [a0],71,[],h⟩ (az Tryz.prog cg Tryz.f133.results.toList K)=true):Sem Tryz.prog 133 [a0] h K:=
 aN mixed (aL _) Tryz.func133 (c:=ai Tryz.f133) rfl (by decide) (of_decide_eq_true (by kernel_rfl)) hh
noncomputable def F.bt.L0:Code:=partOf (ai Tryz.f31) [1,1,0,1,0,0]
noncomputable def F.bt.cB(K:Out→af→Bool):AX→St→Bool:=(aY 0 (cD false (au Tryz.prog (ah Tryz.prog) (partOf (ai Tryz.f31) [1,1,1])) (az Tryz.prog cg Tryz.f31.results.toList K)))
noncomputable def F.bt.L1:Code:=partOf (ai Tryz.f31) [1,1,1,1,0,1,0,0]
noncomputable def F.bt.jj(K:Out→af→Bool):AX→St→Bool:=(aY 2 (cD false (au Tryz.prog (ah Tryz.prog) (partOf (ai Tryz.f31) [1,1,1,1,1])) (az Tryz.prog cg Tryz.f31.results.toList K)))
noncomputable def F.bt.L2:Code:=partOf (ai Tryz.f31) [1,1,1,1,0,1,0,0,1,0,0,1,0,0]
noncomputable def F.bt.tU(K:AX→St→Bool):AX→St→Bool:=(aY 4 (aY 3 (cD false (au Tryz.prog (ah Tryz.prog) (partOf (ai Tryz.f31) [1,1,1,1,0,1,0,0,1,1])) K)))
theorem F.bt.aP{e:Env}{h:af}{K:AX→St→Bool}:au Tryz.prog (ah Tryz.prog) F.bt.L0 ⟨e,67,[],h⟩ K=(ag (bR .slice (e 0) h) fun x2=>ag (aF .lss (e 3) x2) fun x3=>let Q1:=(aa (aa (aa (aa e 12 (e 3)) 13 (e 0)) 14 x2) 15 x3);ay x3 (ag (dx 3 (e 0) (e 3)) fun x4=>ag (aj (some 3) x4 h) fun x5=>ah Tryz.prog 84 [x5] h (bO (fun x6 h7=>ag (jl .not x6) fun x10=>let Q2:=(aa (aa (aa (aa (aa (aa Q1 18 (e 0)) 19 (e 3)) 20 x4) 21 x5) 22 x6) 23 x10);ay x10 (K .ret ⟨(aa Q2 2 (.bool false)),67,[],h7⟩) (ag (aF .add (e 3) (.int .i64 1)) fun x11=>K .normal ⟨(aa (aa (aa Q2 16 (e 3)) 17 x11) 3 x11),67,[],h7⟩)) (fun v8 h9=>K (.panic v8) ⟨(aa (aa (aa (aa Q1 18 (e 0)) 19 (e 3)) 20 x4) 21 x5),67,[],h9⟩))) (K (.exit 0) ⟨Q1,67,[],h⟩)):=by kernel_rfl
theorem F.bt.aG{e:Env}{h:af}{K:Out→af→Bool}:F.bt.cB K (.exit 0) ⟨e,67,[],h⟩=(ah Tryz.prog 85 [(e 0)] h (bO (fun x12 h13=>bS (au Tryz.prog (ah Tryz.prog) F.bt.L1) ⟨(aa (aa (aa (aa e 24 (e 0)) 25 x12) 4 x12) 5 (.int .i64 0)),67,[],h13⟩ (F.bt.jj K)) (fun v14 h15=>K (.panic v14) h15))):=by kernel_rfl
theorem F.bt.bp{e:Env}{h:af}{K:Out→af→Bool}:F.bt.cB K .ret ⟨e,67,[],h⟩=(K (.ret (e 2)) h):=by kernel_rfl
theorem F.bt.dc{e:Env}{h:af}{K:AX→St→Bool}:au Tryz.prog (ah Tryz.prog) F.bt.L1 ⟨e,67,[],h⟩ K=(ag (bR .slice (e 4) h) fun x16=>ag (aF .lss (e 5) x16) fun x17=>let Q1:=(aa (aa (aa (aa e 26 (e 5)) 27 (e 4)) 28 x16) 29 x17);ay x17 (bS (au Tryz.prog (ah Tryz.prog) F.bt.L2) ⟨(aa Q1 6 (.int .i64 0)),67,[],h⟩ (F.bt.tU K)) (K (.exit 2) ⟨Q1,67,[],h⟩)):=by kernel_rfl
theorem F.bt.cx{e:Env}{h:af}{K:Out→af→Bool}:F.bt.jj K (.exit 2) ⟨e,67,[],h⟩=(ah Tryz.prog 32 [(e 0)] h (bO (fun x18 h19=>ag (bL x18 0) fun x22=>ag (bL x18 1) fun x23=>K (.ret x23) h19) (fun v20 h21=>K (.panic v20) h21))):=by kernel_rfl
theorem F.bt.gK{e:Env}{h:af}{K:Out→af→Bool}:F.bt.jj K .ret ⟨e,67,[],h⟩=(K (.ret (e 2)) h):=by kernel_rfl
theorem F.bt.jF{e:Env}{h:af}{K:AX→St→Bool}:au Tryz.prog (ah Tryz.prog) F.bt.L2 ⟨e,67,[],h⟩ K=(ag (aF .lss (e 6) (e 5)) fun x24=>let Q1:=(aa (aa (aa e 32 (e 6)) 33 (e 5)) 34 x24);ay x24 (ag (dx 2 (e 4) (e 6)) fun x25=>ag (bQ 0 x25) fun x26=>ag (aj none x26 h) fun x27=>ag (dx 2 (e 4) (e 5)) fun x28=>ag (bQ 0 x28) fun x29=>ag (aj none x29 h) fun x30=>ag (gO .string x27 x30) fun x31=>let Q2:=(aa (aa (aa (aa (aa (aa (aa (aa (aa (aa (aa (aa Q1 37 (e 4)) 38 (e 6)) 39 x25) 40 x26) 41 x27) 42 (e 4)) 43 (e 5)) 44 x28) 45 x29) 46 x30) 47 x31) 48 x31);ay x31 (ag (dx 2 (e 4) (e 6)) fun x32=>ag (bQ 1 x32) fun x33=>ag (aj none x33 h) fun x34=>ag (dx 2 (e 4) (e 5)) fun x35=>ag (bQ 1 x35) fun x36=>ag (aj none x36 h) fun x37=>ag (oz (.int .i64) x34 x37) fun x38=>let Q3:=(aa (aa (aa (aa (aa (aa (aa (aa (aa (aa (aa (aa (aa (aa (aa (aa (aa (aa (aa (aa (aa (aa (aa Q2 48 (.bool true)) 49 (e 4)) 48 (.bool true)) 50 (e 6)) 48 (.bool true)) 51 x32) 48 (.bool true)) 52 x33) 48 (.bool true)) 53 x34) 48 (.bool true)) 54 (e 4)) 48 (.bool true)) 55 (e 5)) 48 (.bool true)) 56 x35) 48 (.bool true)) 57 x36) 48 (.bool true)) 58 x37) 48 (.bool true)) 59 x38) 60 x38);ay x38 (K .ret ⟨(aa Q3 2 (.bool false)),67,[],h⟩) (ag (aF .add (e 6) (.int .i64 1)) fun x39=>K .normal ⟨(aa (aa (aa Q3 35 (e 6)) 36 x39) 6 x39),67,[],h⟩)) (ag (aF .add (e 6) (.int .i64 1)) fun x40=>K .normal ⟨(aa (aa (aa (aa (aa (aa (aa (aa (aa (aa (aa (aa (aa (aa (aa (aa (aa (aa (aa (aa (aa (aa (aa (aa (aa (aa Q2 48 (.bool false)) 49 bG) 48 (.bool false)) 50 bG) 48 (.bool false)) 51 bG) 48 (.bool false)) 52 bG) 48 (.bool false)) 53 bG) 48 (.bool false)) 54 bG) 48 (.bool false)) 55 bG) 48 (.bool false)) 56 bG) 48 (.bool false)) 57 bG) 48 (.bool false)) 58 bG) 48 (.bool false)) 59 bG) 60 (.bool false)) 35 (e 6)) 36 x40) 6 x40),67,[],h⟩)) (K (.exit 4) ⟨Q1,67,[],h⟩)):=by kernel_rfl
theorem F.bt.fV{e:Env}{h:af}{K:AX→St→Bool}:F.bt.tU K (.exit 4) ⟨e,67,[],h⟩=(ag (aF .add (e 5) (.int .i64 1)) fun x41=>K .normal ⟨(aa (aa (aa e 30 (e 5)) 31 x41) 5 x41),67,[],h⟩):=by kernel_rfl
theorem F.bt.tg{e:Env}{h:af}{K:AX→St→Bool}:F.bt.tU K .ret ⟨e,67,[],h⟩=(K .ret ⟨e,67,[],h⟩):=by kernel_rfl
theorem F.ym{a0:AV}{h:af}{K:Out→af→Bool}:au Tryz.prog (ah Tryz.prog) (ai Tryz.f31) ⟨aB [a0],67,[],h⟩ (az Tryz.prog cg Tryz.f31.results.toList K)=(ag (bR .slice a0 h) fun x0=>ag (aF .gtr x0 (.int .i64 60)) fun x1=>ay x1 (K (.ret (.bool false)) h) (bS (au Tryz.prog (ah Tryz.prog) F.bt.L0) ⟨(aa (aa (aa (aa (aa (aB [a0]) 2 (.bool false)) 9 a0) 10 x0) 11 x1) 3 (.int .i64 0)),67,[],h⟩ (F.bt.cB K))):=by kernel_rfl
theorem F.vX{a0:AV}{h:af}{K:Out→af→Bool}(hh:au Tryz.prog (ah Tryz.prog) (ai Tryz.f31) ⟨aB [a0],67,[],h⟩ (az Tryz.prog cg Tryz.f31.results.toList K)=true):Sem Tryz.prog 31 [a0] h K:=
 aN mixed (aL _) Tryz.func31 (c:=ai Tryz.f31) rfl (by decide) (of_decide_eq_true (by kernel_rfl)) hh
noncomputable def F.aV.L0:Code:=partOf (ai Tryz.f32) [1,1,1,0,1,0,0]
noncomputable def F.aV.cB(K:Out→af→Bool):AX→St→Bool:=(aY 0 (cD false (au Tryz.prog (ah Tryz.prog) (partOf (ai Tryz.f32) [1,1,1,1])) (az Tryz.prog cg Tryz.f32.results.toList K)))
noncomputable def F.aV.L1:Code:=partOf (ai Tryz.f32) [1,1,1,0,1,0,0,1,0,1,1,0,0]
noncomputable def F.aV.jj(K:AX→St→Bool):AX→St→Bool:=(aY 2 (aY 1 K))
noncomputable def F.aV.L2:Code:=partOf (ai Tryz.f32) [1,1,1,0,1,0,0,1,0,1,1,0,0,1,0,0,1,0,1,0,0]
noncomputable def F.aV.tU(K:AX→St→Bool):AX→St→Bool:=(aY 4 (cD false (au Tryz.prog (ah Tryz.prog) (partOf (ai Tryz.f32) [1,1,1,0,1,0,0,1,0,1,1,0,0,1,0,0,1,1])) (aY 3 (cD false (au Tryz.prog (ah Tryz.prog) (partOf (ai Tryz.f32) [1,1,1,0,1,0,0,1,0,1,1,0,0,1,1])) K))))
noncomputable def F.aV.J0(K:AX→St→Bool)(s:St):Bool:=F8 (au Tryz.prog (ah Tryz.prog) (partOf (ai Tryz.f32) [1,1,1,0,1,0,0,1,0,1,1,0,0,1,0,0,1,0,1,0,0,1,0,0,1,1,1,0,1,1])) s (aY 5 (cD false (au Tryz.prog (ah Tryz.prog) (partOf (ai Tryz.f32) [1,1,1,0,1,0,0,1,0,1,1,0,0,1,0,0,1,0,1,0,0,1,1])) K))
theorem F.aV.aP{e:Env}{h:af}{K:AX→St→Bool}:au Tryz.prog (ah Tryz.prog) F.aV.L0 ⟨e,89,[],h⟩ K=(ay (e 6) (bS (au Tryz.prog (ah Tryz.prog) F.aV.L1) ⟨(aa (aa (aa e 18 (e 6)) 6 (.bool false)) 7 (.int .i64 0)),89,[],h⟩ (F.aV.jj K)) (K (.exit 0) ⟨(aa e 18 (e 6)),89,[],h⟩)):=by kernel_rfl
theorem F.aV.aG{e:Env}{h:af}{K:Out→af→Bool}:F.aV.cB K (.exit 0) ⟨e,89,[],h⟩=(K (.ret (.tuple [(e 5),(.bool true)])) h):=by kernel_rfl
theorem F.aV.bp{e:Env}{h:af}{K:Out→af→Bool}:F.aV.cB K .ret ⟨e,89,[],h⟩=(K (.ret (.tuple [(e 2),(e 3)])) h):=by kernel_rfl
theorem F.aV.dc{e:Env}{h:af}{K:AX→St→Bool}:au Tryz.prog (ah Tryz.prog) F.aV.L1 ⟨e,89,[],h⟩ K=(ag (bR .slice (e 0) h) fun x7=>ag (aF .lss (e 7) x7) fun x8=>let Q1:=(aa (aa (aa (aa e 19 (e 7)) 20 (e 0)) 21 x7) 22 x8);ay x8 (ag (dx 3 (e 0) (e 7)) fun x9=>ag (bQ 0 x9) fun x10=>ag (bQ 0 x10) fun x11=>ag (aj none x11 h) fun x12=>ah Tryz.prog 58 [(e 4),x12] h (bO (fun x13 h14=>bS (au Tryz.prog (ah Tryz.prog) F.aV.L2) ⟨(aa (aa (aa (aa (aa (aa (aa (aa (aa (aa Q1 25 (e 4)) 26 (e 0)) 27 (e 7)) 28 x9) 29 x10) 30 x11) 31 x12) 32 x13) 8 x13) 9 (.int .i64 0)),89,[],h14⟩ (F.aV.tU K)) (fun v15 h16=>K (.panic v15) ⟨(aa (aa (aa (aa (aa (aa (aa Q1 25 (e 4)) 26 (e 0)) 27 (e 7)) 28 x9) 29 x10) 30 x11) 31 x12),89,[],h16⟩))) (K (.exit 2) ⟨Q1,89,[],h⟩)):=by kernel_rfl
theorem F.aV.cx{e:Env}{h:af}{K:AX→St→Bool}:F.aV.jj K (.exit 2) ⟨e,89,[],h⟩=(K .normal ⟨e,89,[],h⟩):=by kernel_rfl
theorem F.aV.gK{e:Env}{h:af}{K:AX→St→Bool}:F.aV.jj K .ret ⟨e,89,[],h⟩=(K .ret ⟨e,89,[],h⟩):=by kernel_rfl
theorem F.aV.jF{e:Env}{h:af}{K:AX→St→Bool}:au Tryz.prog (ah Tryz.prog) F.aV.L2 ⟨e,89,[],h⟩ K=(ag (dx 3 (e 0) (e 7)) fun x17=>ag (bQ 2 x17) fun x18=>ag (aj none x18 h) fun x19=>ag (bR .slice x19 h) fun x20=>ag (aF .lss (e 9) x20) fun x21=>let Q1:=(aa (aa (aa (aa (aa (aa (aa (aa e 33 (e 9)) 34 (e 0)) 35 (e 7)) 36 x17) 37 x18) 38 x19) 39 x20) 40 x21);ay x21 (ag (dx 3 (e 0) (e 7)) fun x22=>ag (bQ 2 x22) fun x23=>ag (aj none x23 h) fun x24=>ag (dx 4 x24 (e 9)) fun x25=>ag (aj (some 4) x25 h) fun x26=>ag (bH 4 (.ptr (af.next h) 0) x26 (af.alloc h (.cells [(.int .i64 0),(.bool false),(.str []),.nils]))) fun h27=>ag (bQ 2 (.ptr (af.next h) 0)) fun x28=>ag (bQ 0 x28) fun x29=>ag (aj none x29 h27) fun x30=>ah Tryz.prog 58 [(e 4),x30] h27 (bO (fun x31 h32=>ag (bQ 0 (.ptr (af.next h) 0)) fun x35=>ag (aj none x35 h32) fun x36=>ag (gO (.int .i64) x36 (.int .i64 0)) fun x37=>let Q2:=(aa (aa (aa (aa (aa (aa (aa (aa (aa (aa (aa (aa (aa (aa (aa (aa (aa (aa (aa Q1 43 (e 0)) 44 (e 7)) 45 x22) 46 x23) 47 x24) 48 (e 9)) 49 x25) 50 x26) 10 (.ptr (af.next h) 0)) 51 (e 4)) 52 x28) 53 x29) 54 x30) 55 x31) 11 x31) 56 x35) 57 x36) 58 x37) 59 x37);ay x37 (ag (aF .geq x31 (.int .i64 0)) fun x38=>let Q3:=(aa (aa (aa (aa (aa Q2 59 (.bool true)) 60 x31) 59 (.bool true)) 61 x38) 62 x38);ay x38 (ag (dx 1 (e 5) x31) fun x39=>ag (aj none x39 h32) fun x40=>ag (bQ 1 (.ptr (af.next h) 0)) fun x41=>ag (aj none x41 h32) fun x42=>let Q4:=(aa (aa (aa (aa (aa (aa (aa Q3 63 (e 5)) 64 x31) 65 x39) 66 x40) 12 x40) 67 x41) 68 x42);ay x42 (ag (aF .add x40 (.int .i64 1)) fun x43=>F.aV.J0 K ⟨(aa (aa (aa Q4 69 x40) 70 x43) 12 x43),89,[],h32⟩) (F.aV.J0 K ⟨Q4,89,[],h32⟩)) (ag (aF .add (e 9) (.int .i64 1)) fun x44=>K .normal ⟨(aa (aa (aa Q3 41 (e 9)) 42 x44) 9 x44),89,[],h32⟩)) (ag (aF .add (e 9) (.int .i64 1)) fun x45=>K .normal ⟨(aa (aa (aa (aa (aa (aa (aa (aa Q2 59 (.bool false)) 60 bG) 59 (.bool false)) 61 bG) 62 (.bool false)) 41 (e 9)) 42 x45) 9 x45),89,[],h32⟩)) (fun v33 h34=>K (.panic v33) ⟨(aa (aa (aa (aa (aa (aa (aa (aa (aa (aa (aa (aa (aa Q1 43 (e 0)) 44 (e 7)) 45 x22) 46 x23) 47 x24) 48 (e 9)) 49 x25) 50 x26) 10 (.ptr (af.next h) 0)) 51 (e 4)) 52 x28) 53 x29) 54 x30),89,[],h34⟩))) (K (.exit 4) ⟨Q1,89,[],h⟩)):=by kernel_rfl
theorem F.aV.fV{e:Env}{h:af}{K:AX→St→Bool}:F.aV.tU K (.exit 4) ⟨e,89,[],h⟩=(ag (dx 1 (e 5) (e 8)) fun x46=>ag (aj none x46 h) fun x47=>ag (bR .slice (e 4) h) fun x48=>ag (aF .gtr x47 x48) fun x49=>let Q1:=(aa (aa (aa (aa (aa (aa (aa e 81 (e 5)) 82 (e 8)) 83 x46) 84 x47) 85 (e 4)) 86 x48) 87 x49);ay x49 (K .ret ⟨(aa (aa Q1 2 .nils) 3 (.bool false)),89,[],h⟩) (ag (aF .add (e 7) (.int .i64 1)) fun x50=>K .normal ⟨(aa (aa (aa Q1 23 (e 7)) 24 x50) 7 x50),89,[],h⟩)):=by kernel_rfl
theorem F.aV.yh{e:Env}{h:af}{K:AX→St→Bool}:F.aV.J0 K ⟨e,89,[],h⟩=(ag (dx 1 (e 5) (e 8)) fun x51=>ag (aj none x51 h) fun x52=>ag (aF .gtr (e 12) x52) fun x53=>let Q1:=(aa (aa (aa (aa (aa (aa e 71 (e 12)) 72 (e 5)) 73 (e 8)) 74 x51) 75 x52) 76 x53);ay x53 (ag (dx 1 (e 5) (e 8)) fun x54=>ag (bH 1 x54 (e 12) h) fun h55=>ag (aF .add (e 9) (.int .i64 1)) fun x56=>K .normal ⟨(aa (aa (aa (aa (aa (aa (aa (aa Q1 77 (e 5)) 78 (e 8)) 79 (e 12)) 80 x54) 6 (.bool true)) 41 (e 9)) 42 x56) 9 x56),89,[],h55⟩) (ag (aF .add (e 9) (.int .i64 1)) fun x57=>K .normal ⟨(aa (aa (aa Q1 41 (e 9)) 42 x57) 9 x57),89,[],h⟩)):=(sW _ _ _).trans (by kernel_rfl)
theorem F.vY{a0:AV}{h:af}{K:Out→af→Bool}:au Tryz.prog (ah Tryz.prog) (ai Tryz.f32) ⟨aB [a0],89,[],h⟩ (az Tryz.prog cg Tryz.f32.results.toList K)=(ah Tryz.prog 34 [a0] h (bO (fun x0 h1=>ag (bR .slice x0 h1) fun x4=>cL (eX 1 8 [(.int .i64 0)] x4 x4 h1) fun x5 h6=>bS (au Tryz.prog (ah Tryz.prog) F.aV.L0) ⟨(aa (aa (aa (aa (aa (aa (aa (aa (aa (aa (aB [a0]) 2 .nils) 3 (.bool false)) 13 a0) 14 x0) 4 x0) 15 x0) 16 x4) 17 x5) 5 x5) 6 (.bool true)),89,[],h6⟩ (F.aV.cB K)) (fun v2 h3=>K (.panic v2) h3))):=by kernel_rfl
theorem F.ux{a0:AV}{h:af}{K:Out→af→Bool}(hh:au Tryz.prog (ah Tryz.prog) (ai Tryz.f32) ⟨aB [a0],89,[],h⟩ (az Tryz.prog cg Tryz.f32.results.toList K)=true):Sem Tryz.prog 32 [a0] h K:=
 aN mixed (aL _) Tryz.func32 (c:=ai Tryz.f32) rfl (by decide) (of_decide_eq_true (by kernel_rfl)) hh
end
end Go.AM
namespace Go.AM
open Go Go.Proofs
noncomputable section
noncomputable def F.cE.L0:Code:=partOf (ai Tryz.f69) [1,1,0,1,0,0]
noncomputable def F.cE.cB(K:Out→af→Bool):AX→St→Bool:=(aY 0 (cD false (au Tryz.prog (ah Tryz.prog) (partOf (ai Tryz.f69) [1,1,1])) (az Tryz.prog cg Tryz.f69.results.toList K)))
theorem F.cE.aP{e:Env}{h:af}{K:AX→St→Bool}:au Tryz.prog (ah Tryz.prog) F.cE.L0 ⟨e,24,[],h⟩ K=(ag (aF .lss (e 10) (e 9)) fun x1=>ay x1 (ag (dx 1 (e 8) (e 10)) fun x2=>ag (aj none x2 h) fun x3=>ag (bY (e 0)) fun x4=>ag (bQ 0 x4) fun x5=>ag (aj none x5 h) fun x6=>ag (aF .mul (e 5) x6) fun x7=>ag (aF .add x7 x3) fun x8=>ag (aF .add (e 10) (.int .i64 1)) fun x9=>K .normal ⟨(aa (aa (aa (aa (aa (aa (aa (aa (aa (aa (aa (aa (aa (aa (aa e 11 x1) 12 x2) 13 x3) 7 x3) 14 (e 5)) 15 (e 0)) 16 x4) 17 x5) 18 x6) 19 x7) 20 x3) 21 x8) 5 x8) 22 x9) 10 x9),24,[],h⟩) (K (.exit 0) ⟨(aa e 11 x1),24,[],h⟩)):=by kernel_rfl
theorem F.cE.aG{e:Env}{h:af}{K:Out→af→Bool}:F.cE.cB K (.exit 0) ⟨e,24,[],h⟩=(K (.ret (e 5)) h):=by kernel_rfl
theorem F.kr{a0 a1:AV}{h:af}{K:Out→af→Bool}:au Tryz.prog (ah Tryz.prog) (ai Tryz.f69) ⟨aB [a0,a1],24,[],h⟩ (az Tryz.prog cg Tryz.f69.results.toList K)=(ag (bR .slice a1 h) fun x0=>bS (au Tryz.prog (ah Tryz.prog) F.cE.L0) ⟨(aa (aa (aa (aa (aa (aB [a0,a1]) 4 (.int .i64 0)) 5 (.int .i64 0)) 8 a1) 9 x0) 10 (.int .i64 0)),24,[],h⟩ (F.cE.cB K)):=by kernel_rfl
theorem F.j6{a0 a1:AV}{h:af}{K:Out→af→Bool}(hh:au Tryz.prog (ah Tryz.prog) (ai Tryz.f69) ⟨aB [a0,a1],24,[],h⟩ (az Tryz.prog cg Tryz.f69.results.toList K)=true):Sem Tryz.prog 69 [a0,a1] h K:=
 aN mixed (aL _) Tryz.func69 (c:=ai Tryz.f69) rfl (by decide) (of_decide_eq_true (by kernel_rfl)) hh
noncomputable def F.eO.L0:Code:=partOf (ai Tryz.f124) [1,1,0,1,0,0]
noncomputable def F.eO.cB(K:Out→af→Bool):AX→St→Bool:=(aY 0 (cD false (au Tryz.prog (ah Tryz.prog) (partOf (ai Tryz.f124) [1,1,1])) (az Tryz.prog cg Tryz.f124.results.toList K)))
theorem F.eO.aP{e:Env}{h:af}{K:AX→St→Bool}:au Tryz.prog (ah Tryz.prog) F.eO.L0 ⟨e,27,[],h⟩ K=(ag (aF .lss (e 13) (e 12)) fun x4=>ay x4 (ag (dx 1 (e 11) (e 13)) fun x5=>ag (aj none x5 h) fun x6=>ag (dx 1 (e 0) x6) fun x7=>ag (aj none x7 h) fun x8=>ag (dx 1 (e 5) (e 13)) fun x9=>ag (bH 1 x9 x8 h) fun h10=>ag (aF .add (e 13) (.int .i64 1)) fun x11=>K .normal ⟨(aa (aa (aa (aa (aa (aa (aa (aa (aa (aa (aa (aa (aa (aa (aa e 14 x4) 15 (e 13)) 16 x5) 17 x6) 6 (e 13)) 7 x6) 18 (e 5)) 19 (e 13)) 20 (e 0)) 21 x6) 22 x7) 23 x8) 24 x9) 25 x11) 13 x11),27,[],h10⟩) (K (.exit 0) ⟨(aa e 14 x4),27,[],h⟩)):=by kernel_rfl
theorem F.eO.aG{e:Env}{h:af}{K:Out→af→Bool}:F.eO.cB K (.exit 0) ⟨e,27,[],h⟩=(K (.ret (e 5)) h):=by kernel_rfl
theorem F.ri{a0 a1:AV}{h:af}{K:Out→af→Bool}:au Tryz.prog (ah Tryz.prog) (ai Tryz.f124) ⟨aB [a0,a1],27,[],h⟩ (az Tryz.prog cg Tryz.f124.results.toList K)=(ag (bR .slice a1 h) fun x0=>cL (eX 1 8 [(.int .i64 0)] x0 x0 h) fun x1 h2=>ag (bR .slice a1 h2) fun x3=>bS (au Tryz.prog (ah Tryz.prog) F.eO.L0) ⟨(aa (aa (aa (aa (aa (aa (aa (aa (aB [a0,a1]) 4 .nils) 8 a1) 9 x0) 10 x1) 5 x1) 11 a1) 12 x3) 13 (.int .i64 0)),27,[],h2⟩ (F.eO.cB K)):=by kernel_rfl
theorem F.oT{a0 a1:AV}{h:af}{K:Out→af→Bool}(hh:au Tryz.prog (ah Tryz.prog) (ai Tryz.f124) ⟨aB [a0,a1],27,[],h⟩ (az Tryz.prog cg Tryz.f124.results.toList K)=true):Sem Tryz.prog 124 [a0,a1] h K:=
 aN mixed (aL _) Tryz.func124 (c:=ai Tryz.f124) rfl (by decide) (of_decide_eq_true (by kernel_rfl)) hh
theorem F.oU{a0 a1 a2:AV}{h:af}{K:Out→af→Bool}:au Tryz.prog (ah Tryz.prog) (ai Tryz.f129) ⟨aB [a0,a1,a2],47,[],h⟩ (az Tryz.prog cg Tryz.f129.results.toList K)=(ag (ef a1) fun c0=>ag (bQ 0 (.ptr (af.next h) 0)) fun x1=>ag (aj none x1 (af.alloc h (.cells c0))) fun x2=>ag (gO (.int .i64) x2 (.int .i64 0)) fun x3=>ay x3 (ag (bY a0) fun x4=>ag (bQ 1 x4) fun x5=>ag (aj none x5 (af.alloc h (.cells c0))) fun x6=>ag (bQ 2 (.ptr (af.next h) 0)) fun x7=>ag (bQ 0 x7) fun x8=>ag (aj none x8 (af.alloc h (.cells c0))) fun x9=>ag (cV .string .nils false x6 x9 (af.alloc h (.cells c0))) fun x10=>ah Tryz.prog 69 [a0,a2] (af.alloc h (.cells c0)) (bO (fun x11 h12=>if ((ag (cV .string .nils false x6 x9 h12) fun x13=>AV.beq x13 x10)&&((ag (aj none x8 h12) fun x14=>AV.beq x14 x9)&&((ag (aj none x5 h12) fun x15=>AV.beq x15 x6)&&true)))=true then (ag (dx 1 x10 x11) fun x16=>ag (aj none x16 h12) fun x17=>ag (bQ 1 (.ptr (af.next h) 0)) fun x18=>ag (aj none x18 h12) fun x19=>ag (oz .bool x17 x19) fun x20=>K (.ret x20) h12) else false) (fun _ _=>false))) (ag (gO (.int .i64) x2 (.int .i64 1)) fun x21=>ay x21 (ag (dx 1 a2 (.int .i64 0)) fun x22=>ag (aj none x22 (af.alloc h (.cells c0))) fun x23=>ag (dx 1 a2 (.int .i64 1)) fun x24=>ag (aj none x24 (af.alloc h (.cells c0))) fun x25=>ag (gO (.int .i64) x23 x25) fun x26=>ag (bQ 1 (.ptr (af.next h) 0)) fun x27=>ag (aj none x27 (af.alloc h (.cells c0))) fun x28=>ag (oz .bool x26 x28) fun x29=>K (.ret x29) (af.alloc h (.cells c0))) (ag (gO (.int .i64) x2 (.int .i64 2)) fun x30=>ay x30 (ag (dx 1 a2 (.int .i64 0)) fun x31=>ag (aj none x31 (af.alloc h (.cells c0))) fun x32=>ag (dx 1 a2 (.int .i64 1)) fun x33=>ag (aj none x33 (af.alloc h (.cells c0))) fun x34=>ag (aF .lss x32 x34) fun x35=>ag (bQ 1 (.ptr (af.next h) 0)) fun x36=>ag (aj none x36 (af.alloc h (.cells c0))) fun x37=>ag (oz .bool x35 x37) fun x38=>K (.ret x38) (af.alloc h (.cells c0))) (ag (bQ 1 (.ptr (af.next h) 0)) fun x39=>ag (aj none x39 (af.alloc h (.cells c0))) fun x40=>ag (oz .bool (.bool false) x40) fun x41=>K (.ret x41) (af.alloc h (.cells c0)))))):=by kernel_rfl
theorem F.om{a0 a1 a2:AV}{h:af}{K:Out→af→Bool}(hh:au Tryz.prog (ah Tryz.prog) (ai Tryz.f129) ⟨aB [a0,a1,a2],47,[],h⟩ (az Tryz.prog cg Tryz.f129.results.toList K)=true):Sem Tryz.prog 129 [a0,a1,a2] h K:=
 aN mixed (aL _) Tryz.func129 (c:=ai Tryz.f129) rfl (by decide) (of_decide_eq_true (by kernel_rfl)) hh
noncomputable def F.cc.L0:Code:=partOf (ai Tryz.f109) [1,1,1,1,0,1,0,0]
noncomputable def F.cc.cB(K:Out→af→Bool):AX→St→Bool:=(aY 0 (cD false (au Tryz.prog (ah Tryz.prog) (partOf (ai Tryz.f109) [1,1,1,1,1])) (az Tryz.prog cg Tryz.f109.results.toList K)))
noncomputable def F.cc.L1:Code:=partOf (ai Tryz.f109) [1,1,1,1,0,1,0,0,1,1,0,0,1,1,1,0,1,0,0]
noncomputable def F.cc.jj(K:AX→St→Bool):AX→St→Bool:=(aY 2 (cD false (au Tryz.prog (ah Tryz.prog) (partOf (ai Tryz.f109) [1,1,1,1,0,1,0,0,1,1,0,0,1,1,1,1])) (aY 1 (cD false (au Tryz.prog (ah Tryz.prog) (partOf (ai Tryz.f109) [1,1,1,1,0,1,0,0,1,1,1])) K))))
theorem F.cc.aP{e:Env}{h:af}{K:AX→St→Bool}:au Tryz.prog (ah Tryz.prog) F.cc.L0 ⟨e,63,[],h⟩ K=(ag (aF .lss (e 30) (e 29)) fun x23=>ay x23 (ag (dx 4 (e 28) (e 30)) fun x24=>ag (aj (some 4) x24 h) fun x25=>ag (bH 4 (.ptr (af.next h) 0) x25 (af.alloc h (.cells [(.int .i64 0),(.bool false),(.str []),.nils]))) fun h26=>ag (bQ 2 (.ptr (af.next h) 0)) fun x27=>ag (bQ 1 x27) fun x28=>ag (aj none x28 h26) fun x29=>me (e 6) fun f35 a36 a37=>ah Tryz.prog f35 (a36++([x29]++a37)) h26 (bO (fun x30 h31=>ag (bR .slice x30 h31) fun x34=>bS (au Tryz.prog (ah Tryz.prog) F.cc.L1) ⟨(aa (aa (aa (aa (aa (aa (aa (aa (aa (aa (aa (aa (aa (aa e 31 x23) 32 x24) 33 x25) 9 (.ptr (af.next h) 0)) 34 (e 6)) 35 x27) 36 x28) 37 x29) 38 x30) 10 x30) 11 (.int .i64 (-1))) 39 x30) 40 x34) 41 (.int .i64 0)),63,[],h31⟩ (F.cc.jj K)) (fun v32 h33=>K (.panic v32) ⟨(aa (aa (aa (aa (aa (aa (aa (aa e 31 x23) 32 x24) 33 x25) 9 (.ptr (af.next h) 0)) 34 (e 6)) 35 x27) 36 x28) 37 x29),63,[],h33⟩))) (K (.exit 0) ⟨(aa e 31 x23),63,[],h⟩)):=by kernel_rfl
theorem F.cc.aG{e:Env}{h:af}{K:Out→af→Bool}:F.cc.cB K (.exit 0) ⟨e,63,[],h⟩=(ag (aj (some 8) (e 7) h) fun x38=>ag (bH 8 (e 4) x38 h) fun h39=>ag (eL Tryz.prog ⟨(aa e 62 x38),63,[],h39⟩ Tryz.f109.results.toList) fun vs=>K (.ret (oneOf vs)) h39):=by kernel_rfl
theorem F.cc.dc{e:Env}{h:af}{K:AX→St→Bool}:au Tryz.prog (ah Tryz.prog) F.cc.L1 ⟨e,63,[],h⟩ K=(ag (aF .lss (e 41) (e 40)) fun x40=>ay x40 (ag (dx 1 (e 39) (e 41)) fun x41=>ag (aj none x41 h) fun x42=>ag (qW true (e 11) [x42]) fun x43=>ag (aF .add (e 41) (.int .i64 1)) fun x44=>K .normal ⟨(aa (aa (aa (aa (aa (aa (aa (aa (aa (aa e 42 x40) 43 x41) 44 x42) 13 x42) 45 (e 11)) 46 x42) 47 x43) 11 x43) 48 x44) 41 x44),63,[],h⟩) (K (.exit 2) ⟨(aa e 42 x40),63,[],h⟩)):=by kernel_rfl
theorem F.cc.cx{e:Env}{h:af}{K:AX→St→Bool}:F.cc.jj K (.exit 2) ⟨e,63,[],h⟩=(ag (bQ 6 (e 7)) fun x45=>ag (aj none x45 h) fun x46=>ag (fE [.nils] [(0,1)] [(e 10)]) fun c47=>ag (bQ 7 (e 7)) fun x48=>ag (aj none x48 (af.alloc h (.cells c47))) fun x49=>ag (fE [(.int .i64 0)] [(0,1)] [(e 11)]) fun c50=>cL (cq 1 24 x46 (.slice (af.next h) 0 1 1) (af.alloc (af.alloc h (.cells c47)) (.cells c50))) fun x51 h52=>if ((ag (aj none x48 h52) fun x53=>AV.beq x53 x49)&&true)=true then (ag (bQ 6 (e 7)) fun x54=>cL (cq 1 8 x49 (.slice (af.next (af.alloc h (.cells c47))) 0 1 1) h52) fun x55 h56=>ag (bH 1 x54 x51 h56) fun h57=>ag (bQ 7 (e 7)) fun x58=>ag (bH 1 x58 x55 h57) fun h59=>ag (aF .add (e 30) (.int .i64 1)) fun x60=>K .normal ⟨(aa (aa (aa (aa (aa (aa (aa (aa (aa (aa (aa (aa (aa (aa e 49 x45) 50 x46) 51 (e 10)) 52 (.slice (af.next h) 0 1 1)) 54 x48) 55 x49) 56 (e 11)) 57 (.slice (af.next (af.alloc h (.cells c47))) 0 1 1)) 53 x51) 59 x54) 58 x55) 60 x58) 61 x60) 30 x60),63,[],h59⟩) else false):=by kernel_rfl
theorem F.vZ{a0 a1:AV}{h:af}{K:Out→af→Bool}:au Tryz.prog (ah Tryz.prog) (ai Tryz.f109) ⟨aB [a0,a1],63,[],h⟩ (az Tryz.prog cg Tryz.f109.results.toList K)=(ag (ef a1) fun c0=>ag (aj (some 3) (.ptr (af.next h) 0) (af.alloc (af.alloc h (.cells c0)) (.cells [(.int .i64 0),(.str []),.nils,.nils,(.int .i64 0),.nils,.nils,.nils]))) fun x1=>ah Tryz.prog 108 [x1] (af.alloc (af.alloc h (.cells c0)) (.cells [(.int .i64 0),(.str []),.nils,.nils,(.int .i64 0),.nils,.nils,.nils])) (bO (fun x2 h3=>ag (bH 1 (.ptr (af.next h3) 0) x2 (af.alloc h3 (.cells [.nils]))) fun h6=>ag (aj (some 3) (.ptr (af.next h) 0) h6) fun x7=>ag (aj none (.ptr (af.next h3) 0) h6) fun x8=>ag (bR .slice x8 h6) fun x9=>ag (bQ 0 (.ptr (af.next h) 0)) fun x10=>ag (bQ 1 x10) fun x11=>ag (aj none x11 h6) fun x12=>ah Tryz.prog 156 [x12,(.ptr (af.next h3) 0)] (af.alloc h6 (.cells [(.int .i64 0),(.str []),.nils,.nils,(.int .i64 0),.nils,.nils,.nils])) (bO (fun x13 h14=>if ((ag (bR .slice x8 h14) fun x15=>AV.beq x15 x9)&&((ag (aj none (.ptr (af.next h3) 0) h14) fun x16=>AV.beq x16 x8)&&((ag (aj (some 3) (.ptr (af.next h) 0) h14) fun x17=>AV.beq x17 x7)&&true)))=true then (ag (jo [(.int .i64 0),(.str []),.nils,.nils,(.int .i64 0),.nils,.nils,.nils] [(0,1),(1,3),(4,1),(5,1)] [a0,x7,x9,x13]) fun x18=>ag (bH 8 (.ptr (af.next h6) 0) x18 h14) fun h19=>ag (bQ 2 (.ptr (af.next h) 0)) fun x20=>ag (aj none x20 h19) fun x21=>ag (bR .slice x21 h19) fun x22=>bS (au Tryz.prog (ah Tryz.prog) F.cc.L0) ⟨(aa (aa (aa (aa (aa (aa (aa (aa (aa (aa (aa (aa (aa (aa (aa (aa (aa (aa (aa (aa (aa (aa (aB [a0,a1]) 3 (.ptr (af.next h) 0)) 4 (.ptr (af.next (af.alloc h (.cells c0))) 0)) 14 x1) 15 x2) 5 (.ptr (af.next h3) 0)) 16 (.func 156 [] [(.ptr (af.next h3) 0)])) 6 (.func 156 [] [(.ptr (af.next h3) 0)])) 17 a0) 18 x7) 19 x8) 20 x9) 21 (.func 156 [] [(.ptr (af.next h3) 0)])) 22 x10) 23 x11) 24 x12) 7 (.ptr (af.next h6) 0)) 25 x13) 26 x18) 27 x20) 28 x21) 29 x22) 30 (.int .i64 0)),63,[],h19⟩ (F.cc.cB K)) else false) (fun _ _=>false))) (fun v4 h5=>K (.panic v4) h5))):=by kernel_rfl
theorem F.uy{a0 a1:AV}{h:af}{K:Out→af→Bool}(hh:au Tryz.prog (ah Tryz.prog) (ai Tryz.f109) ⟨aB [a0,a1],63,[],h⟩ (az Tryz.prog cg Tryz.f109.results.toList K)=true):Sem Tryz.prog 109 [a0,a1] h K:=
 aN mixed (aL _) Tryz.func109 (c:=ai Tryz.f109) rfl (by decide) (of_decide_eq_true (by kernel_rfl)) hh
noncomputable def F.dY.L0:Code:=partOf (ai Tryz.f156) [1,1,0,1,0,0]
noncomputable def F.dY.cB(K:Out→af→Bool):AX→St→Bool:=(aY 0 (cD false (au Tryz.prog (ah Tryz.prog) (partOf (ai Tryz.f156) [1,1,1])) (az Tryz.prog cg Tryz.f156.results.toList K)))
theorem F.dY.aP{e:Env}{h:af}{K:AX→St→Bool}:au Tryz.prog (ah Tryz.prog) F.dY.L0 ⟨e,21,[],h⟩ K=(ag (aF .lss (e 9) (e 8)) fun x1=>ay x1 (ag (dx 1 (e 7) (e 9)) fun x2=>ag (aj none x2 h) fun x3=>ag (aj none (e 1) h) fun x4=>ah Tryz.prog 157 [x4,x3] h (bO (fun x5 h6=>ag (fE [(.int .i64 0)] [(0,1)] [x5]) fun c9=>cL (cq 1 8 (e 4) (.slice (af.next h6) 0 1 1) (af.alloc h6 (.cells c9))) fun x10 h11=>ag (aF .add (e 9) (.int .i64 1)) fun x12=>K .normal ⟨(aa (aa (aa (aa (aa (aa (aa (aa (aa (aa (aa (aa (aa e 10 x1) 11 x2) 12 x3) 6 x3) 13 (e 4)) 14 x4) 15 x3) 16 x5) 17 (.slice (af.next h6) 0 1 1)) 18 x10) 4 x10) 19 x12) 9 x12),21,[],h11⟩) (fun v7 h8=>K (.panic v7) ⟨(aa (aa (aa (aa (aa (aa (aa e 10 x1) 11 x2) 12 x3) 6 x3) 13 (e 4)) 14 x4) 15 x3),21,[],h8⟩))) (K (.exit 0) ⟨(aa e 10 x1),21,[],h⟩)):=by kernel_rfl
theorem F.dY.aG{e:Env}{h:af}{K:Out→af→Bool}:F.dY.cB K (.exit 0) ⟨e,21,[],h⟩=(K (.ret (e 4)) h):=by kernel_rfl
theorem F.tj{a0 a1:AV}{h:af}{K:Out→af→Bool}:au Tryz.prog (ah Tryz.prog) (ai Tryz.f156) ⟨aB [a0,a1],21,[],h⟩ (az Tryz.prog cg Tryz.f156.results.toList K)=(ag (bR .slice a0 h) fun x0=>bS (au Tryz.prog (ah Tryz.prog) F.dY.L0) ⟨(aa (aa (aa (aa (aa (aB [a0,a1]) 3 .nils) 4 .nils) 7 a0) 8 x0) 9 (.int .i64 0)),21,[],h⟩ (F.dY.cB K)):=by kernel_rfl
theorem F.rT{a0 a1:AV}{h:af}{K:Out→af→Bool}(hh:au Tryz.prog (ah Tryz.prog) (ai Tryz.f156) ⟨aB [a0,a1],21,[],h⟩ (az Tryz.prog cg Tryz.f156.results.toList K)=true):Sem Tryz.prog 156 [a0,a1] h K:=
 aN mixed (aL _) Tryz.func156 (c:=ai Tryz.f156) rfl (by decide) (of_decide_eq_true (by kernel_rfl)) hh
theorem F.qM{a0 a1 a2:AV}{h:af}{K:Out→af→Bool}:au Tryz.prog (ah Tryz.prog) (ai Tryz.f122) ⟨aB [a0,a1,a2],18,[],h⟩ (az Tryz.prog cg Tryz.f122.results.toList K)=(ag (ef a0) fun c0=>ag (ef a1) fun c1=>ag (ef a2) fun c2=>ag (bQ 4 (.ptr (af.next (af.alloc h (.cells c0))) 0)) fun x3=>ag (aj none x3 (af.alloc (af.alloc (af.alloc h (.cells c0)) (.cells c1)) (.cells c2))) fun x4=>cL (eX 1 8 [(.int .i64 0)] x4 x4 (af.alloc (af.alloc (af.alloc h (.cells c0)) (.cells c1)) (.cells c2))) fun x5 h6=>ag (bH 1 (.ptr (af.next h6) 0) x5 (af.alloc h6 (.cells [.nils]))) fun h7=>ag (bH 1 (.ptr (af.next h7) 0) (.func 166 [] [(.ptr (af.next (af.alloc h (.cells c0))) 0),(.ptr (af.next h) 0),(.ptr (af.next h6) 0)]) (af.alloc h7 (.cells [.nilf]))) fun h8=>ag (bH 1 (.ptr (af.next h8) 0) (.func 167 [] [(.ptr (af.next (af.alloc h (.cells c0))) 0),(.ptr (af.next (af.alloc (af.alloc h (.cells c0)) (.cells c1))) 0),(.ptr (af.next h6) 0),(.ptr (af.next h) 0),(.ptr (af.next h7) 0),(.ptr (af.next h8) 0)]) (af.alloc h8 (.cells [.nilf]))) fun h9=>ag (aj none (.ptr (af.next h7) 0) h9) fun x10=>me x10 fun f23 a24 a25=>ah Tryz.prog f23 (a24++([(.int .i64 (-1))]++a25)) h9 (bO (fun x11 h12=>ay x11 (ag (aj none (.ptr (af.next h8) 0) h12) fun x15=>me x15 fun f20 a21 a22=>ah Tryz.prog f20 (a21++([(.int .i64 0)]++a22)) h12 (bO (fun x16 h17=>K (.ret (.tuple [])) h17) (fun v18 h19=>K (.panic v18) h19))) (K (.ret (.tuple [])) h12)) (fun v13 h14=>K (.panic v13) h14))):=by kernel_rfl
theorem F.oV{a0 a1 a2:AV}{h:af}{K:Out→af→Bool}(hh:au Tryz.prog (ah Tryz.prog) (ai Tryz.f122) ⟨aB [a0,a1,a2],18,[],h⟩ (az Tryz.prog cg Tryz.f122.results.toList K)=true):Sem Tryz.prog 122 [a0,a1,a2] h K:=
 aN mixed (aL _) Tryz.func122 (c:=ai Tryz.f122) rfl (by decide) (of_decide_eq_true (by kernel_rfl)) hh
noncomputable def F.cw.L0:Code:=partOf (ai Tryz.f166) [1,0,1,0,0]
noncomputable def F.cw.cB(K:Out→af→Bool):AX→St→Bool:=(aY 0 (cD false (au Tryz.prog (ah Tryz.prog) (partOf (ai Tryz.f166) [1,1])) (az Tryz.prog cg Tryz.f166.results.toList K)))
theorem F.cw.aP{e:Env}{h:af}{K:AX→St→Bool}:au Tryz.prog (ah Tryz.prog) F.cw.L0 ⟨e,38,[],h⟩ K=(ag (aF .lss (e 12) (e 11)) fun x4=>let Q1:=(aa e 13 x4);ay x4 (ag (dx 4 (e 10) (e 12)) fun x5=>ag (aj (some 4) x5 h) fun x6=>ag (bH 4 (.ptr (af.next h) 0) x6 (af.alloc h (.cells [(.int .i64 0),(.bool false),(.str []),.nils]))) fun h7=>ag (bQ 7 (e 1)) fun x8=>ag (aj none x8 h7) fun x9=>ag (dx 1 x9 (e 12)) fun x10=>ag (aj none x10 h7) fun x11=>ag (gO (.int .i64) x11 (e 0)) fun x12=>let Q2:=(aa (aa (aa (aa (aa (aa (aa (aa (aa (aa (aa (aa (aa Q1 14 (e 12)) 15 x5) 16 x6) 7 (.ptr (af.next h) 0)) 6 (e 12)) 17 x8) 18 x9) 19 (e 12)) 20 x10) 21 x11) 22 (e 0)) 23 x12) 24 x12);ay x12 (ag (aj none (e 2) h7) fun x13=>ag (aj (some 4) (.ptr (af.next h) 0) h7) fun x14=>ag (aj none (e 3) h7) fun x15=>ag (bQ 6 (e 1)) fun x16=>ag (aj none x16 h7) fun x17=>ag (dx 1 x17 (e 12)) fun x18=>ag (aj none x18 h7) fun x19=>ah Tryz.prog 124 [x15,x19] h7 (bO (fun x20 h21=>if ((ag (aj (some 4) (.ptr (af.next h) 0) h21) fun x22=>AV.beq x22 x14)&&((ag (aj none (e 2) h21) fun x23=>AV.beq x23 x13)&&true))=true then (ah Tryz.prog 129 [x13,x14,x20] h21 (bO (fun x24 h25=>ag (jl .not x24) fun x26=>let Q3:=(aa (aa (aa (aa (aa (aa (aa (aa (aa (aa (aa (aa (aa (aa (aa (aa (aa (aa (aa (aa (aa (aa (aa Q2 24 (.bool true)) 25 x13) 24 (.bool true)) 26 x14) 24 (.bool true)) 27 x15) 24 (.bool true)) 28 x16) 24 (.bool true)) 29 x17) 24 (.bool true)) 30 (e 12)) 24 (.bool true)) 31 x18) 24 (.bool true)) 32 x19) 24 (.bool true)) 33 x20) 24 (.bool true)) 34 x24) 24 (.bool true)) 35 x26) 36 x26);ay x26 (K .ret ⟨(aa Q3 5 (.bool false)),38,[],h25⟩) (ag (aF .add (e 12) (.int .i64 1)) fun x27=>K .normal ⟨(aa (aa Q3 37 x27) 12 x27),38,[],h25⟩)) (fun _ _=>false))) else false) (fun _ _=>false))) (ag (aF .add (e 12) (.int .i64 1)) fun x28=>K .normal ⟨(aa (aa (aa (aa (aa (aa (aa (aa (aa (aa (aa (aa (aa (aa (aa (aa (aa (aa (aa (aa (aa (aa (aa (aa (aa Q2 24 (.bool false)) 25 bG) 24 (.bool false)) 26 bG) 24 (.bool false)) 27 bG) 24 (.bool false)) 28 bG) 24 (.bool false)) 29 bG) 24 (.bool false)) 30 bG) 24 (.bool false)) 31 bG) 24 (.bool false)) 32 bG) 24 (.bool false)) 33 bG) 24 (.bool false)) 34 bG) 24 (.bool false)) 35 bG) 36 (.bool false)) 37 x28) 12 x28),38,[],h7⟩)) (K (.exit 0) ⟨Q1,38,[],h⟩)):=by kernel_rfl
theorem F.cw.aG{e:Env}{h:af}{K:Out→af→Bool}:F.cw.cB K (.exit 0) ⟨e,38,[],h⟩=(K (.ret (.bool true)) h):=by kernel_rfl
theorem F.cw.bp{e:Env}{h:af}{K:Out→af→Bool}:F.cw.cB K .ret ⟨e,38,[],h⟩=(K (.ret (e 5)) h):=by kernel_rfl
theorem F.oq{a0 a1 a2 a3:AV}{h:af}{K:Out→af→Bool}:au Tryz.prog (ah Tryz.prog) (ai Tryz.f166) ⟨aB [a0,a1,a2,a3],38,[],h⟩ (az Tryz.prog cg Tryz.f166.results.toList K)=(ag (bQ 1 a1) fun x0=>ag (bQ 2 x0) fun x1=>ag (aj none x1 h) fun x2=>ag (bR .slice x2 h) fun x3=>bS (au Tryz.prog (ah Tryz.prog) F.cw.L0) ⟨(aa (aa (aa (aa (aa (aa (aB [a0,a1,a2,a3]) 5 (.bool false)) 8 x0) 9 x1) 10 x2) 11 x3) 12 (.int .i64 0)),38,[],h⟩ (F.cw.cB K)):=by kernel_rfl
theorem F.nG{a0 a1 a2 a3:AV}{h:af}{K:Out→af→Bool}(hh:au Tryz.prog (ah Tryz.prog) (ai Tryz.f166) ⟨aB [a0,a1,a2,a3],38,[],h⟩ (az Tryz.prog cg Tryz.f166.results.toList K)=true):Sem Tryz.prog 166 [a0,a1,a2,a3] h K:=
 aN mixed (aL _) Tryz.func166 (c:=ai Tryz.f166) rfl (by decide) (of_decide_eq_true (by kernel_rfl)) hh
noncomputable def F.cP.L0:Code:=partOf (ai Tryz.f167) [1,1,0,1,0,0]
noncomputable def F.cP.cB(K:Out→af→Bool):AX→St→Bool:=(aY 0 (cD false (au Tryz.prog (ah Tryz.prog) (partOf (ai Tryz.f167) [1,1,1])) (az Tryz.prog cg Tryz.f167.results.toList K)))
theorem F.cP.aP{e:Env}{h:af}{K:AX→St→Bool}:au Tryz.prog (ah Tryz.prog) F.cP.L0 ⟨e,39,[],h⟩ K=(ag (aF .lss (e 21) (e 20)) fun x16=>let Q1:=(aa e 22 x16);ay x16 (ag (aj none (e 3) h) fun x17=>ag (dx 1 x17 (e 0)) fun x18=>ag (bH 1 x18 (e 21) h) fun h19=>ag (aj none (e 5) h19) fun x20=>me x20 fun f37 a38 a39=>ah Tryz.prog f37 (a38++([(e 0)]++a39)) h19 (bO (fun x21 h22=>let Q2:=(aa (aa (aa (aa (aa (aa (aa (aa (aa (aa Q1 23 (e 21)) 9 (e 21)) 24 x17) 25 (e 0)) 26 (e 21)) 27 x18) 28 x20) 29 (e 0)) 30 x21) 31 x21);ay x21 (ag (aj none (e 6) h22) fun x25=>ag (aF .add (e 0) (.int .i64 1)) fun x26=>me x25 fun f33 a34 a35=>ah Tryz.prog f33 (a34++([x26]++a35)) h22 (bO (fun x27 h28=>ag (jl .not x27) fun x31=>let Q3:=(aa (aa (aa (aa (aa (aa (aa (aa (aa (aa (aa Q2 31 (.bool true)) 32 x25) 31 (.bool true)) 33 (e 0)) 31 (.bool true)) 34 x26) 31 (.bool true)) 35 x27) 31 (.bool true)) 36 x31) 37 x31);ay x31 (K .ret ⟨(aa Q3 8 (.bool false)),39,[],h28⟩) (ag (aF .add (e 21) (.int .i64 1)) fun x32=>K .normal ⟨(aa (aa Q3 38 x32) 21 x32),39,[],h28⟩)) (fun v29 h30=>K (.panic v29) ⟨(aa (aa (aa (aa (aa (aa (aa Q2 31 (.bool true)) 32 x25) 31 (.bool true)) 33 (e 0)) 31 (.bool true)) 34 x26) 31 (.bool true)),39,[],h30⟩))) (ag (aF .add (e 21) (.int .i64 1)) fun x36=>K .normal ⟨(aa (aa (aa (aa (aa (aa (aa (aa (aa (aa (aa (aa (aa Q2 31 (.bool false)) 32 bG) 31 (.bool false)) 33 bG) 31 (.bool false)) 34 bG) 31 (.bool false)) 35 bG) 31 (.bool false)) 36 bG) 37 (.bool false)) 38 x36) 21 x36),39,[],h22⟩)) (fun v23 h24=>K (.panic v23) ⟨(aa (aa (aa (aa (aa (aa (aa (aa Q1 23 (e 21)) 9 (e 21)) 24 x17) 25 (e 0)) 26 (e 21)) 27 x18) 28 x20) 29 (e 0)),39,[],h24⟩))) (K (.exit 0) ⟨Q1,39,[],h⟩)):=by kernel_rfl
theorem F.cP.aG{e:Env}{h:af}{K:Out→af→Bool}:F.cP.cB K (.exit 0) ⟨e,39,[],h⟩=(K (.ret (.bool true)) h):=by kernel_rfl
theorem F.jG{a0 a1 a2 a3 a4 a5 a6:AV}{h:af}{K:Out→af→Bool}:au Tryz.prog (ah Tryz.prog) (ai Tryz.f167) ⟨aB [a0,a1,a2,a3,a4,a5,a6],39,[],h⟩ (az Tryz.prog cg Tryz.f167.results.toList K)=(ag (bQ 4 a1) fun x0=>ag (aj none x0 h) fun x1=>ag (gO (.int .i64) a0 x1) fun x2=>ay x2 (ag (aj none a2 h) fun x3=>ag (aj none a3 h) fun x4=>me x3 fun f9 a10 a11=>ah Tryz.prog f9 (a10++([x4]++a11)) h (bO (fun x5 h6=>K (.ret x5) h6) (fun v7 h8=>K (.panic v7) h8))) (ag (aj none a4 h) fun x12=>ag (bY x12) fun x13=>ag (bQ 0 x13) fun x14=>ag (aj none x14 h) fun x15=>bS (au Tryz.prog (ah Tryz.prog) F.cP.L0) ⟨(aa (aa (aa (aa (aa (aa (aa (aa (aa (aa (aB [a0,a1,a2,a3,a4,a5,a6]) 8 (.bool false)) 10 a0) 11 x0) 12 x1) 13 x2) 17 x12) 18 x13) 19 x14) 20 x15) 21 (.int .i64 0)),39,[],h⟩ (F.cP.cB K))):=by kernel_rfl
theorem F.jt{a0 a1 a2 a3 a4 a5 a6:AV}{h:af}{K:Out→af→Bool}(hh:au Tryz.prog (ah Tryz.prog) (ai Tryz.f167) ⟨aB [a0,a1,a2,a3,a4,a5,a6],39,[],h⟩ (az Tryz.prog cg Tryz.f167.results.toList K)=true):Sem Tryz.prog 167 [a0,a1,a2,a3,a4,a5,a6] h K:=
 aN mixed (aL _) Tryz.func167 (c:=ai Tryz.f167) rfl (by decide) (of_decide_eq_true (by kernel_rfl)) hh
noncomputable def F.bN.L0:Code:=partOf (ai Tryz.f110) [1,1,0,0]
noncomputable def F.bN.cB(K:Out→af→Bool):AX→St→Bool:=(aY 0 (az Tryz.prog cg Tryz.f110.results.toList K))
noncomputable def F.bN.L1:Code:=partOf (ai Tryz.f110) [1,1,0,0,1,0,0,1,1,0,0]
noncomputable def F.bN.jj(K:AX→St→Bool):AX→St→Bool:=(aY 2 (aY 1 (cD false (au Tryz.prog (ah Tryz.prog) (partOf (ai Tryz.f110) [1,1,0,0,1,1])) K)))
theorem F.bN.aP{e:Env}{h:af}{K:AX→St→Bool}:au Tryz.prog (ah Tryz.prog) F.bN.L0 ⟨e,22,[],h⟩ K=(ag (aj none (e 6) h) fun x3=>ay x3 (ag (bH 1 (e 6) (.bool false) h) fun h4=>ag (bR .slice (e 1) h4) fun x5=>bS (au Tryz.prog (ah Tryz.prog) F.bN.L1) ⟨(aa (aa (aa (aa e 9 x3) 10 (e 1)) 11 x5) 12 (.int .i64 0)),22,[],h4⟩ (F.bN.jj K)) (K (.exit 0) ⟨(aa e 9 x3),22,[],h⟩)):=by kernel_rfl
theorem F.bN.aG{e:Env}{h:af}{K:Out→af→Bool}:F.bN.cB K (.exit 0) ⟨e,22,[],h⟩=(K (.ret (.tuple [])) h):=by kernel_rfl
theorem F.bN.dc{e:Env}{h:af}{K:AX→St→Bool}:au Tryz.prog (ah Tryz.prog) F.bN.L1 ⟨e,22,[],h⟩ K=(ag (aF .lss (e 12) (e 11)) fun x6=>ay x6 (ag (dx 8 (e 10) (e 12)) fun x7=>ag (aj (some 8) x7 h) fun x8=>ag (bH 8 (.ptr (af.next h) 0) x8 (af.alloc h (.cells [(.int .i64 0),(.str []),.nils,.nils,(.int .i64 0),.nils,.nils,.nils]))) fun h9=>ag (aj none (e 3) h9) fun x10=>ag (aj (some 8) (.ptr (af.next h) 0) h9) fun x11=>ah Tryz.prog 122 [x10,x11,(.func 158 [] [(.ptr (af.next h) 0),(e 3),(e 6),(e 5)])] h9 (bO (fun x12 h13=>ag (aF .add (e 12) (.int .i64 1)) fun x16=>K .normal ⟨(aa (aa (aa (aa (aa (aa (aa (aa (aa (aa e 13 x6) 14 x7) 15 x8) 8 (.ptr (af.next h) 0)) 16 x10) 17 x11) 18 (.func 158 [] [(.ptr (af.next h) 0),(e 3),(e 6),(e 5)])) 19 x12) 20 x16) 12 x16),22,[],h13⟩) (fun v14 h15=>K (.panic v14) ⟨(aa (aa (aa (aa (aa (aa (aa e 13 x6) 14 x7) 15 x8) 8 (.ptr (af.next h) 0)) 16 x10) 17 x11) 18 (.func 158 [] [(.ptr (af.next h) 0),(e 3),(e 6),(e 5)])),22,[],h15⟩))) (K (.exit 2) ⟨(aa e 13 x6),22,[],h⟩)):=by kernel_rfl
theorem F.bN.cx{e:Env}{h:af}{K:AX→St→Bool}:F.bN.jj K (.exit 2) ⟨e,22,[],h⟩=(ag (aj none (e 6) h) fun x17=>ag (bH 1 (.ptr (af.next h) 0) x17 (af.alloc h (.cells [(.bool false)]))) fun h18=>K .normal ⟨(aa (aa e 21 x17) 6 (.ptr (af.next h) 0)),22,[],h18⟩):=by kernel_rfl
theorem F.oW{a0 a1 a2:AV}{h:af}{K:Out→af→Bool}:au Tryz.prog (ah Tryz.prog) (ai Tryz.f110) ⟨aB [a0,a1,a2],22,[],h⟩ (az Tryz.prog cg Tryz.f110.results.toList K)=(ag (ef a0) fun c0=>ag (ef a2) fun c1=>ag (bH 1 (.ptr (af.next (af.alloc (af.alloc h (.cells c0)) (.cells c1))) 0) (.bool true) (af.alloc (af.alloc (af.alloc h (.cells c0)) (.cells c1)) (.cells [(.bool false)]))) fun h2=>bS (au Tryz.prog (ah Tryz.prog) F.bN.L0) ⟨(aa (aa (aa (aB [a0,a1,a2]) 3 (.ptr (af.next h) 0)) 5 (.ptr (af.next (af.alloc h (.cells c0))) 0)) 6 (.ptr (af.next (af.alloc (af.alloc h (.cells c0)) (.cells c1))) 0)),22,[],h2⟩ (F.bN.cB K)):=by kernel_rfl
theorem F.ou{a0 a1 a2:AV}{h:af}{K:Out→af→Bool}(hh:au Tryz.prog (ah Tryz.prog) (ai Tryz.f110) ⟨aB [a0,a1,a2],22,[],h⟩ (az Tryz.prog cg Tryz.f110.results.toList K)=true):Sem Tryz.prog 110 [a0,a1,a2] h K:=
 aN mixed (aL _) Tryz.func110 (c:=ai Tryz.f110) rfl (by decide) (of_decide_eq_true (by kernel_rfl)) hh
theorem F.nH{a0 a1 a2 a3 a4:AV}{h:af}{K:Out→af→Bool}:au Tryz.prog (ah Tryz.prog) (ai Tryz.f158) ⟨aB [a0,a1,a2,a3,a4],38,[],h⟩ (az Tryz.prog cg Tryz.f158.results.toList K)=(ag (bQ 5 a1) fun x0=>ag (aj none x0 h) fun x1=>ah Tryz.prog 124 [a0,x1] h (bO (fun x2 h3=>ag (aj none a2 h3) fun x6=>ag (bY x6) fun x7=>ag (bQ 1 x7) fun x8=>ag (aj none x8 h3) fun x9=>ag (bQ 1 a1) fun x10=>ag (bQ 0 x10) fun x11=>ag (bQ 0 x11) fun x12=>ag (aj none x12 h3) fun x13=>ag (cV .string .nils false x9 x13 h3) fun x14=>ag (aj none a2 h3) fun x15=>ah Tryz.prog 69 [x15,x2] h3 (bO (fun x16 h17=>ag (dx 1 x14 x16) fun x20=>ag (aj none x20 h17) fun x21=>ag (jl .not x21) fun x22=>ay x22 (ag (aj none a2 h17) fun x23=>ah Tryz.prog 69 [x23,x2] h17 (bO (fun x24 h25=>ag (dx 1 x14 x24) fun x28=>ag (bH 1 x28 (.bool true) h25) fun h29=>ag (bH 1 a3 (.bool true) h29) fun h30=>ag (aj none a4 h30) fun x31=>ag (aj (some 8) a1 h30) fun x32=>me x31 fun f37 a38 a39=>ah Tryz.prog f37 (a38++([x32,a0]++a39)) h30 (bO (fun x33 h34=>K (.ret (.bool true)) h34) (fun v35 h36=>K (.panic v35) h36))) (fun v26 h27=>K (.panic v26) h27))) (K (.ret (.bool true)) h17)) (fun v18 h19=>K (.panic v18) h19))) (fun v4 h5=>K (.panic v4) h5))):=by kernel_rfl
theorem F.mT{a0 a1 a2 a3 a4:AV}{h:af}{K:Out→af→Bool}(hh:au Tryz.prog (ah Tryz.prog) (ai Tryz.f158) ⟨aB [a0,a1,a2,a3,a4],38,[],h⟩ (az Tryz.prog cg Tryz.f158.results.toList K)=true):Sem Tryz.prog 158 [a0,a1,a2,a3,a4] h K:=
 aN mixed (aL _) Tryz.func158 (c:=ai Tryz.f158) rfl (by decide) (of_decide_eq_true (by kernel_rfl)) hh
noncomputable def F.aO.L0:Code:=partOf (ai Tryz.f46) [1,0,1,0,0]
noncomputable def F.aO.cB(K:Out→af→Bool):AX→St→Bool:=(aY 0 (cD false (au Tryz.prog (ah Tryz.prog) (partOf (ai Tryz.f46) [1,1])) (az Tryz.prog cg Tryz.f46.results.toList K)))
noncomputable def F.aO.L1:Code:=partOf (ai Tryz.f46) [1,1,1,0,0]
noncomputable def F.aO.jj(K:Out→af→Bool):AX→St→Bool:=(aY 2 (az Tryz.prog cg Tryz.f46.results.toList K))
noncomputable def F.aO.L2:Code:=partOf (ai Tryz.f46) [1,1,1,0,0,1,1,0,0,1,1,0,1,0,0]
noncomputable def F.aO.tU(K:AX→St→Bool):AX→St→Bool:=(aY 4 (cD false (au Tryz.prog (ah Tryz.prog) (partOf (ai Tryz.f46) [1,1,1,0,0,1,1,0,0,1,1,1])) (aY 3 (cD false (au Tryz.prog (ah Tryz.prog) (partOf (ai Tryz.f46) [1,1,1,0,0,1,1,1])) K))))
theorem F.aO.aP{e:Env}{h:af}{K:AX→St→Bool}:au Tryz.prog (ah Tryz.prog) F.aO.L0 ⟨e,62,[],h⟩ K=(ag (sr false (e 17) h) (jq [] (BH (fun x5 h6=>ag (bL x5 0) fun x9=>ay x9 (ag (oE (e 17) h6) fun x10=>ag (bL x10 1) fun x11=>ag (qW true (e 6) [x11]) fun x12=>K .normal ⟨(aa (aa (aa (aa (aa (aa (aa (aa (aa e 18 x5) 19 x9) 20 x10) 21 x11) 8 x11) 22 (e 6)) 23 x11) 24 x12) 6 x12),62,[],h6⟩) (K (.exit 0) ⟨(aa (aa e 18 x5) 19 x9),62,[],h6⟩)) (fun v7 h8=>K (.panic v7) ⟨e,62,[],h8⟩)))):=by kernel_rfl
theorem F.aO.aG{e:Env}{h:af}{K:Out→af→Bool}:F.aO.cB K (.exit 0) ⟨e,62,[],h⟩=(ag (aF .add (e 6) (.int .i64 1)) fun x13=>bS (au Tryz.prog (ah Tryz.prog) F.aO.L1) ⟨(aa (aa (aa e 25 (e 6)) 26 x13) 27 (.int .i64 0)),62,[],h⟩ (F.aO.jj K)):=by kernel_rfl
theorem F.aO.dc{e:Env}{h:af}{K:AX→St→Bool}:au Tryz.prog (ah Tryz.prog) F.aO.L1 ⟨e,62,[],h⟩ K=(ag (aF .lss (e 27) (e 26)) fun x14=>ay x14 (ag (bY (e 0)) fun x15=>ag (bQ 0 x15) fun x16=>ag (aj none x16 h) fun x17=>ag (bR .slice x17 h) fun x18=>bS (au Tryz.prog (ah Tryz.prog) F.aO.L2) ⟨(aa (aa (aa (aa (aa (aa (aa (aa (aa (aa e 28 x14) 29 (e 27)) 9 (e 27)) 10 .nils) 30 (e 0)) 31 x15) 32 x16) 33 x17) 34 x18) 35 (.int .i64 0)),62,[],h⟩ (F.aO.tU K)) (K (.exit 2) ⟨(aa e 28 x14),62,[],h⟩)):=by kernel_rfl
theorem F.aO.cx{e:Env}{h:af}{K:Out→af→Bool}:F.aO.jj K (.exit 2) ⟨e,62,[],h⟩=(K (.ret (.tuple [])) h):=by kernel_rfl
theorem F.aO.jF{e:Env}{h:af}{K:AX→St→Bool}:au Tryz.prog (ah Tryz.prog) F.aO.L2 ⟨e,62,[],h⟩ K=(ag (aF .lss (e 35) (e 34)) fun x19=>let Q1:=(aa e 36 x19);ay x19 (ag (dx 3 (e 33) (e 35)) fun x20=>ag (aj (some 3) x20 h) fun x21=>ag (bH 3 (.ptr (af.next h) 0) x21 (af.alloc h (.cells [(.str []),.nils,.nils]))) fun h22=>ag (bY (e 0)) fun x23=>ag (bQ 2 x23) fun x24=>ag (aj none x24 h22) fun x25=>ag (bQ 0 (.ptr (af.next h) 0)) fun x26=>ag (bQ 0 x26) fun x27=>ag (aj none x27 h22) fun x28=>ag (cV .string (.int .i64 0) false x25 x28 h22) fun x29=>ag (gO (.int .i64) x29 (e 9)) fun x30=>let Q2:=(aa (aa (aa (aa (aa (aa (aa (aa (aa (aa (aa (aa (aa (aa (aa Q1 37 (e 35)) 38 x20) 39 x21) 12 (.ptr (af.next h) 0)) 11 (e 35)) 40 (e 0)) 41 x23) 42 x24) 43 x25) 44 x26) 45 x27) 46 x28) 47 x29) 48 (e 9)) 49 x30);ay x30 (ag (aj (some 3) (.ptr (af.next h) 0) h22) fun x31=>ah Tryz.prog 109 [(e 35),x31] h22 (bO (fun x32 h33=>ag (fE [(.int .i64 0),(.str []),.nils,.nils,(.int .i64 0),.nils,.nils,.nils] [(0,8)] [x32]) fun c36=>cL (cq 8 152 (e 10) (.slice (af.next h33) 0 1 8) (af.alloc h33 (.cells c36))) fun x37 h38=>ag (aF .add (e 35) (.int .i64 1)) fun x39=>K .normal ⟨(aa (aa (aa (aa (aa (aa (aa (aa (aa Q2 50 (e 10)) 51 (e 35)) 52 x31) 53 x32) 54 (.slice (af.next h33) 0 1 8)) 55 x37) 10 x37) 56 x39) 35 x39),62,[],h38⟩) (fun v34 h35=>K (.panic v34) ⟨(aa (aa (aa Q2 50 (e 10)) 51 (e 35)) 52 x31),62,[],h35⟩))) (ag (aF .add (e 35) (.int .i64 1)) fun x40=>K .normal ⟨(aa (aa Q2 56 x40) 35 x40),62,[],h22⟩)) (K (.exit 4) ⟨Q1,62,[],h⟩)):=by kernel_rfl
theorem F.aO.fV{e:Env}{h:af}{K:AX→St→Bool}:F.aO.tU K (.exit 4) ⟨e,62,[],h⟩=(ah Tryz.prog 110 [(e 1),(e 10),(e 2)] h (bO (fun x41 h42=>ag (aF .add (e 27) (.int .i64 1)) fun x45=>K .normal ⟨(aa (aa (aa (aa (aa (aa e 57 (e 1)) 58 (e 10)) 59 (e 2)) 60 x41) 61 x45) 27 x45),62,[],h42⟩) (fun v43 h44=>K (.panic v43) ⟨(aa (aa (aa e 57 (e 1)) 58 (e 10)) 59 (e 2)),62,[],h44⟩))):=by kernel_rfl
theorem F.oX{a0 a1 a2:AV}{h:af}{K:Out→af→Bool}:au Tryz.prog (ah Tryz.prog) (ai Tryz.f46) ⟨aB [a0,a1,a2],62,[],h⟩ (az Tryz.prog cg Tryz.f46.results.toList K)=(ag (bY a0) fun x0=>ag (bQ 2 x0) fun x1=>ag (aj none x1 h) fun x2=>cL (jL .map x2 h) fun x3 h4=>bS (au Tryz.prog (ah Tryz.prog) F.aO.L0) ⟨(aa (aa (aa (aa (aa (aa (aB [a0,a1,a2]) 6 (.int .i64 0)) 13 a0) 14 x0) 15 x1) 16 x2) 17 x3),62,[],h4⟩ (F.aO.cB K)):=by kernel_rfl
theorem F.ov{a0 a1 a2:AV}{h:af}{K:Out→af→Bool}(hh:au Tryz.prog (ah Tryz.prog) (ai Tryz.f46) ⟨aB [a0,a1,a2],62,[],h⟩ (az Tryz.prog cg Tryz.f46.results.toList K)=true):Sem Tryz.prog 46 [a0,a1,a2] h K:=
 aN mixed (aL _) Tryz.func46 (c:=ai Tryz.f46) rfl (by decide) (of_decide_eq_true (by kernel_rfl)) hh
noncomputable def F.ax.L0:Code:=partOf (ai Tryz.f45) [1,1,1,0,1,0,0]
noncomputable def F.ax.cB(K:Out→af→Bool):AX→St→Bool:=(aY 0 (cD false (au Tryz.prog (ah Tryz.prog) (partOf (ai Tryz.f45) [1,1,1,1])) (az Tryz.prog cg Tryz.f45.results.toList K)))
noncomputable def F.ax.L1:Code:=partOf (ai Tryz.f45) [1,1,1,1,0,1,0,0]
noncomputable def F.ax.jj(K:Out→af→Bool):AX→St→Bool:=(aY 2 (cD false (au Tryz.prog (ah Tryz.prog) (partOf (ai Tryz.f45) [1,1,1,1,1])) (az Tryz.prog cg Tryz.f45.results.toList K)))
noncomputable def F.ax.L2:Code:=partOf (ai Tryz.f45) [1,1,1,1,1,1,1,0,1,0,0]
noncomputable def F.ax.tU(K:Out→af→Bool):AX→St→Bool:=(aY 4 (cD false (au Tryz.prog (ah Tryz.prog) (partOf (ai Tryz.f45) [1,1,1,1,1,1,1,1])) (az Tryz.prog cg Tryz.f45.results.toList K)))
noncomputable def F.ax.L3:Code:=partOf (ai Tryz.f45) [1,1,1,1,1,1,1,1,0,1,0,0]
noncomputable def F.ax.MB(K:Out→af→Bool):AX→St→Bool:=(aY 6 (cD false (au Tryz.prog (ah Tryz.prog) (partOf (ai Tryz.f45) [1,1,1,1,1,1,1,1,1])) (az Tryz.prog cg Tryz.f45.results.toList K)))
noncomputable def F.ax.L4:Code:=partOf (ai Tryz.f45) [1,1,1,1,1,1,1,1,0,1,0,0,1,1,0,0,1,1,1,0,0]
noncomputable def F.ax.PG(K:AX→St→Bool):AX→St→Bool:=(aY 8 (aY 7 (cD false (au Tryz.prog (ah Tryz.prog) (partOf (ai Tryz.f45) [1,1,1,1,1,1,1,1,0,1,0,0,1,1,1])) K)))
noncomputable def F.ax.L5:Code:=partOf (ai Tryz.f45) [1,1,1,1,1,1,1,1,1,0,1,0,0]
noncomputable def F.ax.PI(K:Out→af→Bool):AX→St→Bool:=(aY 10 (cD false (au Tryz.prog (ah Tryz.prog) (partOf (ai Tryz.f45) [1,1,1,1,1,1,1,1,1,1])) (az Tryz.prog cg Tryz.f45.results.toList K)))
noncomputable def F.ax.L6:Code:=partOf (ai Tryz.f45) [1,1,1,1,1,1,1,1,1,0,1,0,0,1,1,0,0,1,1,1,1,0,0]
noncomputable def F.ax.P4(K:AX→St→Bool):AX→St→Bool:=(aY 12 (aY 11 (cD false (au Tryz.prog (ah Tryz.prog) (partOf (ai Tryz.f45) [1,1,1,1,1,1,1,1,1,0,1,0,0,1,1,1])) K)))
theorem F.ax.aP{e:Env}{h:af}{K:AX→St→Bool}:au Tryz.prog (ah Tryz.prog) F.ax.L0 ⟨e,198,[],h⟩ K=(ag (sr false (e 46) h) (jq [] (BH (fun x19 h20=>ag (bL x19 0) fun x23=>let Q1:=(aa (aa e 47 x19) 48 x23);ay x23 (ag (oE (e 46) h20) fun x24=>ag (bL x24 0) fun x25=>ag (bL x24 1) fun x26=>ag (bY (e 7)) fun x27=>ag (bQ 2 x27) fun x28=>ag (aj none x28 h20) fun x29=>ag (cV .string (.int .i64 0) true x29 x25 h20) fun x30=>ag (bL x30 0) fun x31=>ag (bL x30 1) fun x32=>ag (jl .not x32) fun x33=>let Q2:=(aa (aa (aa (aa (aa (aa (aa (aa (aa (aa (aa (aa (aa (aa (aa (aa (aa (aa (aa Q1 49 x24) 50 x25) 51 x26) 9 x25) 10 x26) 53 (e 7)) 54 x27) 55 x28) 56 x29) 57 x25) 58 x30) 52 x30) 59 x31) 60 x32) 11 x31) 12 x32) 61 x32) 62 x33) 63 x33);ay x33 (ag (aj (some 2) (e 3) h20) fun x34=>ah Tryz.prog 88 [x34,x25,x26] h20 (bO (fun x35 h36=>ag (aF .lss x35 (.int .i64 0)) fun x39=>let Q3:=(aa (aa (aa (aa (aa (aa (aa (aa (aa (aa (aa Q2 63 (.bool true)) 64 x34) 63 (.bool true)) 65 x25) 63 (.bool true)) 66 x26) 63 (.bool true)) 67 x35) 63 (.bool true)) 68 x39) 69 x39);ay x39 (K .ret ⟨(aa (aa (aa Q3 4 .nilp) 5 .nilp) 6 (.int .i64 4)),198,[],h36⟩) (K .normal ⟨Q3,198,[],h36⟩)) (fun v37 h38=>K (.panic v37) ⟨(aa (aa (aa (aa (aa (aa (aa Q2 63 (.bool true)) 64 x34) 63 (.bool true)) 65 x25) 63 (.bool true)) 66 x26) 63 (.bool true)),198,[],h38⟩))) (K .normal ⟨(aa (aa (aa (aa (aa (aa (aa (aa (aa (aa (aa Q2 63 (.bool false)) 64 bG) 63 (.bool false)) 65 bG) 63 (.bool false)) 66 bG) 63 (.bool false)) 67 bG) 63 (.bool false)) 68 bG) 69 (.bool false)),198,[],h20⟩)) (K (.exit 0) ⟨Q1,198,[],h20⟩)) (fun v21 h22=>K (.panic v21) ⟨e,198,[],h22⟩)))):=by kernel_rfl
theorem F.ax.aG{e:Env}{h:af}{K:Out→af→Bool}:F.ax.cB K (.exit 0) ⟨e,198,[],h⟩=(ag (bQ 1 (e 3)) fun x40=>ag (aj none x40 h) fun x41=>ag (bR .slice x41 h) fun x42=>bS (au Tryz.prog (ah Tryz.prog) F.ax.L1) ⟨(aa (aa (aa (aa e 70 x40) 71 x41) 72 x42) 73 (.int .i64 0)),198,[],h⟩ (F.ax.jj K)):=by kernel_rfl
theorem F.ax.bp{e:Env}{h:af}{K:Out→af→Bool}:F.ax.cB K .ret ⟨e,198,[],h⟩=(K (.ret (.tuple [(e 4),(e 5),(e 6)])) h):=by kernel_rfl
theorem F.ax.dc{e:Env}{h:af}{K:AX→St→Bool}:au Tryz.prog (ah Tryz.prog) F.ax.L1 ⟨e,198,[],h⟩ K=(ag (aF .lss (e 73) (e 72)) fun x43=>ay x43 (ag (dx 3 (e 71) (e 73)) fun x44=>ag (aj (some 3) x44 h) fun x45=>ag (bH 3 (.ptr (af.next h) 0) x45 (af.alloc h (.cells [(.str []),(.int .i64 0),.nils]))) fun h46=>ag (bY (e 7)) fun x47=>ag (bQ 2 x47) fun x48=>ag (aj none x48 h46) fun x49=>ag (bQ 0 (.ptr (af.next h) 0)) fun x50=>ag (aj none x50 h46) fun x51=>ag (cV .string (.int .i64 0) true x49 x51 h46) fun x52=>ag (bL x52 0) fun x53=>ag (bL x52 1) fun x54=>let Q1:=(aa (aa (aa (aa (aa (aa (aa (aa (aa (aa (aa (aa (aa (aa (aa (aa (aa e 74 x43) 75 x44) 76 x45) 14 (.ptr (af.next h) 0)) 78 (e 7)) 79 x47) 80 x48) 81 x49) 82 x50) 83 x51) 84 x52) 77 x52) 85 x53) 86 x54) 15 x53) 16 x54) 87 x54);ay x54 (K .ret ⟨(aa (aa (aa Q1 4 .nilp) 5 .nilp) 6 (.int .i64 4)),198,[],h46⟩) (ag (aF .add (e 73) (.int .i64 1)) fun x55=>K .normal ⟨(aa (aa Q1 88 x55) 73 x55),198,[],h46⟩)) (K (.exit 2) ⟨(aa e 74 x43),198,[],h⟩)):=by kernel_rfl
theorem F.ax.cx{e:Env}{h:af}{K:Out→af→Bool}:F.ax.jj K (.exit 2) ⟨e,198,[],h⟩=(ag (bQ 1 (e 3)) fun x56=>ag (aj none x56 h) fun x57=>ag (bR .slice x57 h) fun x58=>ag (bY (e 7)) fun x59=>ag (bQ 2 x59) fun x60=>ag (aj none x60 h) fun x61=>ag (bR .map x61 h) fun x62=>ag (aF .add x58 x62) fun x63=>ag (aF .gtr x63 (.int .i64 8)) fun x64=>ay x64 (K (.ret (.tuple [.nilp,.nilp,(.int .i64 5)])) h) (ag (bQ 0 (e 3)) fun x65=>ag (aj none x65 h) fun x66=>ag (jo [(.int .i64 0),.nilm] [(0,1),(1,1)] [x66,(.map (af.next h))]) fun x67=>ag (ef x67) fun c68=>ag (bY (e 7)) fun x69=>ag (bQ 2 x69) fun x70=>ag (aj none x70 (af.alloc (af.alloc h (.map [] 0)) (.cells c68))) fun x71=>cL (jL .map x71 (af.alloc (af.alloc h (.map [] 0)) (.cells c68))) fun x72 h73=>bS (au Tryz.prog (ah Tryz.prog) F.ax.L2) ⟨(aa (aa (aa (aa (aa (aa (aa (aa (aa (aa (aa (aa (aa (aa (aa (aa (aa (aa (aa (aa (aa e 89 x56) 90 x57) 91 x58) 92 (e 7)) 93 x59) 94 x60) 95 x61) 96 x62) 97 x63) 98 x64) 99 x65) 100 x66) 101 (.map (af.next h))) 102 x67) 103 (.ptr (af.next (af.alloc h (.map [] 0))) 0)) 17 (.ptr (af.next (af.alloc h (.map [] 0))) 0)) 104 (e 7)) 105 x69) 106 x70) 107 x71) 108 x72),198,[],h73⟩ (F.ax.tU K))):=by kernel_rfl
theorem F.ax.gK{e:Env}{h:af}{K:Out→af→Bool}:F.ax.jj K .ret ⟨e,198,[],h⟩=(K (.ret (.tuple [(e 4),(e 5),(e 6)])) h):=by kernel_rfl
theorem F.ax.jF{e:Env}{h:af}{K:AX→St→Bool}:au Tryz.prog (ah Tryz.prog) F.ax.L2 ⟨e,198,[],h⟩ K=(ag (sr false (e 108) h) (jq [] (BH (fun x74 h75=>ag (bL x74 0) fun x78=>let Q1:=(aa (aa e 109 x74) 110 x78);ay x78 (ag (oE (e 108) h75) fun x79=>ag (bL x79 0) fun x80=>ag (bQ 0 (e 3)) fun x81=>ag (aj none x81 h75) fun x82=>ag (bY (e 7)) fun x83=>ag (bQ 1 x83) fun x84=>ag (aj none x84 h75) fun x85=>ag (cV .string (.int .i64 0) false x85 x80 h75) fun x86=>ah Tryz.prog 107 [x82,x86] h75 (bO (fun x87 h88=>ag (bL x87 0) fun x89=>ag (bL x87 1) fun x90=>ag (oz (.int .i64) x90 (.int .i64 0)) fun x91=>let Q2:=(aa (aa (aa (aa (aa (aa (aa (aa (aa (aa (aa (aa (aa (aa (aa (aa (aa (aa (aa Q1 111 x79) 112 x80) 18 x80) 114 x81) 115 x82) 116 (e 7)) 117 x83) 118 x84) 119 x85) 120 x80) 121 x86) 122 x87) 113 x87) 123 x89) 124 x90) 19 x89) 20 x90) 125 x90) 126 x91);ay x91 (K .ret ⟨(aa (aa (aa Q2 4 .nilp) 5 .nilp) 6 (.int .i64 5)),198,[],h88⟩) (ag (bY (e 17)) fun x92=>ag (bQ 1 x92) fun x93=>ag (aj none x93 h88) fun x94=>cL (eX 1 1 [(.bool false)] x89 x89 h88) fun x95 h96=>ag (dR .string x94 x80 x95 h96) fun h97=>K .normal ⟨(aa (aa (aa (aa (aa (aa (aa Q2 127 (e 17)) 128 x92) 129 x93) 130 x94) 131 x80) 132 x89) 133 x95),198,[],h97⟩)) (fun _ _=>false))) (K (.exit 4) ⟨Q1,198,[],h75⟩)) (fun v76 h77=>K (.panic v76) ⟨e,198,[],h77⟩)))):=by kernel_rfl
theorem F.ax.fV{e:Env}{h:af}{K:Out→af→Bool}:F.ax.tU K (.exit 4) ⟨e,198,[],h⟩=(ag (bR .slice (e 0) h) fun x98=>bS (au Tryz.prog (ah Tryz.prog) F.ax.L3) ⟨(aa (aa (aa e 134 (e 0)) 135 x98) 136 (.int .i64 0)),198,[],h⟩ (F.ax.MB K)):=by kernel_rfl
theorem F.ax.tg{e:Env}{h:af}{K:Out→af→Bool}:F.ax.tU K .ret ⟨e,198,[],h⟩=(K (.ret (.tuple [(e 4),(e 5),(e 6)])) h):=by kernel_rfl
theorem F.ax.Lm{e:Env}{h:af}{K:AX→St→Bool}:au Tryz.prog (ah Tryz.prog) F.ax.L3 ⟨e,198,[],h⟩ K=(ag (aF .lss (e 136) (e 135)) fun x99=>ay x99 (ag (dx 3 (e 134) (e 136)) fun x100=>ag (aj (some 3) x100 h) fun x101=>ag (bH 3 (.ptr (af.next h) 0) x101 (af.alloc h (.cells [(.str []),.nils,.nils]))) fun h102=>ag (aj (some 3) (.ptr (af.next h) 0) h102) fun x103=>ah Tryz.prog 108 [x103] h102 (bO (fun x104 h105=>ag (bR .slice x104 h105) fun x108=>bS (au Tryz.prog (ah Tryz.prog) F.ax.L4) ⟨(aa (aa (aa (aa (aa (aa (aa (aa (aa e 137 x99) 138 x100) 139 x101) 22 (.ptr (af.next h) 0)) 23 (.int .i64 1)) 140 x103) 141 x104) 142 x108) 143 (.int .i64 0)),198,[],h105⟩ (F.ax.PG K)) (fun v106 h107=>K (.panic v106) ⟨(aa (aa (aa (aa (aa (aa e 137 x99) 138 x100) 139 x101) 22 (.ptr (af.next h) 0)) 23 (.int .i64 1)) 140 x103),198,[],h107⟩))) (K (.exit 6) ⟨(aa e 137 x99),198,[],h⟩)):=by kernel_rfl
theorem F.ax.HN{e:Env}{h:af}{K:Out→af→Bool}:F.ax.MB K (.exit 6) ⟨e,198,[],h⟩=(ag (bQ 1 (e 3)) fun x109=>ag (aj none x109 h) fun x110=>ag (bR .slice x110 h) fun x111=>bS (au Tryz.prog (ah Tryz.prog) F.ax.L5) ⟨(aa (aa (aa (aa e 153 x109) 154 x110) 155 x111) 156 (.int .i64 0)),198,[],h⟩ (F.ax.PI K)):=by kernel_rfl
theorem F.ax.Jl{e:Env}{h:af}{K:Out→af→Bool}:F.ax.MB K .ret ⟨e,198,[],h⟩=(K (.ret (.tuple [(e 4),(e 5),(e 6)])) h):=by kernel_rfl
theorem F.ax.Ln{e:Env}{h:af}{K:AX→St→Bool}:au Tryz.prog (ah Tryz.prog) F.ax.L4 ⟨e,198,[],h⟩ K=(ag (aF .lss (e 143) (e 142)) fun x112=>let Q1:=(aa e 144 x112);ay x112 (ag (bQ 0 (e 3)) fun x113=>ag (aj none x113 h) fun x114=>ag (aF .mul (e 23) x114) fun x115=>ag (aF .gtr x115 (.int .i64 65536)) fun x116=>let Q2:=(aa (aa (aa (aa (aa (aa (aa Q1 145 (e 23)) 146 x113) 147 x114) 148 x115) 23 x115) 149 x115) 150 x116);ay x116 (K .ret ⟨(aa (aa (aa Q2 4 .nilp) 5 .nilp) 6 (.int .i64 5)),198,[],h⟩) (ag (aF .add (e 143) (.int .i64 1)) fun x117=>K .normal ⟨(aa (aa Q2 151 x117) 143 x117),198,[],h⟩)) (K (.exit 8) ⟨Q1,198,[],h⟩)):=by kernel_rfl
theorem F.ax.HO{e:Env}{h:af}{K:AX→St→Bool}:F.ax.PG K (.exit 8) ⟨e,198,[],h⟩=(ag (aF .add (e 136) (.int .i64 1)) fun x118=>K .normal ⟨(aa (aa e 152 x118) 136 x118),198,[],h⟩):=by kernel_rfl
theorem F.ax.Jm{e:Env}{h:af}{K:AX→St→Bool}:F.ax.PG K .ret ⟨e,198,[],h⟩=(K .ret ⟨e,198,[],h⟩):=by kernel_rfl
theorem F.ax.Lo{e:Env}{h:af}{K:AX→St→Bool}:au Tryz.prog (ah Tryz.prog) F.ax.L5 ⟨e,198,[],h⟩ K=(ag (aF .lss (e 156) (e 155)) fun x119=>let Q1:=(aa e 157 x119);ay x119 (ag (dx 3 (e 154) (e 156)) fun x120=>ag (aj (some 3) x120 h) fun x121=>ag (bH 3 (.ptr (af.next h) 0) x121 (af.alloc h (.cells [(.str []),(.int .i64 0),.nils]))) fun h122=>ag (bQ 0 (e 3)) fun x123=>ag (aj none x123 h122) fun x124=>ag (bQ 1 (.ptr (af.next h) 0)) fun x125=>ag (aj none x125 h122) fun x126=>ah Tryz.prog 107 [x124,x126] h122 (bO (fun x127 h128=>ag (bL x127 0) fun x131=>ag (bL x127 1) fun x132=>ag (bY (e 17)) fun x133=>ag (bQ 1 x133) fun x134=>ag (aj none x134 h128) fun x135=>ag (bQ 0 (.ptr (af.next h) 0)) fun x136=>ag (aj none x136 h128) fun x137=>cL (eX 1 1 [(.bool false)] x131 x131 h128) fun x138 h139=>ag (dR .string x135 x137 x138 h139) fun h140=>ag (bQ 2 (.ptr (af.next h) 0)) fun x141=>ag (aj none x141 h140) fun x142=>ag (bR .slice x142 h140) fun x143=>bS (au Tryz.prog (ah Tryz.prog) F.ax.L6) ⟨(aa (aa (aa (aa (aa (aa (aa (aa (aa (aa (aa (aa (aa (aa (aa (aa (aa (aa (aa (aa (aa (aa (aa (aa (aa Q1 158 x120) 159 x121) 25 (.ptr (af.next h) 0)) 161 x123) 162 x124) 163 x125) 164 x126) 165 x127) 160 x127) 166 x131) 167 x132) 26 x131) 27 x132) 168 (e 17)) 169 x133) 170 x134) 171 x135) 172 x136) 173 x137) 174 x131) 175 x138) 176 x141) 177 x142) 178 x143) 179 (.int .i64 0)),198,[],h140⟩ (F.ax.P4 K)) (fun v129 h130=>K (.panic v129) ⟨(aa (aa (aa (aa (aa (aa (aa Q1 158 x120) 159 x121) 25 (.ptr (af.next h) 0)) 161 x123) 162 x124) 163 x125) 164 x126),198,[],h130⟩))) (K (.exit 10) ⟨Q1,198,[],h⟩)):=by kernel_rfl
theorem F.ax.Gf{e:Env}{h:af}{K:Out→af→Bool}:F.ax.PI K (.exit 10) ⟨e,198,[],h⟩=(K (.ret (.tuple [(e 7),(e 17),(.int .i64 0)])) h):=by kernel_rfl
theorem F.ax.Lq{e:Env}{h:af}{K:AX→St→Bool}:au Tryz.prog (ah Tryz.prog) F.ax.L6 ⟨e,198,[],h⟩ K=(ag (aF .lss (e 179) (e 178)) fun x144=>ay x144 (ag (dx 1 (e 177) (e 179)) fun x145=>ag (aj none x145 h) fun x146=>ag (bY (e 17)) fun x147=>ag (bQ 1 x147) fun x148=>ag (aj none x148 h) fun x149=>ag (bQ 0 (e 25)) fun x150=>ag (aj none x150 h) fun x151=>ag (cV .string .nils false x149 x151 h) fun x152=>ah Tryz.prog 69 [(e 17),x146] h (bO (fun x153 h154=>if ((ag (cV .string .nils false x149 x151 h154) fun x155=>AV.beq x155 x152)&&((ag (aj none x150 h154) fun x156=>AV.beq x156 x151)&&((ag (aj none x148 h154) fun x157=>AV.beq x157 x149)&&true)))=true then (ag (dx 1 x152 x153) fun x158=>ag (bH 1 x158 (.bool true) h154) fun h159=>ag (aF .add (e 179) (.int .i64 1)) fun x160=>K .normal ⟨(aa (aa (aa (aa (aa (aa (aa (aa (aa (aa (aa (aa (aa (aa (aa (aa (aa e 180 x144) 181 x145) 182 x146) 29 x146) 183 (e 17)) 184 x147) 185 x148) 186 x149) 187 x150) 188 x151) 189 x152) 190 (e 17)) 191 x146) 192 x153) 193 x158) 194 x160) 179 x160),198,[],h159⟩) else false) (fun _ _=>false))) (K (.exit 12) ⟨(aa e 180 x144),198,[],h⟩)):=by kernel_rfl
theorem F.ax.Gg{e:Env}{h:af}{K:AX→St→Bool}:F.ax.P4 K (.exit 12) ⟨e,198,[],h⟩=(ag (aF .add (e 156) (.int .i64 1)) fun x161=>K .normal ⟨(aa (aa e 195 x161) 156 x161),198,[],h⟩):=by kernel_rfl
theorem F.uz{a0 a1:AV}{h:af}{K:Out→af→Bool}:au Tryz.prog (ah Tryz.prog) (ai Tryz.f45) ⟨aB [a0,a1],198,[],h⟩ (az Tryz.prog cg Tryz.f45.results.toList K)=(ag (ef a1) fun c0=>ah Tryz.prog 83 [a0] (af.alloc h (.cells c0)) (bO (fun x1 h2=>ag (bL x1 0) fun x5=>ag (bL x1 1) fun x6=>ag (jl .not x6) fun x7=>ay x7 (K (.ret (.tuple [.nilp,.nilp,(.int .i64 1)])) h2) (ag (aj (some 2) (.ptr (af.next h) 0) h2) fun x8=>ah Tryz.prog 87 [x8] h2 (bO (fun x9 h10=>ag (jl .not x9) fun x13=>ay x13 (K (.ret (.tuple [.nilp,.nilp,(.int .i64 1)])) h10) (ag (bY x5) fun x14=>ag (bQ 1 x14) fun x15=>ag (aj none x15 h10) fun x16=>cL (jL .map x16 h10) fun x17 h18=>bS (au Tryz.prog (ah Tryz.prog) F.ax.L0) ⟨(aa (aa (aa (aa (aa (aa (aa (aa (aa (aa (aa (aa (aa (aa (aa (aa (aa (aa (aa (aa (aa (aa (aa (aa (aa (aa (aB [a0,a1]) 3 (.ptr (af.next h) 0)) 4 .nilp) 5 .nilp) 6 (.int .i64 0)) 31 a0) 32 x1) 30 x1) 33 x5) 34 x6) 7 x5) 8 x6) 35 x6) 36 x7) 37 x7) 37 (.bool false)) 38 x8) 37 (.bool false)) 39 x9) 37 (.bool false)) 40 x13) 41 x13) 42 x5) 43 x14) 44 x15) 45 x16) 46 x17),198,[],h18⟩ (F.ax.cB K))) (fun v11 h12=>K (.panic v11) h12)))) (fun v3 h4=>K (.panic v3) h4))):=by kernel_rfl
theorem F.tn{a0 a1:AV}{h:af}{K:Out→af→Bool}(hh:au Tryz.prog (ah Tryz.prog) (ai Tryz.f45) ⟨aB [a0,a1],198,[],h⟩ (az Tryz.prog cg Tryz.f45.results.toList K)=true):Sem Tryz.prog 45 [a0,a1] h K:=
 aN mixed (aL _) Tryz.func45 (c:=ai Tryz.f45) rfl (by decide) (of_decide_eq_true (by kernel_rfl)) hh
noncomputable def F.cU.L0:Code:=partOf (ai Tryz.f13) [1,1,1,1,1,0,1,0,0]
noncomputable def F.cU.cB(K:Out→af→Bool):AX→St→Bool:=(aY 0 (cD false (au Tryz.prog (ah Tryz.prog) (partOf (ai Tryz.f13) [1,1,1,1,1,1])) (az Tryz.prog cg Tryz.f13.results.toList K)))
noncomputable def F.cU.L1:Code:=partOf (ai Tryz.f13) [1,1,1,1,1,0,1,0,0,1,1,0,0,1,1,0,1,0,0]
noncomputable def F.cU.jj(K:AX→St→Bool):AX→St→Bool:=(aY 2 (cD false (au Tryz.prog (ah Tryz.prog) (partOf (ai Tryz.f13) [1,1,1,1,1,0,1,0,0,1,1,0,0,1,1,1])) (aY 1 (cD false (au Tryz.prog (ah Tryz.prog) (partOf (ai Tryz.f13) [1,1,1,1,1,0,1,0,0,1,1,1])) K))))
theorem F.cU.aP{e:Env}{h:af}{K:AX→St→Bool}:au Tryz.prog (ah Tryz.prog) F.cU.L0 ⟨e,89,[],h⟩ K=(ag (aF .lss (e 40) (e 39)) fun x34=>ay x34 (ag (dx 1 (e 38) (e 40)) fun x35=>ag (aj none x35 h) fun x36=>ag (bY (e 6)) fun x37=>ag (bQ 1 x37) fun x38=>ag (aj none x38 h) fun x39=>ag (cV .string (.int .i64 0) false x39 x36 h) fun x40=>ag (jo [(.str []),(.int .i64 0),.nils] [(0,1),(1,1)] [x36,x40]) fun x41=>ag (bH 3 (.ptr (af.next h) 0) x41 (af.alloc h (.cells [(.str []),(.int .i64 0),.nils]))) fun h42=>ag (bY (e 7)) fun x43=>ag (bQ 1 x43) fun x44=>ag (aj none x44 h42) fun x45=>ag (cV .string .nils false x45 x36 h42) fun x46=>ag (bR .slice x46 h42) fun x47=>bS (au Tryz.prog (ah Tryz.prog) F.cU.L1) ⟨(aa (aa (aa (aa (aa (aa (aa (aa (aa (aa (aa (aa (aa (aa (aa (aa (aa (aa (aa (aa (aa e 41 x34) 42 x35) 43 x36) 11 x36) 44 x36) 45 (e 6)) 46 x37) 47 x38) 48 x39) 49 x36) 50 x40) 51 x41) 12 (.ptr (af.next h) 0)) 52 (e 7)) 53 x43) 54 x44) 55 x45) 56 x36) 57 x46) 58 x47) 59 (.int .i64 0)),89,[],h42⟩ (F.cU.jj K)) (K (.exit 0) ⟨(aa e 41 x34),89,[],h⟩)):=by kernel_rfl
theorem F.cU.aG{e:Env}{h:af}{K:Out→af→Bool}:F.cU.cB K (.exit 0) ⟨e,89,[],h⟩=(ag (aj (some 2) (e 9) h) fun x48=>ag (bH 2 (e 4) x48 h) fun h49=>ag (eL Tryz.prog ⟨(aa (aa e 88 x48) 5 (.int .i64 0)),89,[],h49⟩ Tryz.f13.results.toList) fun vs=>K (.ret (oneOf vs)) h49):=by kernel_rfl
theorem F.cU.dc{e:Env}{h:af}{K:AX→St→Bool}:au Tryz.prog (ah Tryz.prog) F.cU.L1 ⟨e,89,[],h⟩ K=(ag (aF .lss (e 59) (e 58)) fun x50=>let Q1:=(aa e 60 x50);ay x50 (ag (dx 1 (e 57) (e 59)) fun x51=>ag (aj none x51 h) fun x52=>let Q2:=(aa (aa (aa (aa (aa (aa Q1 61 (e 59)) 62 x51) 63 x52) 13 (e 59)) 14 x52) 64 x52);ay x52 (ag (bQ 0 (e 3)) fun x53=>ag (aj none x53 h) fun x54=>ag (bQ 1 (e 12)) fun x55=>ag (aj none x55 h) fun x56=>ah Tryz.prog 51 [x54,x56,(e 59)] h (bO (fun x57 h58=>ag (bL x57 0) fun x61=>ag (bL x57 1) fun x62=>ag (bQ 2 (e 12)) fun x63=>ag (aj none x63 h58) fun x64=>ag (fE [.nils] [(0,1)] [x61]) fun c65=>cL (cq 1 24 x64 (.slice (af.next h58) 0 1 1) (af.alloc h58 (.cells c65))) fun x66 h67=>ag (bQ 2 (e 12)) fun x68=>ag (bH 1 x68 x66 h67) fun h69=>ag (aF .add (e 59) (.int .i64 1)) fun x70=>K .normal ⟨(aa (aa (aa (aa (aa (aa (aa (aa (aa (aa (aa (aa (aa (aa (aa (aa (aa (aa (aa Q2 66 x53) 67 x54) 68 x55) 69 x56) 70 (e 59)) 71 x57) 65 x57) 72 x61) 73 x62) 15 x61) 16 x62) 74 x63) 75 x64) 76 x61) 77 (.slice (af.next h58) 0 1 1)) 78 x66) 79 x68) 80 x70) 59 x70),89,[],h69⟩) (fun v59 h60=>K (.panic v59) ⟨(aa (aa (aa (aa (aa Q2 66 x53) 67 x54) 68 x55) 69 x56) 70 (e 59)),89,[],h60⟩))) (ag (aF .add (e 59) (.int .i64 1)) fun x71=>K .normal ⟨(aa (aa Q2 80 x71) 59 x71),89,[],h⟩)) (K (.exit 2) ⟨Q1,89,[],h⟩)):=by kernel_rfl
theorem F.cU.cx{e:Env}{h:af}{K:AX→St→Bool}:F.cU.jj K (.exit 2) ⟨e,89,[],h⟩=(ag (bQ 1 (e 9)) fun x72=>ag (aj none x72 h) fun x73=>ag (aj (some 3) (e 12) h) fun x74=>ag (fE [(.str []),(.int .i64 0),.nils] [(0,3)] [x74]) fun c75=>cL (cq 3 48 x73 (.slice (af.next h) 0 1 3) (af.alloc h (.cells c75))) fun x76 h77=>ag (bQ 1 (e 9)) fun x78=>ag (bH 1 x78 x76 h77) fun h79=>ag (aF .add (e 40) (.int .i64 1)) fun x80=>K .normal ⟨(aa (aa (aa (aa (aa (aa (aa (aa e 81 x72) 82 x73) 83 x74) 84 (.slice (af.next h) 0 1 3)) 85 x76) 86 x78) 87 x80) 40 x80),89,[],h79⟩):=by kernel_rfl
theorem F.BP{a0 a1:AV}{h:af}{K:Out→af→Bool}:au Tryz.prog (ah Tryz.prog) (ai Tryz.f13) ⟨aB [a0,a1],89,[],h⟩ (az Tryz.prog cg Tryz.f13.results.toList K)=(ag (ef a1) fun c0=>ag (aj (some 2) (.ptr (af.next h) 0) (af.alloc (af.alloc h (.cells c0)) (.cells [(.int .i64 0),.nils]))) fun x1=>ah Tryz.prog 45 [a0,x1] (af.alloc (af.alloc h (.cells c0)) (.cells [(.int .i64 0),.nils])) (bO (fun x2 h3=>ag (bL x2 0) fun x6=>ag (bL x2 1) fun x7=>ag (bL x2 2) fun x8=>ag (oz (.int .i64) x8 (.int .i64 0)) fun x9=>let Q1:=(aa (aa (aa (aa (aa (aa (aa (aa (aa (aa (aa (aa (aa (aa (aa (aB [a0,a1]) 3 (.ptr (af.next h) 0)) 4 (.ptr (af.next (af.alloc h (.cells c0))) 0)) 5 (.int .i64 0)) 18 a0) 19 x1) 20 x2) 17 x2) 21 x6) 22 x7) 23 x8) 6 x6) 7 x7) 8 x8) 24 x8) 25 x9);ay x9 (ag (jo [(.int .i64 0),.nils] [] []) fun x10=>ag (bH 2 (.ptr (af.next (af.alloc h (.cells c0))) 0) x10 h3) fun h11=>ag (eL Tryz.prog ⟨(aa (aa (aa Q1 26 x10) 27 x8) 5 x8),89,[],h11⟩ Tryz.f13.results.toList) fun vs=>K (.ret (oneOf vs)) h11) (ah Tryz.prog 46 [x6,x7,(.func 47 [] [])] h3 (bO (fun x12 h13=>ag (aj (some 2) (.ptr (af.next h) 0) h13) fun x16=>ah Tryz.prog 48 [x16] h13 (bO (fun x17 h18=>ag (bH 2 (.ptr (af.next h18) 0) x17 (af.alloc h18 (.cells [(.int .i64 0),.nils]))) fun h21=>ag (bY x6) fun x22=>ag (bQ 2 x22) fun x23=>ag (aj none x23 h21) fun x24=>ah Tryz.prog 50 [x24] h21 (bO (fun x25 h26=>ah Tryz.prog 49 [x25] h26 (bO (fun x29 h30=>ag (bR .slice x29 h30) fun x33=>bS (au Tryz.prog (ah Tryz.prog) F.cU.L0) ⟨(aa (aa (aa (aa (aa (aa (aa (aa (aa (aa (aa (aa (aa (aa Q1 28 x6) 29 x7) 30 x12) 31 x16) 32 x17) 9 (.ptr (af.next h18) 0)) 33 x6) 34 x22) 35 x23) 36 x24) 37 x25) 38 x29) 39 x33) 40 (.int .i64 0)),89,[],h30⟩ (F.cU.cB K)) (fun v31 h32=>K (.panic v31) h32))) (fun v27 h28=>K (.panic v27) h28))) (fun v19 h20=>K (.panic v19) h20))) (fun v14 h15=>K (.panic v14) h15)))) (fun v4 h5=>K (.panic v4) h5))):=by kernel_rfl
theorem F.zS{a0 a1:AV}{h:af}{K:Out→af→Bool}(hh:au Tryz.prog (ah Tryz.prog) (ai Tryz.f13) ⟨aB [a0,a1],89,[],h⟩ (az Tryz.prog cg Tryz.f13.results.toList K)=true):Sem Tryz.prog 13 [a0,a1] h K:=
 aN mixed (aL _) Tryz.func13 (c:=ai Tryz.f13) rfl (by decide) (of_decide_eq_true (by kernel_rfl)) hh
end
end Go.AM
namespace Go.AM
open Go
noncomputable section
def P7:List AV:=[(.int .u8 80)]
def P8:AV:=(.bool true)
theorem LL:bB Proofs.Tryz.prog F0 D0 200 146 P7 af.empty (b6 true 20 P8)=true:=by kernel_rfl
end
end Go.AM
namespace Go.AM
open Go
noncomputable section
def P9:List AV:=[(.int .u8 40)]
def Qa:AV:=(.bool false)
theorem LM:bB Proofs.Tryz.prog F0 D0 200 146 P9 af.empty (b6 true 20 Qa)=true:=by kernel_rfl
end
end Go.AM
namespace Go.AM
open Go
noncomputable section
def Qb:List AV:=[(.int .u8 120)]
def Qc:AV:=(.bool true)
theorem LN:bB Proofs.Tryz.prog F0 D0 200 146 Qb af.empty (b6 true 20 Qc)=true:=by kernel_rfl
end
end Go.AM
namespace Go.AM
open Go
noncomputable section
def Qd:List AV:=[(.int .u8 32)]
def Qe:AV:=(.bool false)
theorem LO:bB Proofs.Tryz.prog F0 D0 200 146 Qd af.empty (b6 true 20 Qe)=true:=by kernel_rfl
end
end Go.AM
namespace Go.AM
open Go
noncomputable section
def Qf:List AV:=[(.int .u8 121)]
def Qg:AV:=(.bool true)
theorem LP:bB Proofs.Tryz.prog F0 D0 200 146 Qf af.empty (b6 true 20 Qg)=true:=by kernel_rfl
end
end Go.AM
namespace Go.AM
open Go
noncomputable section
def Qh:List AV:=[(.int .u8 41)]
def Qi:AV:=(.bool false)
theorem LQ:bB Proofs.Tryz.prog F0 D0 200 146 Qh af.empty (b6 true 20 Qi)=true:=by kernel_rfl
end
end Go.AM
namespace Go.AM
open Go
noncomputable section
def Qj:List AV:=[(.int .u8 58)]
def Qk:AV:=(.bool false)
theorem LR:bB Proofs.Tryz.prog F0 D0 200 146 Qj af.empty (b6 true 20 Qk)=true:=by kernel_rfl
end
end Go.AM
namespace Go.AM
open Go
noncomputable section
def Ql:List AV:=[(.int .u8 69)]
def Qm:AV:=(.bool true)
theorem LS:bB Proofs.Tryz.prog F0 D0 200 146 Ql af.empty (b6 true 20 Qm)=true:=by kernel_rfl
end
end Go.AM
namespace Go.AM
open Go
noncomputable section
def Qn:List AV:=[(.int .u8 46)]
def Qo:AV:=(.bool false)
theorem LU:bB Proofs.Tryz.prog F0 D0 200 146 Qn af.empty (b6 true 20 Qo)=true:=by kernel_rfl
end
end Go.AM
namespace Go.AM
open Go
noncomputable section
def Qp:List AV:=[(.int .u8 122)]
def Qq:AV:=(.bool true)
theorem LV:bB Proofs.Tryz.prog F0 D0 200 146 Qp af.empty (b6 true 20 Qq)=true:=by kernel_rfl
end
end Go.AM
namespace Go.AM
open Go
noncomputable section
def MC:List AV:=[(.int .u8 44)]
def MD:AV:=(.bool false)
theorem Jn:bB Proofs.Tryz.prog F0 D0 200 146 MC af.empty (b6 true 20 MD)=true:=by kernel_rfl
end
end Go.AM
namespace Go.AM
open Go
noncomputable section
def ME:List AV:=[(.agg [(.int .i64 3),(.islice [(.str [69]),(.int .i64 2),(.islice [(.islice [(.int .i64 0),(.int .i64 1)] 0 2 1),(.islice [(.int .i64 1),(.int .i64 2)] 0 2 1)] 0 2 1)] 0 1 3)]),(.str [69]),(.int .i64 2)]
def MF:AV:=(.int .i64 0)
theorem Jo:bB Proofs.Tryz.prog F0 D0 200 88 ME af.empty (b6 true 20 MF)=true:=by kernel_rfl
end
end Go.AM
namespace Go.AM
open Go
noncomputable section
def MG:List AV:=[(.int .i64 3),(.int .i64 2)]
def MH:AV:=(.tuple [(.int .i64 9),(.int .i64 0)])
theorem Jp:bB Proofs.Tryz.prog F0 D0 200 107 MG af.empty (b6 true 20 MH)=true:=by kernel_rfl
end
end Go.AM
namespace Go.AM
open Go
noncomputable section
def MI:List AV:=[(.islice [(.int .i64 0),(.int .i64 0)] 0 2 1),(.islice [(.int .i64 0),(.int .i64 1)] 0 2 1)]
def MJ:AV:=(.islice [(.int .i64 0),(.int .i64 0)] 0 2 1)
theorem Jq:bB Proofs.Tryz.prog F0 D0 200 124 MI af.empty (b6 false 20 MJ)=true:=by kernel_rfl
end
end Go.AM
namespace Go.AM
open Go
noncomputable section
def MK:List AV:=[(.islice [(.int .i64 0),(.int .i64 1)] 0 2 1),(.islice [(.int .i64 0),(.int .i64 1)] 0 2 1)]
def ML:AV:=(.islice [(.int .i64 0),(.int .i64 1)] 0 2 1)
theorem Jr:bB Proofs.Tryz.prog F0 D0 200 124 MK af.empty (b6 false 20 ML)=true:=by kernel_rfl
end
end Go.AM
namespace Go.AM
open Go
noncomputable section
def MM:List AV:=[(.islice [(.int .i64 0),(.int .i64 2)] 0 2 1),(.islice [(.int .i64 0),(.int .i64 1)] 0 2 1)]
def MN:AV:=(.islice [(.int .i64 0),(.int .i64 2)] 0 2 1)
theorem Js:bB Proofs.Tryz.prog F0 D0 200 124 MM af.empty (b6 false 20 MN)=true:=by kernel_rfl
end
end Go.AM
namespace Go.AM
open Go
noncomputable section
def MO:List AV:=[(.islice [(.int .i64 1),(.int .i64 0)] 0 2 1),(.islice [(.int .i64 0),(.int .i64 1)] 0 2 1)]
def MP:AV:=(.islice [(.int .i64 1),(.int .i64 0)] 0 2 1)
theorem Jt:bB Proofs.Tryz.prog F0 D0 200 124 MO af.empty (b6 false 20 MP)=true:=by kernel_rfl
end
end Go.AM
namespace Go.AM
open Go
noncomputable section
def MQ:List AV:=[(.islice [(.int .i64 1),(.int .i64 1)] 0 2 1),(.islice [(.int .i64 0),(.int .i64 1)] 0 2 1)]
def MR:AV:=(.islice [(.int .i64 1),(.int .i64 1)] 0 2 1)
theorem Ju:bB Proofs.Tryz.prog F0 D0 200 124 MQ af.empty (b6 false 20 MR)=true:=by kernel_rfl
end
end Go.AM
namespace Go.AM
open Go
noncomputable section
def MS:List AV:=[(.islice [(.int .i64 1),(.int .i64 2)] 0 2 1),(.islice [(.int .i64 0),(.int .i64 1)] 0 2 1)]
def MT:AV:=(.islice [(.int .i64 1),(.int .i64 2)] 0 2 1)
theorem Jv:bB Proofs.Tryz.prog F0 D0 200 124 MS af.empty (b6 false 20 MT)=true:=by kernel_rfl
end
end Go.AM
namespace Go.AM
open Go
noncomputable section
def MU:List AV:=[(.islice [(.int .i64 2),(.int .i64 0)] 0 2 1),(.islice [(.int .i64 0),(.int .i64 1)] 0 2 1)]
def MV:AV:=(.islice [(.int .i64 2),(.int .i64 0)] 0 2 1)
theorem Jw:bB Proofs.Tryz.prog F0 D0 200 124 MU af.empty (b6 false 20 MV)=true:=by kernel_rfl
end
end Go.AM
namespace Go.AM
open Go
noncomputable section
def MW:List AV:=[(.islice [(.int .i64 2),(.int .i64 1)] 0 2 1),(.islice [(.int .i64 0),(.int .i64 1)] 0 2 1)]
def MX:AV:=(.islice [(.int .i64 2),(.int .i64 1)] 0 2 1)
theorem Jx:bB Proofs.Tryz.prog F0 D0 200 124 MW af.empty (b6 false 20 MX)=true:=by kernel_rfl
end
end Go.AM
namespace Go.AM
open Go
noncomputable section
def MY:List AV:=[(.islice [(.int .i64 2),(.int .i64 2)] 0 2 1),(.islice [(.int .i64 0),(.int .i64 1)] 0 2 1)]
def MZ:AV:=(.islice [(.int .i64 2),(.int .i64 2)] 0 2 1)
theorem Jy:bB Proofs.Tryz.prog F0 D0 200 124 MY af.empty (b6 false 20 MZ)=true:=by kernel_rfl
end
end Go.AM
namespace Go.AM
open Go
noncomputable section
def M0:List AV:=[(.islice [(.int .i64 0),(.int .i64 0),(.int .i64 0)] 0 3 1),(.islice [(.int .i64 0),(.int .i64 2)] 0 2 1)]
def M1:AV:=(.islice [(.int .i64 0),(.int .i64 0)] 0 2 1)
theorem Jz:bB Proofs.Tryz.prog F0 D0 200 124 M0 af.empty (b6 false 20 M1)=true:=by kernel_rfl
end
end Go.AM
namespace Go.AM
open Go
noncomputable section
def M3:List AV:=[(.islice [(.int .i64 0),(.int .i64 0),(.int .i64 1)] 0 3 1),(.islice [(.int .i64 0),(.int .i64 2)] 0 2 1)]
def M4:AV:=(.islice [(.int .i64 0),(.int .i64 1)] 0 2 1)
theorem JA:bB Proofs.Tryz.prog F0 D0 200 124 M3 af.empty (b6 false 20 M4)=true:=by kernel_rfl
end
end Go.AM
namespace Go.AM
open Go
noncomputable section
def M5:List AV:=[(.islice [(.int .i64 0),(.int .i64 0),(.int .i64 1)] 0 3 1),(.islice [(.int .i64 2),(.int .i64 1)] 0 2 1)]
def M6:AV:=(.islice [(.int .i64 1),(.int .i64 0)] 0 2 1)
theorem JB:bB Proofs.Tryz.prog F0 D0 200 124 M5 af.empty (b6 false 20 M6)=true:=by kernel_rfl
end
end Go.AM
namespace Go.AM
open Go
noncomputable section
def M7:List AV:=[(.islice [(.int .i64 0),(.int .i64 0),(.int .i64 2)] 0 3 1),(.islice [(.int .i64 0),(.int .i64 2)] 0 2 1)]
def M8:AV:=(.islice [(.int .i64 0),(.int .i64 2)] 0 2 1)
theorem JC:bB Proofs.Tryz.prog F0 D0 200 124 M7 af.empty (b6 false 20 M8)=true:=by kernel_rfl
end
end Go.AM
namespace Go.AM
open Go
noncomputable section
def M9:List AV:=[(.islice [(.int .i64 0),(.int .i64 1),(.int .i64 0)] 0 3 1),(.islice [(.int .i64 0),(.int .i64 2)] 0 2 1)]
def Na:AV:=(.islice [(.int .i64 0),(.int .i64 0)] 0 2 1)
theorem JD:bB Proofs.Tryz.prog F0 D0 200 124 M9 af.empty (b6 false 20 Na)=true:=by kernel_rfl
end
end Go.AM
namespace Go.AM
open Go
noncomputable section
def Nb:List AV:=[(.islice [(.int .i64 0),(.int .i64 1),(.int .i64 1)] 0 3 1),(.islice [(.int .i64 0),(.int .i64 2)] 0 2 1)]
def Nc:AV:=(.islice [(.int .i64 0),(.int .i64 1)] 0 2 1)
theorem JE:bB Proofs.Tryz.prog F0 D0 200 124 Nb af.empty (b6 false 20 Nc)=true:=by kernel_rfl
end
end Go.AM
namespace Go.AM
open Go
noncomputable section
def Nd:List AV:=[(.islice [(.int .i64 0),(.int .i64 1),(.int .i64 1)] 0 3 1),(.islice [(.int .i64 2),(.int .i64 1)] 0 2 1)]
def Nf:AV:=(.islice [(.int .i64 1),(.int .i64 1)] 0 2 1)
theorem JF:bB Proofs.Tryz.prog F0 D0 200 124 Nd af.empty (b6 false 20 Nf)=true:=by kernel_rfl
end
end Go.AM
namespace Go.AM
open Go
noncomputable section
def Ng:List AV:=[(.islice [(.int .i64 0),(.int .i64 1),(.int .i64 2)] 0 3 1),(.islice [(.int .i64 0),(.int .i64 2)] 0 2 1)]
def Nh:AV:=(.islice [(.int .i64 0),(.int .i64 2)] 0 2 1)
theorem JG:bB Proofs.Tryz.prog F0 D0 200 124 Ng af.empty (b6 false 20 Nh)=true:=by kernel_rfl
end
end Go.AM
namespace Go.AM
open Go
noncomputable section
def Ni:List AV:=[(.islice [(.int .i64 0),(.int .i64 2),(.int .i64 0)] 0 3 1),(.islice [(.int .i64 0),(.int .i64 2)] 0 2 1)]
def Nj:AV:=(.islice [(.int .i64 0),(.int .i64 0)] 0 2 1)
theorem JH:bB Proofs.Tryz.prog F0 D0 200 124 Ni af.empty (b6 false 20 Nj)=true:=by kernel_rfl
end
end Go.AM
namespace Go.AM
open Go
noncomputable section
def Nk:List AV:=[(.islice [(.int .i64 0),(.int .i64 2),(.int .i64 1)] 0 3 1),(.islice [(.int .i64 0),(.int .i64 2)] 0 2 1)]
def Nl:AV:=(.islice [(.int .i64 0),(.int .i64 1)] 0 2 1)
theorem JI:bB Proofs.Tryz.prog F0 D0 200 124 Nk af.empty (b6 false 20 Nl)=true:=by kernel_rfl
end
end Go.AM
namespace Go.AM
open Go
noncomputable section
def Nn:List AV:=[(.islice [(.int .i64 0),(.int .i64 2),(.int .i64 1)] 0 3 1),(.islice [(.int .i64 2),(.int .i64 1)] 0 2 1)]
def No:AV:=(.islice [(.int .i64 1),(.int .i64 2)] 0 2 1)
theorem JJ:bB Proofs.Tryz.prog F0 D0 200 124 Nn af.empty (b6 false 20 No)=true:=by kernel_rfl
end
end Go.AM
namespace Go.AM
open Go
noncomputable section
def Np:List AV:=[(.islice [(.int .i64 0),(.int .i64 2),(.int .i64 1)] 0 3 1),(.islice [(.int .i64 0),(.int .i64 1)] 0 2 1)]
def Nq:AV:=(.islice [(.int .i64 0),(.int .i64 2)] 0 2 1)
theorem JK:bB Proofs.Tryz.prog F0 D0 200 124 Np af.empty (b6 false 20 Nq)=true:=by kernel_rfl
end
end Go.AM
namespace Go.AM
open Go
noncomputable section
def Nr:List AV:=[(.islice [(.int .i64 0),(.int .i64 2),(.int .i64 2)] 0 3 1),(.islice [(.int .i64 0),(.int .i64 2)] 0 2 1)]
def Ns:AV:=(.islice [(.int .i64 0),(.int .i64 2)] 0 2 1)
theorem JL:bB Proofs.Tryz.prog F0 D0 200 124 Nr af.empty (b6 false 20 Ns)=true:=by kernel_rfl
end
end Go.AM
namespace Go.AM
open Go
noncomputable section
def Nt:List AV:=[(.islice [(.int .i64 1),(.int .i64 0),(.int .i64 0)] 0 3 1),(.islice [(.int .i64 0),(.int .i64 2)] 0 2 1)]
def Nu:AV:=(.islice [(.int .i64 1),(.int .i64 0)] 0 2 1)
theorem JM:bB Proofs.Tryz.prog F0 D0 200 124 Nt af.empty (b6 false 20 Nu)=true:=by kernel_rfl
end
end Go.AM
namespace Go.AM
open Go
noncomputable section
def Nv:List AV:=[(.islice [(.int .i64 1),(.int .i64 0),(.int .i64 1)] 0 3 1),(.islice [(.int .i64 0),(.int .i64 2)] 0 2 1)]
def Nw:AV:=(.islice [(.int .i64 1),(.int .i64 1)] 0 2 1)
theorem JN:bB Proofs.Tryz.prog F0 D0 200 124 Nv af.empty (b6 false 20 Nw)=true:=by kernel_rfl
end
end Go.AM
namespace Go.AM
open Go
noncomputable section
def Nx:List AV:=[(.islice [(.int .i64 1),(.int .i64 0),(.int .i64 2)] 0 3 1),(.islice [(.int .i64 0),(.int .i64 2)] 0 2 1)]
def Ny:AV:=(.islice [(.int .i64 1),(.int .i64 2)] 0 2 1)
theorem JO:bB Proofs.Tryz.prog F0 D0 200 124 Nx af.empty (b6 false 20 Ny)=true:=by kernel_rfl
end
end Go.AM
namespace Go.AM
open Go
noncomputable section
def Nz:List AV:=[(.islice [(.int .i64 1),(.int .i64 0),(.int .i64 2)] 0 3 1),(.islice [(.int .i64 2),(.int .i64 1)] 0 2 1)]
def NA:AV:=(.islice [(.int .i64 2),(.int .i64 0)] 0 2 1)
theorem JP:bB Proofs.Tryz.prog F0 D0 200 124 Nz af.empty (b6 false 20 NA)=true:=by kernel_rfl
end
end Go.AM
namespace Go.AM
open Go
noncomputable section
def NB:List AV:=[(.islice [(.int .i64 1),(.int .i64 1),(.int .i64 0)] 0 3 1),(.islice [(.int .i64 0),(.int .i64 2)] 0 2 1)]
def NC:AV:=(.islice [(.int .i64 1),(.int .i64 0)] 0 2 1)
theorem JQ:bB Proofs.Tryz.prog F0 D0 200 124 NB af.empty (b6 false 20 NC)=true:=by kernel_rfl
end
end Go.AM
namespace Go.AM
open Go
noncomputable section
def ND:List AV:=[(.islice [(.int .i64 1),(.int .i64 1),(.int .i64 1)] 0 3 1),(.islice [(.int .i64 0),(.int .i64 2)] 0 2 1)]
def NF:AV:=(.islice [(.int .i64 1),(.int .i64 1)] 0 2 1)
theorem JR:bB Proofs.Tryz.prog F0 D0 200 124 ND af.empty (b6 false 20 NF)=true:=by kernel_rfl
end
end Go.AM
namespace Go.AM
open Go
noncomputable section
def NG:List AV:=[(.islice [(.int .i64 1),(.int .i64 1),(.int .i64 2)] 0 3 1),(.islice [(.int .i64 0),(.int .i64 2)] 0 2 1)]
def NH:AV:=(.islice [(.int .i64 1),(.int .i64 2)] 0 2 1)
theorem JS:bB Proofs.Tryz.prog F0 D0 200 124 NG af.empty (b6 false 20 NH)=true:=by kernel_rfl
end
end Go.AM
namespace Go.AM
open Go
noncomputable section
def NI:List AV:=[(.islice [(.int .i64 1),(.int .i64 1),(.int .i64 2)] 0 3 1),(.islice [(.int .i64 2),(.int .i64 1)] 0 2 1)]
def NJ:AV:=(.islice [(.int .i64 2),(.int .i64 1)] 0 2 1)
theorem JT:bB Proofs.Tryz.prog F0 D0 200 124 NI af.empty (b6 false 20 NJ)=true:=by kernel_rfl
end
end Go.AM
namespace Go.AM
open Go
noncomputable section
def NK:List AV:=[(.islice [(.int .i64 1),(.int .i64 2),(.int .i64 0)] 0 3 1),(.islice [(.int .i64 0),(.int .i64 2)] 0 2 1)]
def NL:AV:=(.islice [(.int .i64 1),(.int .i64 0)] 0 2 1)
theorem JU:bB Proofs.Tryz.prog F0 D0 200 124 NK af.empty (b6 false 20 NL)=true:=by kernel_rfl
end
end Go.AM
namespace Go.AM
open Go
noncomputable section
def NM:List AV:=[(.islice [(.int .i64 1),(.int .i64 2),(.int .i64 1)] 0 3 1),(.islice [(.int .i64 0),(.int .i64 2)] 0 2 1)]
def NN:AV:=(.islice [(.int .i64 1),(.int .i64 1)] 0 2 1)
theorem JV:bB Proofs.Tryz.prog F0 D0 200 124 NM af.empty (b6 false 20 NN)=true:=by kernel_rfl
end
end Go.AM
namespace Go.AM
open Go
noncomputable section
def NO:List AV:=[(.islice [(.int .i64 1),(.int .i64 2),(.int .i64 2)] 0 3 1),(.islice [(.int .i64 0),(.int .i64 2)] 0 2 1)]
def NP:AV:=(.islice [(.int .i64 1),(.int .i64 2)] 0 2 1)
theorem JW:bB Proofs.Tryz.prog F0 D0 200 124 NO af.empty (b6 false 20 NP)=true:=by kernel_rfl
end
end Go.AM
namespace Go.AM
open Go
noncomputable section
def NQ:List AV:=[(.islice [(.int .i64 1),(.int .i64 2),(.int .i64 2)] 0 3 1),(.islice [(.int .i64 2),(.int .i64 1)] 0 2 1)]
def NR:AV:=(.islice [(.int .i64 2),(.int .i64 2)] 0 2 1)
theorem JX:bB Proofs.Tryz.prog F0 D0 200 124 NQ af.empty (b6 false 20 NR)=true:=by kernel_rfl
end
end Go.AM
namespace Go.AM
open Go
noncomputable section
def NS:List AV:=[(.islice [(.int .i64 2),(.int .i64 0),(.int .i64 0)] 0 3 1),(.islice [(.int .i64 0),(.int .i64 2)] 0 2 1)]
def NT:AV:=(.islice [(.int .i64 2),(.int .i64 0)] 0 2 1)
theorem JY:bB Proofs.Tryz.prog F0 D0 200 124 NS af.empty (b6 false 20 NT)=true:=by kernel_rfl
end
end Go.AM
namespace Go.AM
open Go
noncomputable section
def NU:List AV:=[(.islice [(.int .i64 2),(.int .i64 0),(.int .i64 1)] 0 3 1),(.islice [(.int .i64 0),(.int .i64 2)] 0 2 1)]
def NV:AV:=(.islice [(.int .i64 2),(.int .i64 1)] 0 2 1)
theorem JZ:bB Proofs.Tryz.prog F0 D0 200 124 NU af.empty (b6 false 20 NV)=true:=by kernel_rfl
end
end Go.AM
namespace Go.AM
open Go
noncomputable section
def NW:List AV:=[(.islice [(.int .i64 2),(.int .i64 0),(.int .i64 2)] 0 3 1),(.islice [(.int .i64 0),(.int .i64 2)] 0 2 1)]
def NX:AV:=(.islice [(.int .i64 2),(.int .i64 2)] 0 2 1)
theorem J1:bB Proofs.Tryz.prog F0 D0 200 124 NW af.empty (b6 false 20 NX)=true:=by kernel_rfl
end
end Go.AM
namespace Go.AM
open Go
noncomputable section
def NY:List AV:=[(.islice [(.int .i64 2),(.int .i64 1),(.int .i64 0)] 0 3 1),(.islice [(.int .i64 0),(.int .i64 2)] 0 2 1)]
def NZ:AV:=(.islice [(.int .i64 2),(.int .i64 0)] 0 2 1)
theorem J2:bB Proofs.Tryz.prog F0 D0 200 124 NY af.empty (b6 false 20 NZ)=true:=by kernel_rfl
end
end Go.AM
namespace Go.AM
open Go
noncomputable section
def N3:List AV:=[(.islice [(.int .i64 2),(.int .i64 1),(.int .i64 1)] 0 3 1),(.islice [(.int .i64 0),(.int .i64 2)] 0 2 1)]
def N7:AV:=(.islice [(.int .i64 2),(.int .i64 1)] 0 2 1)
theorem J3:bB Proofs.Tryz.prog F0 D0 200 124 N3 af.empty (b6 false 20 N7)=true:=by kernel_rfl
end
end Go.AM
namespace Go.AM
open Go
noncomputable section
def N8:List AV:=[(.islice [(.int .i64 2),(.int .i64 1),(.int .i64 2)] 0 3 1),(.islice [(.int .i64 0),(.int .i64 2)] 0 2 1)]
def N9:AV:=(.islice [(.int .i64 2),(.int .i64 2)] 0 2 1)
theorem J4:bB Proofs.Tryz.prog F0 D0 200 124 N8 af.empty (b6 false 20 N9)=true:=by kernel_rfl
end
end Go.AM
namespace Go.AM
open Go
noncomputable section
def Oa:List AV:=[(.islice [(.int .i64 2),(.int .i64 2),(.int .i64 0)] 0 3 1),(.islice [(.int .i64 0),(.int .i64 2)] 0 2 1)]
def Ob:AV:=(.islice [(.int .i64 2),(.int .i64 0)] 0 2 1)
theorem J5:bB Proofs.Tryz.prog F0 D0 200 124 Oa af.empty (b6 false 20 Ob)=true:=by kernel_rfl
end
end Go.AM
namespace Go.AM
open Go
noncomputable section
def Oc:List AV:=[(.islice [(.int .i64 2),(.int .i64 2),(.int .i64 1)] 0 3 1),(.islice [(.int .i64 0),(.int .i64 2)] 0 2 1)]
def Od:AV:=(.islice [(.int .i64 2),(.int .i64 1)] 0 2 1)
theorem J6:bB Proofs.Tryz.prog F0 D0 200 124 Oc af.empty (b6 false 20 Od)=true:=by kernel_rfl
end
end Go.AM
namespace Go.AM
open Go
noncomputable section
def Oe:List AV:=[(.islice [(.int .i64 2),(.int .i64 2),(.int .i64 2)] 0 3 1),(.islice [(.int .i64 0),(.int .i64 2)] 0 2 1)]
def Of:AV:=(.islice [(.int .i64 2),(.int .i64 2)] 0 2 1)
theorem J7:bB Proofs.Tryz.prog F0 D0 200 124 Oe af.empty (b6 false 20 Of)=true:=by kernel_rfl
end
end Go.AM
namespace Go.AM
open Go
noncomputable section
def Og:List AV:=[(.str [80]),(.islice [(.int .i64 0),(.int .i64 1)] 0 2 1)]
def Oh:AV:=(.str [80,47,0,1])
theorem J8:bB Proofs.Tryz.prog F0 D0 200 71 Og af.empty (b6 true 20 Oh)=true:=by kernel_rfl
end
end Go.AM
namespace Go.AM
open Go
noncomputable section
def Oi:List AV:=[(.str [80]),(.islice [(.int .i64 1),(.int .i64 2)] 0 2 1)]
def Oj:AV:=(.str [80,47,1,2])
theorem J9:bB Proofs.Tryz.prog F0 D0 200 71 Oi af.empty (b6 true 20 Oj)=true:=by kernel_rfl
end
end Go.AM
namespace Go.AM
open Go
noncomputable section
def Ol:List AV:=[(.str [80]),(.islice [(.int .i64 0),(.int .i64 2)] 0 2 1)]
def Om:AV:=(.str [80,47,0,2])
theorem Ka:bB Proofs.Tryz.prog F0 D0 200 71 Ol af.empty (b6 true 20 Om)=true:=by kernel_rfl
end
end Go.AM
namespace Go.AM
open Go
noncomputable section
def On:List AV:=[(.islice [(.int .i64 0),(.int .i64 2),(.int .i64 1)] 0 3 1),(.islice [(.int .i64 0),(.int .i64 1)] 0 2 1)]
def Oo:AV:=(.islice [(.int .i64 0),(.int .i64 2)] 0 2 1)
theorem Kb:bB Proofs.Tryz.prog F0 D0 200 124 On af.empty (b6 true 20 Oo)=true:=by kernel_rfl
end
end Go.AM
namespace Go.AM
open Go
noncomputable section
def Oq:List AV:=[(.islice [(.int .i64 0),(.int .i64 2),(.int .i64 1)] 0 3 1),(.islice [(.int .i64 0),(.int .i64 2)] 0 2 1)]
def Ot:AV:=(.islice [(.int .i64 0),(.int .i64 1)] 0 2 1)
theorem Kc:bB Proofs.Tryz.prog F0 D0 200 124 Oq af.empty (b6 true 20 Ot)=true:=by kernel_rfl
end
end Go.AM
namespace Go.AM
open Go
noncomputable section
def Ou:List AV:=[(.islice [(.int .i64 0),(.int .i64 2),(.int .i64 1)] 0 3 1),(.islice [(.int .i64 2),(.int .i64 1)] 0 2 1)]
def Ov:AV:=(.islice [(.int .i64 1),(.int .i64 2)] 0 2 1)
theorem Ke:bB Proofs.Tryz.prog F0 D0 200 124 Ou af.empty (b6 true 20 Ov)=true:=by kernel_rfl
end
end Go.AM
namespace Go.AM
open Go
noncomputable section
def Ow:List AV:=[(.islice [(.int .i64 1),(.int .i64 2)] 0 2 1),(.islice [(.int .i64 0),(.int .i64 1)] 0 2 1)]
def Ox:AV:=(.islice [(.int .i64 1),(.int .i64 2)] 0 2 1)
theorem Kf:bB Proofs.Tryz.prog F0 D0 200 124 Ow af.empty (b6 true 20 Ox)=true:=by kernel_rfl
end
end Go.AM
namespace Go.AM
open Go
noncomputable section
def F1:sC:=fun x=>if x=146 then some (g8 (fm P7 P8) (g8 (fm P9 Qa) (g8 (fm Qb Qc) (g8 (fm Qd Qe) (g8 (fm Qf Qg) (g8 (fm Qh Qi) (g8 (fm Qj Qk) (g8 (fm Ql Qm) (g8 (fm Qn Qo) (g8 (fm Qp Qq) (fm MC MD))))))))))) else if x=88 then some (fm ME MF) else if x=107 then some (fm MG MH) else if x=124 then some (g8 (cR 20 MI MJ) (g8 (cR 20 MK ML) (g8 (cR 20 MM MN) (g8 (cR 20 MO MP) (g8 (cR 20 MQ MR) (g8 (cR 20 MS MT) (g8 (cR 20 MU MV) (g8 (cR 20 MW MX) (g8 (cR 20 MY MZ) (g8 (cR 20 M0 M1) (g8 (cR 20 M3 M4) (g8 (cR 20 M5 M6) (g8 (cR 20 M7 M8) (g8 (cR 20 M9 Na) (g8 (cR 20 Nb Nc) (g8 (cR 20 Nd Nf) (g8 (cR 20 Ng Nh) (g8 (cR 20 Ni Nj) (g8 (cR 20 Nk Nl) (g8 (cR 20 Nn No) (g8 (cR 20 Np Nq) (g8 (cR 20 Nr Ns) (g8 (cR 20 Nt Nu) (g8 (cR 20 Nv Nw) (g8 (cR 20 Nx Ny) (g8 (cR 20 Nz NA) (g8 (cR 20 NB NC) (g8 (cR 20 ND NF) (g8 (cR 20 NG NH) (g8 (cR 20 NI NJ) (g8 (cR 20 NK NL) (g8 (cR 20 NM NN) (g8 (cR 20 NO NP) (g8 (cR 20 NQ NR) (g8 (cR 20 NS NT) (g8 (cR 20 NU NV) (g8 (cR 20 NW NX) (g8 (cR 20 NY NZ) (g8 (cR 20 N3 N7) (g8 (cR 20 N8 N9) (g8 (cR 20 Oa Ob) (g8 (cR 20 Oc Od) (g8 (cR 20 Oe Of) (g8 (fm On Oo) (g8 (fm Oq Ot) (g8 (fm Ou Ov) (fm Ow Ox))))))))))))))))))))))))))))))))))))))))))))))) else if x=71 then some (g8 (fm Og Oh) (g8 (fm Oi Oj) (fm Ol Om))) else F0 x
theorem CU:gZ Proofs.Tryz.prog F1:=by
 have hs:=iu mixed ta oQ 200
 intro f g hg args h K hK
 unfold F1 at hg
 split at hg
 ·rename_i e
  subst e
  cases hg
  rcases bV hK with hK|hK
  ·exact bX hs (by kernel_rfl) LL args h K hK
  rcases bV hK with hK|hK
  ·exact bX hs (by kernel_rfl) LM args h K hK
  rcases bV hK with hK|hK
  ·exact bX hs (by kernel_rfl) LN args h K hK
  rcases bV hK with hK|hK
  ·exact bX hs (by kernel_rfl) LO args h K hK
  rcases bV hK with hK|hK
  ·exact bX hs (by kernel_rfl) LP args h K hK
  rcases bV hK with hK|hK
  ·exact bX hs (by kernel_rfl) LQ args h K hK
  rcases bV hK with hK|hK
  ·exact bX hs (by kernel_rfl) LR args h K hK
  rcases bV hK with hK|hK
  ·exact bX hs (by kernel_rfl) LS args h K hK
  rcases bV hK with hK|hK
  ·exact bX hs (by kernel_rfl) LU args h K hK
  rcases bV hK with hK|hK
  ·exact bX hs (by kernel_rfl) LV args h K hK
  exact bX hs (by kernel_rfl) Jn args h K hK
 split at hg
 ·rename_i e
  subst e
  cases hg
  exact bX hs (by kernel_rfl) Jo args h K hK
 split at hg
 ·rename_i e
  subst e
  cases hg
  exact bX hs (by kernel_rfl) Jp args h K hK
 split at hg
 ·rename_i e
  subst e
  cases hg
  rcases bV hK with hK|hK
  ·exact aU hs Jq args h K hK
  rcases bV hK with hK|hK
  ·exact aU hs Jr args h K hK
  rcases bV hK with hK|hK
  ·exact aU hs Js args h K hK
  rcases bV hK with hK|hK
  ·exact aU hs Jt args h K hK
  rcases bV hK with hK|hK
  ·exact aU hs Ju args h K hK
  rcases bV hK with hK|hK
  ·exact aU hs Jv args h K hK
  rcases bV hK with hK|hK
  ·exact aU hs Jw args h K hK
  rcases bV hK with hK|hK
  ·exact aU hs Jx args h K hK
  rcases bV hK with hK|hK
  ·exact aU hs Jy args h K hK
  rcases bV hK with hK|hK
  ·exact aU hs Jz args h K hK
  rcases bV hK with hK|hK
  ·exact aU hs JA args h K hK
  rcases bV hK with hK|hK
  ·exact aU hs JB args h K hK
  rcases bV hK with hK|hK
  ·exact aU hs JC args h K hK
  rcases bV hK with hK|hK
  ·exact aU hs JD args h K hK
  rcases bV hK with hK|hK
  ·exact aU hs JE args h K hK
  rcases bV hK with hK|hK
  ·exact aU hs JF args h K hK
  rcases bV hK with hK|hK
  ·exact aU hs JG args h K hK
  rcases bV hK with hK|hK
  ·exact aU hs JH args h K hK
  rcases bV hK with hK|hK
  ·exact aU hs JI args h K hK
  rcases bV hK with hK|hK
  ·exact aU hs JJ args h K hK
  rcases bV hK with hK|hK
  ·exact aU hs JK args h K hK
  rcases bV hK with hK|hK
  ·exact aU hs JL args h K hK
  rcases bV hK with hK|hK
  ·exact aU hs JM args h K hK
  rcases bV hK with hK|hK
  ·exact aU hs JN args h K hK
  rcases bV hK with hK|hK
  ·exact aU hs JO args h K hK
  rcases bV hK with hK|hK
  ·exact aU hs JP args h K hK
  rcases bV hK with hK|hK
  ·exact aU hs JQ args h K hK
  rcases bV hK with hK|hK
  ·exact aU hs JR args h K hK
  rcases bV hK with hK|hK
  ·exact aU hs JS args h K hK
  rcases bV hK with hK|hK
  ·exact aU hs JT args h K hK
  rcases bV hK with hK|hK
  ·exact aU hs JU args h K hK
  rcases bV hK with hK|hK
  ·exact aU hs JV args h K hK
  rcases bV hK with hK|hK
  ·exact aU hs JW args h K hK
  rcases bV hK with hK|hK
  ·exact aU hs JX args h K hK
  rcases bV hK with hK|hK
  ·exact aU hs JY args h K hK
  rcases bV hK with hK|hK
  ·exact aU hs JZ args h K hK
  rcases bV hK with hK|hK
  ·exact aU hs J1 args h K hK
  rcases bV hK with hK|hK
  ·exact aU hs J2 args h K hK
  rcases bV hK with hK|hK
  ·exact aU hs J3 args h K hK
  rcases bV hK with hK|hK
  ·exact aU hs J4 args h K hK
  rcases bV hK with hK|hK
  ·exact aU hs J5 args h K hK
  rcases bV hK with hK|hK
  ·exact aU hs J6 args h K hK
  rcases bV hK with hK|hK
  ·exact aU hs J7 args h K hK
  rcases bV hK with hK|hK
  ·exact bX hs (by kernel_rfl) Kb args h K hK
  rcases bV hK with hK|hK
  ·exact bX hs (by kernel_rfl) Kc args h K hK
  rcases bV hK with hK|hK
  ·exact bX hs (by kernel_rfl) Ke args h K hK
  exact bX hs (by kernel_rfl) Kf args h K hK
 split at hg
 ·rename_i e
  subst e
  cases hg
  rcases bV hK with hK|hK
  ·exact bX hs (by kernel_rfl) J8 args h K hK
  rcases bV hK with hK|hK
  ·exact bX hs (by kernel_rfl) J9 args h K hK
  exact bX hs (by kernel_rfl) Ka args h K hK
 exact ta f g hg args h K hK
end
end Go.AM
namespace Go.AM
open Go
noncomputable section
def Oy:List AV:=[(.agg [(.str [80]),(.islice [(.str [120]),(.str [121])] 0 2 1)])]
def Oz:AV:=(.bool true)
theorem Kg:bB Proofs.Tryz.prog F1 D0 200 130 Oy af.empty (b6 false 20 Oz)=true:=by kernel_rfl
end
end Go.AM
namespace Go.AM
open Go
noncomputable section
def OA:List AV:=[(.agg [(.str [80]),(.islice [(.str [120]),(.str [121])] 0 2 1),(.islice [(.int .i64 0),(.bool false),(.str [69]),(.islice [(.str [120]),(.str [121])] 0 2 1)] 0 1 4)])]
def OB:AV:=(.islice [(.str [120]),(.str [121])] 0 2 1)
theorem Kh:bB Proofs.Tryz.prog F1 D0 200 108 OA af.empty (b6 false 20 OB)=true:=by kernel_rfl
end
end Go.AM
namespace Go.AM
open Go
noncomputable section
def OC:List AV:=[(.agg [(.int .i64 0),(.bool false),(.str [69]),(.islice [(.str [120]),(.str [121])] 0 2 1)])]
def OD:AV:=(.bool true)
theorem Ki:bB Proofs.Tryz.prog F1 D0 200 132 OC af.empty (b6 false 20 OD)=true:=by kernel_rfl
end
end Go.AM
namespace Go.AM
open Go
noncomputable section
def OE:List AV:=[(.agg [(.int .i64 0),(.bool false),(.str [69]),(.islice [(.str [120]),(.str [122])] 0 2 1)])]
def OF:AV:=(.bool true)
theorem Kj:bB Proofs.Tryz.prog F1 D0 200 132 OE af.empty (b6 false 20 OF)=true:=by kernel_rfl
end
end Go.AM