/- Parts of the proof. Conditions: none. -/
import Derived.Test.YtmkffehchicgaaaGreatPf3
import Derived.Test.YtmkffehchicgaaaGreatPf8
import Derived.Test.YtmkffehchicgaaaGreatPf9
import Derived.Test.YtmkffehchicgaaaGreatPf10
import Derived.Test.YtmkffehchicgaaaGreatPf11
import Derived.KernelRfl
namespace Go.Proofs
open Go.RowKit Go.Maps Go.Sort Go.Shelf
theorem Tryz.QE(m:Nat):AnyZ.SortsIn Tryz.prog Tryz.As Fence.wide m:=
 ⟨fun mc off cap ss W hH WT qv=>callsIn_wide.2 (AnyM.slices_Sort_string Tryz.Qk mc off cap ss W hH WT qv),
  fun p cap W=>callsIn_wide.2 (AnyM.slices_Sort_string_none Tryz.Qk p cap W)⟩
theorem Tryz.Mr:AM.I5 Tryz.prog 50 114 100:=fun mb W=>callsIn_wide.1 (AnyZ.keys_in Tryz.Oh Fence.wide 5 trivial rfl mb W)
set_option maxHeartbeats 1000000 in
theorem Tryz.HI:AM.Dd Tryz.prog 49 114 9:=by
 refine ⟨fun Bm b nn D0 w h1 h2 aaE HH aaN=>(callsIn_wide (n:=5)).1 ?_,fun Bm w h1 h2=>?_⟩
 ·have aaO:SeqGives Fence.wide 2 Tryz.prog 114 #[.pointer (some ⟨Bm,0,none⟩)] encStr (fun ss=>ss.Perm (strKeys D0)) (Maps.size D0) w:=
   AnyZ.keys_gives (ρ:=Tryz.zA) { Tryz.Oh with } Fence.wide _ trivial rfl (by omega) Bm b nn D0 w h1 h2 aaE
  exact AnyZ.sorted_in Tryz.LI Fence.wide 5 trivial trivial trivial trivial rfl (by omega) (Tryz.QE _) (enters_of Tryz.func113 (by kernel_rfl) rfl) 114 #[.pointer (some ⟨Bm,0,none⟩)] trivial (enters_of Tryz.func114 (by kernel_rfl) rfl) _ _ HH aaN w aaO
 ·have aaO:SeqGives Fence.wide 2 Tryz.prog 114 #[.pointer (some ⟨Bm,0,none⟩)] encStr (fun ss:List (List UInt8)=>ss = []) 0 w:=
   AnyZ.keys_gives_nil (ρ:=Tryz.zA) { Tryz.Oh with } Fence.wide _ trivial rfl Bm w h1 h2
  refine Calls.mono ((callsIn_wide (n:=5)).1 (AnyZ.sorted_in Tryz.LI Fence.wide 5 trivial trivial trivial trivial rfl (by omega) (Tryz.QE _) (enters_of Tryz.func113 (by kernel_rfl) rfl) 114 #[.pointer (some ⟨Bm,0,none⟩)] trivial (enters_of Tryz.func114 (by kernel_rfl) rfl) _ 0 (Nat.zero_le _) (by omega) w aaO)) fun e w' hR=>?_;obtain ⟨v,ss,rfl,s1,s2,s3,s4⟩:=hR;exact ⟨by rw [s3.2 s1],s4⟩
end Go.Proofs
namespace Go.AM
open Go Go.Proofs
noncomputable section
noncomputable abbrev TP:Go.Program:=Tryz.prog
noncomputable abbrev EV:=rI TP (aA TP)
variable {K:Out->ag->Bool} {h:ag} {J:AX->St->Bool} {e:Env} {a0 a1 a2 a3 a4:AV}
theorem mixed:Tryz.prog.follows .mixedOrders=true:=by kernel_rfl
noncomputable abbrev RL (f:Go.Func):=bp TP gm f.results.toList
theorem SB{f:FuncId}{fn:Go.Func}(Tr:TP.funcs[f]?=some fn)(hb:fn.body=some (ak fn))(hn:fn.name≠ "runtime.NumGoroutine"){args:List AV}(hl:Nat.ble args.length fn.ntmps=true){h:ag}{K:Out->ag->Bool}
  (hh:EV (ak fn) ⟨aI args,fn.ntmps,[],h⟩ (RL fn K)=true):Sem TP f args h K:=cB mixed (cm _) Tr hb hn (Nat.le_of_ble_eq_true hl) hh
noncomputable def adm:Code->List Oper
 |.seq (.region _ ops _) _=>ops.toList
 |_=>[]
noncomputable def ajg:Code->Nat
 |.seq (.region id _ _) _=>id
 |_=>0
noncomputable def Ur:List Oper->Oper
 |o :: _=>o
 |[]=>default
noncomputable def ajh:Op->Array TypeId
 |.call c=>c.argTypes
 |_=>#[]
def F0:CT:=fun f=>if f=50 then some (Uj 114) else if f=49 then some (Kv 114) else none
theorem Us:Enters TP 50:=⟨_,_,Tryz.func50,rfl,by decide⟩
theorem Ut:Enters TP 49:=⟨_,_,Tryz.func49,rfl,by decide⟩
theorem Ms:oU TP F0:=by
 intro f g hg args h K hK;unfold F0 at hg;split at hg
 ·rename_i e;subst e;cases hg;exact Mm Us Tryz.Mr args h K hK
 split at hg
 ·rename_i e;subst e;cases hg;exact HG Ut (by kernel_rfl) Tryz.HI args h K hK
 ·cases hg
noncomputable def AS:List Oper:=adm (ak Tryz.f97)
noncomputable def I7:Code:=partOf (ak Tryz.f97) [1]
def D0:tg:=fun f=>if f=97 then some (fun args LG h K=>Nat.ble args.length 2&&OO TP 10 5 AS I7 args LG h K) else none
theorem RY:QB TP 97 10 5 AS I7 2:=⟨⟨Tryz.f97,ajg (ak Tryz.f97),Ur AS,ajh (Ur AS).op,Tryz.func97,by kernel_rfl,by kernel_rfl,by decide,by kernel_rfl,by decide,by decide,by kernel_rfl,by kernel_rfl,by kernel_rfl,by kernel_rfl⟩⟩
theorem wO:Fq TP D0:=by
 intro f g hg;unfold D0 at hg;split at hg
 ·rename_i e;subst e;cases hg;refine ⟨⟨_,_,Tryz.func97,rfl,by decide⟩,fun args LG h K hh w0 μ w vs pv h1 h2 h3=>?_⟩;simp only [Bool.and_eq_true] at hh;exact (Kt mixed RY (Nat.le_of_ble_eq_true hh.1) hh.2).2 w0 μ w vs pv h1 h2 h3
 cases hg
noncomputable def F.fq.L0:Code:=partOf (ak Tryz.f116) [1,1,0,1,0,0]
noncomputable def F.fq.cM(K:Out->ag->Bool):AX->St->Bool:=(aZ 0 (cS false (EV (partOf (ak Tryz.f116) [1,1,1])) (bp TP gm Tryz.f116.results.toList K)))
theorem F.fq.aT:EV F.fq.L0 ⟨e,40,[],h⟩ J=(af (b6 .str (e 0) h) fun f=>af (aL .lss (e 3) f) fun g=>let Q1:=(aa (aa (aa (aa e 22 (e 3)) 23 (e 0)) 24 f) 25 g);az g (af (mY (e 0) (e 3)) fun a=>aA TP 163 [a] h (bH (fun i j=>af (kM .not i) fun b=>let Q2:=(aa (aa (aa (aa (aa (aa Q1 28 (e 0)) 29 (e 3)) 30 a) 31 i) 32 b) 33 b);az b (af (mY (e 0) (e 3)) fun c=>aA TP 165 [c] j (bH (fun k l=>af (kM .not k) fun d=>let Q3:=(aa (aa (aa (aa (aa (aa (aa (aa (aa (aa (aa Q2 33 (.bool true)) 34 (e 0)) 33 (.bool true)) 35 (e 3)) 33 (.bool true)) 36 c) 33 (.bool true)) 37 k) 33 (.bool true)) 38 d) 39 d);az d (J .ret ⟨(aa Q3 2 (.bool false)),40,[],l⟩) (af (aL .add (e 3) (.int .i64 1)) fun m=>J .normal ⟨(aa (aa (aa Q3 26 (e 3)) 27 m) 3 m),40,[],l⟩)) (fun o p=>J (.panic o) ⟨(aa (aa (aa (aa (aa (aa (aa Q2 33 (.bool true)) 34 (e 0)) 33 (.bool true)) 35 (e 3)) 33 (.bool true)) 36 c) 33 (.bool true)),40,[],p⟩))) (af (aL .add (e 3) (.int .i64 1)) fun n=>J .normal ⟨(aa (aa (aa (aa (aa (aa (aa (aa (aa (aa (aa (aa (aa (aa Q2 33 (.bool false)) 34 bK) 33 (.bool false)) 35 bK) 33 (.bool false)) 36 bK) 33 (.bool false)) 37 bK) 33 (.bool false)) 38 bK) 39 (.bool false)) 26 (e 3)) 27 n) 3 n),40,[],j⟩)) (fun q r=>J (.panic q) ⟨(aa (aa (aa Q1 28 (e 0)) 29 (e 3)) 30 a),40,[],r⟩))) (J (.exit 0) ⟨Q1,40,[],h⟩)):=by kernel_rfl
theorem F.fq.aJ:F.fq.cM K (.exit 0) ⟨e,40,[],h⟩=(K (.ret (.bool true)) h):=by kernel_rfl
theorem F.fq.bt:F.fq.cM K .ret ⟨e,40,[],h⟩=(K (.ret (e 2)) h):=by kernel_rfl
theorem F.HJ:EV (ak Tryz.f116) ⟨aI [a0],40,[],h⟩ (bp TP gm Tryz.f116.results.toList K)=(af (b6 .str a0 h) fun j=>af (aL .lss j (.int .i64 1)) fun f=>az f (K (.ret (.bool false)) h) (af (b6 .str a0 h) fun k=>af (aL .gtr k (.int .i64 12)) fun c=>az c (K (.ret (.bool false)) h) (af (mY a0 (.int .i64 0)) fun l=>aA TP 163 [l] h (bH (fun m n=>af (kM .not m) fun d=>az d (K (.ret (.bool false)) n) (aA TP 164 [a0] n (bH (fun a b=>az a (K (.ret (.bool false)) b) (bX (EV F.fq.L0) ⟨(aa (aa (aa (aa (aa (aa (aa (aa (aa (aa (aa (aa (aa (aa (aa (aa (aa (aa (aa (aa (aa (aa (aa (aa (aa (aa (aa (aa (aa (aI [a0]) 2 (.bool false)) 4 a0) 5 j) 6 f) 7 f) 7 (.bool false)) 8 a0) 7 (.bool false)) 9 k) 7 (.bool false)) 10 c) 11 c) 12 c) 12 (.bool false)) 13 a0) 12 (.bool false)) 14 l) 12 (.bool false)) 15 m) 12 (.bool false)) 16 d) 17 d) 18 d) 18 (.bool false)) 19 a0) 18 (.bool false)) 20 a) 21 a) 3 (.int .i64 1)),40,[],b⟩ (F.fq.cM K))) (fun g i=>K (.panic g) i)))) (fun o p=>K (.panic o) p))))):=by kernel_rfl
theorem F.FC(hh:EV (ak Tryz.f116) ⟨aI [a0],40,[],h⟩ (bp TP gm Tryz.f116.results.toList K)=true):Sem TP 116 [a0] h K:=
 cB mixed (cm _) Tryz.func116 (c:=ak Tryz.f116) rfl (by decide) (of_decide_eq_true (by kernel_rfl)) hh
noncomputable def F.eS.L0:Code:=partOf (ak Tryz.f135) [1,1,0,1,0,0]
noncomputable def F.eS.cM(K:Out->ag->Bool):AX->St->Bool:=(aZ 0 (cS false (EV (partOf (ak Tryz.f135) [1,1,1])) (bp TP gm Tryz.f135.results.toList K)))
theorem F.eS.aT:EV F.eS.L0 ⟨e,39,[],h⟩ J=(af (aL .lss (e 23) (e 22)) fun f=>let Q1:=(aa e 24 f);az f (af (mY (e 0) (e 23)) fun a=>aA TP 170 [a] h (bH (fun g i=>af (kM .not g) fun b=>let Q2:=(aa (aa (aa (aa (aa (aa (aa (aa Q1 25 (e 23)) 3 (e 23)) 26 (e 0)) 27 (e 23)) 28 a) 29 g) 30 b) 31 b);az b (af (mY (e 0) (e 23)) fun c=>aA TP 172 [c] i (bH (fun j k=>af (kM .not j) fun d=>let Q3:=(aa (aa (aa (aa (aa (aa (aa (aa (aa (aa (aa Q2 31 (.bool true)) 32 (e 0)) 31 (.bool true)) 33 (e 23)) 31 (.bool true)) 34 c) 31 (.bool true)) 35 j) 31 (.bool true)) 36 d) 37 d);az d (J .ret ⟨(aa Q3 2 (.bool false)),39,[],k⟩) (af (aL .add (e 23) (.int .i64 1)) fun l=>J .normal ⟨(aa (aa Q3 38 l) 23 l),39,[],k⟩)) (fun n o=>J (.panic n) ⟨(aa (aa (aa (aa (aa (aa (aa Q2 31 (.bool true)) 32 (e 0)) 31 (.bool true)) 33 (e 23)) 31 (.bool true)) 34 c) 31 (.bool true)),39,[],o⟩))) (af (aL .add (e 23) (.int .i64 1)) fun m=>J .normal ⟨(aa (aa (aa (aa (aa (aa (aa (aa (aa (aa (aa (aa (aa Q2 31 (.bool false)) 32 bK) 31 (.bool false)) 33 bK) 31 (.bool false)) 34 bK) 31 (.bool false)) 35 bK) 31 (.bool false)) 36 bK) 37 (.bool false)) 38 m) 23 m),39,[],i⟩)) (fun p q=>J (.panic p) ⟨(aa (aa (aa (aa (aa Q1 25 (e 23)) 3 (e 23)) 26 (e 0)) 27 (e 23)) 28 a),39,[],q⟩))) (J (.exit 0) ⟨Q1,39,[],h⟩)):=by kernel_rfl
theorem F.eS.aJ:F.eS.cM K (.exit 0) ⟨e,39,[],h⟩=(K (.ret (.bool true)) h):=by kernel_rfl
theorem F.eS.bt:F.eS.cM K .ret ⟨e,39,[],h⟩=(K (.ret (e 2)) h):=by kernel_rfl
theorem F.HK:EV (ak Tryz.f135) ⟨aI [a0],39,[],h⟩ (bp TP gm Tryz.f135.results.toList K)=(af (jU .string a0 (.str [])) fun d=>az d (K (.ret (.bool false)) h) (af (b6 .str a0 h) fun k=>af (aL .gtr k (.int .i64 12)) fun b=>az b (K (.ret (.bool false)) h) (af (mY a0 (.int .i64 0)) fun l=>aA TP 170 [l] h (bH (fun m n=>af (kM .not m) fun c=>az c (K (.ret (.bool false)) n) (aA TP 171 [a0] n (bH (fun f a=>az f (K (.ret (.bool false)) a) (af (b6 .str a0 a) fun g=>bX (EV F.eS.L0) ⟨(aa (aa (aa (aa (aa (aa (aa (aa (aa (aa (aa (aa (aa (aa (aa (aa (aa (aa (aa (aa (aa (aa (aa (aa (aa (aa (aa (aa (aa (aa (aI [a0]) 2 (.bool false)) 4 a0) 5 d) 6 d) 6 (.bool false)) 7 a0) 6 (.bool false)) 8 k) 6 (.bool false)) 9 b) 10 b) 11 b) 11 (.bool false)) 12 a0) 11 (.bool false)) 13 l) 11 (.bool false)) 14 m) 11 (.bool false)) 15 c) 16 c) 17 c) 17 (.bool false)) 18 a0) 17 (.bool false)) 19 f) 20 f) 21 a0) 22 g) 23 (.int .i64 0)),39,[],a⟩ (F.eS.cM K))) (fun i j=>K (.panic i) j)))) (fun o p=>K (.panic o) p))))):=by kernel_rfl
theorem F.FD(hh:EV (ak Tryz.f135) ⟨aI [a0],39,[],h⟩ (bp TP gm Tryz.f135.results.toList K)=true):Sem TP 135 [a0] h K:=
 cB mixed (cm _) Tryz.func135 (c:=ak Tryz.f135) rfl (by decide) (of_decide_eq_true (by kernel_rfl)) hh
theorem F.DH:EV (ak Tryz.f163) ⟨aI [a0],17,[],h⟩ (bp TP gm Tryz.f163.results.toList K)=(af (aL .geq a0 (.int .u8 97)) fun a=>az a (af (aL .leq a0 (.int .u8 122)) fun b=>az b (K (.ret (.bool true)) h) (af (aL .geq a0 (.int .u8 65)) fun c=>az c (af (aL .leq a0 (.int .u8 90)) fun d=>K (.ret d) h) (K (.ret (.bool false)) h))) (af (aL .geq a0 (.int .u8 65)) fun f=>az f (af (aL .leq a0 (.int .u8 90)) fun g=>K (.ret g) h) (K (.ret (.bool false)) h))):=by kernel_rfl
theorem F.B0(hh:EV (ak Tryz.f163) ⟨aI [a0],17,[],h⟩ (bp TP gm Tryz.f163.results.toList K)=true):Sem TP 163 [a0] h K:=
 cB mixed (cm _) Tryz.func163 (c:=ak Tryz.f163) rfl (by decide) (of_decide_eq_true (by kernel_rfl)) hh
theorem F.HL:EV (ak Tryz.f164) ⟨aI [a0],16,[],h⟩ (bp TP gm Tryz.f164.results.toList K)=(af (jU .string a0 (.str [97,110,100])) fun b=>az b (az b (K (.ret (.bool true)) h) (K (.ret (.bool false)) h)) (af (jU .string a0 (.str [111,114])) fun c=>az c (az c (K (.ret (.bool true)) h) (K (.ret (.bool false)) h)) (af (jU .string a0 (.str [110,111,116])) fun d=>az d (az d (K (.ret (.bool true)) h) (K (.ret (.bool false)) h)) (af (jU .string a0 (.str [115,111,109,101])) fun f=>az f (az f (K (.ret (.bool true)) h) (K (.ret (.bool false)) h)) (af (jU .string a0 (.str [97,108,108])) fun g=>az g (az g (K (.ret (.bool true)) h) (K (.ret (.bool false)) h)) (af (jU .string a0 (.str [108,102,112])) fun i=>az i (az i (K (.ret (.bool true)) h) (K (.ret (.bool false)) h)) (af (jU .string a0 (.str [112,102,112])) fun j=>az j (az j (K (.ret (.bool true)) h) (K (.ret (.bool false)) h)) (af (jU .string a0 (.str [116,99])) fun k=>az k (az k (K (.ret (.bool true)) h) (K (.ret (.bool false)) h)) (af (jU .string a0 (.str [101,120,105,115,116,115])) fun l=>az l (az l (K (.ret (.bool true)) h) (K (.ret (.bool false)) h)) (af (jU .string a0 (.str [116,114,117,101])) fun m=>az m (az m (K (.ret (.bool true)) h) (K (.ret (.bool false)) h)) (af (jU .string a0 (.str [102,97,108,115,101])) fun a=>az a (K (.ret (.bool true)) h) (K (.ret (.bool false)) h)))))))))))):=by kernel_rfl
theorem F.FE(hh:EV (ak Tryz.f164) ⟨aI [a0],16,[],h⟩ (bp TP gm Tryz.f164.results.toList K)=true):Sem TP 164 [a0] h K:=
 cB mixed (cm _) Tryz.func164 (c:=ak Tryz.f164) rfl (by decide) (of_decide_eq_true (by kernel_rfl)) hh
theorem F.FF:EV (ak Tryz.f165) ⟨aI [a0],9,[],h⟩ (bp TP gm Tryz.f165.results.toList K)=(af (aL .geq a0 (.int .u8 48)) fun a=>az a (af (aL .leq a0 (.int .u8 57)) fun b=>K (.ret b) h) (K (.ret (.bool false)) h)):=by kernel_rfl
theorem F.DI(hh:EV (ak Tryz.f165) ⟨aI [a0],9,[],h⟩ (bp TP gm Tryz.f165.results.toList K)=true):Sem TP 165 [a0] h K:=
 cB mixed (cm _) Tryz.func165 (c:=ak Tryz.f165) rfl (by decide) (of_decide_eq_true (by kernel_rfl)) hh
noncomputable def F.dY.L0:Code:=partOf (ak Tryz.f73) [1,0,1,0,0]
noncomputable def F.dY.cM(K:Out->ag->Bool):AX->St->Bool:=(aZ 0 (cS false (EV (partOf (ak Tryz.f73) [1,1])) (bp TP gm Tryz.f73.results.toList K)))
theorem F.dY.aT:EV F.dY.L0 ⟨e,18,[],h⟩ J=(af (b6 .slice (e 0) h) fun a=>af (aL .lss (e 5) a) fun b=>let Q1:=(aa (aa (aa (aa e 6 (e 5)) 7 (e 0)) 8 a) 9 b);az b (af (dg 1 (e 0) (e 5)) fun c=>af (ah none c h) fun d=>af (jU .string d (e 1)) fun f=>let Q2:=(aa (aa (aa (aa (aa (aa Q1 12 (e 0)) 13 (e 5)) 14 c) 15 d) 16 (e 1)) 17 f);az f (J .ret ⟨(aa Q2 4 (.bool true)),18,[],h⟩) (af (aL .add (e 5) (.int .i64 1)) fun g=>J .normal ⟨(aa (aa (aa Q2 10 (e 5)) 11 g) 5 g),18,[],h⟩)) (J (.exit 0) ⟨Q1,18,[],h⟩)):=by kernel_rfl
theorem F.dY.aJ:F.dY.cM K (.exit 0) ⟨e,18,[],h⟩=(K (.ret (.bool false)) h):=by kernel_rfl
theorem F.dY.bt:F.dY.cM K .ret ⟨e,18,[],h⟩=(K (.ret (e 4)) h):=by kernel_rfl
theorem F.wP:EV (ak Tryz.f73) ⟨aI [a0,a1],18,[],h⟩ (bp TP gm Tryz.f73.results.toList K)=(bX (EV F.dY.L0) ⟨(aa (aa (aI [a0,a1]) 4 (.bool false)) 5 (.int .i64 0)),18,[],h⟩ (F.dY.cM K)):=by kernel_rfl
theorem F.vz(hh:EV (ak Tryz.f73) ⟨aI [a0,a1],18,[],h⟩ (bp TP gm Tryz.f73.results.toList K)=true):Sem TP 73 [a0,a1] h K:=
 cB mixed (cm _) Tryz.func73 (c:=ak Tryz.f73) rfl (by decide) (of_decide_eq_true (by kernel_rfl)) hh
theorem F.DJ:EV (ak Tryz.f170) ⟨aI [a0],17,[],h⟩ (bp TP gm Tryz.f170.results.toList K)=(af (aL .geq a0 (.int .u8 97)) fun a=>az a (af (aL .leq a0 (.int .u8 122)) fun b=>az b (K (.ret (.bool true)) h) (af (aL .geq a0 (.int .u8 65)) fun c=>az c (af (aL .leq a0 (.int .u8 90)) fun d=>K (.ret d) h) (K (.ret (.bool false)) h))) (af (aL .geq a0 (.int .u8 65)) fun f=>az f (af (aL .leq a0 (.int .u8 90)) fun g=>K (.ret g) h) (K (.ret (.bool false)) h))):=by kernel_rfl
theorem F.B1(hh:EV (ak Tryz.f170) ⟨aI [a0],17,[],h⟩ (bp TP gm Tryz.f170.results.toList K)=true):Sem TP 170 [a0] h K:=
 cB mixed (cm _) Tryz.func170 (c:=ak Tryz.f170) rfl (by decide) (of_decide_eq_true (by kernel_rfl)) hh
theorem F.HM:EV (ak Tryz.f171) ⟨aI [a0],16,[],h⟩ (bp TP gm Tryz.f171.results.toList K)=(af (jU .string a0 (.str [97,110,100])) fun b=>az b (az b (K (.ret (.bool true)) h) (K (.ret (.bool false)) h)) (af (jU .string a0 (.str [111,114])) fun c=>az c (az c (K (.ret (.bool true)) h) (K (.ret (.bool false)) h)) (af (jU .string a0 (.str [110,111,116])) fun d=>az d (az d (K (.ret (.bool true)) h) (K (.ret (.bool false)) h)) (af (jU .string a0 (.str [115,111,109,101])) fun f=>az f (az f (K (.ret (.bool true)) h) (K (.ret (.bool false)) h)) (af (jU .string a0 (.str [97,108,108])) fun g=>az g (az g (K (.ret (.bool true)) h) (K (.ret (.bool false)) h)) (af (jU .string a0 (.str [108,102,112])) fun i=>az i (az i (K (.ret (.bool true)) h) (K (.ret (.bool false)) h)) (af (jU .string a0 (.str [112,102,112])) fun j=>az j (az j (K (.ret (.bool true)) h) (K (.ret (.bool false)) h)) (af (jU .string a0 (.str [116,99])) fun k=>az k (az k (K (.ret (.bool true)) h) (K (.ret (.bool false)) h)) (af (jU .string a0 (.str [101,120,105,115,116,115])) fun l=>az l (az l (K (.ret (.bool true)) h) (K (.ret (.bool false)) h)) (af (jU .string a0 (.str [116,114,117,101])) fun m=>az m (az m (K (.ret (.bool true)) h) (K (.ret (.bool false)) h)) (af (jU .string a0 (.str [102,97,108,115,101])) fun a=>az a (K (.ret (.bool true)) h) (K (.ret (.bool false)) h)))))))))))):=by kernel_rfl
theorem F.FG(hh:EV (ak Tryz.f171) ⟨aI [a0],16,[],h⟩ (bp TP gm Tryz.f171.results.toList K)=true):Sem TP 171 [a0] h K:=
 cB mixed (cm _) Tryz.func171 (c:=ak Tryz.f171) rfl (by decide) (of_decide_eq_true (by kernel_rfl)) hh
theorem F.FH:EV (ak Tryz.f172) ⟨aI [a0],9,[],h⟩ (bp TP gm Tryz.f172.results.toList K)=(af (aL .geq a0 (.int .u8 48)) fun a=>az a (af (aL .leq a0 (.int .u8 57)) fun b=>K (.ret b) h) (K (.ret (.bool false)) h)):=by kernel_rfl
theorem F.DK(hh:EV (ak Tryz.f172) ⟨aI [a0],9,[],h⟩ (bp TP gm Tryz.f172.results.toList K)=true):Sem TP 172 [a0] h K:=
 cB mixed (cm _) Tryz.func172 (c:=ak Tryz.f172) rfl (by decide) (of_decide_eq_true (by kernel_rfl)) hh
noncomputable def F.fc.L0:Code:=partOf (ak Tryz.f35) [1,1,0,1,0,0]
noncomputable def F.fc.cM(K:Out->ag->Bool):AX->St->Bool:=(aZ 0 (cS false (EV (partOf (ak Tryz.f35) [1,1,1])) (bp TP gm Tryz.f35.results.toList K)))
theorem F.fc.aT:EV F.fc.L0 ⟨e,26,[],h⟩ J=(af (b6 .slice (e 0) h) fun b=>af (aL .lss (e 5) b) fun c=>let Q1:=(aa (aa (aa (aa e 11 (e 5)) 12 (e 0)) 13 b) 14 c);az c (af (dg 1 (e 0) (e 5)) fun d=>af (ah none d h) fun f=>af (dg 1 (e 1) (e 5)) fun g=>af (ah none g h) fun i=>af (sG (.int .i64) f i) fun j=>let Q2:=(aa (aa (aa (aa (aa (aa (aa (aa (aa Q1 17 (e 0)) 18 (e 5)) 19 d) 20 f) 21 (e 1)) 22 (e 5)) 23 g) 24 i) 25 j);az j (J .ret ⟨(aa Q2 4 (.bool false)),26,[],h⟩) (af (aL .add (e 5) (.int .i64 1)) fun a=>J .normal ⟨(aa (aa (aa Q2 15 (e 5)) 16 a) 5 a),26,[],h⟩)) (J (.exit 0) ⟨Q1,26,[],h⟩)):=by kernel_rfl
theorem F.fc.aJ:F.fc.cM K (.exit 0) ⟨e,26,[],h⟩=(K (.ret (.bool true)) h):=by kernel_rfl
theorem F.fc.bt:F.fc.cM K .ret ⟨e,26,[],h⟩=(K (.ret (e 4)) h):=by kernel_rfl
theorem F.FI:EV (ak Tryz.f35) ⟨aI [a0,a1],26,[],h⟩ (bp TP gm Tryz.f35.results.toList K)=(af (b6 .slice a0 h) fun a=>af (b6 .slice a1 h) fun b=>af (sG (.int .i64) a b) fun c=>az c (K (.ret (.bool false)) h) (bX (EV F.fc.L0) ⟨(aa (aa (aa (aa (aa (aa (aa (aI [a0,a1]) 4 (.bool false)) 6 a0) 7 a) 8 a1) 9 b) 10 c) 5 (.int .i64 0)),26,[],h⟩ (F.fc.cM K))):=by kernel_rfl
theorem F.DL(hh:EV (ak Tryz.f35) ⟨aI [a0,a1],26,[],h⟩ (bp TP gm Tryz.f35.results.toList K)=true):Sem TP 35 [a0,a1] h K:=
 cB mixed (cm _) Tryz.func35 (c:=ak Tryz.f35) rfl (by decide) (of_decide_eq_true (by kernel_rfl)) hh
noncomputable def F.fA.L0:Code:=partOf (ak Tryz.f86) [1,1,0,0,0]
noncomputable def F.fA.cM(K:Out->ag->Bool):AX->St->Bool:=(aZ 0 (cS false (EV (partOf (ak Tryz.f86) [1,1,1])) (bp TP gm Tryz.f86.results.toList K)))
theorem F.fA.aT:EV F.fA.L0 ⟨e,45,[],h⟩ J=(af (b6 .slice (e 0) h) fun c=>af (aL .lss (e 5) c) fun a=>let Q1:=(aa (aa (aa (aa (aa e 6 (e 5)) 7 (e 0)) 8 c) 9 a) 10 a);az a (af (dg 1 (e 0) (e 5)) fun d=>af (ah none d h) fun f=>af (aL .lss f (e 1)) fun b=>let Q2:=(aa (aa (aa (aa (aa (aa (aa (aa (aa (aa (aa (aa (aa Q1 10 (.bool true)) 11 (e 0)) 10 (.bool true)) 12 (e 5)) 10 (.bool true)) 13 d) 10 (.bool true)) 14 f) 10 (.bool true)) 15 (e 1)) 10 (.bool true)) 16 b) 17 b);az b (af (aL .add (e 5) (.int .i64 1)) fun g=>J .normal ⟨(aa (aa (aa Q2 18 (e 5)) 19 g) 5 g),45,[],h⟩) (J (.exit 0) ⟨Q2,45,[],h⟩)) (J (.exit 0) ⟨(aa (aa (aa (aa (aa (aa (aa (aa (aa (aa (aa (aa (aa Q1 10 (.bool false)) 11 bK) 10 (.bool false)) 12 bK) 10 (.bool false)) 13 bK) 10 (.bool false)) 14 bK) 10 (.bool false)) 15 bK) 10 (.bool false)) 16 bK) 17 (.bool false)),45,[],h⟩)):=by kernel_rfl
theorem F.fA.aJ:F.fA.cM K (.exit 0) ⟨e,45,[],h⟩=(af (b6 .slice (e 0) h) fun x=>af (aL .lss (e 5) x) fun y=>az y (af (dg 1 (e 0) (e 5)) fun z=>af (ah none z h) fun A=>af (jU .string A (e 1)) fun c=>az c (K (.ret (e 0)) h) (af (ig [] [] []) fun a=>af (jr (some 1) (e 0) none (some (e 5))) fun d=>af (ig [(.str [])] [(0,1)] [(e 1)]) fun f=>af (jr (some 1) (e 0) (some (e 5)) none) fun g=>de (cz 1 16 (.slice (ag.next h) 0 0 1) d (ag.alloc (ag.alloc h (.cells a)) (.cells f))) fun i j=>de (cz 1 16 i (.slice (ag.next (ag.alloc h (.cells a))) 0 1 1) j) fun k l=>de (cz 1 16 k g l) fun m n=>K (.ret m) n)) (af (ig [] [] []) fun b=>af (jr (some 1) (e 0) none (some (e 5))) fun o=>af (ig [(.str [])] [(0,1)] [(e 1)]) fun p=>af (jr (some 1) (e 0) (some (e 5)) none) fun q=>de (cz 1 16 (.slice (ag.next h) 0 0 1) o (ag.alloc (ag.alloc h (.cells b)) (.cells p))) fun r s=>de (cz 1 16 r (.slice (ag.next (ag.alloc h (.cells b))) 0 1 1) s) fun t u=>de (cz 1 16 t q u) fun v w=>K (.ret v) w)):=by kernel_rfl
theorem F.DM:EV (ak Tryz.f86) ⟨aI [a0,a1],45,[],h⟩ (bp TP gm Tryz.f86.results.toList K)=(bX (EV F.fA.L0) ⟨(aa (aa (aI [a0,a1]) 4 .au) 5 (.int .i64 0)),45,[],h⟩ (F.fA.cM K)):=by kernel_rfl
theorem F.B2(hh:EV (ak Tryz.f86) ⟨aI [a0,a1],45,[],h⟩ (bp TP gm Tryz.f86.results.toList K)=true):Sem TP 86 [a0,a1] h K:=
 cB mixed (cm _) Tryz.func86 (c:=ak Tryz.f86) rfl (by decide) (of_decide_eq_true (by kernel_rfl)) hh
noncomputable def F.dm.L0:Code:=partOf (ak Tryz.f34) [1,1,0,1,0,0]
noncomputable def F.dm.cM(K:Out->ag->Bool):AX->St->Bool:=(aZ 0 (cS false (EV (partOf (ak Tryz.f34) [1,1,1])) (bp TP gm Tryz.f34.results.toList K)))
theorem F.dm.aT:EV F.dm.L0 ⟨e,20,[],h⟩ J=(af (b6 .slice (e 0) h) fun g=>af (aL .lss (e 4) g) fun i=>let Q1:=(aa (aa (aa (aa e 5 (e 4)) 6 (e 0)) 7 g) 8 i);az i (af (dg 3 (e 0) (e 4)) fun b=>af (bL 0 b) fun c=>af (bL 0 c) fun d=>af (ah none d h) fun f=>aA TP 86 [(e 3),f] h (bH (fun j k=>af (aL .add (e 4) (.int .i64 1)) fun a=>J .normal ⟨(aa (aa (aa (aa (aa (aa (aa (aa (aa (aa (aa (aa Q1 11 (e 3)) 12 (e 0)) 13 (e 4)) 14 b) 15 c) 16 d) 17 f) 18 j) 3 j) 9 (e 4)) 10 a) 4 a),20,[],k⟩) (fun l m=>J (.panic l) ⟨(aa (aa (aa (aa (aa (aa (aa Q1 11 (e 3)) 12 (e 0)) 13 (e 4)) 14 b) 15 c) 16 d) 17 f),20,[],m⟩))) (J (.exit 0) ⟨Q1,20,[],h⟩)):=by kernel_rfl
theorem F.dm.aJ:F.dm.cM K (.exit 0) ⟨e,20,[],h⟩=(K (.ret (e 3)) h):=by kernel_rfl
theorem F.B3:EV (ak Tryz.f34) ⟨aI [a0],20,[],h⟩ (bp TP gm Tryz.f34.results.toList K)=(bX (EV F.dm.L0) ⟨(aa (aa (aa (aI [a0]) 2 .au) 3 .au) 4 (.int .i64 0)),20,[],h⟩ (F.dm.cM K)):=by kernel_rfl
theorem F.AT(hh:EV (ak Tryz.f34) ⟨aI [a0],20,[],h⟩ (bp TP gm Tryz.f34.results.toList K)=true):Sem TP 34 [a0] h K:=
 cB mixed (cm _) Tryz.func34 (c:=ak Tryz.f34) rfl (by decide) (of_decide_eq_true (by kernel_rfl)) hh
noncomputable def F.dQ.L0:Code:=partOf (ak Tryz.f58) [1,0,1,0,0]
noncomputable def F.dQ.cM(K:Out->ag->Bool):AX->St->Bool:=(aZ 0 (cS false (EV (partOf (ak Tryz.f58) [1,1])) (bp TP gm Tryz.f58.results.toList K)))
theorem F.dQ.aT:EV F.dQ.L0 ⟨e,19,[],h⟩ J=(af (b6 .slice (e 0) h) fun a=>af (aL .lss (e 5) a) fun b=>let Q1:=(aa (aa (aa (aa e 6 (e 5)) 7 (e 0)) 8 a) 9 b);az b (af (dg 1 (e 0) (e 5)) fun c=>af (ah none c h) fun d=>af (jU .string d (e 1)) fun f=>let Q2:=(aa (aa (aa (aa (aa (aa Q1 12 (e 0)) 13 (e 5)) 14 c) 15 d) 16 (e 1)) 17 f);az f (J .ret ⟨(aa (aa Q2 18 (e 5)) 4 (e 5)),19,[],h⟩) (af (aL .add (e 5) (.int .i64 1)) fun g=>J .normal ⟨(aa (aa (aa Q2 10 (e 5)) 11 g) 5 g),19,[],h⟩)) (J (.exit 0) ⟨Q1,19,[],h⟩)):=by kernel_rfl
theorem F.dQ.aJ:F.dQ.cM K (.exit 0) ⟨e,19,[],h⟩=(K (.ret (.int .i64 (-1))) h):=by kernel_rfl
theorem F.dQ.bt:F.dQ.cM K .ret ⟨e,19,[],h⟩=(K (.ret (e 4)) h):=by kernel_rfl
theorem F.FJ:EV (ak Tryz.f58) ⟨aI [a0,a1],19,[],h⟩ (bp TP gm Tryz.f58.results.toList K)=(bX (EV F.dQ.L0) ⟨(aa (aa (aI [a0,a1]) 4 (.int .i64 0)) 5 (.int .i64 0)),19,[],h⟩ (F.dQ.cM K)):=by kernel_rfl
theorem F.DN(hh:EV (ak Tryz.f58) ⟨aI [a0,a1],19,[],h⟩ (bp TP gm Tryz.f58.results.toList K)=true):Sem TP 58 [a0,a1] h K:=
 cB mixed (cm _) Tryz.func58 (c:=ak Tryz.f58) rfl (by decide) (of_decide_eq_true (by kernel_rfl)) hh
noncomputable def F.cY.L0:Code:=partOf (ak Tryz.f85) [1,1,0,1,0,0]
noncomputable def F.cY.cM(K:Out->ag->Bool):AX->St->Bool:=(aZ 0 (cS false (EV (partOf (ak Tryz.f85) [1,1,1])) (bp TP gm Tryz.f85.results.toList K)))
noncomputable def F.cY.L1:Code:=partOf (ak Tryz.f85) [1,1,0,1,0,0,1,0,0,1,1,0,0]
noncomputable def F.cY.mO(J:AX->St->Bool):AX->St->Bool:=(aZ 2 (aZ 1 (cS false (EV (partOf (ak Tryz.f85) [1,1,0,1,0,0,1,1])) J)))
theorem F.cY.aT:EV F.cY.L0 ⟨e,63,[],h⟩ J=(af (b6 .slice (e 0) h) fun g=>af (aL .lss (e 4) g) fun i=>let Q1:=(aa (aa (aa (aa e 7 (e 4)) 8 (e 0)) 9 g) 10 i);az i (af (dg 3 (e 0) (e 4)) fun j=>af (bL 0 j) fun k=>af (bL 0 k) fun l=>af (ah none l h) fun m=>af (dg 3 (e 0) (e 4)) fun n=>af (bL 0 n) fun o=>af (bL 1 o) fun p=>af (ah none p h) fun q=>af (b6 .slice q h) fun a=>af (jM [(.str []),(.int .i64 0)] [(0,1),(1,1)] [m,a]) fun b=>af (ig [(.str []),(.int .i64 0)] [(0,2)] [b]) fun d=>de (cz 2 24 (e 3) (.slice (ag.next h) 0 1 2) (ag.alloc h (.cells d))) fun c f=>bX (EV F.cY.L1) ⟨(aa (aa (aa (aa (aa (aa (aa (aa (aa (aa (aa (aa (aa (aa (aa (aa (aa (aa (aa Q1 13 (e 3)) 14 (e 0)) 15 (e 4)) 16 j) 17 k) 18 l) 19 m) 20 (e 0)) 21 (e 4)) 22 n) 23 o) 24 p) 25 q) 26 a) 27 b) 28 (.slice (ag.next h) 0 1 2)) 29 c) 3 c) 5 (.int .i64 0)),63,[],f⟩ (F.cY.mO J)) (J (.exit 0) ⟨Q1,63,[],h⟩)):=by kernel_rfl
theorem F.cY.aJ:F.cY.cM K (.exit 0) ⟨e,63,[],h⟩=(K (.ret (e 3)) h):=by kernel_rfl
theorem F.cY.eC:EV F.cY.L1 ⟨e,63,[],h⟩ J=(af (dg 3 (e 0) (e 4)) fun b=>af (bL 2 b) fun c=>af (ah none c h) fun d=>af (b6 .slice d h) fun f=>af (aL .lss (e 5) f) fun g=>let Q1:=(aa (aa (aa (aa (aa (aa (aa (aa e 30 (e 5)) 31 (e 0)) 32 (e 4)) 33 b) 34 c) 35 d) 36 f) 37 g);az g (af (dg 3 (e 0) (e 4)) fun i=>af (bL 2 i) fun j=>af (ah none j h) fun k=>af (dg 4 k (e 5)) fun l=>af (ah (some 4) l h) fun m=>af (bh 4 (.ptr (ag.next h) 0) m (ag.alloc h (.cells [(.int .i64 0),(.bool false),(.str []),.au]))) fun a=>af (bL 0 (.ptr (ag.next h) 0)) fun n=>af (ah none n a) fun o=>af (jU (.int .i64) o (.int .i64 0)) fun p=>let Q2:=(aa (aa (aa (aa (aa (aa (aa (aa (aa (aa (aa (aa Q1 40 (e 0)) 41 (e 4)) 42 i) 43 j) 44 k) 45 (e 5)) 46 l) 47 m) 6 (.ptr (ag.next h) 0)) 48 n) 49 o) 50 p);az p (af (bL 2 (.ptr (ag.next h) 0)) fun q=>af (bL 0 q) fun r=>af (ah none r a) fun s=>af (bL 2 (.ptr (ag.next h) 0)) fun t=>af (bL 1 t) fun u=>af (ah none u a) fun v=>af (b6 .slice v a) fun w=>af (jM [(.str []),(.int .i64 0)] [(0,1),(1,1)] [s,w]) fun x=>af (ig [(.str []),(.int .i64 0)] [(0,2)] [x]) fun B=>de (cz 2 24 (e 3) (.slice (ag.next a) 0 1 2) (ag.alloc a (.cells B))) fun y C=>af (aL .add (e 5) (.int .i64 1)) fun z=>J .normal ⟨(aa (aa (aa (aa (aa (aa (aa (aa (aa (aa (aa (aa (aa (aa (aa Q2 51 (e 3)) 52 q) 53 r) 54 s) 55 t) 56 u) 57 v) 58 w) 59 x) 60 (.slice (ag.next a) 0 1 2)) 61 y) 3 y) 38 (e 5)) 39 z) 5 z),63,[],C⟩) (af (aL .add (e 5) (.int .i64 1)) fun A=>J .normal ⟨(aa (aa (aa Q2 38 (e 5)) 39 A) 5 A),63,[],a⟩)) (J (.exit 2) ⟨Q1,63,[],h⟩)):=by kernel_rfl
theorem F.cY.cZ:F.cY.mO J (.exit 2) ⟨e,63,[],h⟩=(af (aL .add (e 4) (.int .i64 1)) fun a=>J .normal ⟨(aa (aa (aa e 11 (e 4)) 12 a) 4 a),63,[],h⟩):=by kernel_rfl
theorem F.FK:EV (ak Tryz.f85) ⟨aI [a0],63,[],h⟩ (bp TP gm Tryz.f85.results.toList K)=(bX (EV F.cY.L0) ⟨(aa (aa (aa (aI [a0]) 2 .au) 3 .au) 4 (.int .i64 0)),63,[],h⟩ (F.cY.cM K)):=by kernel_rfl
theorem F.DO(hh:EV (ak Tryz.f85) ⟨aI [a0],63,[],h⟩ (bp TP gm Tryz.f85.results.toList K)=true):Sem TP 85 [a0] h K:=
 cB mixed (cm _) Tryz.func85 (c:=ak Tryz.f85) rfl (by decide) (of_decide_eq_true (by kernel_rfl)) hh
noncomputable def F.eO.L0:Code:=partOf (ak Tryz.f134) [1,0,1,0,0]
noncomputable def F.eO.cM(K:Out->ag->Bool):AX->St->Bool:=(aZ 0 (cS false (EV (partOf (ak Tryz.f134) [1,1])) (bp TP gm Tryz.f134.results.toList K)))
theorem F.eO.aT:EV F.eO.L0 ⟨e,19,[],h⟩ J=(af (b6 .slice (e 0) h) fun c=>af (aL .lss (e 3) c) fun d=>let Q1:=(aa (aa (aa (aa e 4 (e 3)) 5 (e 0)) 6 c) 7 d);az d (af (dg 1 (e 0) (e 3)) fun a=>af (ah none a h) fun b=>aA TP 116 [b] h (bH (fun f g=>af (kM .not f) fun i=>let Q2:=(aa (aa (aa (aa (aa (aa Q1 10 (e 0)) 11 (e 3)) 12 a) 13 b) 14 f) 15 i);az i (J .ret ⟨(aa Q2 2 (.bool false)),19,[],g⟩) (af (aL .add (e 3) (.int .i64 1)) fun j=>J .normal ⟨(aa (aa (aa Q2 8 (e 3)) 9 j) 3 j),19,[],g⟩)) (fun k l=>J (.panic k) ⟨(aa (aa (aa (aa Q1 10 (e 0)) 11 (e 3)) 12 a) 13 b),19,[],l⟩))) (J (.exit 0) ⟨Q1,19,[],h⟩)):=by kernel_rfl
theorem F.eO.aJ:F.eO.cM K (.exit 0) ⟨e,19,[],h⟩=(af (b6 .slice (e 0) h) fun a=>af (aL .leq a (.int .i64 12)) fun b=>K (.ret b) h):=by kernel_rfl
theorem F.eO.bt:F.eO.cM K .ret ⟨e,19,[],h⟩=(K (.ret (e 2)) h):=by kernel_rfl
theorem F.FL:EV (ak Tryz.f134) ⟨aI [a0],19,[],h⟩ (bp TP gm Tryz.f134.results.toList K)=(bX (EV F.eO.L0) ⟨(aa (aa (aI [a0]) 2 (.bool false)) 3 (.int .i64 0)),19,[],h⟩ (F.eO.cM K)):=by kernel_rfl
theorem F.DP(hh:EV (ak Tryz.f134) ⟨aI [a0],19,[],h⟩ (bp TP gm Tryz.f134.results.toList K)=true):Sem TP 134 [a0] h K:=
 cB mixed (cm _) Tryz.func134 (c:=ak Tryz.f134) rfl (by decide) (of_decide_eq_true (by kernel_rfl)) hh
theorem F.lR:EV (ak Tryz.f168) ⟨aI [a0,a1],9,[],h⟩ (bp TP gm Tryz.f168.results.toList K)=(aA TP 190 [a0,a1] h (bH (fun a b=>af (aL .geq a (.int .i64 0)) fun c=>K (.ret c) b) (fun d f=>K (.panic d) f))):=by kernel_rfl
theorem F.lC(hh:EV (ak Tryz.f168) ⟨aI [a0,a1],9,[],h⟩ (bp TP gm Tryz.f168.results.toList K)=true):Sem TP 168 [a0,a1] h K:=
 cB mixed (cm _) Tryz.func168 (c:=ak Tryz.f168) rfl (by decide) (of_decide_eq_true (by kernel_rfl)) hh
noncomputable def F.bM.L0:Code:=partOf (ak Tryz.f190) [1,0,1,0,0]
noncomputable def F.bM.cM(K:Out->ag->Bool):AX->St->Bool:=(aZ 0 (cS false (EV (partOf (ak Tryz.f190) [1,1])) (bp TP gm Tryz.f190.results.toList K)))
theorem F.bM.aT:EV F.bM.L0 ⟨e,19,[],h⟩ J=(af (aL .lss (e 8) (e 7)) fun c=>let Q1:=(aa e 9 c);az c (af (dg 1 (e 0) (e 8)) fun a=>af (ah none a h) fun b=>vw (e 1) fun f9 Wg W6=>aA TP f9 (Wg++([b]++W6)) h (bH (fun d f=>let Q2:=(aa (aa (aa (aa (aa (aa (aa (aa Q1 10 (e 8)) 5 (e 8)) 11 (e 1)) 12 (e 0)) 13 (e 8)) 14 a) 15 b) 16 d);az d (J .ret ⟨(aa (aa Q2 17 (e 8)) 4 (e 8)),19,[],f⟩) (af (aL .add (e 8) (.int .i64 1)) fun g=>J .normal ⟨(aa (aa Q2 18 g) 8 g),19,[],f⟩)) (fun i j=>J (.panic i) ⟨(aa (aa (aa (aa (aa (aa (aa Q1 10 (e 8)) 5 (e 8)) 11 (e 1)) 12 (e 0)) 13 (e 8)) 14 a) 15 b),19,[],j⟩))) (J (.exit 0) ⟨Q1,19,[],h⟩)):=by kernel_rfl
theorem F.bM.aJ:F.bM.cM K (.exit 0) ⟨e,19,[],h⟩=(K (.ret (.int .i64 (-1))) h):=by kernel_rfl
theorem F.bM.bt:F.bM.cM K .ret ⟨e,19,[],h⟩=(K (.ret (e 4)) h):=by kernel_rfl
theorem F.mS:EV (ak Tryz.f190) ⟨aI [a0,a1],19,[],h⟩ (bp TP gm Tryz.f190.results.toList K)=(af (b6 .slice a0 h) fun a=>bX (EV F.bM.L0) ⟨(aa (aa (aa (aa (aI [a0,a1]) 4 (.int .i64 0)) 6 a0) 7 a) 8 (.int .i64 0)),19,[],h⟩ (F.bM.cM K)):=by kernel_rfl
theorem F.mG(hh:EV (ak Tryz.f190) ⟨aI [a0,a1],19,[],h⟩ (bp TP gm Tryz.f190.results.toList K)=true):Sem TP 190 [a0,a1] h K:=
 cB mixed (cm _) Tryz.func190 (c:=ak Tryz.f190) rfl (by decide) (of_decide_eq_true (by kernel_rfl)) hh
theorem F.nr:EV (ak Tryz.f155) ⟨aI [a0,a1],9,[],h⟩ (bp TP gm Tryz.f155.results.toList K)=(aA TP 157 [a0,a1] h (bH (fun a b=>af (aL .geq a (.int .i64 0)) fun c=>K (.ret c) b) (fun d f=>K (.panic d) f))):=by kernel_rfl
theorem F.mT(hh:EV (ak Tryz.f155) ⟨aI [a0,a1],9,[],h⟩ (bp TP gm Tryz.f155.results.toList K)=true):Sem TP 155 [a0,a1] h K:=
 cB mixed (cm _) Tryz.func155 (c:=ak Tryz.f155) rfl (by decide) (of_decide_eq_true (by kernel_rfl)) hh
noncomputable def F.bN.L0:Code:=partOf (ak Tryz.f157) [1,0,1,0,0]
noncomputable def F.bN.cM(K:Out->ag->Bool):AX->St->Bool:=(aZ 0 (cS false (EV (partOf (ak Tryz.f157) [1,1])) (bp TP gm Tryz.f157.results.toList K)))
theorem F.bN.aT:EV F.bN.L0 ⟨e,19,[],h⟩ J=(af (aL .lss (e 8) (e 7)) fun a=>az a (af (dg 1 (e 0) (e 8)) fun b=>af (ah none b h) fun c=>af (jU .string (e 1) c) fun d=>let Q1:=(aa (aa (aa (aa (aa (aa (aa (aa (aa e 9 a) 10 (e 8)) 5 (e 8)) 11 (e 1)) 12 (e 0)) 13 (e 8)) 14 b) 15 c) 16 d);az d (J .ret ⟨(aa (aa Q1 17 (e 8)) 4 (e 8)),19,[],h⟩) (af (aL .add (e 8) (.int .i64 1)) fun f=>J .normal ⟨(aa (aa Q1 18 f) 8 f),19,[],h⟩)) (J (.exit 0) ⟨(aa e 9 a),19,[],h⟩)):=by kernel_rfl
theorem F.bN.aJ:F.bN.cM K (.exit 0) ⟨e,19,[],h⟩=(K (.ret (.int .i64 (-1))) h):=by kernel_rfl
theorem F.bN.bt:F.bN.cM K .ret ⟨e,19,[],h⟩=(K (.ret (e 4)) h):=by kernel_rfl
theorem F.j5:EV (ak Tryz.f157) ⟨aI [a0,a1],19,[],h⟩ (bp TP gm Tryz.f157.results.toList K)=(af (b6 .slice a0 h) fun a=>bX (EV F.bN.L0) ⟨(aa (aa (aa (aa (aI [a0,a1]) 4 (.int .i64 0)) 6 a0) 7 a) 8 (.int .i64 0)),19,[],h⟩ (F.bN.cM K)):=by kernel_rfl
theorem F.jR(hh:EV (ak Tryz.f157) ⟨aI [a0,a1],19,[],h⟩ (bp TP gm Tryz.f157.results.toList K)=true):Sem TP 157 [a0,a1] h K:=
 cB mixed (cm _) Tryz.func157 (c:=ak Tryz.f157) rfl (by decide) (of_decide_eq_true (by kernel_rfl)) hh
theorem F.DQ:EV (ak Tryz.f169) ⟨aI [a0],6,[],h⟩ (bp TP gm Tryz.f169.results.toList K)=(aA TP 135 [a0] h (bH (fun a b=>af (kM .not a) fun c=>K (.ret c) b) (fun d f=>K (.panic d) f))):=by kernel_rfl
theorem F.B4(hh:EV (ak Tryz.f169) ⟨aI [a0],6,[],h⟩ (bp TP gm Tryz.f169.results.toList K)=true):Sem TP 169 [a0] h K:=
 cB mixed (cm _) Tryz.func169 (c:=ak Tryz.f169) rfl (by decide) (of_decide_eq_true (by kernel_rfl)) hh
noncomputable def F.eH.L0:Code:=partOf (ak Tryz.f154) [1,0,0]
noncomputable def F.eH.cM(K:Out->ag->Bool):AX->St->Bool:=(aZ 0 (bp TP gm Tryz.f154.results.toList K))
theorem F.eH.aT:EV F.eH.L0 ⟨e,20,[],h⟩ J=(af (aL .lss (e 7) (e 6)) fun n=>let Q1:=(aa e 8 n);az n (af (dg 1 (e 5) (e 7)) fun i=>af (ah none i h) fun a=>af (ah none (e 1) h) fun j=>aA TP 155 [j,a] h (bH (fun o b=>af (kM .not o) fun p=>let Q2:=(aa (aa (aa (aa (aa (aa (aa Q1 9 i) 10 a) 4 a) 11 j) 12 a) 13 o) 14 p);az p (af (ah none (e 1) b) fun c=>af (ig [(.str [])] [(0,1)] [a]) fun k=>de (cz 1 16 c (.slice (ag.next b) 0 1 1) (ag.alloc b (.cells k))) fun d l=>af (bh 1 (e 1) d l) fun m=>af (aL .add (e 7) (.int .i64 1)) fun f=>J .normal ⟨(aa (aa (aa (aa (aa (aa Q2 15 c) 16 a) 17 (.slice (ag.next b) 0 1 1)) 18 d) 19 f) 7 f),20,[],m⟩) (af (aL .add (e 7) (.int .i64 1)) fun g=>J .normal ⟨(aa (aa Q2 19 g) 7 g),20,[],b⟩)) (fun q r=>J (.panic q) ⟨(aa (aa (aa (aa (aa Q1 9 i) 10 a) 4 a) 11 j) 12 a),20,[],r⟩))) (J (.exit 0) ⟨Q1,20,[],h⟩)):=by kernel_rfl
theorem F.eH.aJ:F.eH.cM K (.exit 0) ⟨e,20,[],h⟩=(K (.ret (.tuple [])) h):=by kernel_rfl
theorem F.wQ:EV (ak Tryz.f154) ⟨aI [a0,a1],20,[],h⟩ (bp TP gm Tryz.f154.results.toList K)=(af (b6 .slice a0 h) fun a=>bX (EV F.eH.L0) ⟨(aa (aa (aa (aI [a0,a1]) 5 a0) 6 a) 7 (.int .i64 0)),20,[],h⟩ (F.eH.cM K)):=by kernel_rfl
theorem F.vN(hh:EV (ak Tryz.f154) ⟨aI [a0,a1],20,[],h⟩ (bp TP gm Tryz.f154.results.toList K)=true):Sem TP 154 [a0,a1] h K:=
 cB mixed (cm _) Tryz.func154 (c:=ak Tryz.f154) rfl (by decide) (of_decide_eq_true (by kernel_rfl)) hh
theorem F.HN:EV (ak Tryz.f130) ⟨aI [a0],18,[],h⟩ (bp TP gm Tryz.f130.results.toList K)=(af (eR a0) fun l=>af (bL 0 (.ptr (ag.next h) 0)) fun m=>af (ah none m (ag.alloc h (.cells l))) fun n=>aA TP 135 [n] (ag.alloc h (.cells l)) (bH (fun o a=>az o (af (bL 1 (.ptr (ag.next h) 0)) fun p=>af (ah none p a) fun q=>af (b6 .slice q a) fun r=>af (aL .leq r (.int .i64 12)) fun b=>az b (af (bL 1 (.ptr (ag.next h) 0)) fun c=>af (ah none c a) fun d=>aA TP 168 [d,(.func 169 [] [])] a (bH (fun f g=>af (kM .not f) fun i=>K (.ret i) g) (fun j k=>K (.panic j) k))) (K (.ret (.bool false)) a)) (K (.ret (.bool false)) a)) (fun s t=>K (.panic s) t))):=by kernel_rfl
theorem F.FM(hh:EV (ak Tryz.f130) ⟨aI [a0],18,[],h⟩ (bp TP gm Tryz.f130.results.toList K)=true):Sem TP 130 [a0] h K:=
 cB mixed (cm _) Tryz.func130 (c:=ak Tryz.f130) rfl (by decide) (of_decide_eq_true (by kernel_rfl)) hh
theorem F.uL:EV (ak Tryz.f131) ⟨aI [a0,a1],35,[],h⟩ (bp TP gm Tryz.f131.results.toList K)=(af (eR a1) fun b=>af (bS a0) fun r=>af (bL 1 r) fun s=>af (ah none s (ag.alloc h (.cells b))) fun t=>af (bL 0 (.ptr (ag.next h) 0)) fun u=>af (ah none u (ag.alloc h (.cells b))) fun v=>af (dc .string (.int .i64 0) true t v (ag.alloc h (.cells b))) fun q=>af (bY q 0) fun w=>af (bY q 1) fun x=>af (bS a0) fun y=>af (bL 1 y) fun c=>af (ah none c (ag.alloc h (.cells b))) fun d=>af (bL 0 (.ptr (ag.next h) 0)) fun f=>af (ah none f (ag.alloc h (.cells b))) fun g=>af (bL 1 (.ptr (ag.next h) 0)) fun i=>af (ah none i (ag.alloc h (.cells b))) fun j=>af (b6 .slice j (ag.alloc h (.cells b))) fun k=>af (fT .string d g k (ag.alloc h (.cells b))) fun a=>af (kM .not x) fun l=>az l (K (.ret (.bool true)) a) (af (bL 1 (.ptr (ag.next h) 0)) fun m=>af (ah none m a) fun n=>af (b6 .slice n a) fun o=>af (jU (.int .i64) w o) fun p=>K (.ret p) a)):=by kernel_rfl
theorem F.tR(hh:EV (ak Tryz.f131) ⟨aI [a0,a1],35,[],h⟩ (bp TP gm Tryz.f131.results.toList K)=true):Sem TP 131 [a0,a1] h K:=
 cB mixed (cm _) Tryz.func131 (c:=ak Tryz.f131) rfl (by decide) (of_decide_eq_true (by kernel_rfl)) hh
noncomputable def F.dO.L0:Code:=partOf (ak Tryz.f108) [1,1,1,1,0,1,0,0]
noncomputable def F.dO.cM(K:Out->ag->Bool):AX->St->Bool:=(aZ 0 (cS false (EV (partOf (ak Tryz.f108) [1,1,1,1,1])) (bp TP gm Tryz.f108.results.toList K)))
theorem F.dO.aT:EV F.dO.L0 ⟨e,27,[],h⟩ J=(af (aL .lss (e 16) (e 15)) fun a=>az a (af (dg 4 (e 14) (e 16)) fun b=>af (ah (some 4) b h) fun c=>af (bh 4 (.ptr (ag.next h) 0) c (ag.alloc h (.cells [(.int .i64 0),(.bool false),(.str []),.au]))) fun i=>af (bL 2 (.ptr (ag.next h) 0)) fun d=>af (bL 1 d) fun f=>af (ah none f i) fun g=>vw (e 4) fun f23 a24 a25=>aA TP f23 (a24++([g]++a25)) i (bH (fun k l=>af (aL .add (e 16) (.int .i64 1)) fun j=>J .normal ⟨(aa (aa (aa (aa (aa (aa (aa (aa (aa (aa (aa e 17 a) 18 b) 19 c) 6 (.ptr (ag.next h) 0)) 20 (e 4)) 21 d) 22 f) 23 g) 24 k) 25 j) 16 j),27,[],l⟩) (fun m n=>J (.panic m) ⟨(aa (aa (aa (aa (aa (aa (aa (aa e 17 a) 18 b) 19 c) 6 (.ptr (ag.next h) 0)) 20 (e 4)) 21 d) 22 f) 23 g),27,[],n⟩))) (J (.exit 0) ⟨(aa e 17 a),27,[],h⟩)):=by kernel_rfl
theorem F.dO.aJ:F.dO.cM K (.exit 0) ⟨e,27,[],h⟩=(af (ah none (e 3) h) fun a=>K (.ret a) h):=by kernel_rfl
theorem F.zO:EV (ak Tryz.f108) ⟨aI [a0],27,[],h⟩ (bp TP gm Tryz.f108.results.toList K)=(af (eR a0) fun a=>af (bL 0 (.ptr (ag.next h) 0)) fun d=>af (bL 1 d) fun f=>af (ah none f (ag.alloc (ag.alloc h (.cells a)) (.cells [.au]))) fun g=>aA TP 154 [g,(.ptr (ag.next (ag.alloc h (.cells a))) 0)] (ag.alloc (ag.alloc h (.cells a)) (.cells [.au])) (bH (fun k b=>af (bL 2 (.ptr (ag.next h) 0)) fun i=>af (ah none i b) fun j=>af (b6 .slice j b) fun c=>bX (EV F.dO.L0) ⟨(aa (aa (aa (aa (aa (aa (aa (aa (aa (aa (aa (aa (aa (aa (aI [a0]) 1 (.ptr (ag.next h) 0)) 2 .au) 3 (.ptr (ag.next (ag.alloc h (.cells a))) 0)) 7 (.func 154 [] [(.ptr (ag.next (ag.alloc h (.cells a))) 0)])) 4 (.func 154 [] [(.ptr (ag.next (ag.alloc h (.cells a))) 0)])) 8 (.func 154 [] [(.ptr (ag.next (ag.alloc h (.cells a))) 0)])) 9 d) 10 f) 11 g) 12 k) 13 i) 14 j) 15 c) 16 (.int .i64 0)),27,[],b⟩ (F.dO.cM K)) (fun l m=>K (.panic l) m))):=by kernel_rfl
theorem F.yN(hh:EV (ak Tryz.f108) ⟨aI [a0],27,[],h⟩ (bp TP gm Tryz.f108.results.toList K)=true):Sem TP 108 [a0] h K:=
 cB mixed (cm _) Tryz.func108 (c:=ak Tryz.f108) rfl (by decide) (of_decide_eq_true (by kernel_rfl)) hh
noncomputable def F.iq.J0(K:Out->ag->Bool)(s:St):Bool:=RJ (EV (partOf (ak Tryz.f132) [1,0,1,0,1,1,1])) s (aZ 0 (cS false (EV (partOf (ak Tryz.f132) [1,1])) (bp TP gm Tryz.f132.results.toList K)))
theorem F.iq.FN:F.iq.J0 K ⟨e,40,[],h⟩=(az (e 10) (af (bL 2 (e 1)) fun g=>af (bL 0 g) fun i=>af (ah none i h) fun j=>af (jU .string j (.str [])) fun k=>az k (af (bL 2 (e 1)) fun l=>af (bL 1 l) fun m=>af (ah none m h) fun n=>af (b6 .slice n h) fun o=>af (jU (.int .i64) o (.int .i64 2)) fun p=>az p (af (bL 2 (e 1)) fun q=>af (bL 1 q) fun r=>af (ah none r h) fun s=>af (dg 1 s (.int .i64 0)) fun t=>af (ah none t h) fun u=>aA TP 135 [u] h (bH (fun v b=>az v (af (bL 2 (e 1)) fun w=>af (bL 1 w) fun x=>af (ah none x b) fun y=>af (dg 1 y (.int .i64 1)) fun z=>af (ah none z b) fun A=>aA TP 135 [A] b (bH (fun B C=>K (.ret B) C) (fun D E=>K (.panic D) E))) (K (.ret (.bool false)) b)) (fun G I=>K (.panic G) I))) (K (.ret (.bool false)) h)) (K (.ret (.bool false)) h)) (K (.ret (.bool false)) h)):=(AL _ _ _).trans (by kernel_rfl)
theorem F.zP:EV (ak Tryz.f132) ⟨aI [a0],40,[],h⟩ (bp TP gm Tryz.f132.results.toList K)=(af (eR a0) fun c=>af (bL 0 (.ptr (ag.next h) 0)) fun L=>af (ah none L (ag.alloc h (.cells c))) fun f=>af (jU (.int .i64) f (.int .i64 0)) fun J=>let Q1:=(aa (aa (aa (aa (aa (aa (aI [a0]) 1 (.ptr (ag.next h) 0)) 2 (.bool false)) 3 L) 4 f) 6 J) 5 J);az J (af (bL 2 (.ptr (ag.next h) 0)) fun M=>af (ah (some 2) M (ag.alloc h (.cells c))) fun N=>aA TP 130 [N] (ag.alloc h (.cells c)) (bH (fun O P=>K (.ret O) P) (fun R S=>K (.panic R) S))) (af (jU (.int .i64) f (.int .i64 1)) fun a=>az a (F.iq.J0 K ⟨(aa (aa Q1 11 a) 10 a),40,[],(ag.alloc h (.cells c))⟩) (af (jU (.int .i64) f (.int .i64 2)) fun d=>F.iq.J0 K ⟨(aa (aa (aa (aa Q1 11 a) 10 a) 12 d) 10 d),40,[],(ag.alloc h (.cells c))⟩))):=by kernel_rfl
theorem F.yO(hh:EV (ak Tryz.f132) ⟨aI [a0],40,[],h⟩ (bp TP gm Tryz.f132.results.toList K)=true):Sem TP 132 [a0] h K:=
 cB mixed (cm _) Tryz.func132 (c:=ak Tryz.f132) rfl (by decide) (of_decide_eq_true (by kernel_rfl)) hh
noncomputable def F.bU.L0:Code:=partOf (ak Tryz.f44) [1,1,0,1,0,0]
noncomputable def F.bU.cM(K:Out->ag->Bool):AX->St->Bool:=(aZ 0 (cS false (EV (partOf (ak Tryz.f44) [1,1,1])) (bp TP gm Tryz.f44.results.toList K)))
noncomputable def F.bU.L1:Code:=partOf (ak Tryz.f44) [1,1,1,1,0,1,0,0]
noncomputable def F.bU.mO(K:Out->ag->Bool):AX->St->Bool:=(aZ 2 (cS false (EV (partOf (ak Tryz.f44) [1,1,1,1,1])) (bp TP gm Tryz.f44.results.toList K)))
theorem F.bU.aT:EV F.bU.L0 ⟨e,49,[],h⟩ J=(af (bL 2 (e 1)) fun m=>af (ah none m h) fun n=>af (b6 .slice n h) fun o=>af (aL .lss (e 4) o) fun a=>let Q1:=(aa (aa (aa (aa (aa e 12 (e 4)) 13 m) 14 n) 15 o) 16 a);az a (af (bL 2 (e 1)) fun b=>af (ah none b h) fun c=>af (dg 4 c (e 4)) fun d=>af (bL 2 d) fun f=>af (bL 1 f) fun g=>af (ah none g h) fun i=>de (cz 1 16 (e 3) i h) fun j l=>af (aL .add (e 4) (.int .i64 1)) fun k=>J .normal ⟨(aa (aa (aa (aa (aa (aa (aa (aa (aa (aa (aa (aa (aa Q1 19 (e 3)) 20 b) 21 c) 22 (e 4)) 23 d) 24 f) 25 g) 26 i) 27 j) 3 j) 17 (e 4)) 18 k) 4 k),49,[],l⟩) (J (.exit 0) ⟨Q1,49,[],h⟩)):=by kernel_rfl
theorem F.bU.aJ:F.bU.cM K (.exit 0) ⟨e,49,[],h⟩=(bX (EV F.bU.L1) ⟨(aa (aa e 5 .au) 6 (.int .i64 0)),49,[],h⟩ (F.bU.mO K)):=by kernel_rfl
theorem F.bU.eC:EV F.bU.L1 ⟨e,49,[],h⟩ J=(af (b6 .slice (e 3) h) fun d=>af (aL .lss (e 6) d) fun f=>let Q1:=(aa (aa (aa (aa e 28 (e 6)) 29 (e 3)) 30 d) 31 f);az f (af (dg 1 (e 3) (e 6)) fun b=>af (ah none b h) fun c=>aA TP 73 [(e 5),c] h (bH (fun g a=>af (kM .not g) fun i=>let Q2:=(aa (aa (aa (aa (aa (aa (aa Q1 34 (e 5)) 35 (e 3)) 36 (e 6)) 37 b) 38 c) 39 g) 40 i);az i (af (dg 1 (e 3) (e 6)) fun j=>af (ah none j a) fun k=>af (ig [(.str [])] [(0,1)] [k]) fun o=>de (cz 1 16 (e 5) (.slice (ag.next a) 0 1 1) (ag.alloc a (.cells o))) fun l p=>af (aL .add (e 6) (.int .i64 1)) fun m=>J .normal ⟨(aa (aa (aa (aa (aa (aa (aa (aa (aa (aa (aa Q2 41 (e 5)) 42 (e 3)) 43 (e 6)) 44 j) 45 k) 46 (.slice (ag.next a) 0 1 1)) 47 l) 5 l) 32 (e 6)) 33 m) 6 m),49,[],p⟩) (af (aL .add (e 6) (.int .i64 1)) fun n=>J .normal ⟨(aa (aa (aa Q2 32 (e 6)) 33 n) 6 n),49,[],a⟩)) (fun q r=>J (.panic q) ⟨(aa (aa (aa (aa (aa Q1 34 (e 5)) 35 (e 3)) 36 (e 6)) 37 b) 38 c),49,[],r⟩))) (J (.exit 2) ⟨Q1,49,[],h⟩)):=by kernel_rfl
theorem F.bU.cZ:F.bU.mO K (.exit 2) ⟨e,49,[],h⟩=(K (.ret (e 5)) h):=by kernel_rfl
theorem F.zQ:EV (ak Tryz.f44) ⟨aI [a0],49,[],h⟩ (bp TP gm Tryz.f44.results.toList K)=(af (eR a0) fun a=>af (ig [] [] []) fun b=>af (bL 0 (.ptr (ag.next h) 0)) fun c=>af (bL 1 c) fun d=>af (ah none d (ag.alloc (ag.alloc h (.cells a)) (.cells b))) fun f=>de (cz 1 16 (.slice (ag.next (ag.alloc h (.cells a))) 0 0 1) f (ag.alloc (ag.alloc h (.cells a)) (.cells b))) fun g i=>bX (EV F.bU.L0) ⟨(aa (aa (aa (aa (aa (aa (aa (aa (aa (aI [a0]) 1 (.ptr (ag.next h) 0)) 2 .au) 7 (.slice (ag.next (ag.alloc h (.cells a))) 0 0 1)) 8 c) 9 d) 10 f) 11 g) 3 g) 4 (.int .i64 0)),49,[],i⟩ (F.bU.cM K)):=by kernel_rfl
theorem F.yP(hh:EV (ak Tryz.f44) ⟨aI [a0],49,[],h⟩ (bp TP gm Tryz.f44.results.toList K)=true):Sem TP 44 [a0] h K:=
 cB mixed (cm _) Tryz.func44 (c:=ak Tryz.f44) rfl (by decide) (of_decide_eq_true (by kernel_rfl)) hh
noncomputable def F.dh.L0:Code:=partOf (ak Tryz.f84) [1,1,0,1,0,0]
noncomputable def F.dh.cM(K:Out->ag->Bool):AX->St->Bool:=(aZ 0 (cS false (EV (partOf (ak Tryz.f84) [1,1,1])) (bp TP gm Tryz.f84.results.toList K)))
noncomputable def F.dh.J0(K:AX->St->Bool)(s:St):Bool:=RJ (EV (partOf (ak Tryz.f84) [1,1,0,1,0,0,1,0,0,1,0,1,0,1,1,1])) s (aZ 2 (cS false (EV (partOf (ak Tryz.f84) [1,1,0,1,0,0,1,0,0,1,1])) (aZ 1 (cS false (EV (partOf (ak Tryz.f84) [1,1,0,1,0,0,1,1])) K))))
theorem F.dh.aT:EV F.dh.L0 ⟨e,67,[],h⟩ J=(af (bL 2 (e 1)) fun n=>af (ah none n h) fun o=>af (b6 .slice o h) fun p=>af (aL .lss (e 3) p) fun q=>let Q1:=(aa (aa (aa (aa (aa e 23 (e 3)) 24 n) 25 o) 26 p) 27 q);az q (af (bL 2 (e 1)) fun r=>af (ah none r h) fun s=>af (dg 4 s (e 3)) fun t=>af (ah (some 4) t h) fun u=>af (bh 4 (.ptr (ag.next h) 0) u (ag.alloc h (.cells [(.int .i64 0),(.bool false),(.str []),.au]))) fun a=>af (bL 0 (.ptr (ag.next h) 0)) fun v=>af (ah none v a) fun c=>af (jU (.int .i64) c (.int .i64 0)) fun d=>let Q2:=(aa (aa (aa (aa (aa (aa (aa (aa (aa (aa Q1 30 r) 31 s) 32 (e 3)) 33 t) 34 u) 4 (.ptr (ag.next h) 0)) 35 v) 36 c) 38 d) 37 d);az d (af (bL 2 (.ptr (ag.next h) 0)) fun f=>af (bL 0 f) fun g=>af (ah none g a) fun i=>aA TP 116 [i] a (bH (fun w j=>af (kM .not w) fun x=>let Q3:=(aa (aa (aa (aa (aa Q2 39 f) 40 g) 41 i) 42 w) 43 x);az x (J .ret ⟨(aa Q3 2 (.bool false)),67,[],j⟩) (af (bL 2 (.ptr (ag.next h) 0)) fun k=>af (bL 1 k) fun l=>af (ah none l j) fun m=>aA TP 134 [m] j (bH (fun y z=>af (kM .not y) fun A=>let Q4:=(aa (aa (aa (aa (aa Q3 58 k) 59 l) 60 m) 61 y) 62 A);az A (J .ret ⟨(aa Q4 2 (.bool false)),67,[],z⟩) (af (aL .add (e 3) (.int .i64 1)) fun B=>J .normal ⟨(aa (aa (aa Q4 28 (e 3)) 29 B) 3 B),67,[],z⟩)) (fun D E=>J (.panic D) ⟨(aa (aa (aa Q3 58 k) 59 l) 60 m),67,[],E⟩)))) (fun G I=>J (.panic G) ⟨(aa (aa (aa Q2 39 f) 40 g) 41 i),67,[],I⟩))) (af (jU (.int .i64) c (.int .i64 1)) fun b=>az b (F.dh.J0 J ⟨(aa (aa Q2 45 b) 44 b),67,[],a⟩) (af (jU (.int .i64) c (.int .i64 2)) fun C=>F.dh.J0 J ⟨(aa (aa (aa (aa Q2 45 b) 44 b) 46 C) 44 C),67,[],a⟩))) (J (.exit 0) ⟨Q1,67,[],h⟩)):=by kernel_rfl
theorem F.dh.aJ:F.dh.cM K (.exit 0) ⟨e,67,[],h⟩=(af (ah (some 3) (e 1) h) fun b=>aA TP 44 [b] h (bH (fun c a=>af (b6 .slice c a) fun d=>af (aL .leq d (.int .i64 12)) fun f=>K (.ret f) a) (fun g i=>K (.panic g) i))):=by kernel_rfl
theorem F.dh.bt:F.dh.cM K .ret ⟨e,67,[],h⟩=(K (.ret (e 2)) h):=by kernel_rfl
theorem F.dh.FN:F.dh.J0 J ⟨e,67,[],h⟩=(az (e 44) (af (bL 2 (e 4)) fun k=>af (bL 0 k) fun l=>af (ah none l h) fun m=>af (sG .string m (.str [])) fun c=>let Q1:=(aa (aa (aa (aa (aa e 47 k) 48 l) 49 m) 50 c) 51 c);az c (J .ret ⟨(aa (aa (aa (aa (aa (aa (aa (aa (aa (aa (aa (aa Q1 51 (.bool true)) 52 bK) 51 (.bool true)) 53 bK) 51 (.bool true)) 54 bK) 51 (.bool true)) 55 bK) 51 (.bool true)) 56 bK) 57 (.bool true)) 2 (.bool false)),67,[],h⟩) (af (bL 2 (e 4)) fun n=>af (bL 1 n) fun o=>af (ah none o h) fun p=>af (b6 .slice p h) fun q=>af (sG (.int .i64) q (.int .i64 2)) fun d=>let Q2:=(aa (aa (aa (aa (aa (aa (aa (aa (aa (aa (aa Q1 51 (.bool false)) 52 n) 51 (.bool false)) 53 o) 51 (.bool false)) 54 p) 51 (.bool false)) 55 q) 51 (.bool false)) 56 d) 57 d);az d (J .ret ⟨(aa Q2 2 (.bool false)),67,[],h⟩) (af (bL 2 (e 4)) fun f=>af (bL 1 f) fun g=>af (ah none g h) fun i=>aA TP 134 [i] h (bH (fun r s=>af (kM .not r) fun t=>let Q3:=(aa (aa (aa (aa (aa Q2 58 f) 59 g) 60 i) 61 r) 62 t);az t (J .ret ⟨(aa Q3 2 (.bool false)),67,[],s⟩) (af (aL .add (e 3) (.int .i64 1)) fun u=>J .normal ⟨(aa (aa (aa Q3 28 (e 3)) 29 u) 3 u),67,[],s⟩)) (fun B C=>J (.panic B) ⟨(aa (aa (aa Q2 58 f) 59 g) 60 i),67,[],C⟩))))) (J .ret ⟨(aa e 2 (.bool false)),67,[],h⟩)):=(AL _ _ _).trans (by kernel_rfl)
theorem F.HO{J:Out->ag->Bool}:EV (ak Tryz.f84) ⟨aI [a0],67,[],h⟩ (bp TP gm Tryz.f84.results.toList J)=(af (eR a0) fun L=>af (bL 0 (.ptr (ag.next h) 0)) fun M=>af (bL 0 M) fun N=>af (ah none N (ag.alloc h (.cells L))) fun O=>aA TP 116 [O] (ag.alloc h (.cells L)) (bH (fun P D=>af (kM .not P) fun E=>az E (J (.ret (.bool false)) D) (af (bL 0 (.ptr (ag.next h) 0)) fun R=>af (bL 1 R) fun v=>af (ah none v D) fun w=>aA TP 134 [w] D (bH (fun x a=>af (kM .not x) fun b=>az b (J (.ret (.bool false)) a) (af (bL 2 (.ptr (ag.next h) 0)) fun y=>af (ah none y a) fun z=>af (b6 .slice z a) fun A=>af (aL .gtr A (.int .i64 20)) fun j=>az j (J (.ret (.bool false)) a) (bX (EV F.dh.L0) ⟨(aa (aa (aa (aa (aa (aa (aa (aa (aa (aa (aa (aa (aa (aa (aa (aa (aa (aa (aa (aa (aa (aa (aa (aa (aa (aa (aa (aa (aa (aa (aI [a0]) 1 (.ptr (ag.next h) 0)) 2 (.bool false)) 5 M) 6 N) 7 O) 8 P) 9 E) 10 E) 10 (.bool false)) 11 R) 10 (.bool false)) 12 v) 10 (.bool false)) 13 w) 10 (.bool false)) 14 x) 10 (.bool false)) 15 b) 16 b) 17 b) 17 (.bool false)) 18 y) 17 (.bool false)) 19 z) 17 (.bool false)) 20 A) 17 (.bool false)) 21 j) 22 j) 3 (.int .i64 0)),67,[],a⟩ (F.dh.cM J)))) (fun G I=>J (.panic G) I)))) (fun S T=>J (.panic S) T))):=by kernel_rfl
theorem F.FO(hh:EV (ak Tryz.f84) ⟨aI [a0],67,[],h⟩ (bp TP gm Tryz.f84.results.toList K)=true):Sem TP 84 [a0] h K:=
 cB mixed (cm _) Tryz.func84 (c:=ak Tryz.f84) rfl (by decide) (of_decide_eq_true (by kernel_rfl)) hh
noncomputable def F.eD.L0:Code:=partOf (ak Tryz.f29) [1,1,1,0,1,0,0]
noncomputable def F.eD.cM(K:Out->ag->Bool):AX->St->Bool:=(aZ 0 (cS false (EV (partOf (ak Tryz.f29) [1,1,1,1])) (bp TP gm Tryz.f29.results.toList K)))
noncomputable def F.eD.L1:Code:=partOf (ak Tryz.f29) [1,1,1,0,1,0,0,1,0,0,1,1,0,0]
noncomputable def F.eD.mO(J:AX->St->Bool):AX->St->Bool:=(aZ 2 (aZ 1 (cS false (EV (partOf (ak Tryz.f29) [1,1,1,0,1,0,0,1,1])) J)))
theorem F.eD.aT:EV F.eD.L0 ⟨e,62,[],h⟩ J=(af (b6 .slice (e 0) h) fun m=>af (aL .lss (e 6) m) fun b=>let Q1:=(aa (aa (aa (aa (aa e 11 (e 6)) 12 (e 0)) 13 m) 14 b) 15 b);az b (af (aL .leq (e 5) (e 1)) fun c=>let Q2:=(aa (aa (aa (aa (aa (aa (aa Q1 15 (.bool true)) 16 (e 5)) 15 (.bool true)) 17 (e 1)) 15 (.bool true)) 18 c) 19 c);az c (af (aL .add (e 5) (.int .i64 1)) fun d=>af (dg 3 (e 0) (e 6)) fun f=>af (bL 0 f) fun g=>af (ah (some 2) g h) fun i=>aA TP 82 [i] h (bH (fun n j=>af (aL .add d n) fun a=>bX (EV F.eD.L1) ⟨(aa (aa (aa (aa (aa (aa (aa (aa (aa (aa (aa Q2 22 (e 5)) 23 d) 24 (e 0)) 25 (e 6)) 26 f) 27 g) 28 i) 29 n) 30 a) 5 a) 7 (.int .i64 0)),62,[],j⟩ (F.eD.mO J)) (fun k l=>J (.panic k) ⟨(aa (aa (aa (aa (aa (aa (aa Q2 22 (e 5)) 23 d) 24 (e 0)) 25 (e 6)) 26 f) 27 g) 28 i),62,[],l⟩))) (J (.exit 0) ⟨Q2,62,[],h⟩)) (J (.exit 0) ⟨(aa (aa (aa (aa (aa (aa (aa Q1 15 (.bool false)) 16 bK) 15 (.bool false)) 17 bK) 15 (.bool false)) 18 bK) 19 (.bool false)),62,[],h⟩)):=by kernel_rfl
theorem F.eD.aJ:F.eD.cM K (.exit 0) ⟨e,62,[],h⟩=(af (aL .leq (e 5) (e 1)) fun a=>K (.ret a) h):=by kernel_rfl
theorem F.eD.eC:EV F.eD.L1 ⟨e,62,[],h⟩ J=(af (dg 3 (e 0) (e 6)) fun l=>af (bL 2 l) fun m=>af (ah none m h) fun n=>af (b6 .slice n h) fun o=>af (aL .lss (e 7) o) fun a=>let Q1:=(aa (aa (aa (aa (aa (aa (aa (aa (aa e 31 (e 7)) 32 (e 0)) 33 (e 6)) 34 l) 35 m) 36 n) 37 o) 38 a) 39 a);az a (af (aL .leq (e 5) (e 1)) fun b=>let Q2:=(aa (aa (aa (aa (aa (aa (aa Q1 39 (.bool true)) 40 (e 5)) 39 (.bool true)) 41 (e 1)) 39 (.bool true)) 42 b) 43 b);az b (af (aL .add (e 5) (.int .i64 1)) fun c=>af (dg 3 (e 0) (e 6)) fun d=>af (bL 2 d) fun f=>af (ah none f h) fun g=>af (dg 4 g (e 7)) fun i=>af (bL 2 i) fun j=>af (ah (some 2) j h) fun k=>aA TP 82 [k] h (bH (fun p s=>af (aL .add c p) fun q=>af (aL .add (e 7) (.int .i64 1)) fun r=>J .normal ⟨(aa (aa (aa (aa (aa (aa (aa (aa (aa (aa (aa (aa (aa (aa (aa (aa (aa Q2 46 (e 5)) 47 c) 48 (e 0)) 49 (e 6)) 50 d) 51 f) 52 g) 53 (e 7)) 54 i) 55 j) 56 k) 57 p) 58 q) 5 q) 44 (e 7)) 45 r) 7 r),62,[],s⟩) (fun t u=>J (.panic t) ⟨(aa (aa (aa (aa (aa (aa (aa (aa (aa (aa (aa Q2 46 (e 5)) 47 c) 48 (e 0)) 49 (e 6)) 50 d) 51 f) 52 g) 53 (e 7)) 54 i) 55 j) 56 k),62,[],u⟩))) (J (.exit 2) ⟨Q2,62,[],h⟩)) (J (.exit 2) ⟨(aa (aa (aa (aa (aa (aa (aa Q1 39 (.bool false)) 40 bK) 39 (.bool false)) 41 bK) 39 (.bool false)) 42 bK) 43 (.bool false)),62,[],h⟩)):=by kernel_rfl
theorem F.eD.cZ:F.eD.mO J (.exit 2) ⟨e,62,[],h⟩=(af (aL .add (e 6) (.int .i64 1)) fun a=>J .normal ⟨(aa (aa (aa e 20 (e 6)) 21 a) 6 a),62,[],h⟩):=by kernel_rfl
theorem F.Kz:EV (ak Tryz.f29) ⟨aI [a0,a1],62,[],h⟩ (bp TP gm Tryz.f29.results.toList K)=(af (b6 .slice a0 h) fun a=>af (aL .gtr a (.int .i64 70)) fun b=>az b (K (.ret (.bool false)) h) (bX (EV F.eD.L0) ⟨(aa (aa (aa (aa (aa (aa (aI [a0,a1]) 4 (.bool false)) 8 a0) 9 a) 10 b) 5 (.int .i64 0)) 6 (.int .i64 0)),62,[],h⟩ (F.eD.cM K))):=by kernel_rfl
theorem F.HP(hh:EV (ak Tryz.f29) ⟨aI [a0,a1],62,[],h⟩ (bp TP gm Tryz.f29.results.toList K)=true):Sem TP 29 [a0,a1] h K:=
 cB mixed (cm _) Tryz.func29 (c:=ak Tryz.f29) rfl (by decide) (of_decide_eq_true (by kernel_rfl)) hh
noncomputable def F.gY.L0:Code:=partOf (ak Tryz.f82) [1,1,0,1,0,0]
noncomputable def F.gY.cM(K:Out->ag->Bool):AX->St->Bool:=(aZ 0 (cS false (EV (partOf (ak Tryz.f82) [1,1,1])) (bp TP gm Tryz.f82.results.toList K)))
theorem F.gY.aT:EV F.gY.L0 ⟨e,34,[],h⟩ J=(af (bL 1 (e 1)) fun o=>af (ah none o h) fun c=>af (b6 .slice c h) fun d=>af (aL .lss (e 4) d) fun a=>let Q1:=(aa (aa (aa (aa (aa (aa e 13 (e 4)) 14 o) 15 c) 16 d) 17 a) 18 a);az a (af (aL .lss (e 3) (.int .i64 10000)) fun b=>let Q2:=(aa (aa (aa (aa (aa Q1 18 (.bool true)) 19 (e 3)) 18 (.bool true)) 20 b) 21 b);az b (af (bL 1 (e 1)) fun f=>af (ah none f h) fun g=>af (dg 1 g (e 4)) fun i=>af (ah none i h) fun j=>af (b6 .str j h) fun k=>af (aL .quo k (.int .i64 20)) fun l=>af (aL .add (e 3) l) fun m=>af (aL .add (e 4) (.int .i64 1)) fun n=>J .normal ⟨(aa (aa (aa (aa (aa (aa (aa (aa (aa (aa (aa (aa (aa Q2 24 (e 3)) 25 f) 26 g) 27 (e 4)) 28 i) 29 j) 30 k) 31 l) 32 m) 3 m) 22 (e 4)) 23 n) 4 n),34,[],h⟩) (J (.exit 0) ⟨Q2,34,[],h⟩)) (J (.exit 0) ⟨(aa (aa (aa (aa (aa Q1 18 (.bool false)) 19 bK) 18 (.bool false)) 20 bK) 21 (.bool false)),34,[],h⟩)):=by kernel_rfl
theorem F.gY.aJ:F.gY.cM K (.exit 0) ⟨e,34,[],h⟩=(K (.ret (e 3)) h):=by kernel_rfl
theorem F.HQ:EV (ak Tryz.f82) ⟨aI [a0],34,[],h⟩ (bp TP gm Tryz.f82.results.toList K)=(af (eR a0) fun a=>af (bL 1 (.ptr (ag.next h) 0)) fun b=>af (ah none b (ag.alloc h (.cells a))) fun c=>af (b6 .slice c (ag.alloc h (.cells a))) fun d=>af (bL 0 (.ptr (ag.next h) 0)) fun f=>af (ah none f (ag.alloc h (.cells a))) fun g=>af (b6 .str g (ag.alloc h (.cells a))) fun i=>af (aL .quo i (.int .i64 20)) fun j=>af (aL .add d j) fun k=>bX (EV F.gY.L0) ⟨(aa (aa (aa (aa (aa (aa (aa (aa (aa (aa (aa (aa (aI [a0]) 1 (.ptr (ag.next h) 0)) 2 (.int .i64 0)) 5 b) 6 c) 7 d) 8 f) 9 g) 10 i) 11 j) 12 k) 3 k) 4 (.int .i64 0)),34,[],(ag.alloc h (.cells a))⟩ (F.gY.cM K)):=by kernel_rfl
theorem F.FP(hh:EV (ak Tryz.f82) ⟨aI [a0],34,[],h⟩ (bp TP gm Tryz.f82.results.toList K)=true):Sem TP 82 [a0] h K:=
 cB mixed (cm _) Tryz.func82 (c:=ak Tryz.f82) rfl (by decide) (of_decide_eq_true (by kernel_rfl)) hh
noncomputable def F.cw.L0:Code:=partOf (ak Tryz.f83) [1,1,1,0,1,0,0]
noncomputable def F.cw.cM(K:Out->ag->Bool):AX->St->Bool:=(aZ 0 (cS false (EV (partOf (ak Tryz.f83) [1,1,1,1])) (bp TP gm Tryz.f83.results.toList K)))
noncomputable def F.cw.L1:Code:=partOf (ak Tryz.f83) [1,1,1,0,1,0,0,1,1,0,0,1,1,0,1,0,0]
noncomputable def F.cw.mO(J:AX->St->Bool):AX->St->Bool:=(aZ 2 (cS false (EV (partOf (ak Tryz.f83) [1,1,1,0,1,0,0,1,1,0,0,1,1,1])) (aZ 1 (cS false (EV (partOf (ak Tryz.f83) [1,1,1,0,1,0,0,1,1,1])) J))))
noncomputable def F.cw.L2:Code:=partOf (ak Tryz.f83) [1,1,1,1,0,1,0,0]
noncomputable def F.cw.vO(K:Out->ag->Bool):AX->St->Bool:=(aZ 4 (cS false (EV (partOf (ak Tryz.f83) [1,1,1,1,1])) (bp TP gm Tryz.f83.results.toList K)))
theorem F.cw.aT:EV F.cw.L0 ⟨e,90,[],h⟩ J=(af (aL .lss (e 19) (e 18)) fun I=>let Q1:=(aa e 20 I);az I (af (dg 3 (e 17) (e 19)) fun w=>af (ah (some 3) w h) fun x=>af (bh 3 (.ptr (ag.next h) 0) x (ag.alloc h (.cells [(.str []),.au,.au]))) fun L=>af (bL 0 (.ptr (ag.next h) 0)) fun y=>af (ah (some 2) y L) fun f=>aA TP 130 [f] L (bH (fun n g=>af (kM .not n) fun i=>let Q2:=(aa (aa (aa (aa (aa (aa (aa (aa Q1 21 w) 22 x) 6 (.ptr (ag.next h) 0)) 23 y) 24 f) 25 n) 26 i) 27 i);az i (J .ret ⟨(aa (aa (aa (aa (aa (aa (aa (aa (aa (aa (aa (aa (aa (aa (aa (aa (aa (aa (aa (aa (aa (aa (aa (aa (aa (aa (aa (aa (aa (aa (aa (aa (aa Q2 27 (.bool true)) 28 bK) 27 (.bool true)) 29 bK) 27 (.bool true)) 30 bK) 27 (.bool true)) 31 bK) 27 (.bool true)) 32 bK) 33 (.bool true)) 34 (.bool true)) 34 (.bool true)) 35 bK) 34 (.bool true)) 36 bK) 34 (.bool true)) 37 bK) 34 (.bool true)) 38 bK) 39 (.bool true)) 40 (.bool true)) 40 (.bool true)) 41 bK) 40 (.bool true)) 42 bK) 40 (.bool true)) 43 bK) 40 (.bool true)) 44 bK) 45 (.bool true)) 2 .gC) 3 (.bool false)),90,[],g⟩) (af (bL 0 (.ptr (ag.next h) 0)) fun j=>af (ah (some 2) j g) fun k=>aA TP 131 [(e 4),k] g (bH (fun o a=>af (kM .not o) fun c=>let Q3:=(aa (aa (aa (aa (aa (aa (aa (aa (aa (aa (aa (aa Q2 27 (.bool false)) 28 (e 4)) 27 (.bool false)) 29 j) 27 (.bool false)) 30 k) 27 (.bool false)) 31 o) 27 (.bool false)) 32 c) 33 c) 34 c);az c (J .ret ⟨(aa (aa (aa (aa (aa (aa (aa (aa (aa (aa (aa (aa (aa (aa (aa (aa (aa (aa (aa (aa (aa Q3 34 (.bool true)) 35 bK) 34 (.bool true)) 36 bK) 34 (.bool true)) 37 bK) 34 (.bool true)) 38 bK) 39 (.bool true)) 40 (.bool true)) 40 (.bool true)) 41 bK) 40 (.bool true)) 42 bK) 40 (.bool true)) 43 bK) 40 (.bool true)) 44 bK) 45 (.bool true)) 2 .gC) 3 (.bool false)),90,[],a⟩) (af (bL 2 (.ptr (ag.next h) 0)) fun p=>af (ah none p a) fun q=>af (b6 .slice q a) fun r=>af (aL .gtr r (.int .i64 20)) fun d=>let Q4:=(aa (aa (aa (aa (aa (aa (aa (aa (aa (aa Q3 34 (.bool false)) 35 p) 34 (.bool false)) 36 q) 34 (.bool false)) 37 r) 34 (.bool false)) 38 d) 39 d) 40 d);az d (J .ret ⟨(aa (aa (aa (aa (aa (aa (aa (aa (aa (aa (aa Q4 40 (.bool true)) 41 bK) 40 (.bool true)) 42 bK) 40 (.bool true)) 43 bK) 40 (.bool true)) 44 bK) 45 (.bool true)) 2 .gC) 3 (.bool false)),90,[],a⟩) (af (ah (some 3) (.ptr (ag.next h) 0) a) fun l=>aA TP 108 [l] a (bH (fun s b=>af (b6 .slice s b) fun t=>af (aL .gtr t (.int .i64 12)) fun m=>let Q5:=(aa (aa (aa (aa (aa (aa (aa (aa (aa Q4 40 (.bool false)) 41 l) 40 (.bool false)) 42 s) 40 (.bool false)) 43 t) 40 (.bool false)) 44 m) 45 m);az m (J .ret ⟨(aa (aa Q5 2 .gC) 3 (.bool false)),90,[],b⟩) (af (bL 2 (.ptr (ag.next h) 0)) fun u=>af (ah none u b) fun v=>af (b6 .slice v b) fun z=>bX (EV F.cw.L1) ⟨(aa (aa (aa (aa Q5 46 u) 47 v) 48 z) 49 (.int .i64 0)),90,[],b⟩ (F.cw.mO J))) (fun A B=>J (.panic A) ⟨(aa (aa (aa Q4 40 (.bool false)) 41 l) 40 (.bool false)),90,[],B⟩))))) (fun C D=>J (.panic C) ⟨(aa (aa (aa (aa (aa (aa (aa Q2 27 (.bool false)) 28 (e 4)) 27 (.bool false)) 29 j) 27 (.bool false)) 30 k) 27 (.bool false)),90,[],D⟩)))) (fun E G=>J (.panic E) ⟨(aa (aa (aa (aa (aa Q1 21 w) 22 x) 6 (.ptr (ag.next h) 0)) 23 y) 24 f),90,[],G⟩))) (J (.exit 0) ⟨Q1,90,[],h⟩)):=by kernel_rfl
theorem F.cw.aJ:F.cw.cM K (.exit 0) ⟨e,90,[],h⟩=(af (bS (e 4)) fun a=>af (bL 2 a) fun b=>af (ah none b h) fun c=>af (b6 .map c h) fun d=>af (aL .add d (.int .i64 1)) fun f=>bX (EV F.cw.L2) ⟨(aa (aa (aa (aa (aa (aa (aa e 77 (e 4)) 78 a) 79 b) 80 c) 81 d) 82 f) 83 (.int .i64 0)),90,[],h⟩ (F.cw.vO K)):=by kernel_rfl
theorem F.cw.bt:F.cw.cM K .ret ⟨e,90,[],h⟩=(K (.ret (.tuple [(e 2),(e 3)])) h):=by kernel_rfl
theorem F.cw.eC:EV F.cw.L1 ⟨e,90,[],h⟩ J=(af (aL .lss (e 49) (e 48)) fun l=>let Q1:=(aa e 50 l);az l (af (dg 4 (e 47) (e 49)) fun c=>af (ah (some 4) c h) fun d=>af (bh 4 (.ptr (ag.next h) 0) d (ag.alloc h (.cells [(.int .i64 0),(.bool false),(.str []),.au]))) fun m=>af (ah (some 4) (.ptr (ag.next h) 0) m) fun f=>aA TP 132 [f] m (bH (fun n a=>af (kM .not n) fun g=>let Q2:=(aa (aa (aa (aa (aa (aa (aa Q1 51 c) 52 d) 8 (.ptr (ag.next h) 0)) 53 f) 54 n) 55 g) 56 g);az g (J .ret ⟨(aa (aa (aa (aa (aa (aa (aa (aa (aa (aa (aa (aa (aa (aa (aa (aa (aa (aa Q2 56 (.bool true)) 57 bK) 56 (.bool true)) 58 bK) 56 (.bool true)) 59 bK) 56 (.bool true)) 60 bK) 61 bK) 62 bK) 63 bK) 64 bK) 65 bK) 56 (.bool true)) 66 bK) 67 (.bool true)) 2 .gC) 3 (.bool false)),90,[],a⟩) (af (bL 0 (.ptr (ag.next h) 0)) fun o=>af (ah none o a) fun p=>af (jU (.int .i64) p (.int .i64 0)) fun i=>let Q3:=(aa (aa (aa (aa (aa (aa (aa (aa Q2 56 (.bool false)) 57 o) 56 (.bool false)) 58 p) 56 (.bool false)) 59 i) 56 (.bool false)) 60 i);az i (af (bL 2 (.ptr (ag.next h) 0)) fun j=>af (ah (some 2) j a) fun k=>aA TP 131 [(e 4),k] a (bH (fun q r=>af (kM .not q) fun b=>let Q4:=(aa (aa (aa (aa (aa (aa (aa (aa (aa (aa (aa (aa (aa Q3 60 (.bool true)) 61 (e 4)) 60 (.bool true)) 62 j) 60 (.bool true)) 63 k) 60 (.bool true)) 64 q) 60 (.bool true)) 65 b) 56 (.bool false)) 66 b) 67 b);az b (J .ret ⟨(aa (aa Q4 2 .gC) 3 (.bool false)),90,[],r⟩) (af (aL .add (e 49) (.int .i64 1)) fun s=>J .normal ⟨(aa (aa Q4 68 s) 49 s),90,[],r⟩)) (fun u v=>J (.panic u) ⟨(aa (aa (aa (aa (aa (aa (aa Q3 60 (.bool true)) 61 (e 4)) 60 (.bool true)) 62 j) 60 (.bool true)) 63 k) 60 (.bool true)),90,[],v⟩))) (af (aL .add (e 49) (.int .i64 1)) fun t=>J .normal ⟨(aa (aa (aa (aa (aa (aa (aa (aa (aa (aa (aa (aa (aa (aa (aa Q3 60 (.bool false)) 61 bK) 60 (.bool false)) 62 bK) 60 (.bool false)) 63 bK) 60 (.bool false)) 64 bK) 60 (.bool false)) 65 bK) 56 (.bool false)) 66 (.bool false)) 67 (.bool false)) 68 t) 49 t),90,[],a⟩))) (fun w x=>J (.panic w) ⟨(aa (aa (aa (aa Q1 51 c) 52 d) 8 (.ptr (ag.next h) 0)) 53 f),90,[],x⟩))) (J (.exit 2) ⟨Q1,90,[],h⟩)):=by kernel_rfl
theorem F.cw.cZ:F.cw.mO J (.exit 2) ⟨e,90,[],h⟩=(af (bS (e 4)) fun a=>af (bL 2 a) fun b=>af (ah none b h) fun c=>af (bL 0 (e 6)) fun d=>af (bL 0 d) fun f=>af (ah none f h) fun g=>af (fT .string c g (.int .i64 0) h) fun j=>af (aL .add (e 19) (.int .i64 1)) fun i=>J .normal ⟨(aa (aa (aa (aa (aa (aa (aa (aa (aa e 69 (e 4)) 70 a) 71 b) 72 c) 73 d) 74 f) 75 g) 76 i) 19 i),90,[],j⟩):=by kernel_rfl
theorem F.cw.k9:F.cw.mO J .ret ⟨e,90,[],h⟩=(J .ret ⟨e,90,[],h⟩):=by kernel_rfl
theorem F.cw.kE:EV F.cw.L2 ⟨e,90,[],h⟩ J=(af (aL .lss (e 83) (e 82)) fun a=>let Q1:=(aa e 84 a);az a (aA TP 133 [(e 4)] h (bH (fun b c=>af (kM .not b) fun d=>let Q2:=(aa (aa (aa Q1 85 (e 4)) 86 b) 87 d);az d (J .ret ⟨(aa (aa (aa Q2 88 (e 4)) 2 (e 4)) 3 (.bool true)),90,[],c⟩) (af (aL .add (e 83) (.int .i64 1)) fun f=>J .normal ⟨(aa (aa Q2 89 f) 83 f),90,[],c⟩)) (fun g i=>J (.panic g) ⟨(aa Q1 85 (e 4)),90,[],i⟩))) (J (.exit 4) ⟨Q1,90,[],h⟩)):=by kernel_rfl
theorem F.cw.iM:F.cw.vO K (.exit 4) ⟨e,90,[],h⟩=(K (.ret (.tuple [.gC,(.bool false)])) h):=by kernel_rfl
theorem F.cw.AU:F.cw.vO K .ret ⟨e,90,[],h⟩=(K (.ret (.tuple [(e 2),(e 3)])) h):=by kernel_rfl
theorem F.Mt:EV (ak Tryz.f83) ⟨aI [a0],90,[],h⟩ (bp TP gm Tryz.f83.results.toList K)=(af (jM [.au,.kX,.kX] [(0,1),(1,1),(2,1)] [a0,(.map (ag.next h)),(.map (ag.next (ag.alloc h (.map [] 0))))]) fun b=>af (eR b) fun a=>af (b6 .slice a0 (ag.alloc (ag.alloc (ag.alloc h (.map [] 0)) (.map [] 0)) (.cells a))) fun c=>af (aL .gtr c (.int .i64 60)) fun d=>az d (K (.ret (.tuple [.gC,(.bool false)])) (ag.alloc (ag.alloc (ag.alloc h (.map [] 0)) (.map [] 0)) (.cells a))) (af (b6 .slice a0 (ag.alloc (ag.alloc (ag.alloc h (.map [] 0)) (.map [] 0)) (.cells a))) fun f=>bX (EV F.cw.L0) ⟨(aa (aa (aa (aa (aa (aa (aa (aa (aa (aa (aa (aa (aa (aa (aI [a0]) 2 .gC) 3 (.bool false)) 9 a0) 10 (.map (ag.next h))) 11 (.map (ag.next (ag.alloc h (.map [] 0))))) 12 b) 13 (.ptr (ag.next (ag.alloc (ag.alloc h (.map [] 0)) (.map [] 0))) 0)) 4 (.ptr (ag.next (ag.alloc (ag.alloc h (.map [] 0)) (.map [] 0))) 0)) 14 a0) 15 c) 16 d) 17 a0) 18 f) 19 (.int .i64 0)),90,[],(ag.alloc (ag.alloc (ag.alloc h (.map [] 0)) (.map [] 0)) (.cells a))⟩ (F.cw.cM K))):=by kernel_rfl
theorem F.KA(hh:EV (ak Tryz.f83) ⟨aI [a0],90,[],h⟩ (bp TP gm Tryz.f83.results.toList K)=true):Sem TP 83 [a0] h K:=
 cB mixed (cm _) Tryz.func83 (c:=ak Tryz.f83) rfl (by decide) (of_decide_eq_true (by kernel_rfl)) hh
noncomputable def F.bF.L0:Code:=partOf (ak Tryz.f133) [1,1,0,1,0,0]
noncomputable def F.bF.cM(K:Out->ag->Bool):AX->St->Bool:=(aZ 0 (cS false (EV (partOf (ak Tryz.f133) [1,1,1])) (bp TP gm Tryz.f133.results.toList K)))
noncomputable def F.bF.L1:Code:=partOf (ak Tryz.f133) [1,1,0,1,0,0,1,1,0,0,1,1,0,0]
noncomputable def F.bF.mO(J:AX->St->Bool):AX->St->Bool:=(aZ 2 (aZ 1 (cS false (EV (partOf (ak Tryz.f133) [1,1,0,1,0,0,1,1,1])) J)))
noncomputable def F.bF.J0(K:AX->St->Bool)(s:St):Bool:=RJ (EV (partOf (ak Tryz.f133) [1,1,0,1,0,0,1,1,0,0,1,1,0,0,1,1,0,0,1,1,1,1])) s (aZ 3 (cS false (EV (partOf (ak Tryz.f133) [1,1,0,1,0,0,1,1,0,0,1,1,0,0,1,1,1])) K))
theorem F.bF.aT:EV F.bF.L0 ⟨e,71,[],h⟩ J=(af (aL .lss (e 15) (e 14)) fun a=>az a (af (dg 3 (e 13) (e 15)) fun d=>af (ah (some 3) d h) fun f=>af (bh 3 (.ptr (ag.next h) 0) f (ag.alloc h (.cells [(.str []),.au,.au]))) fun b=>af (bL 2 (.ptr (ag.next h) 0)) fun g=>af (ah none g b) fun i=>af (b6 .slice i b) fun c=>bX (EV F.bF.L1) ⟨(aa (aa (aa (aa (aa (aa (aa (aa e 16 a) 17 d) 18 f) 5 (.ptr (ag.next h) 0)) 19 g) 20 i) 21 c) 22 (.int .i64 0)),71,[],b⟩ (F.bF.mO J)) (J (.exit 0) ⟨(aa e 16 a),71,[],h⟩)):=by kernel_rfl
theorem F.bF.aJ:F.bF.cM K (.exit 0) ⟨e,71,[],h⟩=(K (.ret (e 3)) h):=by kernel_rfl
theorem F.bF.eC:EV F.bF.L1 ⟨e,71,[],h⟩ J=(af (aL .lss (e 22) (e 21)) fun k=>let Q1:=(aa e 23 k);az k (af (dg 4 (e 20) (e 22)) fun l=>af (ah (some 4) l h) fun m=>af (bh 4 (.ptr (ag.next h) 0) m (ag.alloc h (.cells [(.int .i64 0),(.bool false),(.str []),.au]))) fun a=>af (bS (e 0)) fun n=>af (bL 2 n) fun o=>af (ah none o a) fun p=>af (bL 2 (.ptr (ag.next h) 0)) fun q=>af (bL 0 q) fun r=>af (ah none r a) fun s=>af (dc .string (.int .i64 0) true p s a) fun b=>af (bY b 0) fun c=>af (bY b 1) fun d=>af (bL 0 (.ptr (ag.next h) 0)) fun t=>af (ah none t a) fun u=>af (sG (.int .i64) u (.int .i64 0)) fun f=>let Q2:=(aa (aa (aa (aa (aa (aa (aa (aa (aa (aa (aa (aa (aa (aa (aa (aa (aa (aa (aa (aa Q1 24 l) 25 m) 7 (.ptr (ag.next h) 0)) 27 (e 0)) 28 n) 29 o) 30 p) 31 q) 32 r) 33 s) 34 b) 26 b) 35 c) 36 d) 8 c) 9 d) 37 t) 38 u) 39 f) 40 f);az f (af (aL .add (e 22) (.int .i64 1)) fun v=>J .normal ⟨(aa (aa (aa (aa (aa (aa (aa Q2 40 (.bool true)) 41 bK) 40 (.bool true)) 42 bK) 43 (.bool true)) 68 v) 22 v),71,[],a⟩) (af (kM .not d) fun g=>let Q3:=(aa (aa (aa (aa (aa Q2 40 (.bool false)) 41 d) 40 (.bool false)) 42 g) 43 g);az g (af (aL .add (e 22) (.int .i64 1)) fun w=>J .normal ⟨(aa (aa Q3 68 w) 22 w),71,[],a⟩) (af (bL 1 (.ptr (ag.next h) 0)) fun i=>af (ah none i a) fun j=>az j (af (aL .add c (.int .i64 1)) fun x=>F.bF.J0 J ⟨(aa (aa (aa (aa (aa Q3 44 i) 45 j) 46 c) 47 x) 8 x),71,[],a⟩) (F.bF.J0 J ⟨(aa (aa Q3 44 i) 45 j),71,[],a⟩)))) (J (.exit 2) ⟨Q1,71,[],h⟩)):=by kernel_rfl
theorem F.bF.cZ:F.bF.mO J (.exit 2) ⟨e,71,[],h⟩=(af (aL .add (e 15) (.int .i64 1)) fun a=>J .normal ⟨(aa (aa e 69 a) 15 a),71,[],h⟩):=by kernel_rfl
theorem F.bF.FN:F.bF.J0 J ⟨e,71,[],h⟩=(af (bS (e 0)) fun b=>af (bL 2 b) fun c=>af (ah none c h) fun d=>af (bL 0 (e 5)) fun f=>af (bL 0 f) fun g=>af (ah none g h) fun i=>af (dc .string (.int .i64 0) false d i h) fun j=>af (aL .gtr (e 8) j) fun k=>let Q1:=(aa (aa (aa (aa (aa (aa (aa (aa (aa (aa e 48 (e 8)) 49 (e 0)) 50 b) 51 c) 52 d) 53 f) 54 g) 55 i) 56 j) 57 k);az k (af (bS (e 0)) fun l=>af (bL 2 l) fun m=>af (ah none m h) fun a=>af (bL 0 (e 5)) fun n=>af (bL 0 n) fun o=>af (ah none o h) fun p=>de (iR .string (.int .i64 0) a p h) fun q u=>af (bY q 1) fun r=>af (fX a r (e 8) u) fun v=>af (aL .add (e 22) (.int .i64 1)) fun s=>J .normal ⟨(aa (aa (aa (aa (aa (aa (aa (aa (aa (aa (aa (aa (aa Q1 58 (e 0)) 59 l) 60 m) 61 a) 62 n) 63 o) 64 p) 65 (e 8)) 66 q) 67 r) 3 (.bool true)) 68 s) 22 s),71,[],v⟩) (af (aL .add (e 22) (.int .i64 1)) fun t=>J .normal ⟨(aa (aa Q1 68 t) 22 t),71,[],h⟩)):=(AL _ _ _).trans (by kernel_rfl)
theorem F.vQ{J:Out->ag->Bool}:EV (ak Tryz.f133) ⟨aI [a0],71,[],h⟩ (bp TP gm Tryz.f133.results.toList J)=(af (bS a0) fun w=>af (bL 0 w) fun x=>af (ah none x h) fun y=>af (b6 .slice y h) fun z=>bX (EV F.bF.L0) ⟨(aa (aa (aa (aa (aa (aa (aa (aa (aI [a0]) 2 (.bool false)) 3 (.bool false)) 10 a0) 11 w) 12 x) 13 y) 14 z) 15 (.int .i64 0)),71,[],h⟩ (F.bF.cM J)):=by kernel_rfl
theorem F.uN(hh:EV (ak Tryz.f133) ⟨aI [a0],71,[],h⟩ (bp TP gm Tryz.f133.results.toList K)=true):Sem TP 133 [a0] h K:=
 cB mixed (cm _) Tryz.func133 (c:=ak Tryz.f133) rfl (by decide) (of_decide_eq_true (by kernel_rfl)) hh
noncomputable def F.bT.L0:Code:=partOf (ak Tryz.f31) [1,1,0,1,0,0]
noncomputable def F.bT.cM(K:Out->ag->Bool):AX->St->Bool:=(aZ 0 (cS false (EV (partOf (ak Tryz.f31) [1,1,1])) (bp TP gm Tryz.f31.results.toList K)))
noncomputable def F.bT.L1:Code:=partOf (ak Tryz.f31) [1,1,1,1,0,1,0,0]
noncomputable def F.bT.mO(K:Out->ag->Bool):AX->St->Bool:=(aZ 2 (cS false (EV (partOf (ak Tryz.f31) [1,1,1,1,1])) (bp TP gm Tryz.f31.results.toList K)))
noncomputable def F.bT.L2:Code:=partOf (ak Tryz.f31) [1,1,1,1,0,1,0,0,1,0,0,1,0,0]
noncomputable def F.bT.vO(J:AX->St->Bool):AX->St->Bool:=(aZ 4 (aZ 3 (cS false (EV (partOf (ak Tryz.f31) [1,1,1,1,0,1,0,0,1,1])) J)))
theorem F.bT.aT:EV F.bT.L0 ⟨e,67,[],h⟩ J=(af (b6 .slice (e 0) h) fun f=>af (aL .lss (e 3) f) fun g=>let Q1:=(aa (aa (aa (aa e 12 (e 3)) 13 (e 0)) 14 f) 15 g);az g (af (dg 3 (e 0) (e 3)) fun c=>af (ah (some 3) c h) fun d=>aA TP 84 [d] h (bH (fun i j=>af (kM .not i) fun a=>let Q2:=(aa (aa (aa (aa (aa (aa Q1 18 (e 0)) 19 (e 3)) 20 c) 21 d) 22 i) 23 a);az a (J .ret ⟨(aa Q2 2 (.bool false)),67,[],j⟩) (af (aL .add (e 3) (.int .i64 1)) fun b=>J .normal ⟨(aa (aa (aa Q2 16 (e 3)) 17 b) 3 b),67,[],j⟩)) (fun k l=>J (.panic k) ⟨(aa (aa (aa (aa Q1 18 (e 0)) 19 (e 3)) 20 c) 21 d),67,[],l⟩))) (J (.exit 0) ⟨Q1,67,[],h⟩)):=by kernel_rfl
theorem F.bT.aJ:F.bT.cM K (.exit 0) ⟨e,67,[],h⟩=(aA TP 85 [(e 0)] h (bH (fun a b=>bX (EV F.bT.L1) ⟨(aa (aa (aa (aa e 24 (e 0)) 25 a) 4 a) 5 (.int .i64 0)),67,[],b⟩ (F.bT.mO K)) (fun c d=>K (.panic c) d))):=by kernel_rfl
theorem F.bT.bt:F.bT.cM K .ret ⟨e,67,[],h⟩=(K (.ret (e 2)) h):=by kernel_rfl
theorem F.bT.eC:EV F.bT.L1 ⟨e,67,[],h⟩ J=(af (b6 .slice (e 4) h) fun a=>af (aL .lss (e 5) a) fun b=>let Q1:=(aa (aa (aa (aa e 26 (e 5)) 27 (e 4)) 28 a) 29 b);az b (bX (EV F.bT.L2) ⟨(aa Q1 6 (.int .i64 0)),67,[],h⟩ (F.bT.vO J)) (J (.exit 2) ⟨Q1,67,[],h⟩)):=by kernel_rfl
theorem F.bT.cZ:F.bT.mO K (.exit 2) ⟨e,67,[],h⟩=(aA TP 32 [(e 0)] h (bH (fun a b=>af (bY a 0) fun g=>af (bY a 1) fun c=>K (.ret c) b) (fun d f=>K (.panic d) f))):=by kernel_rfl
theorem F.bT.k9:F.bT.mO K .ret ⟨e,67,[],h⟩=(K (.ret (e 2)) h):=by kernel_rfl
theorem F.bT.kE:EV F.bT.L2 ⟨e,67,[],h⟩ J=(af (aL .lss (e 6) (e 5)) fun c=>let Q1:=(aa (aa (aa e 32 (e 6)) 33 (e 5)) 34 c);az c (af (dg 2 (e 4) (e 6)) fun d=>af (bL 0 d) fun f=>af (ah none f h) fun g=>af (dg 2 (e 4) (e 5)) fun i=>af (bL 0 i) fun j=>af (ah none j h) fun k=>af (jU .string g k) fun a=>let Q2:=(aa (aa (aa (aa (aa (aa (aa (aa (aa (aa (aa (aa Q1 37 (e 4)) 38 (e 6)) 39 d) 40 f) 41 g) 42 (e 4)) 43 (e 5)) 44 i) 45 j) 46 k) 47 a) 48 a);az a (af (dg 2 (e 4) (e 6)) fun l=>af (bL 1 l) fun m=>af (ah none m h) fun n=>af (dg 2 (e 4) (e 5)) fun o=>af (bL 1 o) fun p=>af (ah none p h) fun q=>af (sG (.int .i64) n q) fun b=>let Q3:=(aa (aa (aa (aa (aa (aa (aa (aa (aa (aa (aa (aa (aa (aa (aa (aa (aa (aa (aa (aa (aa (aa (aa Q2 48 (.bool true)) 49 (e 4)) 48 (.bool true)) 50 (e 6)) 48 (.bool true)) 51 l) 48 (.bool true)) 52 m) 48 (.bool true)) 53 n) 48 (.bool true)) 54 (e 4)) 48 (.bool true)) 55 (e 5)) 48 (.bool true)) 56 o) 48 (.bool true)) 57 p) 48 (.bool true)) 58 q) 48 (.bool true)) 59 b) 60 b);az b (J .ret ⟨(aa Q3 2 (.bool false)),67,[],h⟩) (af (aL .add (e 6) (.int .i64 1)) fun r=>J .normal ⟨(aa (aa (aa Q3 35 (e 6)) 36 r) 6 r),67,[],h⟩)) (af (aL .add (e 6) (.int .i64 1)) fun s=>J .normal ⟨(aa (aa (aa (aa (aa (aa (aa (aa (aa (aa (aa (aa (aa (aa (aa (aa (aa (aa (aa (aa (aa (aa (aa (aa (aa (aa Q2 48 (.bool false)) 49 bK) 48 (.bool false)) 50 bK) 48 (.bool false)) 51 bK) 48 (.bool false)) 52 bK) 48 (.bool false)) 53 bK) 48 (.bool false)) 54 bK) 48 (.bool false)) 55 bK) 48 (.bool false)) 56 bK) 48 (.bool false)) 57 bK) 48 (.bool false)) 58 bK) 48 (.bool false)) 59 bK) 60 (.bool false)) 35 (e 6)) 36 s) 6 s),67,[],h⟩)) (J (.exit 4) ⟨Q1,67,[],h⟩)):=by kernel_rfl
theorem F.bT.iM:F.bT.vO J (.exit 4) ⟨e,67,[],h⟩=(af (aL .add (e 5) (.int .i64 1)) fun a=>J .normal ⟨(aa (aa (aa e 30 (e 5)) 31 a) 5 a),67,[],h⟩):=by kernel_rfl
theorem F.bT.AU:F.bT.vO J .ret ⟨e,67,[],h⟩=(J .ret ⟨e,67,[],h⟩):=by kernel_rfl
theorem F.FQ:EV (ak Tryz.f31) ⟨aI [a0],67,[],h⟩ (bp TP gm Tryz.f31.results.toList K)=(af (b6 .slice a0 h) fun a=>af (aL .gtr a (.int .i64 60)) fun b=>az b (K (.ret (.bool false)) h) (bX (EV F.bT.L0) ⟨(aa (aa (aa (aa (aa (aI [a0]) 2 (.bool false)) 9 a0) 10 a) 11 b) 3 (.int .i64 0)),67,[],h⟩ (F.bT.cM K))):=by kernel_rfl
theorem F.DR(hh:EV (ak Tryz.f31) ⟨aI [a0],67,[],h⟩ (bp TP gm Tryz.f31.results.toList K)=true):Sem TP 31 [a0] h K:=
 cB mixed (cm _) Tryz.func31 (c:=ak Tryz.f31) rfl (by decide) (of_decide_eq_true (by kernel_rfl)) hh
noncomputable def F.bC.L0:Code:=partOf (ak Tryz.f32) [1,1,1,0,1,0,0]
noncomputable def F.bC.cM(K:Out->ag->Bool):AX->St->Bool:=(aZ 0 (cS false (EV (partOf (ak Tryz.f32) [1,1,1,1])) (bp TP gm Tryz.f32.results.toList K)))
noncomputable def F.bC.L1:Code:=partOf (ak Tryz.f32) [1,1,1,0,1,0,0,1,0,1,1,0,0]
noncomputable def F.bC.mO(J:AX->St->Bool):AX->St->Bool:=(aZ 2 (aZ 1 J))
noncomputable def F.bC.L2:Code:=partOf (ak Tryz.f32) [1,1,1,0,1,0,0,1,0,1,1,0,0,1,0,0,1,0,1,0,0]
noncomputable def F.bC.vO(J:AX->St->Bool):AX->St->Bool:=(aZ 4 (cS false (EV (partOf (ak Tryz.f32) [1,1,1,0,1,0,0,1,0,1,1,0,0,1,0,0,1,1])) (aZ 3 (cS false (EV (partOf (ak Tryz.f32) [1,1,1,0,1,0,0,1,0,1,1,0,0,1,1])) J))))
noncomputable def F.bC.J0(K:AX->St->Bool)(s:St):Bool:=RJ (EV (partOf (ak Tryz.f32) [1,1,1,0,1,0,0,1,0,1,1,0,0,1,0,0,1,0,1,0,0,1,0,0,1,1,1,0,1,1])) s (aZ 5 (cS false (EV (partOf (ak Tryz.f32) [1,1,1,0,1,0,0,1,0,1,1,0,0,1,0,0,1,0,1,0,0,1,1])) K))
theorem F.bC.aT:EV F.bC.L0 ⟨e,89,[],h⟩ J=(az (e 6) (bX (EV F.bC.L1) ⟨(aa (aa (aa e 18 (e 6)) 6 (.bool false)) 7 (.int .i64 0)),89,[],h⟩ (F.bC.mO J)) (J (.exit 0) ⟨(aa e 18 (e 6)),89,[],h⟩)):=by kernel_rfl
theorem F.bC.aJ:F.bC.cM K (.exit 0) ⟨e,89,[],h⟩=(K (.ret (.tuple [(e 5),(.bool true)])) h):=by kernel_rfl
theorem F.bC.bt:F.bC.cM K .ret ⟨e,89,[],h⟩=(K (.ret (.tuple [(e 2),(e 3)])) h):=by kernel_rfl
theorem F.bC.eC:EV F.bC.L1 ⟨e,89,[],h⟩ J=(af (b6 .slice (e 0) h) fun k=>af (aL .lss (e 7) k) fun l=>let Q1:=(aa (aa (aa (aa e 19 (e 7)) 20 (e 0)) 21 k) 22 l);az l (af (dg 3 (e 0) (e 7)) fun f=>af (bL 0 f) fun a=>af (bL 0 a) fun b=>af (ah none b h) fun c=>aA TP 58 [(e 4),c] h (bH (fun d g=>bX (EV F.bC.L2) ⟨(aa (aa (aa (aa (aa (aa (aa (aa (aa (aa Q1 25 (e 4)) 26 (e 0)) 27 (e 7)) 28 f) 29 a) 30 b) 31 c) 32 d) 8 d) 9 (.int .i64 0)),89,[],g⟩ (F.bC.vO J)) (fun i j=>J (.panic i) ⟨(aa (aa (aa (aa (aa (aa (aa Q1 25 (e 4)) 26 (e 0)) 27 (e 7)) 28 f) 29 a) 30 b) 31 c),89,[],j⟩))) (J (.exit 2) ⟨Q1,89,[],h⟩)):=by kernel_rfl
theorem F.bC.cZ:F.bC.mO J (.exit 2) ⟨e,89,[],h⟩=(J .normal ⟨e,89,[],h⟩):=by kernel_rfl
theorem F.bC.k9:F.bC.mO J .ret ⟨e,89,[],h⟩=(J .ret ⟨e,89,[],h⟩):=by kernel_rfl
theorem F.bC.kE:EV F.bC.L2 ⟨e,89,[],h⟩ J=(af (dg 3 (e 0) (e 7)) fun p=>af (bL 2 p) fun q=>af (ah none q h) fun r=>af (b6 .slice r h) fun s=>af (aL .lss (e 9) s) fun t=>let Q1:=(aa (aa (aa (aa (aa (aa (aa (aa e 33 (e 9)) 34 (e 0)) 35 (e 7)) 36 p) 37 q) 38 r) 39 s) 40 t);az t (af (dg 3 (e 0) (e 7)) fun d=>af (bL 2 d) fun f=>af (ah none f h) fun g=>af (dg 4 g (e 9)) fun i=>af (ah (some 4) i h) fun j=>af (bh 4 (.ptr (ag.next h) 0) j (ag.alloc h (.cells [(.int .i64 0),(.bool false),(.str []),.au]))) fun u=>af (bL 2 (.ptr (ag.next h) 0)) fun k=>af (bL 0 k) fun l=>af (ah none l u) fun m=>aA TP 58 [(e 4),m] u (bH (fun b a=>af (bL 0 (.ptr (ag.next h) 0)) fun v=>af (ah none v a) fun w=>af (jU (.int .i64) w (.int .i64 0)) fun n=>let Q2:=(aa (aa (aa (aa (aa (aa (aa (aa (aa (aa (aa (aa (aa (aa (aa (aa (aa (aa (aa Q1 43 (e 0)) 44 (e 7)) 45 d) 46 f) 47 g) 48 (e 9)) 49 i) 50 j) 10 (.ptr (ag.next h) 0)) 51 (e 4)) 52 k) 53 l) 54 m) 55 b) 11 b) 56 v) 57 w) 58 n) 59 n);az n (af (aL .geq b (.int .i64 0)) fun o=>let Q3:=(aa (aa (aa (aa (aa Q2 59 (.bool true)) 60 b) 59 (.bool true)) 61 o) 62 o);az o (af (dg 1 (e 5) b) fun x=>af (ah none x a) fun c=>af (bL 1 (.ptr (ag.next h) 0)) fun y=>af (ah none y a) fun z=>let Q4:=(aa (aa (aa (aa (aa (aa (aa Q3 63 (e 5)) 64 b) 65 x) 66 c) 12 c) 67 y) 68 z);az z (af (aL .add c (.int .i64 1)) fun A=>F.bC.J0 J ⟨(aa (aa (aa Q4 69 c) 70 A) 12 A),89,[],a⟩) (F.bC.J0 J ⟨Q4,89,[],a⟩)) (af (aL .add (e 9) (.int .i64 1)) fun B=>J .normal ⟨(aa (aa (aa Q3 41 (e 9)) 42 B) 9 B),89,[],a⟩)) (af (aL .add (e 9) (.int .i64 1)) fun C=>J .normal ⟨(aa (aa (aa (aa (aa (aa (aa (aa Q2 59 (.bool false)) 60 bK) 59 (.bool false)) 61 bK) 62 (.bool false)) 41 (e 9)) 42 C) 9 C),89,[],a⟩)) (fun D E=>J (.panic D) ⟨(aa (aa (aa (aa (aa (aa (aa (aa (aa (aa (aa (aa (aa Q1 43 (e 0)) 44 (e 7)) 45 d) 46 f) 47 g) 48 (e 9)) 49 i) 50 j) 10 (.ptr (ag.next h) 0)) 51 (e 4)) 52 k) 53 l) 54 m),89,[],E⟩))) (J (.exit 4) ⟨Q1,89,[],h⟩)):=by kernel_rfl
theorem F.bC.iM:F.bC.vO J (.exit 4) ⟨e,89,[],h⟩=(af (dg 1 (e 5) (e 8)) fun a=>af (ah none a h) fun b=>af (b6 .slice (e 4) h) fun c=>af (aL .gtr b c) fun d=>let Q1:=(aa (aa (aa (aa (aa (aa (aa e 81 (e 5)) 82 (e 8)) 83 a) 84 b) 85 (e 4)) 86 c) 87 d);az d (J .ret ⟨(aa (aa Q1 2 .au) 3 (.bool false)),89,[],h⟩) (af (aL .add (e 7) (.int .i64 1)) fun f=>J .normal ⟨(aa (aa (aa Q1 23 (e 7)) 24 f) 7 f),89,[],h⟩)):=by kernel_rfl
theorem F.bC.FN:F.bC.J0 J ⟨e,89,[],h⟩=(af (dg 1 (e 5) (e 8)) fun a=>af (ah none a h) fun b=>af (aL .gtr (e 12) b) fun c=>let Q1:=(aa (aa (aa (aa (aa (aa e 71 (e 12)) 72 (e 5)) 73 (e 8)) 74 a) 75 b) 76 c);az c (af (dg 1 (e 5) (e 8)) fun d=>af (bh 1 d (e 12) h) fun j=>af (aL .add (e 9) (.int .i64 1)) fun f=>J .normal ⟨(aa (aa (aa (aa (aa (aa (aa (aa Q1 77 (e 5)) 78 (e 8)) 79 (e 12)) 80 d) 6 (.bool true)) 41 (e 9)) 42 f) 9 f),89,[],j⟩) (af (aL .add (e 9) (.int .i64 1)) fun g=>J .normal ⟨(aa (aa (aa Q1 41 (e 9)) 42 g) 9 g),89,[],h⟩)):=(AL _ _ _).trans (by kernel_rfl)
theorem F.DS{J:Out->ag->Bool}:EV (ak Tryz.f32) ⟨aI [a0],89,[],h⟩ (bp TP gm Tryz.f32.results.toList J)=(aA TP 34 [a0] h (bH (fun i l=>af (b6 .slice i l) fun k=>de (fo 1 8 [(.int .i64 0)] k k l) fun m n=>bX (EV F.bC.L0) ⟨(aa (aa (aa (aa (aa (aa (aa (aa (aa (aa (aI [a0]) 2 .au) 3 (.bool false)) 13 a0) 14 i) 4 i) 15 i) 16 k) 17 m) 5 m) 6 (.bool true)),89,[],n⟩ (F.bC.cM J)) (fun o p=>J (.panic o) p))):=by kernel_rfl
theorem F.B5(hh:EV (ak Tryz.f32) ⟨aI [a0],89,[],h⟩ (bp TP gm Tryz.f32.results.toList K)=true):Sem TP 32 [a0] h K:=
 cB mixed (cm _) Tryz.func32 (c:=ak Tryz.f32) rfl (by decide) (of_decide_eq_true (by kernel_rfl)) hh
noncomputable def F.dN.L0:Code:=partOf (ak Tryz.f69) [1,1,0,1,0,0]
noncomputable def F.dN.cM(K:Out->ag->Bool):AX->St->Bool:=(aZ 0 (cS false (EV (partOf (ak Tryz.f69) [1,1,1])) (bp TP gm Tryz.f69.results.toList K)))
theorem F.dN.aT:EV F.dN.L0 ⟨e,24,[],h⟩ J=(af (aL .lss (e 10) (e 9)) fun b=>az b (af (dg 1 (e 8) (e 10)) fun c=>af (ah none c h) fun a=>af (bS (e 0)) fun d=>af (bL 0 d) fun f=>af (ah none f h) fun g=>af (aL .mul (e 5) g) fun i=>af (aL .add i a) fun j=>af (aL .add (e 10) (.int .i64 1)) fun k=>J .normal ⟨(aa (aa (aa (aa (aa (aa (aa (aa (aa (aa (aa (aa (aa (aa (aa e 11 b) 12 c) 13 a) 7 a) 14 (e 5)) 15 (e 0)) 16 d) 17 f) 18 g) 19 i) 20 a) 21 j) 5 j) 22 k) 10 k),24,[],h⟩) (J (.exit 0) ⟨(aa e 11 b),24,[],h⟩)):=by kernel_rfl
theorem F.dN.aJ:F.dN.cM K (.exit 0) ⟨e,24,[],h⟩=(K (.ret (e 5)) h):=by kernel_rfl
theorem F.qw:EV (ak Tryz.f69) ⟨aI [a0,a1],24,[],h⟩ (bp TP gm Tryz.f69.results.toList K)=(af (b6 .slice a1 h) fun a=>bX (EV F.dN.L0) ⟨(aa (aa (aa (aa (aa (aI [a0,a1]) 4 (.int .i64 0)) 5 (.int .i64 0)) 8 a1) 9 a) 10 (.int .i64 0)),24,[],h⟩ (F.dN.cM K)):=by kernel_rfl
theorem F.pO(hh:EV (ak Tryz.f69) ⟨aI [a0,a1],24,[],h⟩ (bp TP gm Tryz.f69.results.toList K)=true):Sem TP 69 [a0,a1] h K:=
 cB mixed (cm _) Tryz.func69 (c:=ak Tryz.f69) rfl (by decide) (of_decide_eq_true (by kernel_rfl)) hh
noncomputable def F.iB.L0:Code:=partOf (ak Tryz.f124) [1,1,0,1,0,0]
noncomputable def F.iB.cM(K:Out->ag->Bool):AX->St->Bool:=(aZ 0 (cS false (EV (partOf (ak Tryz.f124) [1,1,1])) (bp TP gm Tryz.f124.results.toList K)))
theorem F.iB.aT:EV F.iB.L0 ⟨e,27,[],h⟩ J=(af (aL .lss (e 13) (e 12)) fun c=>az c (af (dg 1 (e 11) (e 13)) fun f=>af (ah none f h) fun b=>af (dg 1 (e 0) b) fun g=>af (ah none g h) fun i=>af (dg 1 (e 5) (e 13)) fun j=>af (bh 1 j i h) fun d=>af (aL .add (e 13) (.int .i64 1)) fun a=>J .normal ⟨(aa (aa (aa (aa (aa (aa (aa (aa (aa (aa (aa (aa (aa (aa (aa e 14 c) 15 (e 13)) 16 f) 17 b) 6 (e 13)) 7 b) 18 (e 5)) 19 (e 13)) 20 (e 0)) 21 b) 22 g) 23 i) 24 j) 25 a) 13 a),27,[],d⟩) (J (.exit 0) ⟨(aa e 14 c),27,[],h⟩)):=by kernel_rfl
theorem F.iB.aJ:F.iB.cM K (.exit 0) ⟨e,27,[],h⟩=(K (.ret (e 5)) h):=by kernel_rfl
theorem F.zc:EV (ak Tryz.f124) ⟨aI [a0,a1],27,[],h⟩ (bp TP gm Tryz.f124.results.toList K)=(af (b6 .slice a1 h) fun a=>de (fo 1 8 [(.int .i64 0)] a a h) fun b c=>af (b6 .slice a1 c) fun d=>bX (EV F.iB.L0) ⟨(aa (aa (aa (aa (aa (aa (aa (aa (aI [a0,a1]) 4 .au) 8 a1) 9 a) 10 b) 5 b) 11 a1) 12 d) 13 (.int .i64 0)),27,[],c⟩ (F.iB.cM K)):=by kernel_rfl
theorem F.wT(hh:EV (ak Tryz.f124) ⟨aI [a0,a1],27,[],h⟩ (bp TP gm Tryz.f124.results.toList K)=true):Sem TP 124 [a0,a1] h K:=
 cB mixed (cm _) Tryz.func124 (c:=ak Tryz.f124) rfl (by decide) (of_decide_eq_true (by kernel_rfl)) hh
theorem F.wU:EV (ak Tryz.f129) ⟨aI [a0,a1,a2],47,[],h⟩ (bp TP gm Tryz.f129.results.toList K)=(af (eR a1) fun a=>af (bL 0 (.ptr (ag.next h) 0)) fun S=>af (ah none S (ag.alloc h (.cells a))) fun d=>af (jU (.int .i64) d (.int .i64 0)) fun T=>az T (af (bS a0) fun U=>af (bL 1 U) fun P=>af (ah none P (ag.alloc h (.cells a))) fun f=>af (bL 2 (.ptr (ag.next h) 0)) fun V=>af (bL 0 V) fun R=>af (ah none R (ag.alloc h (.cells a))) fun g=>af (dc .string .au false f g (ag.alloc h (.cells a))) fun c=>aA TP 69 [a0,a2] (ag.alloc h (.cells a)) (bH (fun i b=>if ((af (dc .string .au false f g b) fun j=>AV.beq j c)&&((af (ah none R b) fun k=>AV.beq k g)&&((af (ah none P b) fun l=>AV.beq l f)&&true)))=true then (af (dg 1 c i) fun m=>af (ah none m b) fun n=>af (bL 1 (.ptr (ag.next h) 0)) fun o=>af (ah none o b) fun p=>af (sG .bool n p) fun q=>K (.ret q) b) else false) (fun _ _=>false))) (af (jU (.int .i64) d (.int .i64 1)) fun r=>az r (af (dg 1 a2 (.int .i64 0)) fun s=>af (ah none s (ag.alloc h (.cells a))) fun t=>af (dg 1 a2 (.int .i64 1)) fun u=>af (ah none u (ag.alloc h (.cells a))) fun v=>af (jU (.int .i64) t v) fun w=>af (bL 1 (.ptr (ag.next h) 0)) fun x=>af (ah none x (ag.alloc h (.cells a))) fun y=>af (sG .bool w y) fun z=>K (.ret z) (ag.alloc h (.cells a))) (af (jU (.int .i64) d (.int .i64 2)) fun A=>az A (af (dg 1 a2 (.int .i64 0)) fun B=>af (ah none B (ag.alloc h (.cells a))) fun C=>af (dg 1 a2 (.int .i64 1)) fun D=>af (ah none D (ag.alloc h (.cells a))) fun E=>af (aL .lss C E) fun G=>af (bL 1 (.ptr (ag.next h) 0)) fun I=>af (ah none I (ag.alloc h (.cells a))) fun J=>af (sG .bool G J) fun L=>K (.ret L) (ag.alloc h (.cells a))) (af (bL 1 (.ptr (ag.next h) 0)) fun M=>af (ah none M (ag.alloc h (.cells a))) fun N=>af (sG .bool (.bool false) N) fun O=>K (.ret O) (ag.alloc h (.cells a)))))):=by kernel_rfl
theorem F.vR(hh:EV (ak Tryz.f129) ⟨aI [a0,a1,a2],47,[],h⟩ (bp TP gm Tryz.f129.results.toList K)=true):Sem TP 129 [a0,a1,a2] h K:=
 cB mixed (cm _) Tryz.func129 (c:=ak Tryz.f129) rfl (by decide) (of_decide_eq_true (by kernel_rfl)) hh
noncomputable def F.cI.L0:Code:=partOf (ak Tryz.f109) [1,1,1,1,0,1,0,0]
noncomputable def F.cI.cM(K:Out->ag->Bool):AX->St->Bool:=(aZ 0 (cS false (EV (partOf (ak Tryz.f109) [1,1,1,1,1])) (bp TP gm Tryz.f109.results.toList K)))
noncomputable def F.cI.L1:Code:=partOf (ak Tryz.f109) [1,1,1,1,0,1,0,0,1,1,0,0,1,1,1,0,1,0,0]
noncomputable def F.cI.mO(J:AX->St->Bool):AX->St->Bool:=(aZ 2 (cS false (EV (partOf (ak Tryz.f109) [1,1,1,1,0,1,0,0,1,1,0,0,1,1,1,1])) (aZ 1 (cS false (EV (partOf (ak Tryz.f109) [1,1,1,1,0,1,0,0,1,1,1])) J))))
theorem F.cI.aT:EV F.cI.L0 ⟨e,63,[],h⟩ J=(af (aL .lss (e 30) (e 29)) fun a=>az a (af (dg 4 (e 28) (e 30)) fun c=>af (ah (some 4) c h) fun d=>af (bh 4 (.ptr (ag.next h) 0) d (ag.alloc h (.cells [(.int .i64 0),(.bool false),(.str []),.au]))) fun j=>af (bL 2 (.ptr (ag.next h) 0)) fun f=>af (bL 1 f) fun g=>af (ah none g j) fun i=>vw (e 6) fun f35 a36 a37=>aA TP f35 (a36++([i]++a37)) j (bH (fun b k=>af (b6 .slice b k) fun l=>bX (EV F.cI.L1) ⟨(aa (aa (aa (aa (aa (aa (aa (aa (aa (aa (aa (aa (aa (aa e 31 a) 32 c) 33 d) 9 (.ptr (ag.next h) 0)) 34 (e 6)) 35 f) 36 g) 37 i) 38 b) 10 b) 11 (.int .i64 (-1))) 39 b) 40 l) 41 (.int .i64 0)),63,[],k⟩ (F.cI.mO J)) (fun m n=>J (.panic m) ⟨(aa (aa (aa (aa (aa (aa (aa (aa e 31 a) 32 c) 33 d) 9 (.ptr (ag.next h) 0)) 34 (e 6)) 35 f) 36 g) 37 i),63,[],n⟩))) (J (.exit 0) ⟨(aa e 31 a),63,[],h⟩)):=by kernel_rfl
theorem F.cI.aJ:F.cI.cM K (.exit 0) ⟨e,63,[],h⟩=(af (ah (some 8) (e 7) h) fun a=>af (bh 8 (e 4) a h) fun b=>af (dV TP ⟨(aa e 62 a),63,[],b⟩ Tryz.f109.results.toList) fun c=>K (.ret (oneOf c)) b):=by kernel_rfl
theorem F.cI.eC:EV F.cI.L1 ⟨e,63,[],h⟩ J=(af (aL .lss (e 41) (e 40)) fun b=>az b (af (dg 1 (e 39) (e 41)) fun c=>af (ah none c h) fun a=>af (tL true (e 11) [a]) fun d=>af (aL .add (e 41) (.int .i64 1)) fun f=>J .normal ⟨(aa (aa (aa (aa (aa (aa (aa (aa (aa (aa e 42 b) 43 c) 44 a) 13 a) 45 (e 11)) 46 a) 47 d) 11 d) 48 f) 41 f),63,[],h⟩) (J (.exit 2) ⟨(aa e 42 b),63,[],h⟩)):=by kernel_rfl
theorem F.cI.cZ:F.cI.mO J (.exit 2) ⟨e,63,[],h⟩=(af (bL 6 (e 7)) fun d=>af (ah none d h) fun f=>af (ig [.au] [(0,1)] [(e 10)]) fun a=>af (bL 7 (e 7)) fun b=>af (ah none b (ag.alloc h (.cells a))) fun c=>af (ig [(.int .i64 0)] [(0,1)] [(e 11)]) fun n=>de (cz 1 24 f (.slice (ag.next h) 0 1 1) (ag.alloc (ag.alloc h (.cells a)) (.cells n))) fun g i=>if ((af (ah none b i) fun o=>AV.beq o c)&&true)=true then (af (bL 6 (e 7)) fun j=>de (cz 1 8 c (.slice (ag.next (ag.alloc h (.cells a))) 0 1 1) i) fun k p=>af (bh 1 j g p) fun q=>af (bL 7 (e 7)) fun l=>af (bh 1 l k q) fun r=>af (aL .add (e 30) (.int .i64 1)) fun m=>J .normal ⟨(aa (aa (aa (aa (aa (aa (aa (aa (aa (aa (aa (aa (aa (aa e 49 d) 50 f) 51 (e 10)) 52 (.slice (ag.next h) 0 1 1)) 54 b) 55 c) 56 (e 11)) 57 (.slice (ag.next (ag.alloc h (.cells a))) 0 1 1)) 53 g) 59 j) 58 k) 60 l) 61 m) 30 m),63,[],r⟩) else false):=by kernel_rfl
theorem F.DT:EV (ak Tryz.f109) ⟨aI [a0,a1],63,[],h⟩ (bp TP gm Tryz.f109.results.toList K)=(af (eR a1) fun o=>af (ah (some 3) (.ptr (ag.next h) 0) (ag.alloc (ag.alloc h (.cells o)) (.cells [(.int .i64 0),(.str []),.au,.au,(.int .i64 0),.au,.au,.au]))) fun v=>aA TP 108 [v] (ag.alloc (ag.alloc h (.cells o)) (.cells [(.int .i64 0),(.str []),.au,.au,(.int .i64 0),.au,.au,.au])) (bH (fun w a=>af (bh 1 (.ptr (ag.next a) 0) w (ag.alloc a (.cells [.au]))) fun c=>af (ah (some 3) (.ptr (ag.next h) 0) c) fun p=>af (ah none (.ptr (ag.next a) 0) c) fun n=>af (b6 .slice n c) fun q=>af (bL 0 (.ptr (ag.next h) 0)) fun f=>af (bL 1 f) fun g=>af (ah none g c) fun i=>aA TP 156 [i,(.ptr (ag.next a) 0)] (ag.alloc c (.cells [(.int .i64 0),(.str []),.au,.au,(.int .i64 0),.au,.au,.au])) (bH (fun j b=>if ((af (b6 .slice n b) fun r=>AV.beq r q)&&((af (ah none (.ptr (ag.next a) 0) b) fun s=>AV.beq s n)&&((af (ah (some 3) (.ptr (ag.next h) 0) b) fun t=>AV.beq t p)&&true)))=true then (af (jM [(.int .i64 0),(.str []),.au,.au,(.int .i64 0),.au,.au,.au] [(0,1),(1,3),(4,1),(5,1)] [a0,p,q,j]) fun k=>af (bh 8 (.ptr (ag.next c) 0) k b) fun d=>af (bL 2 (.ptr (ag.next h) 0)) fun l=>af (ah none l d) fun m=>af (b6 .slice m d) fun u=>bX (EV F.cI.L0) ⟨(aa (aa (aa (aa (aa (aa (aa (aa (aa (aa (aa (aa (aa (aa (aa (aa (aa (aa (aa (aa (aa (aa (aI [a0,a1]) 3 (.ptr (ag.next h) 0)) 4 (.ptr (ag.next (ag.alloc h (.cells o))) 0)) 14 v) 15 w) 5 (.ptr (ag.next a) 0)) 16 (.func 156 [] [(.ptr (ag.next a) 0)])) 6 (.func 156 [] [(.ptr (ag.next a) 0)])) 17 a0) 18 p) 19 n) 20 q) 21 (.func 156 [] [(.ptr (ag.next a) 0)])) 22 f) 23 g) 24 i) 7 (.ptr (ag.next c) 0)) 25 j) 26 k) 27 l) 28 m) 29 u) 30 (.int .i64 0)),63,[],d⟩ (F.cI.cM K)) else false) (fun _ _=>false))) (fun x y=>K (.panic x) y))):=by kernel_rfl
theorem F.B6(hh:EV (ak Tryz.f109) ⟨aI [a0,a1],63,[],h⟩ (bp TP gm Tryz.f109.results.toList K)=true):Sem TP 109 [a0,a1] h K:=
 cB mixed (cm _) Tryz.func109 (c:=ak Tryz.f109) rfl (by decide) (of_decide_eq_true (by kernel_rfl)) hh
noncomputable def F.gq.L0:Code:=partOf (ak Tryz.f156) [1,1,0,1,0,0]
noncomputable def F.gq.cM(K:Out->ag->Bool):AX->St->Bool:=(aZ 0 (cS false (EV (partOf (ak Tryz.f156) [1,1,1])) (bp TP gm Tryz.f156.results.toList K)))
theorem F.gq.aT:EV F.gq.L0 ⟨e,21,[],h⟩ J=(af (aL .lss (e 9) (e 8)) fun d=>az d (af (dg 1 (e 7) (e 9)) fun f=>af (ah none f h) fun a=>af (ah none (e 1) h) fun g=>aA TP 157 [g,a] h (bH (fun k i=>af (ig [(.int .i64 0)] [(0,1)] [k]) fun l=>de (cz 1 8 (e 4) (.slice (ag.next i) 0 1 1) (ag.alloc i (.cells l))) fun b j=>af (aL .add (e 9) (.int .i64 1)) fun c=>J .normal ⟨(aa (aa (aa (aa (aa (aa (aa (aa (aa (aa (aa (aa (aa e 10 d) 11 f) 12 a) 6 a) 13 (e 4)) 14 g) 15 a) 16 k) 17 (.slice (ag.next i) 0 1 1)) 18 b) 4 b) 19 c) 9 c),21,[],j⟩) (fun m n=>J (.panic m) ⟨(aa (aa (aa (aa (aa (aa (aa e 10 d) 11 f) 12 a) 6 a) 13 (e 4)) 14 g) 15 a),21,[],n⟩))) (J (.exit 0) ⟨(aa e 10 d),21,[],h⟩)):=by kernel_rfl
theorem F.gq.aJ:F.gq.cM K (.exit 0) ⟨e,21,[],h⟩=(K (.ret (e 4)) h):=by kernel_rfl
theorem F.AW:EV (ak Tryz.f156) ⟨aI [a0,a1],21,[],h⟩ (bp TP gm Tryz.f156.results.toList K)=(af (b6 .slice a0 h) fun a=>bX (EV F.gq.L0) ⟨(aa (aa (aa (aa (aa (aI [a0,a1]) 3 .au) 4 .au) 7 a0) 8 a) 9 (.int .i64 0)),21,[],h⟩ (F.gq.cM K)):=by kernel_rfl
theorem F.zR(hh:EV (ak Tryz.f156) ⟨aI [a0,a1],21,[],h⟩ (bp TP gm Tryz.f156.results.toList K)=true):Sem TP 156 [a0,a1] h K:=
 cB mixed (cm _) Tryz.func156 (c:=ak Tryz.f156) rfl (by decide) (of_decide_eq_true (by kernel_rfl)) hh
theorem F.yQ:EV (ak Tryz.f122) ⟨aI [a0,a1,a2],18,[],h⟩ (bp TP gm Tryz.f122.results.toList K)=(af (eR a0) fun b=>af (eR a1) fun g=>af (eR a2) fun q=>af (bL 4 (.ptr (ag.next (ag.alloc h (.cells b))) 0)) fun t=>af (ah none t (ag.alloc (ag.alloc (ag.alloc h (.cells b)) (.cells g)) (.cells q))) fun r=>de (fo 1 8 [(.int .i64 0)] r r (ag.alloc (ag.alloc (ag.alloc h (.cells b)) (.cells g)) (.cells q))) fun u c=>af (bh 1 (.ptr (ag.next c) 0) u (ag.alloc c (.cells [.au]))) fun d=>af (bh 1 (.ptr (ag.next d) 0) (.func 166 [] [(.ptr (ag.next (ag.alloc h (.cells b))) 0),(.ptr (ag.next h) 0),(.ptr (ag.next c) 0)]) (ag.alloc d (.cells [.qh]))) fun f=>af (bh 1 (.ptr (ag.next f) 0) (.func 167 [] [(.ptr (ag.next (ag.alloc h (.cells b))) 0),(.ptr (ag.next (ag.alloc (ag.alloc h (.cells b)) (.cells g))) 0),(.ptr (ag.next c) 0),(.ptr (ag.next h) 0),(.ptr (ag.next d) 0),(.ptr (ag.next f) 0)]) (ag.alloc f (.cells [.qh]))) fun s=>af (ah none (.ptr (ag.next d) 0) s) fun i=>vw i fun f23 a24 a25=>aA TP f23 (a24++([(.int .i64 (-1))]++a25)) s (bH (fun j a=>az j (af (ah none (.ptr (ag.next f) 0) a) fun k=>vw k fun f20 a21 a22=>aA TP f20 (a21++([(.int .i64 0)]++a22)) a (bH (fun v l=>K (.ret (.tuple [])) l) (fun m n=>K (.panic m) n))) (K (.ret (.tuple [])) a)) (fun o p=>K (.panic o) p))):=by kernel_rfl
theorem F.wV(hh:EV (ak Tryz.f122) ⟨aI [a0,a1,a2],18,[],h⟩ (bp TP gm Tryz.f122.results.toList K)=true):Sem TP 122 [a0,a1,a2] h K:=
 cB mixed (cm _) Tryz.func122 (c:=ak Tryz.f122) rfl (by decide) (of_decide_eq_true (by kernel_rfl)) hh
noncomputable def F.di.L0:Code:=partOf (ak Tryz.f166) [1,0,1,0,0]
noncomputable def F.di.cM(K:Out->ag->Bool):AX->St->Bool:=(aZ 0 (cS false (EV (partOf (ak Tryz.f166) [1,1])) (bp TP gm Tryz.f166.results.toList K)))
theorem F.di.aT:EV F.di.L0 ⟨e,38,[],h⟩ J=(af (aL .lss (e 12) (e 11)) fun w=>let Q1:=(aa e 13 w);az w (af (dg 4 (e 10) (e 12)) fun x=>af (ah (some 4) x h) fun y=>af (bh 4 (.ptr (ag.next h) 0) y (ag.alloc h (.cells [(.int .i64 0),(.bool false),(.str []),.au]))) fun a=>af (bL 7 (e 1)) fun z=>af (ah none z a) fun A=>af (dg 1 A (e 12)) fun i=>af (ah none i a) fun j=>af (jU (.int .i64) j (e 0)) fun b=>let Q2:=(aa (aa (aa (aa (aa (aa (aa (aa (aa (aa (aa (aa (aa Q1 14 (e 12)) 15 x) 16 y) 7 (.ptr (ag.next h) 0)) 6 (e 12)) 17 z) 18 A) 19 (e 12)) 20 i) 21 j) 22 (e 0)) 23 b) 24 b);az b (af (ah none (e 2) a) fun c=>af (ah (some 4) (.ptr (ag.next h) 0) a) fun d=>af (ah none (e 3) a) fun k=>af (bL 6 (e 1)) fun l=>af (ah none l a) fun m=>af (dg 1 m (e 12)) fun n=>af (ah none n a) fun o=>aA TP 124 [k,o] a (bH (fun p f=>if ((af (ah (some 4) (.ptr (ag.next h) 0) f) fun u=>AV.beq u d)&&((af (ah none (e 2) f) fun v=>AV.beq v c)&&true))=true then (aA TP 129 [c,d,p] f (bH (fun q r=>af (kM .not q) fun g=>let Q3:=(aa (aa (aa (aa (aa (aa (aa (aa (aa (aa (aa (aa (aa (aa (aa (aa (aa (aa (aa (aa (aa (aa (aa Q2 24 (.bool true)) 25 c) 24 (.bool true)) 26 d) 24 (.bool true)) 27 k) 24 (.bool true)) 28 l) 24 (.bool true)) 29 m) 24 (.bool true)) 30 (e 12)) 24 (.bool true)) 31 n) 24 (.bool true)) 32 o) 24 (.bool true)) 33 p) 24 (.bool true)) 34 q) 24 (.bool true)) 35 g) 36 g);az g (J .ret ⟨(aa Q3 5 (.bool false)),38,[],r⟩) (af (aL .add (e 12) (.int .i64 1)) fun s=>J .normal ⟨(aa (aa Q3 37 s) 12 s),38,[],r⟩)) (fun _ _=>false))) else false) (fun _ _=>false))) (af (aL .add (e 12) (.int .i64 1)) fun t=>J .normal ⟨(aa (aa (aa (aa (aa (aa (aa (aa (aa (aa (aa (aa (aa (aa (aa (aa (aa (aa (aa (aa (aa (aa (aa (aa (aa Q2 24 (.bool false)) 25 bK) 24 (.bool false)) 26 bK) 24 (.bool false)) 27 bK) 24 (.bool false)) 28 bK) 24 (.bool false)) 29 bK) 24 (.bool false)) 30 bK) 24 (.bool false)) 31 bK) 24 (.bool false)) 32 bK) 24 (.bool false)) 33 bK) 24 (.bool false)) 34 bK) 24 (.bool false)) 35 bK) 36 (.bool false)) 37 t) 12 t),38,[],a⟩)) (J (.exit 0) ⟨Q1,38,[],h⟩)):=by kernel_rfl
theorem F.di.aJ:F.di.cM K (.exit 0) ⟨e,38,[],h⟩=(K (.ret (.bool true)) h):=by kernel_rfl
theorem F.di.bt:F.di.cM K .ret ⟨e,38,[],h⟩=(K (.ret (e 5)) h):=by kernel_rfl
theorem F.vS:EV (ak Tryz.f166) ⟨aI [a0,a1,a2,a3],38,[],h⟩ (bp TP gm Tryz.f166.results.toList K)=(af (bL 1 a1) fun a=>af (bL 2 a) fun b=>af (ah none b h) fun c=>af (b6 .slice c h) fun d=>bX (EV F.di.L0) ⟨(aa (aa (aa (aa (aa (aa (aI [a0,a1,a2,a3]) 5 (.bool false)) 8 a) 9 b) 10 c) 11 d) 12 (.int .i64 0)),38,[],h⟩ (F.di.cM K)):=by kernel_rfl
theorem F.uO(hh:EV (ak Tryz.f166) ⟨aI [a0,a1,a2,a3],38,[],h⟩ (bp TP gm Tryz.f166.results.toList K)=true):Sem TP 166 [a0,a1,a2,a3] h K:=
 cB mixed (cm _) Tryz.func166 (c:=ak Tryz.f166) rfl (by decide) (of_decide_eq_true (by kernel_rfl)) hh
noncomputable def F.ee.L0:Code:=partOf (ak Tryz.f167) [1,1,0,1,0,0]
noncomputable def F.ee.cM(K:Out->ag->Bool):AX->St->Bool:=(aZ 0 (cS false (EV (partOf (ak Tryz.f167) [1,1,1])) (bp TP gm Tryz.f167.results.toList K)))
theorem F.ee.aT:EV F.ee.L0 ⟨e,39,[],h⟩ J=(af (aL .lss (e 21) (e 20)) fun k=>let Q1:=(aa e 22 k);az k (af (ah none (e 3) h) fun a=>af (dg 1 a (e 0)) fun b=>af (bh 1 b (e 21) h) fun l=>af (ah none (e 5) l) fun c=>vw c fun f37 a38 a39=>aA TP f37 (a38++([(e 0)]++a39)) l (bH (fun d f=>let Q2:=(aa (aa (aa (aa (aa (aa (aa (aa (aa (aa Q1 23 (e 21)) 9 (e 21)) 24 a) 25 (e 0)) 26 (e 21)) 27 b) 28 c) 29 (e 0)) 30 d) 31 d);az d (af (ah none (e 6) f) fun g=>af (aL .add (e 0) (.int .i64 1)) fun i=>vw g fun f33 a34 a35=>aA TP f33 (a34++([i]++a35)) f (bH (fun m n=>af (kM .not m) fun j=>let Q3:=(aa (aa (aa (aa (aa (aa (aa (aa (aa (aa (aa Q2 31 (.bool true)) 32 g) 31 (.bool true)) 33 (e 0)) 31 (.bool true)) 34 i) 31 (.bool true)) 35 m) 31 (.bool true)) 36 j) 37 j);az j (J .ret ⟨(aa Q3 8 (.bool false)),39,[],n⟩) (af (aL .add (e 21) (.int .i64 1)) fun o=>J .normal ⟨(aa (aa Q3 38 o) 21 o),39,[],n⟩)) (fun q r=>J (.panic q) ⟨(aa (aa (aa (aa (aa (aa (aa Q2 31 (.bool true)) 32 g) 31 (.bool true)) 33 (e 0)) 31 (.bool true)) 34 i) 31 (.bool true)),39,[],r⟩))) (af (aL .add (e 21) (.int .i64 1)) fun p=>J .normal ⟨(aa (aa (aa (aa (aa (aa (aa (aa (aa (aa (aa (aa (aa Q2 31 (.bool false)) 32 bK) 31 (.bool false)) 33 bK) 31 (.bool false)) 34 bK) 31 (.bool false)) 35 bK) 31 (.bool false)) 36 bK) 37 (.bool false)) 38 p) 21 p),39,[],f⟩)) (fun s t=>J (.panic s) ⟨(aa (aa (aa (aa (aa (aa (aa (aa Q1 23 (e 21)) 9 (e 21)) 24 a) 25 (e 0)) 26 (e 21)) 27 b) 28 c) 29 (e 0)),39,[],t⟩))) (J (.exit 0) ⟨Q1,39,[],h⟩)):=by kernel_rfl
theorem F.ee.aJ:F.ee.cM K (.exit 0) ⟨e,39,[],h⟩=(K (.ret (.bool true)) h):=by kernel_rfl
theorem F.oL{a5 a6:AV}:EV (ak Tryz.f167) ⟨aI [a0,a1,a2,a3,a4,a5,a6],39,[],h⟩ (bp TP gm Tryz.f167.results.toList K)=(af (bL 4 a1) fun f=>af (ah none f h) fun g=>af (jU (.int .i64) a0 g) fun i=>az i (af (ah none a2 h) fun j=>af (ah none a3 h) fun k=>vw j fun f9 Wg W6=>aA TP f9 (Wg++([k]++W6)) h (bH (fun l m=>K (.ret l) m) (fun n o=>K (.panic n) o))) (af (ah none a4 h) fun a=>af (bS a) fun b=>af (bL 0 b) fun c=>af (ah none c h) fun d=>bX (EV F.ee.L0) ⟨(aa (aa (aa (aa (aa (aa (aa (aa (aa (aa (aI [a0,a1,a2,a3,a4,a5,a6]) 8 (.bool false)) 10 a0) 11 f) 12 g) 13 i) 17 a) 18 b) 19 c) 20 d) 21 (.int .i64 0)),39,[],h⟩ (F.ee.cM K))):=by kernel_rfl
theorem F.nZ{a5 a6:AV}(hh:EV (ak Tryz.f167) ⟨aI [a0,a1,a2,a3,a4,a5,a6],39,[],h⟩ (bp TP gm Tryz.f167.results.toList K)=true):Sem TP 167 [a0,a1,a2,a3,a4,a5,a6] h K:=
 cB mixed (cm _) Tryz.func167 (c:=ak Tryz.f167) rfl (by decide) (of_decide_eq_true (by kernel_rfl)) hh
noncomputable def F.cp.L0:Code:=partOf (ak Tryz.f110) [1,1,0,0]
noncomputable def F.cp.cM(K:Out->ag->Bool):AX->St->Bool:=(aZ 0 (bp TP gm Tryz.f110.results.toList K))
noncomputable def F.cp.L1:Code:=partOf (ak Tryz.f110) [1,1,0,0,1,0,0,1,1,0,0]
noncomputable def F.cp.mO(J:AX->St->Bool):AX->St->Bool:=(aZ 2 (aZ 1 (cS false (EV (partOf (ak Tryz.f110) [1,1,0,0,1,1])) J)))
theorem F.cp.aT:EV F.cp.L0 ⟨e,22,[],h⟩ J=(af (ah none (e 6) h) fun a=>az a (af (bh 1 (e 6) (.bool false) h) fun b=>af (b6 .slice (e 1) b) fun c=>bX (EV F.cp.L1) ⟨(aa (aa (aa (aa e 9 a) 10 (e 1)) 11 c) 12 (.int .i64 0)),22,[],b⟩ (F.cp.mO J)) (J (.exit 0) ⟨(aa e 9 a),22,[],h⟩)):=by kernel_rfl
theorem F.cp.aJ:F.cp.cM K (.exit 0) ⟨e,22,[],h⟩=(K (.ret (.tuple [])) h):=by kernel_rfl
theorem F.cp.eC:EV F.cp.L1 ⟨e,22,[],h⟩ J=(af (aL .lss (e 12) (e 11)) fun d=>az d (af (dg 8 (e 10) (e 12)) fun f=>af (ah (some 8) f h) fun g=>af (bh 8 (.ptr (ag.next h) 0) g (ag.alloc h (.cells [(.int .i64 0),(.str []),.au,.au,(.int .i64 0),.au,.au,.au]))) fun i=>af (ah none (e 3) i) fun a=>af (ah (some 8) (.ptr (ag.next h) 0) i) fun b=>aA TP 122 [a,b,(.func 158 [] [(.ptr (ag.next h) 0),(e 3),(e 6),(e 5)])] i (bH (fun j k=>af (aL .add (e 12) (.int .i64 1)) fun c=>J .normal ⟨(aa (aa (aa (aa (aa (aa (aa (aa (aa (aa e 13 d) 14 f) 15 g) 8 (.ptr (ag.next h) 0)) 16 a) 17 b) 18 (.func 158 [] [(.ptr (ag.next h) 0),(e 3),(e 6),(e 5)])) 19 j) 20 c) 12 c),22,[],k⟩) (fun l m=>J (.panic l) ⟨(aa (aa (aa (aa (aa (aa (aa e 13 d) 14 f) 15 g) 8 (.ptr (ag.next h) 0)) 16 a) 17 b) 18 (.func 158 [] [(.ptr (ag.next h) 0),(e 3),(e 6),(e 5)])),22,[],m⟩))) (J (.exit 2) ⟨(aa e 13 d),22,[],h⟩)):=by kernel_rfl
theorem F.cp.cZ:F.cp.mO J (.exit 2) ⟨e,22,[],h⟩=(af (ah none (e 6) h) fun a=>af (bh 1 (.ptr (ag.next h) 0) a (ag.alloc h (.cells [(.bool false)]))) fun b=>J .normal ⟨(aa (aa e 21 a) 6 (.ptr (ag.next h) 0)),22,[],b⟩):=by kernel_rfl
theorem F.wW:EV (ak Tryz.f110) ⟨aI [a0,a1,a2],22,[],h⟩ (bp TP gm Tryz.f110.results.toList K)=(af (eR a0) fun a=>af (eR a2) fun b=>af (bh 1 (.ptr (ag.next (ag.alloc (ag.alloc h (.cells a)) (.cells b))) 0) (.bool true) (ag.alloc (ag.alloc (ag.alloc h (.cells a)) (.cells b)) (.cells [(.bool false)]))) fun c=>bX (EV F.cp.L0) ⟨(aa (aa (aa (aI [a0,a1,a2]) 3 (.ptr (ag.next h) 0)) 5 (.ptr (ag.next (ag.alloc h (.cells a))) 0)) 6 (.ptr (ag.next (ag.alloc (ag.alloc h (.cells a)) (.cells b))) 0)),22,[],c⟩ (F.cp.cM K)):=by kernel_rfl
theorem F.vT(hh:EV (ak Tryz.f110) ⟨aI [a0,a1,a2],22,[],h⟩ (bp TP gm Tryz.f110.results.toList K)=true):Sem TP 110 [a0,a1,a2] h K:=
 cB mixed (cm _) Tryz.func110 (c:=ak Tryz.f110) rfl (by decide) (of_decide_eq_true (by kernel_rfl)) hh
theorem F.uQ:EV (ak Tryz.f158) ⟨aI [a0,a1,a2,a3,a4],38,[],h⟩ (bp TP gm Tryz.f158.results.toList K)=(af (bL 5 a1) fun E=>af (ah none E h) fun G=>aA TP 124 [a0,G] h (bH (fun D c=>af (ah none a2 c) fun I=>af (bS I) fun J=>af (bL 1 J) fun L=>af (ah none L c) fun M=>af (bL 1 a1) fun f=>af (bL 0 f) fun g=>af (bL 0 g) fun i=>af (ah none i c) fun j=>af (dc .string .au false M j c) fun d=>af (ah none a2 c) fun k=>aA TP 69 [k,D] c (bH (fun l a=>af (dg 1 d l) fun m=>af (ah none m a) fun n=>af (kM .not n) fun o=>az o (af (ah none a2 a) fun p=>aA TP 69 [p,D] a (bH (fun q r=>af (dg 1 d q) fun s=>af (bh 1 s (.bool true) r) fun t=>af (bh 1 a3 (.bool true) t) fun b=>af (ah none a4 b) fun u=>af (ah (some 8) a1 b) fun v=>vw u fun f37 a38 a39=>aA TP f37 (a38++([v,a0]++a39)) b (bH (fun N w=>K (.ret (.bool true)) w) (fun x y=>K (.panic x) y))) (fun z A=>K (.panic z) A))) (K (.ret (.bool true)) a)) (fun B C=>K (.panic B) C))) (fun O P=>K (.panic O) P))):=by kernel_rfl
theorem F.tS(hh:EV (ak Tryz.f158) ⟨aI [a0,a1,a2,a3,a4],38,[],h⟩ (bp TP gm Tryz.f158.results.toList K)=true):Sem TP 158 [a0,a1,a2,a3,a4] h K:=
 cB mixed (cm _) Tryz.func158 (c:=ak Tryz.f158) rfl (by decide) (of_decide_eq_true (by kernel_rfl)) hh
noncomputable def F.br.L0:Code:=partOf (ak Tryz.f46) [1,0,1,0,0]
noncomputable def F.br.cM(K:Out->ag->Bool):AX->St->Bool:=(aZ 0 (cS false (EV (partOf (ak Tryz.f46) [1,1])) (bp TP gm Tryz.f46.results.toList K)))
noncomputable def F.br.L1:Code:=partOf (ak Tryz.f46) [1,1,1,0,0]
noncomputable def F.br.mO(K:Out->ag->Bool):AX->St->Bool:=(aZ 2 (bp TP gm Tryz.f46.results.toList K))
noncomputable def F.br.L2:Code:=partOf (ak Tryz.f46) [1,1,1,0,0,1,1,0,0,1,1,0,1,0,0]
noncomputable def F.br.vO(J:AX->St->Bool):AX->St->Bool:=(aZ 4 (cS false (EV (partOf (ak Tryz.f46) [1,1,1,0,0,1,1,0,0,1,1,1])) (aZ 3 (cS false (EV (partOf (ak Tryz.f46) [1,1,1,0,0,1,1,1])) J))))
theorem F.br.aT:EV F.br.L0 ⟨e,62,[],h⟩ J=(af (Ao false (e 17) h) (nX [] (Kq (fun d f=>af (bY d 0) fun g=>az g (af (wv (e 17) f) fun b=>af (bY b 1) fun a=>af (tL true (e 6) [a]) fun c=>J .normal ⟨(aa (aa (aa (aa (aa (aa (aa (aa (aa e 18 d) 19 g) 20 b) 21 a) 8 a) 22 (e 6)) 23 a) 24 c) 6 c),62,[],f⟩) (J (.exit 0) ⟨(aa (aa e 18 d) 19 g),62,[],f⟩)) (fun i j=>J (.panic i) ⟨e,62,[],j⟩)))):=by kernel_rfl
theorem F.br.aJ:F.br.cM K (.exit 0) ⟨e,62,[],h⟩=(af (aL .add (e 6) (.int .i64 1)) fun a=>bX (EV F.br.L1) ⟨(aa (aa (aa e 25 (e 6)) 26 a) 27 (.int .i64 0)),62,[],h⟩ (F.br.mO K)):=by kernel_rfl
theorem F.br.eC:EV F.br.L1 ⟨e,62,[],h⟩ J=(af (aL .lss (e 27) (e 26)) fun a=>az a (af (bS (e 0)) fun b=>af (bL 0 b) fun c=>af (ah none c h) fun d=>af (b6 .slice d h) fun f=>bX (EV F.br.L2) ⟨(aa (aa (aa (aa (aa (aa (aa (aa (aa (aa e 28 a) 29 (e 27)) 9 (e 27)) 10 .au) 30 (e 0)) 31 b) 32 c) 33 d) 34 f) 35 (.int .i64 0)),62,[],h⟩ (F.br.vO J)) (J (.exit 2) ⟨(aa e 28 a),62,[],h⟩)):=by kernel_rfl
theorem F.br.cZ:F.br.mO K (.exit 2) ⟨e,62,[],h⟩=(K (.ret (.tuple [])) h):=by kernel_rfl
theorem F.br.kE:EV F.br.L2 ⟨e,62,[],h⟩ J=(af (aL .lss (e 35) (e 34)) fun d=>let Q1:=(aa e 36 d);az d (af (dg 3 (e 33) (e 35)) fun f=>af (ah (some 3) f h) fun g=>af (bh 3 (.ptr (ag.next h) 0) g (ag.alloc h (.cells [(.str []),.au,.au]))) fun a=>af (bS (e 0)) fun i=>af (bL 2 i) fun j=>af (ah none j a) fun k=>af (bL 0 (.ptr (ag.next h) 0)) fun l=>af (bL 0 l) fun m=>af (ah none m a) fun n=>af (dc .string (.int .i64 0) false k n a) fun o=>af (jU (.int .i64) o (e 9)) fun p=>let Q2:=(aa (aa (aa (aa (aa (aa (aa (aa (aa (aa (aa (aa (aa (aa (aa Q1 37 (e 35)) 38 f) 39 g) 12 (.ptr (ag.next h) 0)) 11 (e 35)) 40 (e 0)) 41 i) 42 j) 43 k) 44 l) 45 m) 46 n) 47 o) 48 (e 9)) 49 p);az p (af (ah (some 3) (.ptr (ag.next h) 0) a) fun b=>aA TP 109 [(e 35),b] a (bH (fun q c=>af (ig [(.int .i64 0),(.str []),.au,.au,(.int .i64 0),.au,.au,.au] [(0,8)] [q]) fun u=>de (cz 8 152 (e 10) (.slice (ag.next c) 0 1 8) (ag.alloc c (.cells u))) fun r v=>af (aL .add (e 35) (.int .i64 1)) fun s=>J .normal ⟨(aa (aa (aa (aa (aa (aa (aa (aa (aa Q2 50 (e 10)) 51 (e 35)) 52 b) 53 q) 54 (.slice (ag.next c) 0 1 8)) 55 r) 10 r) 56 s) 35 s),62,[],v⟩) (fun w x=>J (.panic w) ⟨(aa (aa (aa Q2 50 (e 10)) 51 (e 35)) 52 b),62,[],x⟩))) (af (aL .add (e 35) (.int .i64 1)) fun t=>J .normal ⟨(aa (aa Q2 56 t) 35 t),62,[],a⟩)) (J (.exit 4) ⟨Q1,62,[],h⟩)):=by kernel_rfl
theorem F.br.iM:F.br.vO J (.exit 4) ⟨e,62,[],h⟩=(aA TP 110 [(e 1),(e 10),(e 2)] h (bH (fun b c=>af (aL .add (e 27) (.int .i64 1)) fun a=>J .normal ⟨(aa (aa (aa (aa (aa (aa e 57 (e 1)) 58 (e 10)) 59 (e 2)) 60 b) 61 a) 27 a),62,[],c⟩) (fun d f=>J (.panic d) ⟨(aa (aa (aa e 57 (e 1)) 58 (e 10)) 59 (e 2)),62,[],f⟩))):=by kernel_rfl
theorem F.wX:EV (ak Tryz.f46) ⟨aI [a0,a1,a2],62,[],h⟩ (bp TP gm Tryz.f46.results.toList K)=(af (bS a0) fun a=>af (bL 2 a) fun b=>af (ah none b h) fun c=>de (oN .map c h) fun d f=>bX (EV F.br.L0) ⟨(aa (aa (aa (aa (aa (aa (aI [a0,a1,a2]) 6 (.int .i64 0)) 13 a0) 14 a) 15 b) 16 c) 17 d),62,[],f⟩ (F.br.cM K)):=by kernel_rfl
theorem F.vU(hh:EV (ak Tryz.f46) ⟨aI [a0,a1,a2],62,[],h⟩ (bp TP gm Tryz.f46.results.toList K)=true):Sem TP 46 [a0,a1,a2] h K:=
 cB mixed (cm _) Tryz.func46 (c:=ak Tryz.f46) rfl (by decide) (of_decide_eq_true (by kernel_rfl)) hh
noncomputable def F.aC.L0:Code:=partOf (ak Tryz.f45) [1,1,1,0,1,0,0]
noncomputable def F.aC.cM(K:Out->ag->Bool):AX->St->Bool:=(aZ 0 (cS false (EV (partOf (ak Tryz.f45) [1,1,1,1])) (bp TP gm Tryz.f45.results.toList K)))
noncomputable def F.aC.L1:Code:=partOf (ak Tryz.f45) [1,1,1,1,0,1,0,0]
noncomputable def F.aC.mO(K:Out->ag->Bool):AX->St->Bool:=(aZ 2 (cS false (EV (partOf (ak Tryz.f45) [1,1,1,1,1])) (bp TP gm Tryz.f45.results.toList K)))
noncomputable def F.aC.L2:Code:=partOf (ak Tryz.f45) [1,1,1,1,1,1,1,0,1,0,0]
noncomputable def F.aC.vO(K:Out->ag->Bool):AX->St->Bool:=(aZ 4 (cS false (EV (partOf (ak Tryz.f45) [1,1,1,1,1,1,1,1])) (bp TP gm Tryz.f45.results.toList K)))
noncomputable def F.aC.L3:Code:=partOf (ak Tryz.f45) [1,1,1,1,1,1,1,1,0,1,0,0]
noncomputable def F.aC.Uu(K:Out->ag->Bool):AX->St->Bool:=(aZ 6 (cS false (EV (partOf (ak Tryz.f45) [1,1,1,1,1,1,1,1,1])) (bp TP gm Tryz.f45.results.toList K)))
noncomputable def F.aC.L4:Code:=partOf (ak Tryz.f45) [1,1,1,1,1,1,1,1,0,1,0,0,1,1,0,0,1,1,1,0,0]
noncomputable def F.aC.W7(J:AX->St->Bool):AX->St->Bool:=(aZ 8 (aZ 7 (cS false (EV (partOf (ak Tryz.f45) [1,1,1,1,1,1,1,1,0,1,0,0,1,1,1])) J)))
noncomputable def F.aC.L5:Code:=partOf (ak Tryz.f45) [1,1,1,1,1,1,1,1,1,0,1,0,0]
noncomputable def F.aC.L5k(K:Out->ag->Bool):AX->St->Bool:=(aZ 10 (cS false (EV (partOf (ak Tryz.f45) [1,1,1,1,1,1,1,1,1,1])) (bp TP gm Tryz.f45.results.toList K)))
noncomputable def F.aC.L6:Code:=partOf (ak Tryz.f45) [1,1,1,1,1,1,1,1,1,0,1,0,0,1,1,0,0,1,1,1,1,0,0]
noncomputable def F.aC.L6k(J:AX->St->Bool):AX->St->Bool:=(aZ 12 (aZ 11 (cS false (EV (partOf (ak Tryz.f45) [1,1,1,1,1,1,1,1,1,0,1,0,0,1,1,1])) J)))
theorem F.aC.aT:EV F.aC.L0 ⟨e,198,[],h⟩ J=(af (Ao false (e 46) h) (nX [] (Kq (fun l a=>af (bY l 0) fun m=>let Q1:=(aa (aa e 47 l) 48 m);az m (af (wv (e 46) a) fun g=>af (bY g 0) fun b=>af (bY g 1) fun c=>af (bS (e 7)) fun n=>af (bL 2 n) fun o=>af (ah none o a) fun p=>af (dc .string (.int .i64 0) true p b a) fun d=>af (bY d 0) fun q=>af (bY d 1) fun f=>af (kM .not f) fun i=>let Q2:=(aa (aa (aa (aa (aa (aa (aa (aa (aa (aa (aa (aa (aa (aa (aa (aa (aa (aa (aa Q1 49 g) 50 b) 51 c) 9 b) 10 c) 53 (e 7)) 54 n) 55 o) 56 p) 57 b) 58 d) 52 d) 59 q) 60 f) 11 q) 12 f) 61 f) 62 i) 63 i);az i (af (ah (some 2) (e 3) a) fun j=>aA TP 88 [j,b,c] a (bH (fun r s=>af (aL .lss r (.int .i64 0)) fun k=>let Q3:=(aa (aa (aa (aa (aa (aa (aa (aa (aa (aa (aa Q2 63 (.bool true)) 64 j) 63 (.bool true)) 65 b) 63 (.bool true)) 66 c) 63 (.bool true)) 67 r) 63 (.bool true)) 68 k) 69 k);az k (J .ret ⟨(aa (aa (aa Q3 4 .gC) 5 .gC) 6 (.int .i64 4)),198,[],s⟩) (J .normal ⟨Q3,198,[],s⟩)) (fun t u=>J (.panic t) ⟨(aa (aa (aa (aa (aa (aa (aa Q2 63 (.bool true)) 64 j) 63 (.bool true)) 65 b) 63 (.bool true)) 66 c) 63 (.bool true)),198,[],u⟩))) (J .normal ⟨(aa (aa (aa (aa (aa (aa (aa (aa (aa (aa (aa Q2 63 (.bool false)) 64 bK) 63 (.bool false)) 65 bK) 63 (.bool false)) 66 bK) 63 (.bool false)) 67 bK) 63 (.bool false)) 68 bK) 69 (.bool false)),198,[],a⟩)) (J (.exit 0) ⟨Q1,198,[],a⟩)) (fun v w=>J (.panic v) ⟨e,198,[],w⟩)))):=by kernel_rfl
theorem F.aC.aJ:F.aC.cM K (.exit 0) ⟨e,198,[],h⟩=(af (bL 1 (e 3)) fun a=>af (ah none a h) fun b=>af (b6 .slice b h) fun c=>bX (EV F.aC.L1) ⟨(aa (aa (aa (aa e 70 a) 71 b) 72 c) 73 (.int .i64 0)),198,[],h⟩ (F.aC.mO K)):=by kernel_rfl
theorem F.aC.bt:F.aC.cM K .ret ⟨e,198,[],h⟩=(K (.ret (.tuple [(e 4),(e 5),(e 6)])) h):=by kernel_rfl
theorem F.aC.eC:EV F.aC.L1 ⟨e,198,[],h⟩ J=(af (aL .lss (e 73) (e 72)) fun d=>az d (af (dg 3 (e 71) (e 73)) fun f=>af (ah (some 3) f h) fun g=>af (bh 3 (.ptr (ag.next h) 0) g (ag.alloc h (.cells [(.str []),(.int .i64 0),.au]))) fun a=>af (bS (e 7)) fun i=>af (bL 2 i) fun j=>af (ah none j a) fun k=>af (bL 0 (.ptr (ag.next h) 0)) fun l=>af (ah none l a) fun m=>af (dc .string (.int .i64 0) true k m a) fun b=>af (bY b 0) fun n=>af (bY b 1) fun c=>let Q1:=(aa (aa (aa (aa (aa (aa (aa (aa (aa (aa (aa (aa (aa (aa (aa (aa (aa e 74 d) 75 f) 76 g) 14 (.ptr (ag.next h) 0)) 78 (e 7)) 79 i) 80 j) 81 k) 82 l) 83 m) 84 b) 77 b) 85 n) 86 c) 15 n) 16 c) 87 c);az c (J .ret ⟨(aa (aa (aa Q1 4 .gC) 5 .gC) 6 (.int .i64 4)),198,[],a⟩) (af (aL .add (e 73) (.int .i64 1)) fun o=>J .normal ⟨(aa (aa Q1 88 o) 73 o),198,[],a⟩)) (J (.exit 2) ⟨(aa e 74 d),198,[],h⟩)):=by kernel_rfl
theorem F.aC.cZ:F.aC.mO K (.exit 2) ⟨e,198,[],h⟩=(af (bL 1 (e 3)) fun a=>af (ah none a h) fun b=>af (b6 .slice b h) fun c=>af (bS (e 7)) fun d=>af (bL 2 d) fun f=>af (ah none f h) fun g=>af (b6 .map g h) fun i=>af (aL .add c i) fun j=>af (aL .gtr j (.int .i64 8)) fun k=>az k (K (.ret (.tuple [.gC,.gC,(.int .i64 5)])) h) (af (bL 0 (e 3)) fun l=>af (ah none l h) fun m=>af (jM [(.int .i64 0),.kX] [(0,1),(1,1)] [m,(.map (ag.next h))]) fun n=>af (eR n) fun o=>af (bS (e 7)) fun p=>af (bL 2 p) fun q=>af (ah none q (ag.alloc (ag.alloc h (.map [] 0)) (.cells o))) fun r=>de (oN .map r (ag.alloc (ag.alloc h (.map [] 0)) (.cells o))) fun s t=>bX (EV F.aC.L2) ⟨(aa (aa (aa (aa (aa (aa (aa (aa (aa (aa (aa (aa (aa (aa (aa (aa (aa (aa (aa (aa (aa e 89 a) 90 b) 91 c) 92 (e 7)) 93 d) 94 f) 95 g) 96 i) 97 j) 98 k) 99 l) 100 m) 101 (.map (ag.next h))) 102 n) 103 (.ptr (ag.next (ag.alloc h (.map [] 0))) 0)) 17 (.ptr (ag.next (ag.alloc h (.map [] 0))) 0)) 104 (e 7)) 105 p) 106 q) 107 r) 108 s),198,[],t⟩ (F.aC.vO K))):=by kernel_rfl
theorem F.aC.k9:F.aC.mO K .ret ⟨e,198,[],h⟩=(K (.ret (.tuple [(e 4),(e 5),(e 6)])) h):=by kernel_rfl
theorem F.aC.kE:EV F.aC.L2 ⟨e,198,[],h⟩ J=(af (Ao false (e 108) h) (nX [] (Kq (fun i a=>af (bY i 0) fun j=>let Q1:=(aa (aa e 109 i) 110 j);az j (af (wv (e 108) a) fun k=>af (bY k 0) fun b=>af (bL 0 (e 3)) fun l=>af (ah none l a) fun m=>af (bS (e 7)) fun n=>af (bL 1 n) fun o=>af (ah none o a) fun p=>af (dc .string (.int .i64 0) false p b a) fun q=>aA TP 107 [m,q] a (bH (fun d g=>af (bY d 0) fun c=>af (bY d 1) fun f=>af (sG (.int .i64) f (.int .i64 0)) fun r=>let Q2:=(aa (aa (aa (aa (aa (aa (aa (aa (aa (aa (aa (aa (aa (aa (aa (aa (aa (aa (aa Q1 111 k) 112 b) 18 b) 114 l) 115 m) 116 (e 7)) 117 n) 118 o) 119 p) 120 b) 121 q) 122 d) 113 d) 123 c) 124 f) 19 c) 20 f) 125 f) 126 r);az r (J .ret ⟨(aa (aa (aa Q2 4 .gC) 5 .gC) 6 (.int .i64 5)),198,[],g⟩) (af (bS (e 17)) fun s=>af (bL 1 s) fun t=>af (ah none t g) fun u=>de (fo 1 1 [(.bool false)] c c g) fun v w=>af (fT .string u b v w) fun x=>J .normal ⟨(aa (aa (aa (aa (aa (aa (aa Q2 127 (e 17)) 128 s) 129 t) 130 u) 131 b) 132 c) 133 v),198,[],x⟩)) (fun _ _=>false))) (J (.exit 4) ⟨Q1,198,[],a⟩)) (fun y z=>J (.panic y) ⟨e,198,[],z⟩)))):=by kernel_rfl
theorem F.aC.iM:F.aC.vO K (.exit 4) ⟨e,198,[],h⟩=(af (b6 .slice (e 0) h) fun a=>bX (EV F.aC.L3) ⟨(aa (aa (aa e 134 (e 0)) 135 a) 136 (.int .i64 0)),198,[],h⟩ (F.aC.Uu K)):=by kernel_rfl
theorem F.aC.AU:F.aC.vO K .ret ⟨e,198,[],h⟩=(K (.ret (.tuple [(e 4),(e 5),(e 6)])) h):=by kernel_rfl
theorem F.aC.Df:EV F.aC.L3 ⟨e,198,[],h⟩ J=(af (aL .lss (e 136) (e 135)) fun d=>az d (af (dg 3 (e 134) (e 136)) fun a=>af (ah (some 3) a h) fun b=>af (bh 3 (.ptr (ag.next h) 0) b (ag.alloc h (.cells [(.str []),.au,.au]))) fun f=>af (ah (some 3) (.ptr (ag.next h) 0) f) fun c=>aA TP 108 [c] f (bH (fun g i=>af (b6 .slice g i) fun j=>bX (EV F.aC.L4) ⟨(aa (aa (aa (aa (aa (aa (aa (aa (aa e 137 d) 138 a) 139 b) 22 (.ptr (ag.next h) 0)) 23 (.int .i64 1)) 140 c) 141 g) 142 j) 143 (.int .i64 0)),198,[],i⟩ (F.aC.W7 J)) (fun k l=>J (.panic k) ⟨(aa (aa (aa (aa (aa (aa e 137 d) 138 a) 139 b) 22 (.ptr (ag.next h) 0)) 23 (.int .i64 1)) 140 c),198,[],l⟩))) (J (.exit 6) ⟨(aa e 137 d),198,[],h⟩)):=by kernel_rfl
theorem F.aC.FR:F.aC.Uu K (.exit 6) ⟨e,198,[],h⟩=(af (bL 1 (e 3)) fun a=>af (ah none a h) fun b=>af (b6 .slice b h) fun c=>bX (EV F.aC.L5) ⟨(aa (aa (aa (aa e 153 a) 154 b) 155 c) 156 (.int .i64 0)),198,[],h⟩ (F.aC.L5k K)):=by kernel_rfl
theorem F.aC.W8:F.aC.Uu K .ret ⟨e,198,[],h⟩=(K (.ret (.tuple [(e 4),(e 5),(e 6)])) h):=by kernel_rfl
theorem F.aC.FT:EV F.aC.L4 ⟨e,198,[],h⟩ J=(af (aL .lss (e 143) (e 142)) fun b=>let Q1:=(aa e 144 b);az b (af (bL 0 (e 3)) fun c=>af (ah none c h) fun d=>af (aL .mul (e 23) d) fun a=>af (aL .gtr a (.int .i64 65536)) fun f=>let Q2:=(aa (aa (aa (aa (aa (aa (aa Q1 145 (e 23)) 146 c) 147 d) 148 a) 23 a) 149 a) 150 f);az f (J .ret ⟨(aa (aa (aa Q2 4 .gC) 5 .gC) 6 (.int .i64 5)),198,[],h⟩) (af (aL .add (e 143) (.int .i64 1)) fun g=>J .normal ⟨(aa (aa Q2 151 g) 143 g),198,[],h⟩)) (J (.exit 8) ⟨Q1,198,[],h⟩)):=by kernel_rfl
theorem F.aC.wY:F.aC.W7 J (.exit 8) ⟨e,198,[],h⟩=(af (aL .add (e 136) (.int .i64 1)) fun a=>J .normal ⟨(aa (aa e 152 a) 136 a),198,[],h⟩):=by kernel_rfl
theorem F.aC.W9:F.aC.W7 J .ret ⟨e,198,[],h⟩=(J .ret ⟨e,198,[],h⟩):=by kernel_rfl
theorem F.aC.Mv:EV F.aC.L5 ⟨e,198,[],h⟩ J=(af (aL .lss (e 156) (e 155)) fun n=>let Q1:=(aa e 157 n);az n (af (dg 3 (e 154) (e 156)) fun c=>af (ah (some 3) c h) fun d=>af (bh 3 (.ptr (ag.next h) 0) d (ag.alloc h (.cells [(.str []),(.int .i64 0),.au]))) fun f=>af (bL 0 (e 3)) fun g=>af (ah none g f) fun i=>af (bL 1 (.ptr (ag.next h) 0)) fun j=>af (ah none j f) fun k=>aA TP 107 [i,k] f (bH (fun b l=>af (bY b 0) fun a=>af (bY b 1) fun o=>af (bS (e 17)) fun p=>af (bL 1 p) fun q=>af (ah none q l) fun r=>af (bL 0 (.ptr (ag.next h) 0)) fun s=>af (ah none s l) fun t=>de (fo 1 1 [(.bool false)] a a l) fun u x=>af (fT .string r t u x) fun m=>af (bL 2 (.ptr (ag.next h) 0)) fun v=>af (ah none v m) fun w=>af (b6 .slice w m) fun y=>bX (EV F.aC.L6) ⟨(aa (aa (aa (aa (aa (aa (aa (aa (aa (aa (aa (aa (aa (aa (aa (aa (aa (aa (aa (aa (aa (aa (aa (aa (aa Q1 158 c) 159 d) 25 (.ptr (ag.next h) 0)) 161 g) 162 i) 163 j) 164 k) 165 b) 160 b) 166 a) 167 o) 26 a) 27 o) 168 (e 17)) 169 p) 170 q) 171 r) 172 s) 173 t) 174 a) 175 u) 176 v) 177 w) 178 y) 179 (.int .i64 0)),198,[],m⟩ (F.aC.L6k J)) (fun z A=>J (.panic z) ⟨(aa (aa (aa (aa (aa (aa (aa Q1 158 c) 159 d) 25 (.ptr (ag.next h) 0)) 161 g) 162 i) 163 j) 164 k),198,[],A⟩))) (J (.exit 10) ⟨Q1,198,[],h⟩)):=by kernel_rfl
theorem F.aC.B7:F.aC.L5k K (.exit 10) ⟨e,198,[],h⟩=(K (.ret (.tuple [(e 7),(e 17),(.int .i64 0)])) h):=by kernel_rfl
theorem F.aC.ZJ:EV F.aC.L6 ⟨e,198,[],h⟩ J=(af (aL .lss (e 179) (e 178)) fun f=>az f (af (dg 1 (e 177) (e 179)) fun k=>af (ah none k h) fun a=>af (bS (e 17)) fun l=>af (bL 1 l) fun g=>af (ah none g h) fun b=>af (bL 0 (e 25)) fun i=>af (ah none i h) fun c=>af (dc .string .au false b c h) fun j=>aA TP 69 [(e 17),a] h (bH (fun m d=>if ((af (dc .string .au false b c d) fun p=>AV.beq p j)&&((af (ah none i d) fun q=>AV.beq q c)&&((af (ah none g d) fun r=>AV.beq r b)&&true)))=true then (af (dg 1 j m) fun n=>af (bh 1 n (.bool true) d) fun s=>af (aL .add (e 179) (.int .i64 1)) fun o=>J .normal ⟨(aa (aa (aa (aa (aa (aa (aa (aa (aa (aa (aa (aa (aa (aa (aa (aa (aa e 180 f) 181 k) 182 a) 29 a) 183 (e 17)) 184 l) 185 g) 186 b) 187 i) 188 c) 189 j) 190 (e 17)) 191 a) 192 m) 193 n) 194 o) 179 o),198,[],s⟩) else false) (fun _ _=>false))) (J (.exit 12) ⟨(aa e 180 f),198,[],h⟩)):=by kernel_rfl
theorem F.aC.RZ:F.aC.L6k J (.exit 12) ⟨e,198,[],h⟩=(af (aL .add (e 156) (.int .i64 1)) fun a=>J .normal ⟨(aa (aa e 195 a) 156 a),198,[],h⟩):=by kernel_rfl
theorem F.B9:EV (ak Tryz.f45) ⟨aI [a0,a1],198,[],h⟩ (bp TP gm Tryz.f45.results.toList K)=(af (eR a1) fun s=>aA TP 83 [a0] (ag.alloc h (.cells s)) (bH (fun g k=>af (bY g 0) fun i=>af (bY g 1) fun j=>af (kM .not j) fun l=>az l (K (.ret (.tuple [.gC,.gC,(.int .i64 1)])) k) (af (ah (some 2) (.ptr (ag.next h) 0) k) fun q=>aA TP 87 [q] k (bH (fun r a=>af (kM .not r) fun b=>az b (K (.ret (.tuple [.gC,.gC,(.int .i64 1)])) a) (af (bS i) fun c=>af (bL 1 c) fun d=>af (ah none d a) fun f=>de (oN .map f a) fun m n=>bX (EV F.aC.L0) ⟨(aa (aa (aa (aa (aa (aa (aa (aa (aa (aa (aa (aa (aa (aa (aa (aa (aa (aa (aa (aa (aa (aa (aa (aa (aa (aa (aI [a0,a1]) 3 (.ptr (ag.next h) 0)) 4 .gC) 5 .gC) 6 (.int .i64 0)) 31 a0) 32 g) 30 g) 33 i) 34 j) 7 i) 8 j) 35 j) 36 l) 37 l) 37 (.bool false)) 38 q) 37 (.bool false)) 39 r) 37 (.bool false)) 40 b) 41 b) 42 i) 43 c) 44 d) 45 f) 46 m),198,[],n⟩ (F.aC.cM K))) (fun o p=>K (.panic o) p)))) (fun t u=>K (.panic t) u))):=by kernel_rfl
theorem F.AY(hh:EV (ak Tryz.f45) ⟨aI [a0,a1],198,[],h⟩ (bp TP gm Tryz.f45.results.toList K)=true):Sem TP 45 [a0,a1] h K:=
 cB mixed (cm _) Tryz.func45 (c:=ak Tryz.f45) rfl (by decide) (of_decide_eq_true (by kernel_rfl)) hh
end
end Go.AM
namespace Go.AM
open Go
noncomputable section
def sA0:List AV:=[(.int .u8 80)]
def sR0:AV:=(.bool true)
theorem aaP:b8 TP F0 D0 200 146 sA0 ag.empty (cK true 20 sR0)=true:=by kernel_rfl
def sA1:List AV:=[(.int .u8 40)]
def sR1:AV:=(.bool false)
theorem aaQ:b8 TP F0 D0 200 146 sA1 ag.empty (cK true 20 sR1)=true:=by kernel_rfl
def sA2:List AV:=[(.int .u8 120)]
def sR2:AV:=(.bool true)
theorem aaR:b8 TP F0 D0 200 146 sA2 ag.empty (cK true 20 sR2)=true:=by kernel_rfl
def sA3:List AV:=[(.int .u8 32)]
def sR3:AV:=(.bool false)
theorem aaS:b8 TP F0 D0 200 146 sA3 ag.empty (cK true 20 sR3)=true:=by kernel_rfl
def sA4:List AV:=[(.int .u8 121)]
def sR4:AV:=(.bool true)
theorem aaT:b8 TP F0 D0 200 146 sA4 ag.empty (cK true 20 sR4)=true:=by kernel_rfl
def sA5:List AV:=[(.int .u8 41)]
def sR5:AV:=(.bool false)
theorem aaU:b8 TP F0 D0 200 146 sA5 ag.empty (cK true 20 sR5)=true:=by kernel_rfl
def sA6:List AV:=[(.int .u8 58)]
def sR6:AV:=(.bool false)
theorem aaV:b8 TP F0 D0 200 146 sA6 ag.empty (cK true 20 sR6)=true:=by kernel_rfl
def sA7:List AV:=[(.int .u8 69)]
def sR7:AV:=(.bool true)
theorem aaW:b8 TP F0 D0 200 146 sA7 ag.empty (cK true 20 sR7)=true:=by kernel_rfl
def sA8:List AV:=[(.int .u8 46)]
def sR8:AV:=(.bool false)
theorem aaX:b8 TP F0 D0 200 146 sA8 ag.empty (cK true 20 sR8)=true:=by kernel_rfl
def sA9:List AV:=[(.int .u8 122)]
def sR9:AV:=(.bool true)
theorem aaY:b8 TP F0 D0 200 146 sA9 ag.empty (cK true 20 sR9)=true:=by kernel_rfl
def adn:List AV:=[(.int .u8 44)]
def ado:AV:=(.bool false)
theorem Xa:b8 TP F0 D0 200 146 adn ag.empty (cK true 20 ado)=true:=by kernel_rfl
def adp:List AV:=[(.agg [(.int .i64 3),(.ay [(.str [69]),(.int .i64 2),(.ay [(.ay [(.int .i64 0),(.int .i64 1)] 0 2 1),(.ay [(.int .i64 1),(.int .i64 2)] 0 2 1)] 0 2 1)] 0 1 3)]),(.str [69]),(.int .i64 2)]
def adq:AV:=(.int .i64 0)
theorem Xb:b8 TP F0 D0 200 88 adp ag.empty (cK true 20 adq)=true:=by kernel_rfl
def adr:List AV:=[(.int .i64 3),(.int .i64 2)]
def ads:AV:=(.tuple [(.int .i64 9),(.int .i64 0)])
theorem Xc:b8 TP F0 D0 200 107 adr ag.empty (cK true 20 ads)=true:=by kernel_rfl
def adt:List AV:=[(.ay [(.int .i64 0),(.int .i64 0)] 0 2 1),(.ay [(.int .i64 0),(.int .i64 1)] 0 2 1)]
def adu:AV:=(.ay [(.int .i64 0),(.int .i64 0)] 0 2 1)
theorem Xd:b8 TP F0 D0 200 124 adt ag.empty (cK false 20 adu)=true:=by kernel_rfl
def adw:List AV:=[(.ay [(.int .i64 0),(.int .i64 1)] 0 2 1),(.ay [(.int .i64 0),(.int .i64 1)] 0 2 1)]
def adx:AV:=(.ay [(.int .i64 0),(.int .i64 1)] 0 2 1)
theorem Xe:b8 TP F0 D0 200 124 adw ag.empty (cK false 20 adx)=true:=by kernel_rfl
def ady:List AV:=[(.ay [(.int .i64 0),(.int .i64 2)] 0 2 1),(.ay [(.int .i64 0),(.int .i64 1)] 0 2 1)]
def adz:AV:=(.ay [(.int .i64 0),(.int .i64 2)] 0 2 1)
theorem Xf:b8 TP F0 D0 200 124 ady ag.empty (cK false 20 adz)=true:=by kernel_rfl
def adA:List AV:=[(.ay [(.int .i64 1),(.int .i64 0)] 0 2 1),(.ay [(.int .i64 0),(.int .i64 1)] 0 2 1)]
def adB:AV:=(.ay [(.int .i64 1),(.int .i64 0)] 0 2 1)
theorem Xg:b8 TP F0 D0 200 124 adA ag.empty (cK false 20 adB)=true:=by kernel_rfl
def adC:List AV:=[(.ay [(.int .i64 1),(.int .i64 1)] 0 2 1),(.ay [(.int .i64 0),(.int .i64 1)] 0 2 1)]
def adD:AV:=(.ay [(.int .i64 1),(.int .i64 1)] 0 2 1)
theorem Xh:b8 TP F0 D0 200 124 adC ag.empty (cK false 20 adD)=true:=by kernel_rfl
def adE:List AV:=[(.ay [(.int .i64 1),(.int .i64 2)] 0 2 1),(.ay [(.int .i64 0),(.int .i64 1)] 0 2 1)]
def adF:AV:=(.ay [(.int .i64 1),(.int .i64 2)] 0 2 1)
theorem Xi:b8 TP F0 D0 200 124 adE ag.empty (cK false 20 adF)=true:=by kernel_rfl
def adG:List AV:=[(.ay [(.int .i64 2),(.int .i64 0)] 0 2 1),(.ay [(.int .i64 0),(.int .i64 1)] 0 2 1)]
def adH:AV:=(.ay [(.int .i64 2),(.int .i64 0)] 0 2 1)
theorem Xj:b8 TP F0 D0 200 124 adG ag.empty (cK false 20 adH)=true:=by kernel_rfl
def adI:List AV:=[(.ay [(.int .i64 2),(.int .i64 1)] 0 2 1),(.ay [(.int .i64 0),(.int .i64 1)] 0 2 1)]
def adJ:AV:=(.ay [(.int .i64 2),(.int .i64 1)] 0 2 1)
theorem Xk:b8 TP F0 D0 200 124 adI ag.empty (cK false 20 adJ)=true:=by kernel_rfl
def adK:List AV:=[(.ay [(.int .i64 2),(.int .i64 2)] 0 2 1),(.ay [(.int .i64 0),(.int .i64 1)] 0 2 1)]
def adL:AV:=(.ay [(.int .i64 2),(.int .i64 2)] 0 2 1)
theorem Xl:b8 TP F0 D0 200 124 adK ag.empty (cK false 20 adL)=true:=by kernel_rfl
def adM:List AV:=[(.ay [(.int .i64 0),(.int .i64 0),(.int .i64 0)] 0 3 1),(.ay [(.int .i64 0),(.int .i64 2)] 0 2 1)]
def adN:AV:=(.ay [(.int .i64 0),(.int .i64 0)] 0 2 1)
theorem Xm:b8 TP F0 D0 200 124 adM ag.empty (cK false 20 adN)=true:=by kernel_rfl
def adO:List AV:=[(.ay [(.int .i64 0),(.int .i64 0),(.int .i64 1)] 0 3 1),(.ay [(.int .i64 0),(.int .i64 2)] 0 2 1)]
def adP:AV:=(.ay [(.int .i64 0),(.int .i64 1)] 0 2 1)
theorem Xn:b8 TP F0 D0 200 124 adO ag.empty (cK false 20 adP)=true:=by kernel_rfl
def adQ:List AV:=[(.ay [(.int .i64 0),(.int .i64 0),(.int .i64 1)] 0 3 1),(.ay [(.int .i64 2),(.int .i64 1)] 0 2 1)]
def adR:AV:=(.ay [(.int .i64 1),(.int .i64 0)] 0 2 1)
theorem Xo:b8 TP F0 D0 200 124 adQ ag.empty (cK false 20 adR)=true:=by kernel_rfl
def adS:List AV:=[(.ay [(.int .i64 0),(.int .i64 0),(.int .i64 2)] 0 3 1),(.ay [(.int .i64 0),(.int .i64 2)] 0 2 1)]
def adT:AV:=(.ay [(.int .i64 0),(.int .i64 2)] 0 2 1)
theorem Xp:b8 TP F0 D0 200 124 adS ag.empty (cK false 20 adT)=true:=by kernel_rfl
def adU:List AV:=[(.ay [(.int .i64 0),(.int .i64 1),(.int .i64 0)] 0 3 1),(.ay [(.int .i64 0),(.int .i64 2)] 0 2 1)]
def adV:AV:=(.ay [(.int .i64 0),(.int .i64 0)] 0 2 1)
theorem Xq:b8 TP F0 D0 200 124 adU ag.empty (cK false 20 adV)=true:=by kernel_rfl
def adW:List AV:=[(.ay [(.int .i64 0),(.int .i64 1),(.int .i64 1)] 0 3 1),(.ay [(.int .i64 0),(.int .i64 2)] 0 2 1)]
def adX:AV:=(.ay [(.int .i64 0),(.int .i64 1)] 0 2 1)
theorem Xr:b8 TP F0 D0 200 124 adW ag.empty (cK false 20 adX)=true:=by kernel_rfl
def adY:List AV:=[(.ay [(.int .i64 0),(.int .i64 1),(.int .i64 1)] 0 3 1),(.ay [(.int .i64 2),(.int .i64 1)] 0 2 1)]
def adZ:AV:=(.ay [(.int .i64 1),(.int .i64 1)] 0 2 1)
theorem Xs:b8 TP F0 D0 200 124 adY ag.empty (cK false 20 adZ)=true:=by kernel_rfl
def ad0:List AV:=[(.ay [(.int .i64 0),(.int .i64 1),(.int .i64 2)] 0 3 1),(.ay [(.int .i64 0),(.int .i64 2)] 0 2 1)]
def ad1:AV:=(.ay [(.int .i64 0),(.int .i64 2)] 0 2 1)
theorem Xt:b8 TP F0 D0 200 124 ad0 ag.empty (cK false 20 ad1)=true:=by kernel_rfl
def ad2:List AV:=[(.ay [(.int .i64 0),(.int .i64 2),(.int .i64 0)] 0 3 1),(.ay [(.int .i64 0),(.int .i64 2)] 0 2 1)]
def ad3:AV:=(.ay [(.int .i64 0),(.int .i64 0)] 0 2 1)
theorem Xu:b8 TP F0 D0 200 124 ad2 ag.empty (cK false 20 ad3)=true:=by kernel_rfl
def ad4:List AV:=[(.ay [(.int .i64 0),(.int .i64 2),(.int .i64 1)] 0 3 1),(.ay [(.int .i64 0),(.int .i64 2)] 0 2 1)]
def ad5:AV:=(.ay [(.int .i64 0),(.int .i64 1)] 0 2 1)
theorem Xv:b8 TP F0 D0 200 124 ad4 ag.empty (cK false 20 ad5)=true:=by kernel_rfl
def ad6:List AV:=[(.ay [(.int .i64 0),(.int .i64 2),(.int .i64 1)] 0 3 1),(.ay [(.int .i64 2),(.int .i64 1)] 0 2 1)]
def ad7:AV:=(.ay [(.int .i64 1),(.int .i64 2)] 0 2 1)
theorem Xw:b8 TP F0 D0 200 124 ad6 ag.empty (cK false 20 ad7)=true:=by kernel_rfl
def ad8:List AV:=[(.ay [(.int .i64 0),(.int .i64 2),(.int .i64 1)] 0 3 1),(.ay [(.int .i64 0),(.int .i64 1)] 0 2 1)]
def ad9:AV:=(.ay [(.int .i64 0),(.int .i64 2)] 0 2 1)
theorem Xx:b8 TP F0 D0 200 124 ad8 ag.empty (cK false 20 ad9)=true:=by kernel_rfl
def aea:List AV:=[(.ay [(.int .i64 0),(.int .i64 2),(.int .i64 2)] 0 3 1),(.ay [(.int .i64 0),(.int .i64 2)] 0 2 1)]
def aeb:AV:=(.ay [(.int .i64 0),(.int .i64 2)] 0 2 1)
theorem Xy:b8 TP F0 D0 200 124 aea ag.empty (cK false 20 aeb)=true:=by kernel_rfl
def aec:List AV:=[(.ay [(.int .i64 1),(.int .i64 0),(.int .i64 0)] 0 3 1),(.ay [(.int .i64 0),(.int .i64 2)] 0 2 1)]
def aed:AV:=(.ay [(.int .i64 1),(.int .i64 0)] 0 2 1)
theorem Xz:b8 TP F0 D0 200 124 aec ag.empty (cK false 20 aed)=true:=by kernel_rfl
def aee:List AV:=[(.ay [(.int .i64 1),(.int .i64 0),(.int .i64 1)] 0 3 1),(.ay [(.int .i64 0),(.int .i64 2)] 0 2 1)]
def aef:AV:=(.ay [(.int .i64 1),(.int .i64 1)] 0 2 1)
theorem XA:b8 TP F0 D0 200 124 aee ag.empty (cK false 20 aef)=true:=by kernel_rfl
def aeg:List AV:=[(.ay [(.int .i64 1),(.int .i64 0),(.int .i64 2)] 0 3 1),(.ay [(.int .i64 0),(.int .i64 2)] 0 2 1)]
def aeh:AV:=(.ay [(.int .i64 1),(.int .i64 2)] 0 2 1)
theorem XB:b8 TP F0 D0 200 124 aeg ag.empty (cK false 20 aeh)=true:=by kernel_rfl
def aei:List AV:=[(.ay [(.int .i64 1),(.int .i64 0),(.int .i64 2)] 0 3 1),(.ay [(.int .i64 2),(.int .i64 1)] 0 2 1)]
def aej:AV:=(.ay [(.int .i64 2),(.int .i64 0)] 0 2 1)
theorem XC:b8 TP F0 D0 200 124 aei ag.empty (cK false 20 aej)=true:=by kernel_rfl
def aek:List AV:=[(.ay [(.int .i64 1),(.int .i64 1),(.int .i64 0)] 0 3 1),(.ay [(.int .i64 0),(.int .i64 2)] 0 2 1)]
def ael:AV:=(.ay [(.int .i64 1),(.int .i64 0)] 0 2 1)
theorem XD:b8 TP F0 D0 200 124 aek ag.empty (cK false 20 ael)=true:=by kernel_rfl
def aem:List AV:=[(.ay [(.int .i64 1),(.int .i64 1),(.int .i64 1)] 0 3 1),(.ay [(.int .i64 0),(.int .i64 2)] 0 2 1)]
def aen:AV:=(.ay [(.int .i64 1),(.int .i64 1)] 0 2 1)
theorem XE:b8 TP F0 D0 200 124 aem ag.empty (cK false 20 aen)=true:=by kernel_rfl
def aeo:List AV:=[(.ay [(.int .i64 1),(.int .i64 1),(.int .i64 2)] 0 3 1),(.ay [(.int .i64 0),(.int .i64 2)] 0 2 1)]
def aep:AV:=(.ay [(.int .i64 1),(.int .i64 2)] 0 2 1)
theorem XF:b8 TP F0 D0 200 124 aeo ag.empty (cK false 20 aep)=true:=by kernel_rfl
def aeq:List AV:=[(.ay [(.int .i64 1),(.int .i64 1),(.int .i64 2)] 0 3 1),(.ay [(.int .i64 2),(.int .i64 1)] 0 2 1)]
def aer:AV:=(.ay [(.int .i64 2),(.int .i64 1)] 0 2 1)
theorem XG:b8 TP F0 D0 200 124 aeq ag.empty (cK false 20 aer)=true:=by kernel_rfl
def aes:List AV:=[(.ay [(.int .i64 1),(.int .i64 2),(.int .i64 0)] 0 3 1),(.ay [(.int .i64 0),(.int .i64 2)] 0 2 1)]
def aet:AV:=(.ay [(.int .i64 1),(.int .i64 0)] 0 2 1)
theorem XH:b8 TP F0 D0 200 124 aes ag.empty (cK false 20 aet)=true:=by kernel_rfl
def aeu:List AV:=[(.ay [(.int .i64 1),(.int .i64 2),(.int .i64 1)] 0 3 1),(.ay [(.int .i64 0),(.int .i64 2)] 0 2 1)]
def aev:AV:=(.ay [(.int .i64 1),(.int .i64 1)] 0 2 1)
theorem XI:b8 TP F0 D0 200 124 aeu ag.empty (cK false 20 aev)=true:=by kernel_rfl
def aew:List AV:=[(.ay [(.int .i64 1),(.int .i64 2),(.int .i64 2)] 0 3 1),(.ay [(.int .i64 0),(.int .i64 2)] 0 2 1)]
def aex:AV:=(.ay [(.int .i64 1),(.int .i64 2)] 0 2 1)
theorem XJ:b8 TP F0 D0 200 124 aew ag.empty (cK false 20 aex)=true:=by kernel_rfl
def aey:List AV:=[(.ay [(.int .i64 1),(.int .i64 2),(.int .i64 2)] 0 3 1),(.ay [(.int .i64 2),(.int .i64 1)] 0 2 1)]
def aez:AV:=(.ay [(.int .i64 2),(.int .i64 2)] 0 2 1)
theorem XK:b8 TP F0 D0 200 124 aey ag.empty (cK false 20 aez)=true:=by kernel_rfl
def aeA:List AV:=[(.ay [(.int .i64 2),(.int .i64 0),(.int .i64 0)] 0 3 1),(.ay [(.int .i64 0),(.int .i64 2)] 0 2 1)]
def aeB:AV:=(.ay [(.int .i64 2),(.int .i64 0)] 0 2 1)
theorem XL:b8 TP F0 D0 200 124 aeA ag.empty (cK false 20 aeB)=true:=by kernel_rfl
def aeC:List AV:=[(.ay [(.int .i64 2),(.int .i64 0),(.int .i64 1)] 0 3 1),(.ay [(.int .i64 0),(.int .i64 2)] 0 2 1)]
def aeD:AV:=(.ay [(.int .i64 2),(.int .i64 1)] 0 2 1)
theorem XM:b8 TP F0 D0 200 124 aeC ag.empty (cK false 20 aeD)=true:=by kernel_rfl
def aeE:List AV:=[(.ay [(.int .i64 2),(.int .i64 0),(.int .i64 2)] 0 3 1),(.ay [(.int .i64 0),(.int .i64 2)] 0 2 1)]
def aeF:AV:=(.ay [(.int .i64 2),(.int .i64 2)] 0 2 1)
theorem XN:b8 TP F0 D0 200 124 aeE ag.empty (cK false 20 aeF)=true:=by kernel_rfl
def aeG:List AV:=[(.ay [(.int .i64 2),(.int .i64 1),(.int .i64 0)] 0 3 1),(.ay [(.int .i64 0),(.int .i64 2)] 0 2 1)]
def aeH:AV:=(.ay [(.int .i64 2),(.int .i64 0)] 0 2 1)
theorem XO:b8 TP F0 D0 200 124 aeG ag.empty (cK false 20 aeH)=true:=by kernel_rfl
def aeI:List AV:=[(.ay [(.int .i64 2),(.int .i64 1),(.int .i64 1)] 0 3 1),(.ay [(.int .i64 0),(.int .i64 2)] 0 2 1)]
def aeJ:AV:=(.ay [(.int .i64 2),(.int .i64 1)] 0 2 1)
theorem XP:b8 TP F0 D0 200 124 aeI ag.empty (cK false 20 aeJ)=true:=by kernel_rfl
def aeK:List AV:=[(.ay [(.int .i64 2),(.int .i64 1),(.int .i64 2)] 0 3 1),(.ay [(.int .i64 0),(.int .i64 2)] 0 2 1)]
def aeL:AV:=(.ay [(.int .i64 2),(.int .i64 2)] 0 2 1)
theorem XQ:b8 TP F0 D0 200 124 aeK ag.empty (cK false 20 aeL)=true:=by kernel_rfl
def aeM:List AV:=[(.ay [(.int .i64 2),(.int .i64 2),(.int .i64 0)] 0 3 1),(.ay [(.int .i64 0),(.int .i64 2)] 0 2 1)]
def aeN:AV:=(.ay [(.int .i64 2),(.int .i64 0)] 0 2 1)
theorem XR:b8 TP F0 D0 200 124 aeM ag.empty (cK false 20 aeN)=true:=by kernel_rfl
def aeO:List AV:=[(.ay [(.int .i64 2),(.int .i64 2),(.int .i64 1)] 0 3 1),(.ay [(.int .i64 0),(.int .i64 2)] 0 2 1)]
def aeP:AV:=(.ay [(.int .i64 2),(.int .i64 1)] 0 2 1)
theorem XS:b8 TP F0 D0 200 124 aeO ag.empty (cK false 20 aeP)=true:=by kernel_rfl
def aeQ:List AV:=[(.ay [(.int .i64 2),(.int .i64 2),(.int .i64 2)] 0 3 1),(.ay [(.int .i64 0),(.int .i64 2)] 0 2 1)]
def aeR:AV:=(.ay [(.int .i64 2),(.int .i64 2)] 0 2 1)
theorem XT:b8 TP F0 D0 200 124 aeQ ag.empty (cK false 20 aeR)=true:=by kernel_rfl
def aeS:List AV:=[(.str [80]),(.ay [(.int .i64 0),(.int .i64 1)] 0 2 1)]
def aeT:AV:=(.str [80,47,0,1])
theorem XU:b8 TP F0 D0 200 71 aeS ag.empty (cK true 20 aeT)=true:=by kernel_rfl
def aeU:List AV:=[(.str [80]),(.ay [(.int .i64 1),(.int .i64 2)] 0 2 1)]
def aeV:AV:=(.str [80,47,1,2])
theorem XV:b8 TP F0 D0 200 71 aeU ag.empty (cK true 20 aeV)=true:=by kernel_rfl
def aeW:List AV:=[(.str [80]),(.ay [(.int .i64 0),(.int .i64 2)] 0 2 1)]
def aeX:AV:=(.str [80,47,0,2])
theorem XW:b8 TP F0 D0 200 71 aeW ag.empty (cK true 20 aeX)=true:=by kernel_rfl
def aeY:List AV:=[(.ay [(.int .i64 0),(.int .i64 2),(.int .i64 1)] 0 3 1),(.ay [(.int .i64 0),(.int .i64 1)] 0 2 1)]
def aeZ:AV:=(.ay [(.int .i64 0),(.int .i64 2)] 0 2 1)
theorem XX:b8 TP F0 D0 200 124 aeY ag.empty (cK true 20 aeZ)=true:=by kernel_rfl
def ae0:List AV:=[(.ay [(.int .i64 0),(.int .i64 2),(.int .i64 1)] 0 3 1),(.ay [(.int .i64 0),(.int .i64 2)] 0 2 1)]
def ae1:AV:=(.ay [(.int .i64 0),(.int .i64 1)] 0 2 1)
theorem XY:b8 TP F0 D0 200 124 ae0 ag.empty (cK true 20 ae1)=true:=by kernel_rfl
def ae2:List AV:=[(.ay [(.int .i64 0),(.int .i64 2),(.int .i64 1)] 0 3 1),(.ay [(.int .i64 2),(.int .i64 1)] 0 2 1)]
def ae3:AV:=(.ay [(.int .i64 1),(.int .i64 2)] 0 2 1)
theorem XZ:b8 TP F0 D0 200 124 ae2 ag.empty (cK true 20 ae3)=true:=by kernel_rfl
def ae4:List AV:=[(.ay [(.int .i64 1),(.int .i64 2)] 0 2 1),(.ay [(.int .i64 0),(.int .i64 1)] 0 2 1)]
def ae5:AV:=(.ay [(.int .i64 1),(.int .i64 2)] 0 2 1)
theorem X0:b8 TP F0 D0 200 124 ae4 ag.empty (cK true 20 ae5)=true:=by kernel_rfl
def F1:CT:=fun x=>if x=146 then some (lP (jg sA0 sR0) (lP (jg sA1 sR1) (lP (jg sA2 sR2) (lP (jg sA3 sR3) (lP (jg sA4 sR4) (lP (jg sA5 sR5) (lP (jg sA6 sR6) (lP (jg sA7 sR7) (lP (jg sA8 sR8) (lP (jg sA9 sR9) (jg adn ado))))))))))) else if x=88 then some (jg adp adq) else if x=107 then some (jg adr ads) else if x=124 then some (lP (eA 20 adt adu) (lP (eA 20 adw adx) (lP (eA 20 ady adz) (lP (eA 20 adA adB) (lP (eA 20 adC adD) (lP (eA 20 adE adF) (lP (eA 20 adG adH) (lP (eA 20 adI adJ) (lP (eA 20 adK adL) (lP (eA 20 adM adN) (lP (eA 20 adO adP) (lP (eA 20 adQ adR) (lP (eA 20 adS adT) (lP (eA 20 adU adV) (lP (eA 20 adW adX) (lP (eA 20 adY adZ) (lP (eA 20 ad0 ad1) (lP (eA 20 ad2 ad3) (lP (eA 20 ad4 ad5) (lP (eA 20 ad6 ad7) (lP (eA 20 ad8 ad9) (lP (eA 20 aea aeb) (lP (eA 20 aec aed) (lP (eA 20 aee aef) (lP (eA 20 aeg aeh) (lP (eA 20 aei aej) (lP (eA 20 aek ael) (lP (eA 20 aem aen) (lP (eA 20 aeo aep) (lP (eA 20 aeq aer) (lP (eA 20 aes aet) (lP (eA 20 aeu aev) (lP (eA 20 aew aex) (lP (eA 20 aey aez) (lP (eA 20 aeA aeB) (lP (eA 20 aeC aeD) (lP (eA 20 aeE aeF) (lP (eA 20 aeG aeH) (lP (eA 20 aeI aeJ) (lP (eA 20 aeK aeL) (lP (eA 20 aeM aeN) (lP (eA 20 aeO aeP) (lP (eA 20 aeQ aeR) (lP (jg aeY aeZ) (lP (jg ae0 ae1) (lP (jg ae2 ae3) (jg ae4 ae5))))))))))))))))))))))))))))))))))))))))))))))) else if x=71 then some (lP (jg aeS aeT) (lP (jg aeU aeV) (jg aeW aeX))) else F0 x
theorem Mw:oU TP F1:=by
 have hs:=me mixed Ms wO 200;intro f g hg args h K hK;unfold F1 at hg;split at hg
 ·rename_i e;subst e;cases hg;rcases cC hK with hK|hK
  ·exact cE hs (by kernel_rfl) aaP args h K hK
  rcases cC hK with hK|hK
  ·exact cE hs (by kernel_rfl) aaQ args h K hK
  rcases cC hK with hK|hK
  ·exact cE hs (by kernel_rfl) aaR args h K hK
  rcases cC hK with hK|hK
  ·exact cE hs (by kernel_rfl) aaS args h K hK
  rcases cC hK with hK|hK
  ·exact cE hs (by kernel_rfl) aaT args h K hK
  rcases cC hK with hK|hK
  ·exact cE hs (by kernel_rfl) aaU args h K hK
  rcases cC hK with hK|hK
  ·exact cE hs (by kernel_rfl) aaV args h K hK
  rcases cC hK with hK|hK
  ·exact cE hs (by kernel_rfl) aaW args h K hK
  rcases cC hK with hK|hK
  ·exact cE hs (by kernel_rfl) aaX args h K hK
  rcases cC hK with hK|hK
  ·exact cE hs (by kernel_rfl) aaY args h K hK
  exact cE hs (by kernel_rfl) Xa args h K hK
 split at hg
 ·rename_i e;subst e;cases hg;exact cE hs (by kernel_rfl) Xb args h K hK
 split at hg
 ·rename_i e;subst e;cases hg;exact cE hs (by kernel_rfl) Xc args h K hK
 split at hg
 ·rename_i e;subst e;cases hg;rcases cC hK with hK|hK
  ·exact bz hs Xd args h K hK
  rcases cC hK with hK|hK
  ·exact bz hs Xe args h K hK
  rcases cC hK with hK|hK
  ·exact bz hs Xf args h K hK
  rcases cC hK with hK|hK
  ·exact bz hs Xg args h K hK
  rcases cC hK with hK|hK
  ·exact bz hs Xh args h K hK
  rcases cC hK with hK|hK
  ·exact bz hs Xi args h K hK
  rcases cC hK with hK|hK
  ·exact bz hs Xj args h K hK
  rcases cC hK with hK|hK
  ·exact bz hs Xk args h K hK
  rcases cC hK with hK|hK
  ·exact bz hs Xl args h K hK
  rcases cC hK with hK|hK
  ·exact bz hs Xm args h K hK
  rcases cC hK with hK|hK
  ·exact bz hs Xn args h K hK
  rcases cC hK with hK|hK
  ·exact bz hs Xo args h K hK
  rcases cC hK with hK|hK
  ·exact bz hs Xp args h K hK
  rcases cC hK with hK|hK
  ·exact bz hs Xq args h K hK
  rcases cC hK with hK|hK
  ·exact bz hs Xr args h K hK
  rcases cC hK with hK|hK
  ·exact bz hs Xs args h K hK
  rcases cC hK with hK|hK
  ·exact bz hs Xt args h K hK
  rcases cC hK with hK|hK
  ·exact bz hs Xu args h K hK
  rcases cC hK with hK|hK
  ·exact bz hs Xv args h K hK
  rcases cC hK with hK|hK
  ·exact bz hs Xw args h K hK
  rcases cC hK with hK|hK
  ·exact bz hs Xx args h K hK
  rcases cC hK with hK|hK
  ·exact bz hs Xy args h K hK
  rcases cC hK with hK|hK
  ·exact bz hs Xz args h K hK
  rcases cC hK with hK|hK
  ·exact bz hs XA args h K hK
  rcases cC hK with hK|hK
  ·exact bz hs XB args h K hK
  rcases cC hK with hK|hK
  ·exact bz hs XC args h K hK
  rcases cC hK with hK|hK
  ·exact bz hs XD args h K hK
  rcases cC hK with hK|hK
  ·exact bz hs XE args h K hK
  rcases cC hK with hK|hK
  ·exact bz hs XF args h K hK
  rcases cC hK with hK|hK
  ·exact bz hs XG args h K hK
  rcases cC hK with hK|hK
  ·exact bz hs XH args h K hK
  rcases cC hK with hK|hK
  ·exact bz hs XI args h K hK
  rcases cC hK with hK|hK
  ·exact bz hs XJ args h K hK
  rcases cC hK with hK|hK
  ·exact bz hs XK args h K hK
  rcases cC hK with hK|hK
  ·exact bz hs XL args h K hK
  rcases cC hK with hK|hK
  ·exact bz hs XM args h K hK
  rcases cC hK with hK|hK
  ·exact bz hs XN args h K hK
  rcases cC hK with hK|hK
  ·exact bz hs XO args h K hK
  rcases cC hK with hK|hK
  ·exact bz hs XP args h K hK
  rcases cC hK with hK|hK
  ·exact bz hs XQ args h K hK
  rcases cC hK with hK|hK
  ·exact bz hs XR args h K hK
  rcases cC hK with hK|hK
  ·exact bz hs XS args h K hK
  rcases cC hK with hK|hK
  ·exact bz hs XT args h K hK
  rcases cC hK with hK|hK
  ·exact cE hs (by kernel_rfl) XX args h K hK
  rcases cC hK with hK|hK
  ·exact cE hs (by kernel_rfl) XY args h K hK
  rcases cC hK with hK|hK
  ·exact cE hs (by kernel_rfl) XZ args h K hK
  exact cE hs (by kernel_rfl) X0 args h K hK
 split at hg
 ·rename_i e;subst e;cases hg;rcases cC hK with hK|hK
  ·exact cE hs (by kernel_rfl) XU args h K hK
  rcases cC hK with hK|hK
  ·exact cE hs (by kernel_rfl) XV args h K hK
  exact cE hs (by kernel_rfl) XW args h K hK
 exact Ms f g hg args h K hK
def ae6:List AV:=[(.agg [(.str [80]),(.ay [(.str [120]),(.str [121])] 0 2 1)])]
def ae7:AV:=(.bool true)
theorem X1:b8 TP F1 D0 200 130 ae6 ag.empty (cK false 20 ae7)=true:=by kernel_rfl
def ae8:List AV:=[(.agg [(.str [80]),(.ay [(.str [120]),(.str [121])] 0 2 1),(.ay [(.int .i64 0),(.bool false),(.str [69]),(.ay [(.str [120]),(.str [121])] 0 2 1)] 0 1 4)])]
def ae9:AV:=(.ay [(.str [120]),(.str [121])] 0 2 1)
theorem X2:b8 TP F1 D0 200 108 ae8 ag.empty (cK false 20 ae9)=true:=by kernel_rfl
def afa:List AV:=[(.agg [(.int .i64 0),(.bool false),(.str [69]),(.ay [(.str [120]),(.str [121])] 0 2 1)])]
def afb:AV:=(.bool true)
theorem X3:b8 TP F1 D0 200 132 afa ag.empty (cK false 20 afb)=true:=by kernel_rfl
def afc:List AV:=[(.agg [(.int .i64 0),(.bool false),(.str [69]),(.ay [(.str [120]),(.str [122])] 0 2 1)])]
def afd:AV:=(.bool true)
theorem X4:b8 TP F1 D0 200 132 afc ag.empty (cK false 20 afd)=true:=by kernel_rfl
end
end Go.AM