/- Parts of a proof, merged out of smaller texts: the abstract machine and what functions do. Conditions: none. -/
import Derived.Test.YthmbnnjimbjplaaGreatDoorFl2
import Derived.Test.YthmbnnjimbjplaaGreatDoorFl7
import Derived.Test.YthmbnnjimbjplaaGreatDoorFl8
import Derived.Test.YthmbnnjimbjplaaGreatDoorFl9
import Derived.Test.YthmbnnjimbjplaaGreatDoorFl10
import Derived.KernelRfl
/- The functions whose contracts are given, at this seat: slices.Sorted of maps.Keys, deferred functions that recover. Conditions: none. -/
namespace Go.Proofs
open Go.RowKit Go.Maps Go.Sort Go.Shelf
theorem Tryz.sortsIn (m : Nat) : AnyZ.SortsIn Tryz.prog Tryz.sorted88_ren Fence.wide m :=
  ⟨fun blk off cap ss W hH hblk hsz => callsIn_wide.2 (AnyM.slices_Sort_string Tryz.sort147 blk off cap ss W hH hblk hsz),
   fun p cap W => callsIn_wide.2 (AnyM.slices_Sort_string_none Tryz.sort147 p cap W)⟩
theorem Tryz.keysGiven89 : AM.KeysGiven Tryz.prog 89 148 94 := fun mb W => callsIn_wide.1 (AnyZ.keys_in Tryz.keys89 Fence.wide 5 trivial rfl mb W)
set_option maxHeartbeats 1000000 in
theorem Tryz.sortedGiven89 : AM.SortedGiven Tryz.prog 88 148 9 := by
  refine ⟨fun Bm b nn D0 w h1 h2 hown hmax hbytes => (callsIn_wide (n := 5)).1 ?_, fun Bm w h1 h2 => ?_⟩
  · have hseq : SeqGives Fence.wide 2 Tryz.prog 148 #[.pointer (some ⟨Bm, 0, none⟩)] encStr (fun ss => ss.Perm (strKeys D0)) (Maps.size D0) w :=
      AnyZ.keys_gives (ρ := Tryz.keys89_ren) { Tryz.keys89 with } Fence.wide _ trivial rfl (by omega) Bm b nn D0 w h1 h2 hown
    exact AnyZ.sorted_in Tryz.sorted88 Fence.wide 5 trivial trivial trivial trivial rfl (by omega) (Tryz.sortsIn _) (enters_of Tryz.func147 (by kernel_rfl) rfl) 148 #[.pointer (some ⟨Bm, 0, none⟩)] trivial (enters_of Tryz.func148 (by kernel_rfl) rfl) _ _ hmax hbytes w hseq
  · have hseq : SeqGives Fence.wide 2 Tryz.prog 148 #[.pointer (some ⟨Bm, 0, none⟩)] encStr (fun ss : List (List UInt8) => ss = []) 0 w :=
      AnyZ.keys_gives_nil (ρ := Tryz.keys89_ren) { Tryz.keys89 with } Fence.wide _ trivial rfl Bm w h1 h2
    refine Calls.mono ((callsIn_wide (n := 5)).1 (AnyZ.sorted_in Tryz.sorted88 Fence.wide 5 trivial trivial trivial trivial rfl (by omega) (Tryz.sortsIn _) (enters_of Tryz.func147 (by kernel_rfl) rfl) 148 #[.pointer (some ⟨Bm, 0, none⟩)] trivial (enters_of Tryz.func148 (by kernel_rfl) rfl) _ 0 (Nat.zero_le _) (by omega) w hseq)) fun e w' hR => ?_
    obtain ⟨v, ss, rfl, s1, s2, s3, s4⟩ := hR
    exact ⟨by rw [s3.2 s1], s4⟩
theorem Tryz.keysGiven122 : AM.KeysGiven Tryz.prog 122 172 136 := fun mb W => callsIn_wide.1 (AnyZ.keys_in Tryz.keys122 Fence.wide 5 trivial rfl mb W)
set_option maxHeartbeats 1000000 in
theorem Tryz.sortedGiven122 : AM.SortedGiven Tryz.prog 88 172 9 := by
  refine ⟨fun Bm b nn D0 w h1 h2 hown hmax hbytes => (callsIn_wide (n := 5)).1 ?_, fun Bm w h1 h2 => ?_⟩
  · have hseq : SeqGives Fence.wide 2 Tryz.prog 172 #[.pointer (some ⟨Bm, 0, none⟩)] encStr (fun ss => ss.Perm (strKeys D0)) (Maps.size D0) w :=
      AnyZ.keys_gives (ρ := Tryz.keys122_ren) { Tryz.keys122 with } Fence.wide _ trivial rfl (by omega) Bm b nn D0 w h1 h2 hown
    exact AnyZ.sorted_in Tryz.sorted88 Fence.wide 5 trivial trivial trivial trivial rfl (by omega) (Tryz.sortsIn _) (enters_of Tryz.func147 (by kernel_rfl) rfl) 172 #[.pointer (some ⟨Bm, 0, none⟩)] trivial (enters_of Tryz.func172 (by kernel_rfl) rfl) _ _ hmax hbytes w hseq
  · have hseq : SeqGives Fence.wide 2 Tryz.prog 172 #[.pointer (some ⟨Bm, 0, none⟩)] encStr (fun ss : List (List UInt8) => ss = []) 0 w :=
      AnyZ.keys_gives_nil (ρ := Tryz.keys122_ren) { Tryz.keys122 with } Fence.wide _ trivial rfl Bm w h1 h2
    refine Calls.mono ((callsIn_wide (n := 5)).1 (AnyZ.sorted_in Tryz.sorted88 Fence.wide 5 trivial trivial trivial trivial rfl (by omega) (Tryz.sortsIn _) (enters_of Tryz.func147 (by kernel_rfl) rfl) 172 #[.pointer (some ⟨Bm, 0, none⟩)] trivial (enters_of Tryz.func172 (by kernel_rfl) rfl) _ 0 (Nat.zero_le _) (by omega) w hseq)) fun e w' hR => ?_
    obtain ⟨v, ss, rfl, s1, s2, s3, s4⟩ := hR
    exact ⟨by rw [s3.2 s1], s4⟩
end Go.Proofs
namespace Go.AM
open Go Go.Proofs
noncomputable section
theorem mixed : Tryz.prog.follows .mixedOrders = true := by kernel_rfl
noncomputable def opsAt : Code → List Oper
  | .seq (.region _ ops _) _ => ops.toList
  | _ => []
noncomputable def idAt : Code → Nat
  | .seq (.region id _ _) _ => id
  | _ => 0
noncomputable def headOp : List Oper → Oper
  | o :: _ => o
  | [] => default
noncomputable def tsOf : Op → Array TypeId
  | .call c => c.argTypes
  | _ => #[]
def F0 : Prims := fun f => if f = 89 then some (keysP 148) else if f = 122 then some (keysP 172) else if f = 88 then some (orP (sortedP 172) (sortedP 148)) else none
theorem enters89 : Enters Tryz.prog 89 := ⟨_, _, Tryz.func89, rfl, by decide⟩
theorem enters122 : Enters Tryz.prog 122 := ⟨_, _, Tryz.func122, rfl, by decide⟩
theorem enters88 : Enters Tryz.prog 88 := ⟨_, _, Tryz.func88, rfl, by decide⟩
theorem F0_sound : PrimsSound Tryz.prog F0 := by
  intro f g hg args h K hK
  unfold F0 at hg
  split at hg
  · rename_i e; subst e; cases hg; exact keysP_sound enters89 Tryz.keysGiven89 args h K hK
  split at hg
  · rename_i e; subst e; cases hg; exact keysP_sound enters122 Tryz.keysGiven122 args h K hK
  split at hg
  · rename_i e; subst e; cases hg
    rcases orP_eq hK with hK | hK
    · exact sortedP_sound enters88 (by kernel_rfl) Tryz.sortedGiven122 args h K hK
    exact sortedP_sound enters88 (by kernel_rfl) Tryz.sortedGiven89 args h K hK
  · cases hg
noncomputable def defOps72 : List Oper := opsAt (codeOf Tryz.f72)
noncomputable def defCode72 : Code := partOf (codeOf Tryz.f72) [1]
def D0 : DPrims := fun f => if f = 72 then some (fun args pan h K => Nat.ble args.length 2 && deferP Tryz.prog 11 5 defOps72 defCode72 args pan h K) else none
theorem deferAt72 : DeferAt Tryz.prog 72 11 5 defOps72 defCode72 2 := ⟨⟨Tryz.f72, idAt (codeOf Tryz.f72), headOp defOps72, tsOf (headOp defOps72).op, Tryz.func72, by kernel_rfl, by kernel_rfl, by decide, by kernel_rfl, by decide, by decide, by kernel_rfl, by kernel_rfl, by kernel_rfl, by kernel_rfl⟩⟩
theorem D0_sound : DSound Tryz.prog D0 := by
  intro f g hg
  unfold D0 at hg
  split at hg
  · rename_i e; subst e; cases hg
    refine ⟨⟨_, _, Tryz.func72, rfl, by decide⟩, fun args pan h K hh w0 μ w vs pv h1 h2 h3 => ?_⟩
    simp only [Bool.and_eq_true] at hh
    exact (deferP_sound mixed deferAt72 (Nat.le_of_ble_eq_true hh.1) hh.2).2 w0 μ w vs pv h1 h2 h3
  cases hg
end
end Go.AM
/- What functions of the program do, as terms: printed by a program. Conditions: none. -/
namespace Go.AM
open Go Go.Proofs
set_option linter.unusedVariables false
noncomputable section
theorem F.ref01_letter_eq {a0 : AV} {h : Heap} {K : Out → Heap → Bool} : evalS Tryz.prog (semCall Tryz.prog) (codeOf Tryz.f163) ⟨mkEnv [a0], 17, [], h⟩ (leaveK Tryz.prog noD Tryz.f163.results.toList K) = (
bindO (binS .geq a0 (.int .u8 97)) fun x0 =>
condB x0 (
bindO (binS .leq a0 (.int .u8 122)) fun x1 =>
condB x1 (
K (.ret (.bool true)) h) (
bindO (binS .geq a0 (.int .u8 65)) fun x2 =>
condB x2 (
bindO (binS .leq a0 (.int .u8 90)) fun x3 =>
K (.ret x3) h) (
K (.ret (.bool false)) h))) (
bindO (binS .geq a0 (.int .u8 65)) fun x4 =>
condB x4 (
bindO (binS .leq a0 (.int .u8 90)) fun x5 =>
K (.ret x5) h) (
K (.ret (.bool false)) h))) := by kernel_rfl
theorem F.ref01_letter_sem {a0 : AV} {h : Heap} {K : Out → Heap → Bool} (hh : (
bindO (binS .geq a0 (.int .u8 97)) fun x0 =>
condB x0 (
bindO (binS .leq a0 (.int .u8 122)) fun x1 =>
condB x1 (
K (.ret (.bool true)) h) (
bindO (binS .geq a0 (.int .u8 65)) fun x2 =>
condB x2 (
bindO (binS .leq a0 (.int .u8 90)) fun x3 =>
K (.ret x3) h) (
K (.ret (.bool false)) h))) (
bindO (binS .geq a0 (.int .u8 65)) fun x4 =>
condB x4 (
bindO (binS .leq a0 (.int .u8 90)) fun x5 =>
K (.ret x5) h) (
K (.ret (.bool false)) h))) = true) : Sem Tryz.prog 163 [a0] h K :=
  sem_body mixed (noD_sound _) Tryz.func163 (c := codeOf Tryz.f163) rfl (by decide) (of_decide_eq_true (by kernel_rfl)) (F.ref01_letter_eq.trans hh)
theorem F.ref01_Word_eq {a0 : AV} {h : Heap} {K : Out → Heap → Bool} : evalS Tryz.prog (semCall Tryz.prog) (codeOf Tryz.f164) ⟨mkEnv [a0], 16, [], h⟩ (leaveK Tryz.prog noD Tryz.f164.results.toList K) = (
bindO (eqV .string a0 (.str [97, 110, 100])) fun x0 =>
condB x0 (
condB x0 (
K (.ret (.bool true)) h) (
K (.ret (.bool false)) h)) (
bindO (eqV .string a0 (.str [111, 114])) fun x1 =>
condB x1 (
condB x1 (
K (.ret (.bool true)) h) (
K (.ret (.bool false)) h)) (
bindO (eqV .string a0 (.str [110, 111, 116])) fun x2 =>
condB x2 (
condB x2 (
K (.ret (.bool true)) h) (
K (.ret (.bool false)) h)) (
bindO (eqV .string a0 (.str [115, 111, 109, 101])) fun x3 =>
condB x3 (
condB x3 (
K (.ret (.bool true)) h) (
K (.ret (.bool false)) h)) (
bindO (eqV .string a0 (.str [97, 108, 108])) fun x4 =>
condB x4 (
condB x4 (
K (.ret (.bool true)) h) (
K (.ret (.bool false)) h)) (
bindO (eqV .string a0 (.str [108, 102, 112])) fun x5 =>
condB x5 (
condB x5 (
K (.ret (.bool true)) h) (
K (.ret (.bool false)) h)) (
bindO (eqV .string a0 (.str [112, 102, 112])) fun x6 =>
condB x6 (
condB x6 (
K (.ret (.bool true)) h) (
K (.ret (.bool false)) h)) (
bindO (eqV .string a0 (.str [116, 99])) fun x7 =>
condB x7 (
condB x7 (
K (.ret (.bool true)) h) (
K (.ret (.bool false)) h)) (
bindO (eqV .string a0 (.str [101, 120, 105, 115, 116, 115])) fun x8 =>
condB x8 (
condB x8 (
K (.ret (.bool true)) h) (
K (.ret (.bool false)) h)) (
bindO (eqV .string a0 (.str [116, 114, 117, 101])) fun x9 =>
condB x9 (
condB x9 (
K (.ret (.bool true)) h) (
K (.ret (.bool false)) h)) (
bindO (eqV .string a0 (.str [102, 97, 108, 115, 101])) fun x10 =>
condB x10 (
K (.ret (.bool true)) h) (
K (.ret (.bool false)) h)))))))))))) := by kernel_rfl
theorem F.ref01_Word_sem {a0 : AV} {h : Heap} {K : Out → Heap → Bool} (hh : (
bindO (eqV .string a0 (.str [97, 110, 100])) fun x0 =>
condB x0 (
condB x0 (
K (.ret (.bool true)) h) (
K (.ret (.bool false)) h)) (
bindO (eqV .string a0 (.str [111, 114])) fun x1 =>
condB x1 (
condB x1 (
K (.ret (.bool true)) h) (
K (.ret (.bool false)) h)) (
bindO (eqV .string a0 (.str [110, 111, 116])) fun x2 =>
condB x2 (
condB x2 (
K (.ret (.bool true)) h) (
K (.ret (.bool false)) h)) (
bindO (eqV .string a0 (.str [115, 111, 109, 101])) fun x3 =>
condB x3 (
condB x3 (
K (.ret (.bool true)) h) (
K (.ret (.bool false)) h)) (
bindO (eqV .string a0 (.str [97, 108, 108])) fun x4 =>
condB x4 (
condB x4 (
K (.ret (.bool true)) h) (
K (.ret (.bool false)) h)) (
bindO (eqV .string a0 (.str [108, 102, 112])) fun x5 =>
condB x5 (
condB x5 (
K (.ret (.bool true)) h) (
K (.ret (.bool false)) h)) (
bindO (eqV .string a0 (.str [112, 102, 112])) fun x6 =>
condB x6 (
condB x6 (
K (.ret (.bool true)) h) (
K (.ret (.bool false)) h)) (
bindO (eqV .string a0 (.str [116, 99])) fun x7 =>
condB x7 (
condB x7 (
K (.ret (.bool true)) h) (
K (.ret (.bool false)) h)) (
bindO (eqV .string a0 (.str [101, 120, 105, 115, 116, 115])) fun x8 =>
condB x8 (
condB x8 (
K (.ret (.bool true)) h) (
K (.ret (.bool false)) h)) (
bindO (eqV .string a0 (.str [116, 114, 117, 101])) fun x9 =>
condB x9 (
condB x9 (
K (.ret (.bool true)) h) (
K (.ret (.bool false)) h)) (
bindO (eqV .string a0 (.str [102, 97, 108, 115, 101])) fun x10 =>
condB x10 (
K (.ret (.bool true)) h) (
K (.ret (.bool false)) h)))))))))))) = true) : Sem Tryz.prog 164 [a0] h K :=
  sem_body mixed (noD_sound _) Tryz.func164 (c := codeOf Tryz.f164) rfl (by decide) (of_decide_eq_true (by kernel_rfl)) (F.ref01_Word_eq.trans hh)
theorem F.ref01_digit_eq {a0 : AV} {h : Heap} {K : Out → Heap → Bool} : evalS Tryz.prog (semCall Tryz.prog) (codeOf Tryz.f165) ⟨mkEnv [a0], 9, [], h⟩ (leaveK Tryz.prog noD Tryz.f165.results.toList K) = (
bindO (binS .geq a0 (.int .u8 48)) fun x0 =>
condB x0 (
bindO (binS .leq a0 (.int .u8 57)) fun x1 =>
K (.ret x1) h) (
K (.ret (.bool false)) h)) := by kernel_rfl
theorem F.ref01_digit_sem {a0 : AV} {h : Heap} {K : Out → Heap → Bool} (hh : (
bindO (binS .geq a0 (.int .u8 48)) fun x0 =>
condB x0 (
bindO (binS .leq a0 (.int .u8 57)) fun x1 =>
K (.ret x1) h) (
K (.ret (.bool false)) h)) = true) : Sem Tryz.prog 165 [a0] h K :=
  sem_body mixed (noD_sound _) Tryz.func165 (c := codeOf Tryz.f165) rfl (by decide) (of_decide_eq_true (by kernel_rfl)) (F.ref01_digit_eq.trans hh)
noncomputable def F.ref01_Name.L0 : Code := partOf (codeOf Tryz.f107) [1, 1, 0, 1, 0, 0]
noncomputable def F.ref01_Name.L0k (K : Out → Heap → Bool) : AX → St → Bool := (blockK 0 (seqK false (evalS Tryz.prog (semCall Tryz.prog) (partOf (codeOf Tryz.f107) [1, 1, 1])) (leaveK Tryz.prog noD Tryz.f107.results.toList K)))
theorem F.ref01_Name.L0_eq {e : Env} {h : Heap} {K : AX → St → Bool} : evalS Tryz.prog (semCall Tryz.prog) F.ref01_Name.L0 ⟨e, 40, [], h⟩ K = (
bindO (lenS .str (e 0) h) fun x14 =>
bindO (binS .lss (e 3) x14) fun x15 =>
condB x15 (
bindO (strIdxS (e 0) (e 3)) fun x16 =>
semCall Tryz.prog 163 [x16] h (outK (fun x17 h18 =>
bindO (unS .not x17) fun x21 =>
condB x21 (
bindO (strIdxS (e 0) (e 3)) fun x22 =>
semCall Tryz.prog 165 [x22] h18 (outK (fun x23 h24 =>
bindO (unS .not x23) fun x27 =>
condB x27 (
K .ret ⟨(setV (setV (setV (setV (setV (setV (setV (setV (setV (setV (setV (setV (setV (setV (setV (setV (setV (setV (setV (setV (setV (setV e 22 (e 3)) 23 (e 0)) 24 x14) 25 x15) 28 (e 0)) 29 (e 3)) 30 x16) 31 x17) 32 x21) 33 x21) 33 (.bool true)) 34 (e 0)) 33 (.bool true)) 35 (e 3)) 33 (.bool true)) 36 x22) 33 (.bool true)) 37 x23) 33 (.bool true)) 38 x27) 39 x27) 2 (.bool false)), 40, [], h24⟩) (
bindO (binS .add (e 3) (.int .i64 1)) fun x28 =>
K .normal ⟨(setV (setV (setV (setV (setV (setV (setV (setV (setV (setV (setV (setV (setV (setV (setV (setV (setV (setV (setV (setV (setV (setV (setV (setV e 22 (e 3)) 23 (e 0)) 24 x14) 25 x15) 28 (e 0)) 29 (e 3)) 30 x16) 31 x17) 32 x21) 33 x21) 33 (.bool true)) 34 (e 0)) 33 (.bool true)) 35 (e 3)) 33 (.bool true)) 36 x22) 33 (.bool true)) 37 x23) 33 (.bool true)) 38 x27) 39 x27) 26 (e 3)) 27 x28) 3 x28), 40, [], h24⟩)) (fun v25 h26 => K (.panic v25) ⟨(setV (setV (setV (setV (setV (setV (setV (setV (setV (setV (setV (setV (setV (setV (setV (setV (setV e 22 (e 3)) 23 (e 0)) 24 x14) 25 x15) 28 (e 0)) 29 (e 3)) 30 x16) 31 x17) 32 x21) 33 x21) 33 (.bool true)) 34 (e 0)) 33 (.bool true)) 35 (e 3)) 33 (.bool true)) 36 x22) 33 (.bool true)), 40, [], h26⟩))) (
bindO (binS .add (e 3) (.int .i64 1)) fun x29 =>
K .normal ⟨(setV (setV (setV (setV (setV (setV (setV (setV (setV (setV (setV (setV (setV (setV (setV (setV (setV (setV (setV (setV (setV (setV (setV (setV e 22 (e 3)) 23 (e 0)) 24 x14) 25 x15) 28 (e 0)) 29 (e 3)) 30 x16) 31 x17) 32 x21) 33 x21) 33 (.bool false)) 34 noV) 33 (.bool false)) 35 noV) 33 (.bool false)) 36 noV) 33 (.bool false)) 37 noV) 33 (.bool false)) 38 noV) 39 (.bool false)) 26 (e 3)) 27 x29) 3 x29), 40, [], h18⟩)) (fun v19 h20 => K (.panic v19) ⟨(setV (setV (setV (setV (setV (setV (setV e 22 (e 3)) 23 (e 0)) 24 x14) 25 x15) 28 (e 0)) 29 (e 3)) 30 x16), 40, [], h20⟩))) (
K (.exit 0) ⟨(setV (setV (setV (setV e 22 (e 3)) 23 (e 0)) 24 x14) 25 x15), 40, [], h⟩)) := by kernel_rfl
theorem F.ref01_Name.L0_x0_eq {e : Env} {h : Heap} {K : Out → Heap → Bool} : F.ref01_Name.L0k K (.exit 0) ⟨e, 40, [], h⟩ = (
K (.ret (.bool true)) h) := by kernel_rfl
theorem F.ref01_Name.L0_r_eq {e : Env} {h : Heap} {K : Out → Heap → Bool} : F.ref01_Name.L0k K .ret ⟨e, 40, [], h⟩ = (
K (.ret (e 2)) h) := by kernel_rfl
theorem F.ref01_Name_eq {a0 : AV} {h : Heap} {K : Out → Heap → Bool} : evalS Tryz.prog (semCall Tryz.prog) (codeOf Tryz.f107) ⟨mkEnv [a0], 40, [], h⟩ (leaveK Tryz.prog noD Tryz.f107.results.toList K) = (
bindO (lenS .str a0 h) fun x0 =>
bindO (binS .lss x0 (.int .i64 1)) fun x1 =>
condB x1 (
K (.ret (.bool false)) h) (
bindO (lenS .str a0 h) fun x2 =>
bindO (binS .gtr x2 (.int .i64 12)) fun x3 =>
condB x3 (
K (.ret (.bool false)) h) (
bindO (strIdxS a0 (.int .i64 0)) fun x4 =>
semCall Tryz.prog 163 [x4] h (outK (fun x5 h6 =>
bindO (unS .not x5) fun x9 =>
condB x9 (
K (.ret (.bool false)) h6) (
semCall Tryz.prog 164 [a0] h6 (outK (fun x10 h11 =>
condB x10 (
K (.ret (.bool false)) h11) (
loopB (evalS Tryz.prog (semCall Tryz.prog) F.ref01_Name.L0) ⟨(setV (setV (setV (setV (setV (setV (setV (setV (setV (setV (setV (setV (setV (setV (setV (setV (setV (setV (setV (setV (setV (setV (setV (setV (setV (setV (setV (setV (setV (mkEnv [a0]) 2 (.bool false)) 4 a0) 5 x0) 6 x1) 7 x1) 7 (.bool false)) 8 a0) 7 (.bool false)) 9 x2) 7 (.bool false)) 10 x3) 11 x3) 12 x3) 12 (.bool false)) 13 a0) 12 (.bool false)) 14 x4) 12 (.bool false)) 15 x5) 12 (.bool false)) 16 x9) 17 x9) 18 x9) 18 (.bool false)) 19 a0) 18 (.bool false)) 20 x10) 21 x10) 3 (.int .i64 1)), 40, [], h11⟩ (F.ref01_Name.L0k K))) (fun v12 h13 => K (.panic v12) h13)))) (fun v7 h8 => K (.panic v7) h8))))) := by kernel_rfl
theorem F.ref01_Name_sem {a0 : AV} {h : Heap} {K : Out → Heap → Bool} (hh : (
bindO (lenS .str a0 h) fun x0 =>
bindO (binS .lss x0 (.int .i64 1)) fun x1 =>
condB x1 (
K (.ret (.bool false)) h) (
bindO (lenS .str a0 h) fun x2 =>
bindO (binS .gtr x2 (.int .i64 12)) fun x3 =>
condB x3 (
K (.ret (.bool false)) h) (
bindO (strIdxS a0 (.int .i64 0)) fun x4 =>
semCall Tryz.prog 163 [x4] h (outK (fun x5 h6 =>
bindO (unS .not x5) fun x9 =>
condB x9 (
K (.ret (.bool false)) h6) (
semCall Tryz.prog 164 [a0] h6 (outK (fun x10 h11 =>
condB x10 (
K (.ret (.bool false)) h11) (
loopB (evalS Tryz.prog (semCall Tryz.prog) F.ref01_Name.L0) ⟨(setV (setV (setV (setV (setV (setV (setV (setV (setV (setV (setV (setV (setV (setV (setV (setV (setV (setV (setV (setV (setV (setV (setV (setV (setV (setV (setV (setV (setV (mkEnv [a0]) 2 (.bool false)) 4 a0) 5 x0) 6 x1) 7 x1) 7 (.bool false)) 8 a0) 7 (.bool false)) 9 x2) 7 (.bool false)) 10 x3) 11 x3) 12 x3) 12 (.bool false)) 13 a0) 12 (.bool false)) 14 x4) 12 (.bool false)) 15 x5) 12 (.bool false)) 16 x9) 17 x9) 18 x9) 18 (.bool false)) 19 a0) 18 (.bool false)) 20 x10) 21 x10) 3 (.int .i64 1)), 40, [], h11⟩ (F.ref01_Name.L0k K))) (fun v12 h13 => K (.panic v12) h13)))) (fun v7 h8 => K (.panic v7) h8))))) = true) : Sem Tryz.prog 107 [a0] h K :=
  sem_body mixed (noD_sound _) Tryz.func107 (c := codeOf Tryz.f107) rfl (by decide) (of_decide_eq_true (by kernel_rfl)) (F.ref01_Name_eq.trans hh)
noncomputable def F.ref01_In.L0 : Code := partOf (codeOf Tryz.f108) [1, 0, 1, 0, 0]
noncomputable def F.ref01_In.L0k (K : Out → Heap → Bool) : AX → St → Bool := (blockK 0 (seqK false (evalS Tryz.prog (semCall Tryz.prog) (partOf (codeOf Tryz.f108) [1, 1])) (leaveK Tryz.prog noD Tryz.f108.results.toList K)))
theorem F.ref01_In.L0_eq {e : Env} {h : Heap} {K : AX → St → Bool} : evalS Tryz.prog (semCall Tryz.prog) F.ref01_In.L0 ⟨e, 25, [], h⟩ K = (
bindO (lenS .slice (e 1) h) fun x0 =>
bindO (binS .lss (e 5) x0) fun x1 =>
condB x1 (
bindO (iaS 1 (e 1) (e 5)) fun x2 =>
bindO (loadS none x2 h) fun x3 =>
bindO (binS .lss x3 (.int .i64 0)) fun x4 =>
condB x4 (
K .ret ⟨(setV (setV (setV (setV (setV (setV (setV (setV (setV (setV (setV (setV (setV (setV (setV (setV (setV (setV (setV (setV (setV (setV (setV (setV e 6 (e 5)) 7 (e 1)) 8 x0) 9 x1) 12 (e 1)) 13 (e 5)) 14 x2) 15 x3) 16 x4) 17 x4) 17 (.bool true)) 18 noV) 17 (.bool true)) 19 noV) 17 (.bool true)) 20 noV) 17 (.bool true)) 21 noV) 17 (.bool true)) 22 noV) 17 (.bool true)) 23 noV) 24 (.bool true)) 4 (.bool false)), 25, [], h⟩) (
bindO (iaS 1 (e 1) (e 5)) fun x5 =>
bindO (loadS none x5 h) fun x6 =>
bindO (binS .geq x6 (e 0)) fun x7 =>
condB x7 (
K .ret ⟨(setV (setV (setV (setV (setV (setV (setV (setV (setV (setV (setV (setV (setV (setV (setV (setV (setV (setV (setV (setV (setV (setV (setV (setV e 6 (e 5)) 7 (e 1)) 8 x0) 9 x1) 12 (e 1)) 13 (e 5)) 14 x2) 15 x3) 16 x4) 17 x4) 17 (.bool false)) 18 (e 1)) 17 (.bool false)) 19 (e 5)) 17 (.bool false)) 20 x5) 17 (.bool false)) 21 x6) 17 (.bool false)) 22 (e 0)) 17 (.bool false)) 23 x7) 24 x7) 4 (.bool false)), 25, [], h⟩) (
bindO (binS .add (e 5) (.int .i64 1)) fun x8 =>
K .normal ⟨(setV (setV (setV (setV (setV (setV (setV (setV (setV (setV (setV (setV (setV (setV (setV (setV (setV (setV (setV (setV (setV (setV (setV (setV (setV (setV e 6 (e 5)) 7 (e 1)) 8 x0) 9 x1) 12 (e 1)) 13 (e 5)) 14 x2) 15 x3) 16 x4) 17 x4) 17 (.bool false)) 18 (e 1)) 17 (.bool false)) 19 (e 5)) 17 (.bool false)) 20 x5) 17 (.bool false)) 21 x6) 17 (.bool false)) 22 (e 0)) 17 (.bool false)) 23 x7) 24 x7) 10 (e 5)) 11 x8) 5 x8), 25, [], h⟩))) (
K (.exit 0) ⟨(setV (setV (setV (setV e 6 (e 5)) 7 (e 1)) 8 x0) 9 x1), 25, [], h⟩)) := by kernel_rfl
theorem F.ref01_In.L0_x0_eq {e : Env} {h : Heap} {K : Out → Heap → Bool} : F.ref01_In.L0k K (.exit 0) ⟨e, 25, [], h⟩ = (
K (.ret (.bool true)) h) := by kernel_rfl
theorem F.ref01_In.L0_r_eq {e : Env} {h : Heap} {K : Out → Heap → Bool} : F.ref01_In.L0k K .ret ⟨e, 25, [], h⟩ = (
K (.ret (e 4)) h) := by kernel_rfl
theorem F.ref01_In_eq {a0 a1 : AV} {h : Heap} {K : Out → Heap → Bool} : evalS Tryz.prog (semCall Tryz.prog) (codeOf Tryz.f108) ⟨mkEnv [a0, a1], 25, [], h⟩ (leaveK Tryz.prog noD Tryz.f108.results.toList K) = (
loopB (evalS Tryz.prog (semCall Tryz.prog) F.ref01_In.L0) ⟨(setV (setV (mkEnv [a0, a1]) 4 (.bool false)) 5 (.int .i64 0)), 25, [], h⟩ (F.ref01_In.L0k K)) := by kernel_rfl
theorem F.ref01_In_sem {a0 a1 : AV} {h : Heap} {K : Out → Heap → Bool} (hh : (
loopB (evalS Tryz.prog (semCall Tryz.prog) F.ref01_In.L0) ⟨(setV (setV (mkEnv [a0, a1]) 4 (.bool false)) 5 (.int .i64 0)), 25, [], h⟩ (F.ref01_In.L0k K)) = true) : Sem Tryz.prog 108 [a0, a1] h K :=
  sem_body mixed (noD_sound _) Tryz.func108 (c := codeOf Tryz.f108) rfl (by decide) (of_decide_eq_true (by kernel_rfl)) (F.ref01_In_eq.trans hh)
theorem F.shape_letter_eq {a0 : AV} {h : Heap} {K : Out → Heap → Bool} : evalS Tryz.prog (semCall Tryz.prog) (codeOf Tryz.f191) ⟨mkEnv [a0], 17, [], h⟩ (leaveK Tryz.prog noD Tryz.f191.results.toList K) = (
bindO (binS .geq a0 (.int .u8 97)) fun x0 =>
condB x0 (
bindO (binS .leq a0 (.int .u8 122)) fun x1 =>
condB x1 (
K (.ret (.bool true)) h) (
bindO (binS .geq a0 (.int .u8 65)) fun x2 =>
condB x2 (
bindO (binS .leq a0 (.int .u8 90)) fun x3 =>
K (.ret x3) h) (
K (.ret (.bool false)) h))) (
bindO (binS .geq a0 (.int .u8 65)) fun x4 =>
condB x4 (
bindO (binS .leq a0 (.int .u8 90)) fun x5 =>
K (.ret x5) h) (
K (.ret (.bool false)) h))) := by kernel_rfl
theorem F.shape_letter_sem {a0 : AV} {h : Heap} {K : Out → Heap → Bool} (hh : (
bindO (binS .geq a0 (.int .u8 97)) fun x0 =>
condB x0 (
bindO (binS .leq a0 (.int .u8 122)) fun x1 =>
condB x1 (
K (.ret (.bool true)) h) (
bindO (binS .geq a0 (.int .u8 65)) fun x2 =>
condB x2 (
bindO (binS .leq a0 (.int .u8 90)) fun x3 =>
K (.ret x3) h) (
K (.ret (.bool false)) h))) (
bindO (binS .geq a0 (.int .u8 65)) fun x4 =>
condB x4 (
bindO (binS .leq a0 (.int .u8 90)) fun x5 =>
K (.ret x5) h) (
K (.ret (.bool false)) h))) = true) : Sem Tryz.prog 191 [a0] h K :=
  sem_body mixed (noD_sound _) Tryz.func191 (c := codeOf Tryz.f191) rfl (by decide) (of_decide_eq_true (by kernel_rfl)) (F.shape_letter_eq.trans hh)
theorem F.shape_word_eq {a0 : AV} {h : Heap} {K : Out → Heap → Bool} : evalS Tryz.prog (semCall Tryz.prog) (codeOf Tryz.f192) ⟨mkEnv [a0], 16, [], h⟩ (leaveK Tryz.prog noD Tryz.f192.results.toList K) = (
bindO (eqV .string a0 (.str [97, 110, 100])) fun x0 =>
condB x0 (
condB x0 (
K (.ret (.bool true)) h) (
K (.ret (.bool false)) h)) (
bindO (eqV .string a0 (.str [111, 114])) fun x1 =>
condB x1 (
condB x1 (
K (.ret (.bool true)) h) (
K (.ret (.bool false)) h)) (
bindO (eqV .string a0 (.str [110, 111, 116])) fun x2 =>
condB x2 (
condB x2 (
K (.ret (.bool true)) h) (
K (.ret (.bool false)) h)) (
bindO (eqV .string a0 (.str [115, 111, 109, 101])) fun x3 =>
condB x3 (
condB x3 (
K (.ret (.bool true)) h) (
K (.ret (.bool false)) h)) (
bindO (eqV .string a0 (.str [97, 108, 108])) fun x4 =>
condB x4 (
condB x4 (
K (.ret (.bool true)) h) (
K (.ret (.bool false)) h)) (
bindO (eqV .string a0 (.str [108, 102, 112])) fun x5 =>
condB x5 (
condB x5 (
K (.ret (.bool true)) h) (
K (.ret (.bool false)) h)) (
bindO (eqV .string a0 (.str [112, 102, 112])) fun x6 =>
condB x6 (
condB x6 (
K (.ret (.bool true)) h) (
K (.ret (.bool false)) h)) (
bindO (eqV .string a0 (.str [116, 99])) fun x7 =>
condB x7 (
condB x7 (
K (.ret (.bool true)) h) (
K (.ret (.bool false)) h)) (
bindO (eqV .string a0 (.str [101, 120, 105, 115, 116, 115])) fun x8 =>
condB x8 (
condB x8 (
K (.ret (.bool true)) h) (
K (.ret (.bool false)) h)) (
bindO (eqV .string a0 (.str [116, 114, 117, 101])) fun x9 =>
condB x9 (
condB x9 (
K (.ret (.bool true)) h) (
K (.ret (.bool false)) h)) (
bindO (eqV .string a0 (.str [102, 97, 108, 115, 101])) fun x10 =>
condB x10 (
K (.ret (.bool true)) h) (
K (.ret (.bool false)) h)))))))))))) := by kernel_rfl
theorem F.shape_word_sem {a0 : AV} {h : Heap} {K : Out → Heap → Bool} (hh : (
bindO (eqV .string a0 (.str [97, 110, 100])) fun x0 =>
condB x0 (
condB x0 (
K (.ret (.bool true)) h) (
K (.ret (.bool false)) h)) (
bindO (eqV .string a0 (.str [111, 114])) fun x1 =>
condB x1 (
condB x1 (
K (.ret (.bool true)) h) (
K (.ret (.bool false)) h)) (
bindO (eqV .string a0 (.str [110, 111, 116])) fun x2 =>
condB x2 (
condB x2 (
K (.ret (.bool true)) h) (
K (.ret (.bool false)) h)) (
bindO (eqV .string a0 (.str [115, 111, 109, 101])) fun x3 =>
condB x3 (
condB x3 (
K (.ret (.bool true)) h) (
K (.ret (.bool false)) h)) (
bindO (eqV .string a0 (.str [97, 108, 108])) fun x4 =>
condB x4 (
condB x4 (
K (.ret (.bool true)) h) (
K (.ret (.bool false)) h)) (
bindO (eqV .string a0 (.str [108, 102, 112])) fun x5 =>
condB x5 (
condB x5 (
K (.ret (.bool true)) h) (
K (.ret (.bool false)) h)) (
bindO (eqV .string a0 (.str [112, 102, 112])) fun x6 =>
condB x6 (
condB x6 (
K (.ret (.bool true)) h) (
K (.ret (.bool false)) h)) (
bindO (eqV .string a0 (.str [116, 99])) fun x7 =>
condB x7 (
condB x7 (
K (.ret (.bool true)) h) (
K (.ret (.bool false)) h)) (
bindO (eqV .string a0 (.str [101, 120, 105, 115, 116, 115])) fun x8 =>
condB x8 (
condB x8 (
K (.ret (.bool true)) h) (
K (.ret (.bool false)) h)) (
bindO (eqV .string a0 (.str [116, 114, 117, 101])) fun x9 =>
condB x9 (
condB x9 (
K (.ret (.bool true)) h) (
K (.ret (.bool false)) h)) (
bindO (eqV .string a0 (.str [102, 97, 108, 115, 101])) fun x10 =>
condB x10 (
K (.ret (.bool true)) h) (
K (.ret (.bool false)) h)))))))))))) = true) : Sem Tryz.prog 192 [a0] h K :=
  sem_body mixed (noD_sound _) Tryz.func192 (c := codeOf Tryz.f192) rfl (by decide) (of_decide_eq_true (by kernel_rfl)) (F.shape_word_eq.trans hh)
theorem F.shape_digit_eq {a0 : AV} {h : Heap} {K : Out → Heap → Bool} : evalS Tryz.prog (semCall Tryz.prog) (codeOf Tryz.f193) ⟨mkEnv [a0], 9, [], h⟩ (leaveK Tryz.prog noD Tryz.f193.results.toList K) = (
bindO (binS .geq a0 (.int .u8 48)) fun x0 =>
condB x0 (
bindO (binS .leq a0 (.int .u8 57)) fun x1 =>
K (.ret x1) h) (
K (.ret (.bool false)) h)) := by kernel_rfl
theorem F.shape_digit_sem {a0 : AV} {h : Heap} {K : Out → Heap → Bool} (hh : (
bindO (binS .geq a0 (.int .u8 48)) fun x0 =>
condB x0 (
bindO (binS .leq a0 (.int .u8 57)) fun x1 =>
K (.ret x1) h) (
K (.ret (.bool false)) h)) = true) : Sem Tryz.prog 193 [a0] h K :=
  sem_body mixed (noD_sound _) Tryz.func193 (c := codeOf Tryz.f193) rfl (by decide) (of_decide_eq_true (by kernel_rfl)) (F.shape_digit_eq.trans hh)
noncomputable def F.shape_Name.L0 : Code := partOf (codeOf Tryz.f152) [1, 1, 0, 1, 0, 0]
noncomputable def F.shape_Name.L0k (K : Out → Heap → Bool) : AX → St → Bool := (blockK 0 (seqK false (evalS Tryz.prog (semCall Tryz.prog) (partOf (codeOf Tryz.f152) [1, 1, 1])) (leaveK Tryz.prog noD Tryz.f152.results.toList K)))
theorem F.shape_Name.L0_eq {e : Env} {h : Heap} {K : AX → St → Bool} : evalS Tryz.prog (semCall Tryz.prog) F.shape_Name.L0 ⟨e, 39, [], h⟩ K = (
bindO (binS .lss (e 23) (e 22)) fun x14 =>
condB x14 (
bindO (strIdxS (e 0) (e 23)) fun x15 =>
semCall Tryz.prog 191 [x15] h (outK (fun x16 h17 =>
bindO (unS .not x16) fun x20 =>
condB x20 (
bindO (strIdxS (e 0) (e 23)) fun x21 =>
semCall Tryz.prog 193 [x21] h17 (outK (fun x22 h23 =>
bindO (unS .not x22) fun x26 =>
condB x26 (
K .ret ⟨(setV (setV (setV (setV (setV (setV (setV (setV (setV (setV (setV (setV (setV (setV (setV (setV (setV (setV (setV (setV (setV e 24 x14) 25 (e 23)) 3 (e 23)) 26 (e 0)) 27 (e 23)) 28 x15) 29 x16) 30 x20) 31 x20) 31 (.bool true)) 32 (e 0)) 31 (.bool true)) 33 (e 23)) 31 (.bool true)) 34 x21) 31 (.bool true)) 35 x22) 31 (.bool true)) 36 x26) 37 x26) 2 (.bool false)), 39, [], h23⟩) (
bindO (binS .add (e 23) (.int .i64 1)) fun x27 =>
K .normal ⟨(setV (setV (setV (setV (setV (setV (setV (setV (setV (setV (setV (setV (setV (setV (setV (setV (setV (setV (setV (setV (setV (setV e 24 x14) 25 (e 23)) 3 (e 23)) 26 (e 0)) 27 (e 23)) 28 x15) 29 x16) 30 x20) 31 x20) 31 (.bool true)) 32 (e 0)) 31 (.bool true)) 33 (e 23)) 31 (.bool true)) 34 x21) 31 (.bool true)) 35 x22) 31 (.bool true)) 36 x26) 37 x26) 38 x27) 23 x27), 39, [], h23⟩)) (fun v24 h25 => K (.panic v24) ⟨(setV (setV (setV (setV (setV (setV (setV (setV (setV (setV (setV (setV (setV (setV (setV (setV e 24 x14) 25 (e 23)) 3 (e 23)) 26 (e 0)) 27 (e 23)) 28 x15) 29 x16) 30 x20) 31 x20) 31 (.bool true)) 32 (e 0)) 31 (.bool true)) 33 (e 23)) 31 (.bool true)) 34 x21) 31 (.bool true)), 39, [], h25⟩))) (
bindO (binS .add (e 23) (.int .i64 1)) fun x28 =>
K .normal ⟨(setV (setV (setV (setV (setV (setV (setV (setV (setV (setV (setV (setV (setV (setV (setV (setV (setV (setV (setV (setV (setV (setV e 24 x14) 25 (e 23)) 3 (e 23)) 26 (e 0)) 27 (e 23)) 28 x15) 29 x16) 30 x20) 31 x20) 31 (.bool false)) 32 noV) 31 (.bool false)) 33 noV) 31 (.bool false)) 34 noV) 31 (.bool false)) 35 noV) 31 (.bool false)) 36 noV) 37 (.bool false)) 38 x28) 23 x28), 39, [], h17⟩)) (fun v18 h19 => K (.panic v18) ⟨(setV (setV (setV (setV (setV (setV e 24 x14) 25 (e 23)) 3 (e 23)) 26 (e 0)) 27 (e 23)) 28 x15), 39, [], h19⟩))) (
K (.exit 0) ⟨(setV e 24 x14), 39, [], h⟩)) := by kernel_rfl
theorem F.shape_Name.L0_x0_eq {e : Env} {h : Heap} {K : Out → Heap → Bool} : F.shape_Name.L0k K (.exit 0) ⟨e, 39, [], h⟩ = (
K (.ret (.bool true)) h) := by kernel_rfl
theorem F.shape_Name.L0_r_eq {e : Env} {h : Heap} {K : Out → Heap → Bool} : F.shape_Name.L0k K .ret ⟨e, 39, [], h⟩ = (
K (.ret (e 2)) h) := by kernel_rfl
theorem F.shape_Name_eq {a0 : AV} {h : Heap} {K : Out → Heap → Bool} : evalS Tryz.prog (semCall Tryz.prog) (codeOf Tryz.f152) ⟨mkEnv [a0], 39, [], h⟩ (leaveK Tryz.prog noD Tryz.f152.results.toList K) = (
bindO (eqV .string a0 (.str [])) fun x0 =>
condB x0 (
K (.ret (.bool false)) h) (
bindO (lenS .str a0 h) fun x1 =>
bindO (binS .gtr x1 (.int .i64 12)) fun x2 =>
condB x2 (
K (.ret (.bool false)) h) (
bindO (strIdxS a0 (.int .i64 0)) fun x3 =>
semCall Tryz.prog 191 [x3] h (outK (fun x4 h5 =>
bindO (unS .not x4) fun x8 =>
condB x8 (
K (.ret (.bool false)) h5) (
semCall Tryz.prog 192 [a0] h5 (outK (fun x9 h10 =>
condB x9 (
K (.ret (.bool false)) h10) (
bindO (lenS .str a0 h10) fun x13 =>
loopB (evalS Tryz.prog (semCall Tryz.prog) F.shape_Name.L0) ⟨(setV (setV (setV (setV (setV (setV (setV (setV (setV (setV (setV (setV (setV (setV (setV (setV (setV (setV (setV (setV (setV (setV (setV (setV (setV (setV (setV (setV (setV (setV (mkEnv [a0]) 2 (.bool false)) 4 a0) 5 x0) 6 x0) 6 (.bool false)) 7 a0) 6 (.bool false)) 8 x1) 6 (.bool false)) 9 x2) 10 x2) 11 x2) 11 (.bool false)) 12 a0) 11 (.bool false)) 13 x3) 11 (.bool false)) 14 x4) 11 (.bool false)) 15 x8) 16 x8) 17 x8) 17 (.bool false)) 18 a0) 17 (.bool false)) 19 x9) 20 x9) 21 a0) 22 x13) 23 (.int .i64 0)), 39, [], h10⟩ (F.shape_Name.L0k K))) (fun v11 h12 => K (.panic v11) h12)))) (fun v6 h7 => K (.panic v6) h7))))) := by kernel_rfl
theorem F.shape_Name_sem {a0 : AV} {h : Heap} {K : Out → Heap → Bool} (hh : (
bindO (eqV .string a0 (.str [])) fun x0 =>
condB x0 (
K (.ret (.bool false)) h) (
bindO (lenS .str a0 h) fun x1 =>
bindO (binS .gtr x1 (.int .i64 12)) fun x2 =>
condB x2 (
K (.ret (.bool false)) h) (
bindO (strIdxS a0 (.int .i64 0)) fun x3 =>
semCall Tryz.prog 191 [x3] h (outK (fun x4 h5 =>
bindO (unS .not x4) fun x8 =>
condB x8 (
K (.ret (.bool false)) h5) (
semCall Tryz.prog 192 [a0] h5 (outK (fun x9 h10 =>
condB x9 (
K (.ret (.bool false)) h10) (
bindO (lenS .str a0 h10) fun x13 =>
loopB (evalS Tryz.prog (semCall Tryz.prog) F.shape_Name.L0) ⟨(setV (setV (setV (setV (setV (setV (setV (setV (setV (setV (setV (setV (setV (setV (setV (setV (setV (setV (setV (setV (setV (setV (setV (setV (setV (setV (setV (setV (setV (setV (mkEnv [a0]) 2 (.bool false)) 4 a0) 5 x0) 6 x0) 6 (.bool false)) 7 a0) 6 (.bool false)) 8 x1) 6 (.bool false)) 9 x2) 10 x2) 11 x2) 11 (.bool false)) 12 a0) 11 (.bool false)) 13 x3) 11 (.bool false)) 14 x4) 11 (.bool false)) 15 x8) 16 x8) 17 x8) 17 (.bool false)) 18 a0) 17 (.bool false)) 19 x9) 20 x9) 21 a0) 22 x13) 23 (.int .i64 0)), 39, [], h10⟩ (F.shape_Name.L0k K))) (fun v11 h12 => K (.panic v11) h12)))) (fun v6 h7 => K (.panic v6) h7))))) = true) : Sem Tryz.prog 152 [a0] h K :=
  sem_body mixed (noD_sound _) Tryz.func152 (c := codeOf Tryz.f152) rfl (by decide) (of_decide_eq_true (by kernel_rfl)) (F.shape_Name_eq.trans hh)
noncomputable def F.slices_IndexFunc_S_int_int.L0 : Code := partOf (codeOf Tryz.f168) [1, 0, 1, 0, 0]
noncomputable def F.slices_IndexFunc_S_int_int.L0k (K : Out → Heap → Bool) : AX → St → Bool := (blockK 0 (seqK false (evalS Tryz.prog (semCall Tryz.prog) (partOf (codeOf Tryz.f168) [1, 1])) (leaveK Tryz.prog noD Tryz.f168.results.toList K)))
theorem F.slices_IndexFunc_S_int_int.L0_eq {e : Env} {h : Heap} {K : AX → St → Bool} : evalS Tryz.prog (semCall Tryz.prog) F.slices_IndexFunc_S_int_int.L0 ⟨e, 19, [], h⟩ K = (
bindO (binS .lss (e 8) (e 7)) fun x1 =>
condB x1 (
bindO (iaS 1 (e 0) (e 8)) fun x2 =>
bindO (loadS none x2 h) fun x3 =>
callV (e 1) fun f9 a10 a11 => semCall Tryz.prog f9 (a10 ++ ([x3] ++ a11)) h (outK (fun x4 h5 =>
condB x4 (
K .ret ⟨(setV (setV (setV (setV (setV (setV (setV (setV (setV (setV (setV e 9 x1) 10 (e 8)) 5 (e 8)) 11 (e 1)) 12 (e 0)) 13 (e 8)) 14 x2) 15 x3) 16 x4) 17 (e 8)) 4 (e 8)), 19, [], h5⟩) (
bindO (binS .add (e 8) (.int .i64 1)) fun x8 =>
K .normal ⟨(setV (setV (setV (setV (setV (setV (setV (setV (setV (setV (setV e 9 x1) 10 (e 8)) 5 (e 8)) 11 (e 1)) 12 (e 0)) 13 (e 8)) 14 x2) 15 x3) 16 x4) 18 x8) 8 x8), 19, [], h5⟩)) (fun v6 h7 => K (.panic v6) ⟨(setV (setV (setV (setV (setV (setV (setV (setV e 9 x1) 10 (e 8)) 5 (e 8)) 11 (e 1)) 12 (e 0)) 13 (e 8)) 14 x2) 15 x3), 19, [], h7⟩))) (
K (.exit 0) ⟨(setV e 9 x1), 19, [], h⟩)) := by kernel_rfl
theorem F.slices_IndexFunc_S_int_int.L0_x0_eq {e : Env} {h : Heap} {K : Out → Heap → Bool} : F.slices_IndexFunc_S_int_int.L0k K (.exit 0) ⟨e, 19, [], h⟩ = (
K (.ret (.int .i64 (-1))) h) := by kernel_rfl
theorem F.slices_IndexFunc_S_int_int.L0_r_eq {e : Env} {h : Heap} {K : Out → Heap → Bool} : F.slices_IndexFunc_S_int_int.L0k K .ret ⟨e, 19, [], h⟩ = (
K (.ret (e 4)) h) := by kernel_rfl
theorem F.slices_IndexFunc_S_int_int_eq {a0 a1 : AV} {h : Heap} {K : Out → Heap → Bool} : evalS Tryz.prog (semCall Tryz.prog) (codeOf Tryz.f168) ⟨mkEnv [a0, a1], 19, [], h⟩ (leaveK Tryz.prog noD Tryz.f168.results.toList K) = (
bindO (lenS .slice a0 h) fun x0 =>
loopB (evalS Tryz.prog (semCall Tryz.prog) F.slices_IndexFunc_S_int_int.L0) ⟨(setV (setV (setV (setV (mkEnv [a0, a1]) 4 (.int .i64 0)) 6 a0) 7 x0) 8 (.int .i64 0)), 19, [], h⟩ (F.slices_IndexFunc_S_int_int.L0k K)) := by kernel_rfl
theorem F.slices_IndexFunc_S_int_int_sem {a0 a1 : AV} {h : Heap} {K : Out → Heap → Bool} (hh : (
bindO (lenS .slice a0 h) fun x0 =>
loopB (evalS Tryz.prog (semCall Tryz.prog) F.slices_IndexFunc_S_int_int.L0) ⟨(setV (setV (setV (setV (mkEnv [a0, a1]) 4 (.int .i64 0)) 6 a0) 7 x0) 8 (.int .i64 0)), 19, [], h⟩ (F.slices_IndexFunc_S_int_int.L0k K)) = true) : Sem Tryz.prog 168 [a0, a1] h K :=
  sem_body mixed (noD_sound _) Tryz.func168 (c := codeOf Tryz.f168) rfl (by decide) (of_decide_eq_true (by kernel_rfl)) (F.slices_IndexFunc_S_int_int_eq.trans hh)
theorem F.slices_ContainsFunc_S_int_int_eq {a0 a1 : AV} {h : Heap} {K : Out → Heap → Bool} : evalS Tryz.prog (semCall Tryz.prog) (codeOf Tryz.f112) ⟨mkEnv [a0, a1], 9, [], h⟩ (leaveK Tryz.prog noD Tryz.f112.results.toList K) = (
semCall Tryz.prog 168 [a0, a1] h (outK (fun x0 h1 =>
bindO (binS .geq x0 (.int .i64 0)) fun x4 =>
K (.ret x4) h1) (fun v2 h3 => K (.panic v2) h3))) := by kernel_rfl
theorem F.slices_ContainsFunc_S_int_int_sem {a0 a1 : AV} {h : Heap} {K : Out → Heap → Bool} (hh : (
semCall Tryz.prog 168 [a0, a1] h (outK (fun x0 h1 =>
bindO (binS .geq x0 (.int .i64 0)) fun x4 =>
K (.ret x4) h1) (fun v2 h3 => K (.panic v2) h3))) = true) : Sem Tryz.prog 112 [a0, a1] h K :=
  sem_body mixed (noD_sound _) Tryz.func112 (c := codeOf Tryz.f112) rfl (by decide) (of_decide_eq_true (by kernel_rfl)) (F.slices_ContainsFunc_S_int_int_eq.trans hh)
theorem F.gate_fitting_1_eq {a0 a1 : AV} {h : Heap} {K : Out → Heap → Bool} : evalS Tryz.prog (semCall Tryz.prog) (codeOf Tryz.f166) ⟨mkEnv [a0, a1], 11, [], h⟩ (leaveK Tryz.prog noD Tryz.f166.results.toList K) = (
bindO (binS .lss a0 (.int .i64 0)) fun x0 =>
condB x0 (
K (.ret (.bool true)) h) (
bindO (loadS none a1 h) fun x1 =>
bindO (binS .geq a0 x1) fun x2 =>
K (.ret x2) h)) := by kernel_rfl
theorem F.gate_fitting_1_sem {a0 a1 : AV} {h : Heap} {K : Out → Heap → Bool} (hh : (
bindO (binS .lss a0 (.int .i64 0)) fun x0 =>
condB x0 (
K (.ret (.bool true)) h) (
bindO (loadS none a1 h) fun x1 =>
bindO (binS .geq a0 x1) fun x2 =>
K (.ret x2) h)) = true) : Sem Tryz.prog 166 [a0, a1] h K :=
  sem_body mixed (noD_sound _) Tryz.func166 (c := codeOf Tryz.f166) rfl (by decide) (of_decide_eq_true (by kernel_rfl)) (F.gate_fitting_1_eq.trans hh)
theorem F.gate_fitting_2_eq {a0 a1 : AV} {h : Heap} {K : Out → Heap → Bool} : evalS Tryz.prog (semCall Tryz.prog) (codeOf Tryz.f167) ⟨mkEnv [a0, a1], 11, [], h⟩ (leaveK Tryz.prog noD Tryz.f167.results.toList K) = (
bindO (binS .lss a0 (.int .i64 0)) fun x0 =>
condB x0 (
K (.ret (.bool true)) h) (
bindO (loadS none a1 h) fun x1 =>
bindO (binS .geq a0 x1) fun x2 =>
K (.ret x2) h)) := by kernel_rfl
theorem F.gate_fitting_2_sem {a0 a1 : AV} {h : Heap} {K : Out → Heap → Bool} (hh : (
bindO (binS .lss a0 (.int .i64 0)) fun x0 =>
condB x0 (
K (.ret (.bool true)) h) (
bindO (loadS none a1 h) fun x1 =>
bindO (binS .geq a0 x1) fun x2 =>
K (.ret x2) h)) = true) : Sem Tryz.prog 167 [a0, a1] h K :=
  sem_body mixed (noD_sound _) Tryz.func167 (c := codeOf Tryz.f167) rfl (by decide) (of_decide_eq_true (by kernel_rfl)) (F.gate_fitting_2_eq.trans hh)
theorem F.gate_fitting_eq {a0 a1 a2 : AV} {h : Heap} {K : Out → Heap → Bool} : evalS Tryz.prog (semCall Tryz.prog) (codeOf Tryz.f109) ⟨mkEnv [a0, a1, a2], 77, [], h⟩ (leaveK Tryz.prog noD Tryz.f109.results.toList K) = (
bindO (boxS a0) fun c0 =>
bindO (boxS a1) fun c1 =>
bindO (boxS a2) fun c2 =>
bindO (faS 0 (.ptr (Heap.next h) 0)) fun x3 =>
bindO (loadS none x3 (Heap.alloc (Heap.alloc (Heap.alloc h (.cells c0)) (.cells c1)) (.cells c2))) fun x4 =>
bindO (binS .lss x4 (.int .i64 0)) fun x5 =>
condB x5 (
K (.ret (.bool false)) (Heap.alloc (Heap.alloc (Heap.alloc h (.cells c0)) (.cells c1)) (.cells c2))) (
bindO (faS 0 (.ptr (Heap.next h) 0)) fun x6 =>
bindO (loadS none x6 (Heap.alloc (Heap.alloc (Heap.alloc h (.cells c0)) (.cells c1)) (.cells c2))) fun x7 =>
bindO (binS .geq x7 (.int .i64 5)) fun x8 =>
condB x8 (
K (.ret (.bool false)) (Heap.alloc (Heap.alloc (Heap.alloc h (.cells c0)) (.cells c1)) (.cells c2))) (
bindO (faS 3 (.ptr (Heap.next h) 0)) fun x9 =>
bindO (loadS none x9 (Heap.alloc (Heap.alloc (Heap.alloc h (.cells c0)) (.cells c1)) (.cells c2))) fun x10 =>
semCall Tryz.prog 112 [x10, (.func 166 [] [(.ptr (Heap.next (Heap.alloc h (.cells c0))) 0)])] (Heap.alloc (Heap.alloc (Heap.alloc h (.cells c0)) (.cells c1)) (.cells c2)) (outK (fun x11 h12 =>
condB x11 (
K (.ret (.bool false)) h12) (
bindO (faS 0 (.ptr (Heap.next h) 0)) fun x15 =>
bindO (loadS none x15 h12) fun x16 =>
bindO (eqV (.int .i64) x16 (.int .i64 1)) fun x17 =>
condB x17 (
bindO (faS 1 (.ptr (Heap.next h) 0)) fun x18 =>
bindO (loadS none x18 h12) fun x19 =>
semCall Tryz.prog 152 [x19] h12 (outK (fun x20 h21 =>
condB x20 (
bindO (faS 2 (.ptr (Heap.next h) 0)) fun x24 =>
bindO (loadS none x24 h21) fun x25 =>
bindO (lenS .slice x25 h21) fun x26 =>
bindO (binS .leq x26 (.int .i64 12)) fun x27 =>
condB x27 (
bindO (faS 3 (.ptr (Heap.next h) 0)) fun x28 =>
bindO (loadS none x28 h21) fun x29 =>
bindO (lenS .slice x29 h21) fun x30 =>
bindO (eqV (.int .i64) x30 (.int .i64 0)) fun x31 =>
condB x31 (
bindO (faS 2 (.ptr (Heap.next h) 0)) fun x32 =>
bindO (loadS none x32 h21) fun x33 =>
semCall Tryz.prog 112 [x33, (.func 167 [] [(.ptr (Heap.next (Heap.alloc (Heap.alloc h (.cells c0)) (.cells c1))) 0)])] h21 (outK (fun x34 h35 =>
bindO (unS .not x34) fun x38 =>
K (.ret x38) h35) (fun v36 h37 => K (.panic v36) h37))) (
K (.ret (.bool false)) h21)) (
K (.ret (.bool false)) h21)) (
K (.ret (.bool false)) h21)) (fun v22 h23 => K (.panic v22) h23))) (
bindO (faS 1 (.ptr (Heap.next h) 0)) fun x39 =>
bindO (loadS none x39 h12) fun x40 =>
bindO (eqV .string x40 (.str [])) fun x41 =>
condB x41 (
bindO (faS 2 (.ptr (Heap.next h) 0)) fun x42 =>
bindO (loadS none x42 h12) fun x43 =>
bindO (lenS .slice x43 h12) fun x44 =>
bindO (eqV (.int .i64) x44 (.int .i64 0)) fun x45 =>
condB x45 (
bindO (faS 0 (.ptr (Heap.next h) 0)) fun x46 =>
bindO (loadS none x46 h12) fun x47 =>
bindO (neV (.int .i64) x47 (.int .i64 0)) fun x48 =>
condB x48 (
bindO (faS 0 (.ptr (Heap.next h) 0)) fun x49 =>
bindO (loadS none x49 h12) fun x50 =>
bindO (neV (.int .i64) x50 (.int .i64 2)) fun x51 =>
condB x51 (
K (.ret (.bool true)) h12) (
bindO (faS 3 (.ptr (Heap.next h) 0)) fun x52 =>
bindO (loadS none x52 h12) fun x53 =>
bindO (lenS .slice x53 h12) fun x54 =>
bindO (eqV (.int .i64) x54 (.int .i64 1)) fun x55 =>
K (.ret x55) h12)) (
bindO (faS 3 (.ptr (Heap.next h) 0)) fun x56 =>
bindO (loadS none x56 h12) fun x57 =>
bindO (lenS .slice x57 h12) fun x58 =>
bindO (eqV (.int .i64) x58 (.int .i64 0)) fun x59 =>
condB x59 (
bindO (faS 0 (.ptr (Heap.next h) 0)) fun x60 =>
bindO (loadS none x60 h12) fun x61 =>
bindO (neV (.int .i64) x61 (.int .i64 2)) fun x62 =>
condB x62 (
K (.ret (.bool true)) h12) (
bindO (faS 3 (.ptr (Heap.next h) 0)) fun x63 =>
bindO (loadS none x63 h12) fun x64 =>
bindO (lenS .slice x64 h12) fun x65 =>
bindO (eqV (.int .i64) x65 (.int .i64 1)) fun x66 =>
K (.ret x66) h12)) (
K (.ret (.bool false)) h12))) (
K (.ret (.bool false)) h12)) (
K (.ret (.bool false)) h12)))) (fun v13 h14 => K (.panic v13) h14))))) := by kernel_rfl
theorem F.gate_fitting_sem {a0 a1 a2 : AV} {h : Heap} {K : Out → Heap → Bool} (hh : (
bindO (boxS a0) fun c0 =>
bindO (boxS a1) fun c1 =>
bindO (boxS a2) fun c2 =>
bindO (faS 0 (.ptr (Heap.next h) 0)) fun x3 =>
bindO (loadS none x3 (Heap.alloc (Heap.alloc (Heap.alloc h (.cells c0)) (.cells c1)) (.cells c2))) fun x4 =>
bindO (binS .lss x4 (.int .i64 0)) fun x5 =>
condB x5 (
K (.ret (.bool false)) (Heap.alloc (Heap.alloc (Heap.alloc h (.cells c0)) (.cells c1)) (.cells c2))) (
bindO (faS 0 (.ptr (Heap.next h) 0)) fun x6 =>
bindO (loadS none x6 (Heap.alloc (Heap.alloc (Heap.alloc h (.cells c0)) (.cells c1)) (.cells c2))) fun x7 =>
bindO (binS .geq x7 (.int .i64 5)) fun x8 =>
condB x8 (
K (.ret (.bool false)) (Heap.alloc (Heap.alloc (Heap.alloc h (.cells c0)) (.cells c1)) (.cells c2))) (
bindO (faS 3 (.ptr (Heap.next h) 0)) fun x9 =>
bindO (loadS none x9 (Heap.alloc (Heap.alloc (Heap.alloc h (.cells c0)) (.cells c1)) (.cells c2))) fun x10 =>
semCall Tryz.prog 112 [x10, (.func 166 [] [(.ptr (Heap.next (Heap.alloc h (.cells c0))) 0)])] (Heap.alloc (Heap.alloc (Heap.alloc h (.cells c0)) (.cells c1)) (.cells c2)) (outK (fun x11 h12 =>
condB x11 (
K (.ret (.bool false)) h12) (
bindO (faS 0 (.ptr (Heap.next h) 0)) fun x15 =>
bindO (loadS none x15 h12) fun x16 =>
bindO (eqV (.int .i64) x16 (.int .i64 1)) fun x17 =>
condB x17 (
bindO (faS 1 (.ptr (Heap.next h) 0)) fun x18 =>
bindO (loadS none x18 h12) fun x19 =>
semCall Tryz.prog 152 [x19] h12 (outK (fun x20 h21 =>
condB x20 (
bindO (faS 2 (.ptr (Heap.next h) 0)) fun x24 =>
bindO (loadS none x24 h21) fun x25 =>
bindO (lenS .slice x25 h21) fun x26 =>
bindO (binS .leq x26 (.int .i64 12)) fun x27 =>
condB x27 (
bindO (faS 3 (.ptr (Heap.next h) 0)) fun x28 =>
bindO (loadS none x28 h21) fun x29 =>
bindO (lenS .slice x29 h21) fun x30 =>
bindO (eqV (.int .i64) x30 (.int .i64 0)) fun x31 =>
condB x31 (
bindO (faS 2 (.ptr (Heap.next h) 0)) fun x32 =>
bindO (loadS none x32 h21) fun x33 =>
semCall Tryz.prog 112 [x33, (.func 167 [] [(.ptr (Heap.next (Heap.alloc (Heap.alloc h (.cells c0)) (.cells c1))) 0)])] h21 (outK (fun x34 h35 =>
bindO (unS .not x34) fun x38 =>
K (.ret x38) h35) (fun v36 h37 => K (.panic v36) h37))) (
K (.ret (.bool false)) h21)) (
K (.ret (.bool false)) h21)) (
K (.ret (.bool false)) h21)) (fun v22 h23 => K (.panic v22) h23))) (
bindO (faS 1 (.ptr (Heap.next h) 0)) fun x39 =>
bindO (loadS none x39 h12) fun x40 =>
bindO (eqV .string x40 (.str [])) fun x41 =>
condB x41 (
bindO (faS 2 (.ptr (Heap.next h) 0)) fun x42 =>
bindO (loadS none x42 h12) fun x43 =>
bindO (lenS .slice x43 h12) fun x44 =>
bindO (eqV (.int .i64) x44 (.int .i64 0)) fun x45 =>
condB x45 (
bindO (faS 0 (.ptr (Heap.next h) 0)) fun x46 =>
bindO (loadS none x46 h12) fun x47 =>
bindO (neV (.int .i64) x47 (.int .i64 0)) fun x48 =>
condB x48 (
bindO (faS 0 (.ptr (Heap.next h) 0)) fun x49 =>
bindO (loadS none x49 h12) fun x50 =>
bindO (neV (.int .i64) x50 (.int .i64 2)) fun x51 =>
condB x51 (
K (.ret (.bool true)) h12) (
bindO (faS 3 (.ptr (Heap.next h) 0)) fun x52 =>
bindO (loadS none x52 h12) fun x53 =>
bindO (lenS .slice x53 h12) fun x54 =>
bindO (eqV (.int .i64) x54 (.int .i64 1)) fun x55 =>
K (.ret x55) h12)) (
bindO (faS 3 (.ptr (Heap.next h) 0)) fun x56 =>
bindO (loadS none x56 h12) fun x57 =>
bindO (lenS .slice x57 h12) fun x58 =>
bindO (eqV (.int .i64) x58 (.int .i64 0)) fun x59 =>
condB x59 (
bindO (faS 0 (.ptr (Heap.next h) 0)) fun x60 =>
bindO (loadS none x60 h12) fun x61 =>
bindO (neV (.int .i64) x61 (.int .i64 2)) fun x62 =>
condB x62 (
K (.ret (.bool true)) h12) (
bindO (faS 3 (.ptr (Heap.next h) 0)) fun x63 =>
bindO (loadS none x63 h12) fun x64 =>
bindO (lenS .slice x64 h12) fun x65 =>
bindO (eqV (.int .i64) x65 (.int .i64 1)) fun x66 =>
K (.ret x66) h12)) (
K (.ret (.bool false)) h12))) (
K (.ret (.bool false)) h12)) (
K (.ret (.bool false)) h12)))) (fun v13 h14 => K (.panic v13) h14))))) = true) : Sem Tryz.prog 109 [a0, a1, a2] h K :=
  sem_body mixed (noD_sound _) Tryz.func109 (c := codeOf Tryz.f109) rfl (by decide) (of_decide_eq_true (by kernel_rfl)) (F.gate_fitting_eq.trans hh)
noncomputable def F.gate_symbols.L0 : Code := partOf (codeOf Tryz.f54) [1, 1, 1, 0, 1, 0, 0]
noncomputable def F.gate_symbols.L0k (K : Out → Heap → Bool) : AX → St → Bool := (blockK 0 (seqK false (evalS Tryz.prog (semCall Tryz.prog) (partOf (codeOf Tryz.f54) [1, 1, 1, 1])) (leaveK Tryz.prog noD Tryz.f54.results.toList K)))
theorem F.gate_symbols.L0_eq {e : Env} {h : Heap} {K : AX → St → Bool} : evalS Tryz.prog (semCall Tryz.prog) F.gate_symbols.L0 ⟨e, 70, [], h⟩ K = (
bindO (binS .lss (e 33) (e 32)) fun x18 =>
condB x18 (
bindO (iaS 4 (e 31) (e 33)) fun x19 =>
bindO (loadS (some 4) x19 h) fun x20 =>
bindO (storeS 4 (.ptr (Heap.next h) 0) x20 (Heap.alloc h (.cells [(.int .i64 0), (.str []), .nils, .nils]))) fun h21 =>
bindO (loadS (some 4) (.ptr (Heap.next h) 0) h21) fun x22 =>
bindO (faS 0 (e 1)) fun x23 =>
bindO (loadS none x23 h21) fun x24 =>
semCall Tryz.prog 109 [x22, (e 33), x24] h21 (outK (fun x25 h26 =>
bindO (unS .not x25) fun x29 =>
condB x29 (
K .ret ⟨(setV (setV (setV (setV (setV (setV (setV (setV (setV (setV (setV (setV (setV (setV e 34 x18) 35 (e 33)) 36 x19) 37 x20) 6 (.ptr (Heap.next h) 0)) 5 (e 33)) 38 x22) 39 (e 33)) 40 x23) 41 x24) 42 x25) 43 x29) 2 .nilm) 3 (.bool false)), 70, [], h26⟩) (
bindO (faS 0 (.ptr (Heap.next h) 0)) fun x30 =>
bindO (loadS none x30 h26) fun x31 =>
bindO (neV (.int .i64) x31 (.int .i64 1)) fun x32 =>
condB x32 (
bindO (binS .add (e 33) (.int .i64 1)) fun x33 =>
K .normal ⟨(setV (setV (setV (setV (setV (setV (setV (setV (setV (setV (setV (setV (setV (setV (setV (setV (setV e 34 x18) 35 (e 33)) 36 x19) 37 x20) 6 (.ptr (Heap.next h) 0)) 5 (e 33)) 38 x22) 39 (e 33)) 40 x23) 41 x24) 42 x25) 43 x29) 44 x30) 45 x31) 46 x32) 68 x33) 33 x33), 70, [], h26⟩) (
bindO (faS 1 (.ptr (Heap.next h) 0)) fun x34 =>
bindO (loadS none x34 h26) fun x35 =>
bindO (lookupS .string (.int .i64 0) true (e 4) x35 h26) fun x36 =>
bindO (extractS x36 0) fun x37 =>
bindO (extractS x36 1) fun x38 =>
condB x38 (
bindO (faS 2 (.ptr (Heap.next h) 0)) fun x39 =>
bindO (loadS none x39 h26) fun x40 =>
bindO (lenS .slice x40 h26) fun x41 =>
bindO (neV (.int .i64) x37 x41) fun x42 =>
condB x42 (
K .ret ⟨(setV (setV (setV (setV (setV (setV (setV (setV (setV (setV (setV (setV (setV (setV (setV (setV (setV (setV (setV (setV (setV (setV (setV (setV (setV (setV (setV (setV (setV (setV (setV (setV (setV (setV (setV (setV (setV (setV (setV e 34 x18) 35 (e 33)) 36 x19) 37 x20) 6 (.ptr (Heap.next h) 0)) 5 (e 33)) 38 x22) 39 (e 33)) 40 x23) 41 x24) 42 x25) 43 x29) 44 x30) 45 x31) 46 x32) 48 (e 4)) 49 x34) 50 x35) 51 x36) 47 x36) 52 x37) 53 x38) 7 x37) 8 x38) 54 x38) 55 x38) 55 (.bool true)) 56 x37) 55 (.bool true)) 57 x39) 55 (.bool true)) 58 x40) 55 (.bool true)) 59 x41) 55 (.bool true)) 60 x42) 61 x42) 2 .nilm) 3 (.bool false)), 70, [], h26⟩) (
bindO (faS 1 (.ptr (Heap.next h) 0)) fun x43 =>
bindO (loadS none x43 h26) fun x44 =>
bindO (faS 2 (.ptr (Heap.next h) 0)) fun x45 =>
bindO (loadS none x45 h26) fun x46 =>
bindO (lenS .slice x46 h26) fun x47 =>
bindO (mapUpdateS .string (e 4) x44 x47 h26) fun h48 =>
bindO (binS .add (e 33) (.int .i64 1)) fun x49 =>
K .normal ⟨(setV (setV (setV (setV (setV (setV (setV (setV (setV (setV (setV (setV (setV (setV (setV (setV (setV (setV (setV (setV (setV (setV (setV (setV (setV (setV (setV (setV (setV (setV (setV (setV (setV (setV (setV (setV (setV (setV (setV (setV (setV (setV (setV (setV (setV e 34 x18) 35 (e 33)) 36 x19) 37 x20) 6 (.ptr (Heap.next h) 0)) 5 (e 33)) 38 x22) 39 (e 33)) 40 x23) 41 x24) 42 x25) 43 x29) 44 x30) 45 x31) 46 x32) 48 (e 4)) 49 x34) 50 x35) 51 x36) 47 x36) 52 x37) 53 x38) 7 x37) 8 x38) 54 x38) 55 x38) 55 (.bool true)) 56 x37) 55 (.bool true)) 57 x39) 55 (.bool true)) 58 x40) 55 (.bool true)) 59 x41) 55 (.bool true)) 60 x42) 61 x42) 62 (e 4)) 63 x43) 64 x44) 65 x45) 66 x46) 67 x47) 68 x49) 33 x49), 70, [], h48⟩)) (
bindO (faS 1 (.ptr (Heap.next h) 0)) fun x50 =>
bindO (loadS none x50 h26) fun x51 =>
bindO (faS 2 (.ptr (Heap.next h) 0)) fun x52 =>
bindO (loadS none x52 h26) fun x53 =>
bindO (lenS .slice x53 h26) fun x54 =>
bindO (mapUpdateS .string (e 4) x51 x54 h26) fun h55 =>
bindO (binS .add (e 33) (.int .i64 1)) fun x56 =>
K .normal ⟨(setV (setV (setV (setV (setV (setV (setV (setV (setV (setV (setV (setV (setV (setV (setV (setV (setV (setV (setV (setV (setV (setV (setV (setV (setV (setV (setV (setV (setV (setV (setV (setV (setV (setV (setV (setV (setV (setV (setV (setV (setV (setV (setV (setV (setV e 34 x18) 35 (e 33)) 36 x19) 37 x20) 6 (.ptr (Heap.next h) 0)) 5 (e 33)) 38 x22) 39 (e 33)) 40 x23) 41 x24) 42 x25) 43 x29) 44 x30) 45 x31) 46 x32) 48 (e 4)) 49 x34) 50 x35) 51 x36) 47 x36) 52 x37) 53 x38) 7 x37) 8 x38) 54 x38) 55 x38) 55 (.bool false)) 56 noV) 55 (.bool false)) 57 noV) 55 (.bool false)) 58 noV) 55 (.bool false)) 59 noV) 55 (.bool false)) 60 noV) 61 (.bool false)) 62 (e 4)) 63 x50) 64 x51) 65 x52) 66 x53) 67 x54) 68 x56) 33 x56), 70, [], h55⟩)))) (fun v27 h28 => K (.panic v27) ⟨(setV (setV (setV (setV (setV (setV (setV (setV (setV (setV e 34 x18) 35 (e 33)) 36 x19) 37 x20) 6 (.ptr (Heap.next h) 0)) 5 (e 33)) 38 x22) 39 (e 33)) 40 x23) 41 x24), 70, [], h28⟩))) (
K (.exit 0) ⟨(setV e 34 x18), 70, [], h⟩)) := by kernel_rfl
theorem F.gate_symbols.L0_x0_eq {e : Env} {h : Heap} {K : Out → Heap → Bool} : F.gate_symbols.L0k K (.exit 0) ⟨e, 70, [], h⟩ = (
K (.ret (.tuple [(e 4), (.bool true)])) h) := by kernel_rfl
theorem F.gate_symbols.L0_r_eq {e : Env} {h : Heap} {K : Out → Heap → Bool} : F.gate_symbols.L0k K .ret ⟨e, 70, [], h⟩ = (
K (.ret (.tuple [(e 2), (e 3)])) h) := by kernel_rfl
theorem F.gate_symbols_eq {a0 : AV} {h : Heap} {K : Out → Heap → Bool} : evalS Tryz.prog (semCall Tryz.prog) (codeOf Tryz.f54) ⟨mkEnv [a0], 70, [], h⟩ (leaveK Tryz.prog noD Tryz.f54.results.toList K) = (
bindO (boxS a0) fun c0 =>
bindO (faS 0 (.ptr (Heap.next h) 0)) fun x1 =>
bindO (loadS none x1 (Heap.alloc (Heap.alloc h (.cells c0)) (.map [] 0))) fun x2 =>
bindO (binS .lss x2 (.int .i64 1)) fun x3 =>
condB x3 (
K (.ret (.tuple [.nilm, (.bool false)])) (Heap.alloc (Heap.alloc h (.cells c0)) (.map [] 0))) (
bindO (faS 0 (.ptr (Heap.next h) 0)) fun x4 =>
bindO (loadS none x4 (Heap.alloc (Heap.alloc h (.cells c0)) (.map [] 0))) fun x5 =>
bindO (binS .gtr x5 (.int .i64 64)) fun x6 =>
condB x6 (
K (.ret (.tuple [.nilm, (.bool false)])) (Heap.alloc (Heap.alloc h (.cells c0)) (.map [] 0))) (
bindO (faS 1 (.ptr (Heap.next h) 0)) fun x7 =>
bindO (loadS none x7 (Heap.alloc (Heap.alloc h (.cells c0)) (.map [] 0))) fun x8 =>
bindO (lenS .slice x8 (Heap.alloc (Heap.alloc h (.cells c0)) (.map [] 0))) fun x9 =>
bindO (binS .lss x9 (.int .i64 1)) fun x10 =>
condB x10 (
K (.ret (.tuple [.nilm, (.bool false)])) (Heap.alloc (Heap.alloc h (.cells c0)) (.map [] 0))) (
bindO (faS 1 (.ptr (Heap.next h) 0)) fun x11 =>
bindO (loadS none x11 (Heap.alloc (Heap.alloc h (.cells c0)) (.map [] 0))) fun x12 =>
bindO (lenS .slice x12 (Heap.alloc (Heap.alloc h (.cells c0)) (.map [] 0))) fun x13 =>
bindO (binS .gtr x13 (.int .i64 20000)) fun x14 =>
condB x14 (
K (.ret (.tuple [.nilm, (.bool false)])) (Heap.alloc (Heap.alloc h (.cells c0)) (.map [] 0))) (
bindO (faS 1 (.ptr (Heap.next h) 0)) fun x15 =>
bindO (loadS none x15 (Heap.alloc (Heap.alloc h (.cells c0)) (.map [] 0))) fun x16 =>
bindO (lenS .slice x16 (Heap.alloc (Heap.alloc h (.cells c0)) (.map [] 0))) fun x17 =>
loopB (evalS Tryz.prog (semCall Tryz.prog) F.gate_symbols.L0) ⟨(setV (setV (setV (setV (setV (setV (setV (setV (setV (setV (setV (setV (setV (setV (setV (setV (setV (setV (setV (setV (setV (setV (setV (setV (setV (setV (setV (setV (setV (setV (setV (setV (setV (setV (setV (setV (setV (setV (setV (setV (mkEnv [a0]) 1 (.ptr (Heap.next h) 0)) 2 .nilm) 3 (.bool false)) 9 (.map (Heap.next (Heap.alloc h (.cells c0))))) 4 (.map (Heap.next (Heap.alloc h (.cells c0))))) 10 x1) 11 x2) 12 x3) 13 x3) 13 (.bool false)) 14 x4) 13 (.bool false)) 15 x5) 13 (.bool false)) 16 x6) 17 x6) 18 x6) 18 (.bool false)) 19 x7) 18 (.bool false)) 20 x8) 18 (.bool false)) 21 x9) 18 (.bool false)) 22 x10) 23 x10) 24 x10) 24 (.bool false)) 25 x11) 24 (.bool false)) 26 x12) 24 (.bool false)) 27 x13) 24 (.bool false)) 28 x14) 29 x14) 30 x15) 31 x16) 32 x17) 33 (.int .i64 0)), 70, [], (Heap.alloc (Heap.alloc h (.cells c0)) (.map [] 0))⟩ (F.gate_symbols.L0k K)))))) := by kernel_rfl
theorem F.gate_symbols_sem {a0 : AV} {h : Heap} {K : Out → Heap → Bool} (hh : (
bindO (boxS a0) fun c0 =>
bindO (faS 0 (.ptr (Heap.next h) 0)) fun x1 =>
bindO (loadS none x1 (Heap.alloc (Heap.alloc h (.cells c0)) (.map [] 0))) fun x2 =>
bindO (binS .lss x2 (.int .i64 1)) fun x3 =>
condB x3 (
K (.ret (.tuple [.nilm, (.bool false)])) (Heap.alloc (Heap.alloc h (.cells c0)) (.map [] 0))) (
bindO (faS 0 (.ptr (Heap.next h) 0)) fun x4 =>
bindO (loadS none x4 (Heap.alloc (Heap.alloc h (.cells c0)) (.map [] 0))) fun x5 =>
bindO (binS .gtr x5 (.int .i64 64)) fun x6 =>
condB x6 (
K (.ret (.tuple [.nilm, (.bool false)])) (Heap.alloc (Heap.alloc h (.cells c0)) (.map [] 0))) (
bindO (faS 1 (.ptr (Heap.next h) 0)) fun x7 =>
bindO (loadS none x7 (Heap.alloc (Heap.alloc h (.cells c0)) (.map [] 0))) fun x8 =>
bindO (lenS .slice x8 (Heap.alloc (Heap.alloc h (.cells c0)) (.map [] 0))) fun x9 =>
bindO (binS .lss x9 (.int .i64 1)) fun x10 =>
condB x10 (
K (.ret (.tuple [.nilm, (.bool false)])) (Heap.alloc (Heap.alloc h (.cells c0)) (.map [] 0))) (
bindO (faS 1 (.ptr (Heap.next h) 0)) fun x11 =>
bindO (loadS none x11 (Heap.alloc (Heap.alloc h (.cells c0)) (.map [] 0))) fun x12 =>
bindO (lenS .slice x12 (Heap.alloc (Heap.alloc h (.cells c0)) (.map [] 0))) fun x13 =>
bindO (binS .gtr x13 (.int .i64 20000)) fun x14 =>
condB x14 (
K (.ret (.tuple [.nilm, (.bool false)])) (Heap.alloc (Heap.alloc h (.cells c0)) (.map [] 0))) (
bindO (faS 1 (.ptr (Heap.next h) 0)) fun x15 =>
bindO (loadS none x15 (Heap.alloc (Heap.alloc h (.cells c0)) (.map [] 0))) fun x16 =>
bindO (lenS .slice x16 (Heap.alloc (Heap.alloc h (.cells c0)) (.map [] 0))) fun x17 =>
loopB (evalS Tryz.prog (semCall Tryz.prog) F.gate_symbols.L0) ⟨(setV (setV (setV (setV (setV (setV (setV (setV (setV (setV (setV (setV (setV (setV (setV (setV (setV (setV (setV (setV (setV (setV (setV (setV (setV (setV (setV (setV (setV (setV (setV (setV (setV (setV (setV (setV (setV (setV (setV (setV (mkEnv [a0]) 1 (.ptr (Heap.next h) 0)) 2 .nilm) 3 (.bool false)) 9 (.map (Heap.next (Heap.alloc h (.cells c0))))) 4 (.map (Heap.next (Heap.alloc h (.cells c0))))) 10 x1) 11 x2) 12 x3) 13 x3) 13 (.bool false)) 14 x4) 13 (.bool false)) 15 x5) 13 (.bool false)) 16 x6) 17 x6) 18 x6) 18 (.bool false)) 19 x7) 18 (.bool false)) 20 x8) 18 (.bool false)) 21 x9) 18 (.bool false)) 22 x10) 23 x10) 24 x10) 24 (.bool false)) 25 x11) 24 (.bool false)) 26 x12) 24 (.bool false)) 27 x13) 24 (.bool false)) 28 x14) 29 x14) 30 x15) 31 x16) 32 x17) 33 (.int .i64 0)), 70, [], (Heap.alloc (Heap.alloc h (.cells c0)) (.map [] 0))⟩ (F.gate_symbols.L0k K)))))) = true) : Sem Tryz.prog 54 [a0] h K :=
  sem_body mixed (noD_sound _) Tryz.func54 (c := codeOf Tryz.f54) rfl (by decide) (of_decide_eq_true (by kernel_rfl)) (F.gate_symbols_eq.trans hh)
noncomputable def F.ref11_gate.L0 : Code := partOf (codeOf Tryz.f53) [1, 1, 1, 0, 1, 0, 0]
noncomputable def F.ref11_gate.L0k (K : Out → Heap → Bool) : AX → St → Bool := (blockK 0 (seqK false (evalS Tryz.prog (semCall Tryz.prog) (partOf (codeOf Tryz.f53) [1, 1, 1, 1])) (leaveK Tryz.prog noD Tryz.f53.results.toList K)))
theorem F.ref11_gate.L0_eq {e : Env} {h : Heap} {K : AX → St → Bool} : evalS Tryz.prog (semCall Tryz.prog) F.ref11_gate.L0 ⟨e, 89, [], h⟩ K = (
bindO (faS 3 (e 5)) fun x16 =>
bindO (loadS none x16 h) fun x17 =>
bindO (lenS .slice x17 h) fun x18 =>
bindO (binS .lss (e 6) x18) fun x19 =>
condB x19 (
bindO (faS 3 (e 5)) fun x20 =>
bindO (loadS none x20 h) fun x21 =>
bindO (iaS 1 x21 (e 6)) fun x22 =>
bindO (loadS none x22 h) fun x23 =>
bindO (binS .lss x23 (.int .i64 0)) fun x24 =>
condB x24 (
K .ret ⟨(setV (setV (setV (setV (setV (setV (setV (setV (setV (setV (setV (setV (setV (setV (setV (setV (setV (setV (setV (setV (setV (setV (setV (setV (setV (setV (setV (setV e 26 (e 6)) 27 x16) 28 x17) 29 x18) 30 x19) 33 x20) 34 x21) 35 (e 6)) 36 x22) 37 x23) 38 x24) 39 x24) 39 (.bool true)) 40 noV) 39 (.bool true)) 41 noV) 39 (.bool true)) 42 noV) 39 (.bool true)) 43 noV) 39 (.bool true)) 44 noV) 39 (.bool true)) 45 noV) 39 (.bool true)) 46 noV) 47 (.bool true)) 4 (.bool false)), 89, [], h⟩) (
bindO (faS 3 (e 5)) fun x25 =>
bindO (loadS none x25 h) fun x26 =>
bindO (iaS 1 x26 (e 6)) fun x27 =>
bindO (loadS none x27 h) fun x28 =>
bindO (binS .geq x28 (e 1)) fun x29 =>
condB x29 (
K .ret ⟨(setV (setV (setV (setV (setV (setV (setV (setV (setV (setV (setV (setV (setV (setV (setV (setV (setV (setV (setV (setV (setV (setV (setV (setV (setV (setV (setV (setV e 26 (e 6)) 27 x16) 28 x17) 29 x18) 30 x19) 33 x20) 34 x21) 35 (e 6)) 36 x22) 37 x23) 38 x24) 39 x24) 39 (.bool false)) 40 x25) 39 (.bool false)) 41 x26) 39 (.bool false)) 42 (e 6)) 39 (.bool false)) 43 x27) 39 (.bool false)) 44 x28) 39 (.bool false)) 45 (e 1)) 39 (.bool false)) 46 x29) 47 x29) 4 (.bool false)), 89, [], h⟩) (
bindO (binS .add (e 6) (.int .i64 1)) fun x30 =>
K .normal ⟨(setV (setV (setV (setV (setV (setV (setV (setV (setV (setV (setV (setV (setV (setV (setV (setV (setV (setV (setV (setV (setV (setV (setV (setV (setV (setV (setV (setV (setV (setV e 26 (e 6)) 27 x16) 28 x17) 29 x18) 30 x19) 33 x20) 34 x21) 35 (e 6)) 36 x22) 37 x23) 38 x24) 39 x24) 39 (.bool false)) 40 x25) 39 (.bool false)) 41 x26) 39 (.bool false)) 42 (e 6)) 39 (.bool false)) 43 x27) 39 (.bool false)) 44 x28) 39 (.bool false)) 45 (e 1)) 39 (.bool false)) 46 x29) 47 x29) 31 (e 6)) 32 x30) 6 x30), 89, [], h⟩))) (
K (.exit 0) ⟨(setV (setV (setV (setV (setV e 26 (e 6)) 27 x16) 28 x17) 29 x18) 30 x19), 89, [], h⟩)) := by kernel_rfl
theorem F.ref11_gate.L0_x0_eq {e : Env} {h : Heap} {K : Out → Heap → Bool} : F.ref11_gate.L0k K (.exit 0) ⟨e, 89, [], h⟩ = (
bindO (faS 0 (e 5)) fun x31 =>
bindO (loadS none x31 h) fun x32 =>
bindO (eqV (.int .i64) x32 (.int .i64 0)) fun x33 =>
condB x33 (
bindO (faS 3 (e 5)) fun x34 =>
bindO (loadS none x34 h) fun x35 =>
bindO (lenS .slice x35 h) fun x36 =>
bindO (eqV (.int .i64) x36 (.int .i64 0)) fun x37 =>
K (.ret x37) h) (
bindO (eqV (.int .i64) x32 (.int .i64 1)) fun x38 =>
condB x38 (
bindO (faS 3 (e 5)) fun x39 =>
bindO (loadS none x39 h) fun x40 =>
bindO (lenS .slice x40 h) fun x41 =>
bindO (eqV (.int .i64) x41 (.int .i64 0)) fun x42 =>
condB x42 (
bindO (faS 1 (e 5)) fun x43 =>
bindO (loadS none x43 h) fun x44 =>
semCall Tryz.prog 107 [x44] h (outK (fun x45 h46 =>
condB x45 (
bindO (faS 2 (e 5)) fun x49 =>
bindO (loadS none x49 h46) fun x50 =>
bindO (lenS .slice x50 h46) fun x51 =>
bindO (binS .leq x51 (.int .i64 12)) fun x52 =>
condB x52 (
bindO (faS 0 (e 2)) fun x53 =>
bindO (loadS none x53 h46) fun x54 =>
bindO (faS 2 (e 5)) fun x55 =>
bindO (loadS none x55 h46) fun x56 =>
semCall Tryz.prog 108 [x54, x56] h46 (outK (fun x57 h58 =>
K (.ret x57) h58) (fun v59 h60 => K (.panic v59) h60))) (
K (.ret (.bool false)) h46)) (
K (.ret (.bool false)) h46)) (fun v47 h48 => K (.panic v47) h48))) (
K (.ret (.bool false)) h)) (
bindO (eqV (.int .i64) x32 (.int .i64 2)) fun x61 =>
condB x61 (
bindO (faS 3 (e 5)) fun x62 =>
bindO (loadS none x62 h) fun x63 =>
bindO (lenS .slice x63 h) fun x64 =>
bindO (eqV (.int .i64) x64 (.int .i64 1)) fun x65 =>
K (.ret x65) h) (
bindO (eqV (.int .i64) x32 (.int .i64 3)) fun x66 =>
condB x66 (
condB x66 (
K (.ret (.bool true)) h) (
K (.ret (.bool false)) h)) (
bindO (eqV (.int .i64) x32 (.int .i64 4)) fun x67 =>
condB x67 (
K (.ret (.bool true)) h) (
K (.ret (.bool false)) h)))))) := by kernel_rfl
theorem F.ref11_gate.L0_r_eq {e : Env} {h : Heap} {K : Out → Heap → Bool} : F.ref11_gate.L0k K .ret ⟨e, 89, [], h⟩ = (
K (.ret (e 4)) h) := by kernel_rfl
theorem F.ref11_gate_eq {a0 a1 : AV} {h : Heap} {K : Out → Heap → Bool} : evalS Tryz.prog (semCall Tryz.prog) (codeOf Tryz.f53) ⟨mkEnv [a0, a1], 89, [], h⟩ (leaveK Tryz.prog noD Tryz.f53.results.toList K) = (
bindO (boxS a0) fun c0 =>
bindO (faS 1 (.ptr (Heap.next h) 0)) fun x1 =>
bindO (loadS none x1 (Heap.alloc h (.cells c0))) fun x2 =>
bindO (iaS 4 x2 a1) fun x3 =>
bindO (loadS (some 4) x3 (Heap.alloc h (.cells c0))) fun x4 =>
bindO (storeS 4 (.ptr (Heap.next (Heap.alloc h (.cells c0))) 0) x4 (Heap.alloc (Heap.alloc h (.cells c0)) (.cells [(.int .i64 0), (.str []), .nils, .nils]))) fun h5 =>
bindO (faS 0 (.ptr (Heap.next (Heap.alloc h (.cells c0))) 0)) fun x6 =>
bindO (loadS none x6 h5) fun x7 =>
bindO (neV (.int .i64) x7 (.int .i64 1)) fun x8 =>
condB x8 (
bindO (faS 1 (.ptr (Heap.next (Heap.alloc h (.cells c0))) 0)) fun x9 =>
bindO (loadS none x9 h5) fun x10 =>
bindO (neV .string x10 (.str [])) fun x11 =>
condB x11 (
K (.ret (.bool false)) h5) (
bindO (faS 2 (.ptr (Heap.next (Heap.alloc h (.cells c0))) 0)) fun x12 =>
bindO (loadS none x12 h5) fun x13 =>
bindO (lenS .slice x13 h5) fun x14 =>
bindO (binS .gtr x14 (.int .i64 0)) fun x15 =>
condB x15 (
K (.ret (.bool false)) h5) (
loopB (evalS Tryz.prog (semCall Tryz.prog) F.ref11_gate.L0) ⟨(setV (setV (setV (setV (setV (setV (setV (setV (setV (setV (setV (setV (setV (setV (setV (setV (setV (setV (setV (setV (setV (setV (setV (setV (setV (setV (setV (setV (setV (setV (setV (setV (mkEnv [a0, a1]) 2 (.ptr (Heap.next h) 0)) 4 (.bool false)) 7 x1) 8 x2) 9 a1) 10 x3) 11 x4) 5 (.ptr (Heap.next (Heap.alloc h (.cells c0))) 0)) 12 x6) 13 x7) 14 x8) 15 x8) 15 (.bool true)) 16 x9) 15 (.bool true)) 17 x10) 15 (.bool true)) 18 x11) 15 (.bool true)) 19 x11) 19 (.bool false)) 20 x12) 19 (.bool false)) 21 x13) 19 (.bool false)) 22 x14) 19 (.bool false)) 23 x15) 15 (.bool true)) 24 x15) 25 x15) 6 (.int .i64 0)), 89, [], h5⟩ (F.ref11_gate.L0k K)))) (
loopB (evalS Tryz.prog (semCall Tryz.prog) F.ref11_gate.L0) ⟨(setV (setV (setV (setV (setV (setV (setV (setV (setV (setV (setV (setV (setV (setV (setV (setV (setV (setV (setV (setV (setV (setV (setV (setV (setV (setV (setV (setV (mkEnv [a0, a1]) 2 (.ptr (Heap.next h) 0)) 4 (.bool false)) 7 x1) 8 x2) 9 a1) 10 x3) 11 x4) 5 (.ptr (Heap.next (Heap.alloc h (.cells c0))) 0)) 12 x6) 13 x7) 14 x8) 15 x8) 15 (.bool false)) 16 noV) 15 (.bool false)) 17 noV) 15 (.bool false)) 18 noV) 15 (.bool false)) 19 noV) 20 noV) 21 noV) 22 noV) 23 noV) 15 (.bool false)) 24 noV) 25 (.bool false)) 6 (.int .i64 0)), 89, [], h5⟩ (F.ref11_gate.L0k K))) := by kernel_rfl
theorem F.ref11_gate_sem {a0 a1 : AV} {h : Heap} {K : Out → Heap → Bool} (hh : (
bindO (boxS a0) fun c0 =>
bindO (faS 1 (.ptr (Heap.next h) 0)) fun x1 =>
bindO (loadS none x1 (Heap.alloc h (.cells c0))) fun x2 =>
bindO (iaS 4 x2 a1) fun x3 =>
bindO (loadS (some 4) x3 (Heap.alloc h (.cells c0))) fun x4 =>
bindO (storeS 4 (.ptr (Heap.next (Heap.alloc h (.cells c0))) 0) x4 (Heap.alloc (Heap.alloc h (.cells c0)) (.cells [(.int .i64 0), (.str []), .nils, .nils]))) fun h5 =>
bindO (faS 0 (.ptr (Heap.next (Heap.alloc h (.cells c0))) 0)) fun x6 =>
bindO (loadS none x6 h5) fun x7 =>
bindO (neV (.int .i64) x7 (.int .i64 1)) fun x8 =>
condB x8 (
bindO (faS 1 (.ptr (Heap.next (Heap.alloc h (.cells c0))) 0)) fun x9 =>
bindO (loadS none x9 h5) fun x10 =>
bindO (neV .string x10 (.str [])) fun x11 =>
condB x11 (
K (.ret (.bool false)) h5) (
bindO (faS 2 (.ptr (Heap.next (Heap.alloc h (.cells c0))) 0)) fun x12 =>
bindO (loadS none x12 h5) fun x13 =>
bindO (lenS .slice x13 h5) fun x14 =>
bindO (binS .gtr x14 (.int .i64 0)) fun x15 =>
condB x15 (
K (.ret (.bool false)) h5) (
loopB (evalS Tryz.prog (semCall Tryz.prog) F.ref11_gate.L0) ⟨(setV (setV (setV (setV (setV (setV (setV (setV (setV (setV (setV (setV (setV (setV (setV (setV (setV (setV (setV (setV (setV (setV (setV (setV (setV (setV (setV (setV (setV (setV (setV (setV (mkEnv [a0, a1]) 2 (.ptr (Heap.next h) 0)) 4 (.bool false)) 7 x1) 8 x2) 9 a1) 10 x3) 11 x4) 5 (.ptr (Heap.next (Heap.alloc h (.cells c0))) 0)) 12 x6) 13 x7) 14 x8) 15 x8) 15 (.bool true)) 16 x9) 15 (.bool true)) 17 x10) 15 (.bool true)) 18 x11) 15 (.bool true)) 19 x11) 19 (.bool false)) 20 x12) 19 (.bool false)) 21 x13) 19 (.bool false)) 22 x14) 19 (.bool false)) 23 x15) 15 (.bool true)) 24 x15) 25 x15) 6 (.int .i64 0)), 89, [], h5⟩ (F.ref11_gate.L0k K)))) (
loopB (evalS Tryz.prog (semCall Tryz.prog) F.ref11_gate.L0) ⟨(setV (setV (setV (setV (setV (setV (setV (setV (setV (setV (setV (setV (setV (setV (setV (setV (setV (setV (setV (setV (setV (setV (setV (setV (setV (setV (setV (setV (mkEnv [a0, a1]) 2 (.ptr (Heap.next h) 0)) 4 (.bool false)) 7 x1) 8 x2) 9 a1) 10 x3) 11 x4) 5 (.ptr (Heap.next (Heap.alloc h (.cells c0))) 0)) 12 x6) 13 x7) 14 x8) 15 x8) 15 (.bool false)) 16 noV) 15 (.bool false)) 17 noV) 15 (.bool false)) 18 noV) 15 (.bool false)) 19 noV) 20 noV) 21 noV) 22 noV) 23 noV) 15 (.bool false)) 24 noV) 25 (.bool false)) 6 (.int .i64 0)), 89, [], h5⟩ (F.ref11_gate.L0k K))) = true) : Sem Tryz.prog 53 [a0, a1] h K :=
  sem_body mixed (noD_sound _) Tryz.func53 (c := codeOf Tryz.f53) rfl (by decide) (of_decide_eq_true (by kernel_rfl)) (F.ref11_gate_eq.trans hh)
noncomputable def F.ref11_Valid.L0 : Code := partOf (codeOf Tryz.f13) [1, 1, 1, 0, 1, 0, 0]
noncomputable def F.ref11_Valid.L0k (K : Out → Heap → Bool) : AX → St → Bool := (blockK 0 (seqK false (evalS Tryz.prog (semCall Tryz.prog) (partOf (codeOf Tryz.f13) [1, 1, 1, 1])) (leaveK Tryz.prog noD Tryz.f13.results.toList K)))
theorem F.ref11_Valid.L0_eq {e : Env} {h : Heap} {K : AX → St → Bool} : evalS Tryz.prog (semCall Tryz.prog) F.ref11_Valid.L0 ⟨e, 69, [], h⟩ K = (
bindO (faS 1 (e 1)) fun x15 =>
bindO (loadS none x15 h) fun x16 =>
bindO (lenS .slice x16 h) fun x17 =>
bindO (binS .lss (e 4) x17) fun x18 =>
condB x18 (
bindO (loadS (some 2) (e 1) h) fun x19 =>
semCall Tryz.prog 53 [x19, (e 4)] h (outK (fun x20 h21 =>
bindO (unS .not x20) fun x24 =>
condB x24 (
K .ret ⟨(setV (setV (setV (setV (setV (setV (setV (setV (setV (setV e 29 (e 4)) 30 x15) 31 x16) 32 x17) 33 x18) 36 x19) 37 (e 4)) 38 x20) 39 x24) 2 (.bool false)), 69, [], h21⟩) (
bindO (faS 1 (e 1)) fun x25 =>
bindO (loadS none x25 h21) fun x26 =>
bindO (iaS 4 x26 (e 4)) fun x27 =>
bindO (loadS (some 4) x27 h21) fun x28 =>
bindO (storeS 4 (.ptr (Heap.next h21) 0) x28 (Heap.alloc h21 (.cells [(.int .i64 0), (.str []), .nils, .nils]))) fun h29 =>
bindO (faS 0 (.ptr (Heap.next h21) 0)) fun x30 =>
bindO (loadS none x30 h29) fun x31 =>
bindO (eqV (.int .i64) x31 (.int .i64 1)) fun x32 =>
condB x32 (
bindO (faS 1 (.ptr (Heap.next h21) 0)) fun x33 =>
bindO (loadS none x33 h29) fun x34 =>
bindO (lookupS .string (.int .i64 0) true (e 3) x34 h29) fun x35 =>
bindO (extractS x35 0) fun x36 =>
bindO (extractS x35 1) fun x37 =>
condB x37 (
bindO (faS 2 (.ptr (Heap.next h21) 0)) fun x38 =>
bindO (loadS none x38 h29) fun x39 =>
bindO (lenS .slice x39 h29) fun x40 =>
bindO (neV (.int .i64) x36 x40) fun x41 =>
condB x41 (
K .ret ⟨(setV (setV (setV (setV (setV (setV (setV (setV (setV (setV (setV (setV (setV (setV (setV (setV (setV (setV (setV (setV (setV (setV (setV (setV (setV (setV (setV (setV (setV (setV (setV (setV (setV (setV (setV (setV (setV (setV (setV (setV (setV e 29 (e 4)) 30 x15) 31 x16) 32 x17) 33 x18) 36 x19) 37 (e 4)) 38 x20) 39 x24) 40 x25) 41 x26) 42 (e 4)) 43 x27) 44 x28) 5 (.ptr (Heap.next h21) 0)) 45 x30) 46 x31) 47 x32) 49 (e 3)) 50 x33) 51 x34) 52 x35) 48 x35) 53 x36) 54 x37) 6 x36) 7 x37) 55 x37) 56 x37) 56 (.bool true)) 57 x36) 56 (.bool true)) 58 x38) 56 (.bool true)) 59 x39) 56 (.bool true)) 60 x40) 56 (.bool true)) 61 x41) 62 x41) 2 (.bool false)), 69, [], h29⟩) (
bindO (faS 1 (.ptr (Heap.next h21) 0)) fun x42 =>
bindO (loadS none x42 h29) fun x43 =>
bindO (faS 2 (.ptr (Heap.next h21) 0)) fun x44 =>
bindO (loadS none x44 h29) fun x45 =>
bindO (lenS .slice x45 h29) fun x46 =>
bindO (mapUpdateS .string (e 3) x43 x46 h29) fun h47 =>
bindO (binS .add (e 4) (.int .i64 1)) fun x48 =>
K .normal ⟨(setV (setV (setV (setV (setV (setV (setV (setV (setV (setV (setV (setV (setV (setV (setV (setV (setV (setV (setV (setV (setV (setV (setV (setV (setV (setV (setV (setV (setV (setV (setV (setV (setV (setV (setV (setV (setV (setV (setV (setV (setV (setV (setV (setV (setV (setV (setV (setV (setV e 29 (e 4)) 30 x15) 31 x16) 32 x17) 33 x18) 36 x19) 37 (e 4)) 38 x20) 39 x24) 40 x25) 41 x26) 42 (e 4)) 43 x27) 44 x28) 5 (.ptr (Heap.next h21) 0)) 45 x30) 46 x31) 47 x32) 49 (e 3)) 50 x33) 51 x34) 52 x35) 48 x35) 53 x36) 54 x37) 6 x36) 7 x37) 55 x37) 56 x37) 56 (.bool true)) 57 x36) 56 (.bool true)) 58 x38) 56 (.bool true)) 59 x39) 56 (.bool true)) 60 x40) 56 (.bool true)) 61 x41) 62 x41) 63 (e 3)) 64 x42) 65 x43) 66 x44) 67 x45) 68 x46) 34 (e 4)) 35 x48) 4 x48), 69, [], h47⟩)) (
bindO (faS 1 (.ptr (Heap.next h21) 0)) fun x49 =>
bindO (loadS none x49 h29) fun x50 =>
bindO (faS 2 (.ptr (Heap.next h21) 0)) fun x51 =>
bindO (loadS none x51 h29) fun x52 =>
bindO (lenS .slice x52 h29) fun x53 =>
bindO (mapUpdateS .string (e 3) x50 x53 h29) fun h54 =>
bindO (binS .add (e 4) (.int .i64 1)) fun x55 =>
K .normal ⟨(setV (setV (setV (setV (setV (setV (setV (setV (setV (setV (setV (setV (setV (setV (setV (setV (setV (setV (setV (setV (setV (setV (setV (setV (setV (setV (setV (setV (setV (setV (setV (setV (setV (setV (setV (setV (setV (setV (setV (setV (setV (setV (setV (setV (setV (setV (setV (setV (setV e 29 (e 4)) 30 x15) 31 x16) 32 x17) 33 x18) 36 x19) 37 (e 4)) 38 x20) 39 x24) 40 x25) 41 x26) 42 (e 4)) 43 x27) 44 x28) 5 (.ptr (Heap.next h21) 0)) 45 x30) 46 x31) 47 x32) 49 (e 3)) 50 x33) 51 x34) 52 x35) 48 x35) 53 x36) 54 x37) 6 x36) 7 x37) 55 x37) 56 x37) 56 (.bool false)) 57 noV) 56 (.bool false)) 58 noV) 56 (.bool false)) 59 noV) 56 (.bool false)) 60 noV) 56 (.bool false)) 61 noV) 62 (.bool false)) 63 (e 3)) 64 x49) 65 x50) 66 x51) 67 x52) 68 x53) 34 (e 4)) 35 x55) 4 x55), 69, [], h54⟩)) (
bindO (binS .add (e 4) (.int .i64 1)) fun x56 =>
K .normal ⟨(setV (setV (setV (setV (setV (setV (setV (setV (setV (setV (setV (setV (setV (setV (setV (setV (setV (setV (setV (setV (setV e 29 (e 4)) 30 x15) 31 x16) 32 x17) 33 x18) 36 x19) 37 (e 4)) 38 x20) 39 x24) 40 x25) 41 x26) 42 (e 4)) 43 x27) 44 x28) 5 (.ptr (Heap.next h21) 0)) 45 x30) 46 x31) 47 x32) 34 (e 4)) 35 x56) 4 x56), 69, [], h29⟩))) (fun v22 h23 => K (.panic v22) ⟨(setV (setV (setV (setV (setV (setV (setV e 29 (e 4)) 30 x15) 31 x16) 32 x17) 33 x18) 36 x19) 37 (e 4)), 69, [], h23⟩))) (
K (.exit 0) ⟨(setV (setV (setV (setV (setV e 29 (e 4)) 30 x15) 31 x16) 32 x17) 33 x18), 69, [], h⟩)) := by kernel_rfl
theorem F.ref11_Valid.L0_x0_eq {e : Env} {h : Heap} {K : Out → Heap → Bool} : F.ref11_Valid.L0k K (.exit 0) ⟨e, 69, [], h⟩ = (
K (.ret (.bool true)) h) := by kernel_rfl
theorem F.ref11_Valid.L0_r_eq {e : Env} {h : Heap} {K : Out → Heap → Bool} : F.ref11_Valid.L0k K .ret ⟨e, 69, [], h⟩ = (
K (.ret (e 2)) h) := by kernel_rfl
theorem F.ref11_Valid_eq {a0 : AV} {h : Heap} {K : Out → Heap → Bool} : evalS Tryz.prog (semCall Tryz.prog) (codeOf Tryz.f13) ⟨mkEnv [a0], 69, [], h⟩ (leaveK Tryz.prog noD Tryz.f13.results.toList K) = (
bindO (boxS a0) fun c0 =>
bindO (faS 0 (.ptr (Heap.next h) 0)) fun x1 =>
bindO (loadS none x1 (Heap.alloc h (.cells c0))) fun x2 =>
bindO (binS .lss x2 (.int .i64 1)) fun x3 =>
condB x3 (
K (.ret (.bool false)) (Heap.alloc h (.cells c0))) (
bindO (faS 0 (.ptr (Heap.next h) 0)) fun x4 =>
bindO (loadS none x4 (Heap.alloc h (.cells c0))) fun x5 =>
bindO (binS .gtr x5 (.int .i64 64)) fun x6 =>
condB x6 (
K (.ret (.bool false)) (Heap.alloc h (.cells c0))) (
bindO (faS 1 (.ptr (Heap.next h) 0)) fun x7 =>
bindO (loadS none x7 (Heap.alloc h (.cells c0))) fun x8 =>
bindO (lenS .slice x8 (Heap.alloc h (.cells c0))) fun x9 =>
bindO (binS .lss x9 (.int .i64 1)) fun x10 =>
condB x10 (
K (.ret (.bool false)) (Heap.alloc h (.cells c0))) (
bindO (faS 1 (.ptr (Heap.next h) 0)) fun x11 =>
bindO (loadS none x11 (Heap.alloc h (.cells c0))) fun x12 =>
bindO (lenS .slice x12 (Heap.alloc h (.cells c0))) fun x13 =>
bindO (binS .gtr x13 (.int .i64 20000)) fun x14 =>
condB x14 (
K (.ret (.bool false)) (Heap.alloc h (.cells c0))) (
loopB (evalS Tryz.prog (semCall Tryz.prog) F.ref11_Valid.L0) ⟨(setV (setV (setV (setV (setV (setV (setV (setV (setV (setV (setV (setV (setV (setV (setV (setV (setV (setV (setV (setV (setV (setV (setV (setV (setV (setV (setV (setV (setV (setV (setV (setV (setV (setV (setV (setV (mkEnv [a0]) 1 (.ptr (Heap.next h) 0)) 2 (.bool false)) 8 x1) 9 x2) 10 x3) 11 x3) 11 (.bool false)) 12 x4) 11 (.bool false)) 13 x5) 11 (.bool false)) 14 x6) 15 x6) 16 x6) 16 (.bool false)) 17 x7) 16 (.bool false)) 18 x8) 16 (.bool false)) 19 x9) 16 (.bool false)) 20 x10) 21 x10) 22 x10) 22 (.bool false)) 23 x11) 22 (.bool false)) 24 x12) 22 (.bool false)) 25 x13) 22 (.bool false)) 26 x14) 27 x14) 28 (.map (Heap.next (Heap.alloc h (.cells c0))))) 3 (.map (Heap.next (Heap.alloc h (.cells c0))))) 4 (.int .i64 0)), 69, [], (Heap.alloc (Heap.alloc h (.cells c0)) (.map [] 0))⟩ (F.ref11_Valid.L0k K)))))) := by kernel_rfl
theorem F.ref11_Valid_sem {a0 : AV} {h : Heap} {K : Out → Heap → Bool} (hh : (
bindO (boxS a0) fun c0 =>
bindO (faS 0 (.ptr (Heap.next h) 0)) fun x1 =>
bindO (loadS none x1 (Heap.alloc h (.cells c0))) fun x2 =>
bindO (binS .lss x2 (.int .i64 1)) fun x3 =>
condB x3 (
K (.ret (.bool false)) (Heap.alloc h (.cells c0))) (
bindO (faS 0 (.ptr (Heap.next h) 0)) fun x4 =>
bindO (loadS none x4 (Heap.alloc h (.cells c0))) fun x5 =>
bindO (binS .gtr x5 (.int .i64 64)) fun x6 =>
condB x6 (
K (.ret (.bool false)) (Heap.alloc h (.cells c0))) (
bindO (faS 1 (.ptr (Heap.next h) 0)) fun x7 =>
bindO (loadS none x7 (Heap.alloc h (.cells c0))) fun x8 =>
bindO (lenS .slice x8 (Heap.alloc h (.cells c0))) fun x9 =>
bindO (binS .lss x9 (.int .i64 1)) fun x10 =>
condB x10 (
K (.ret (.bool false)) (Heap.alloc h (.cells c0))) (
bindO (faS 1 (.ptr (Heap.next h) 0)) fun x11 =>
bindO (loadS none x11 (Heap.alloc h (.cells c0))) fun x12 =>
bindO (lenS .slice x12 (Heap.alloc h (.cells c0))) fun x13 =>
bindO (binS .gtr x13 (.int .i64 20000)) fun x14 =>
condB x14 (
K (.ret (.bool false)) (Heap.alloc h (.cells c0))) (
loopB (evalS Tryz.prog (semCall Tryz.prog) F.ref11_Valid.L0) ⟨(setV (setV (setV (setV (setV (setV (setV (setV (setV (setV (setV (setV (setV (setV (setV (setV (setV (setV (setV (setV (setV (setV (setV (setV (setV (setV (setV (setV (setV (setV (setV (setV (setV (setV (setV (setV (mkEnv [a0]) 1 (.ptr (Heap.next h) 0)) 2 (.bool false)) 8 x1) 9 x2) 10 x3) 11 x3) 11 (.bool false)) 12 x4) 11 (.bool false)) 13 x5) 11 (.bool false)) 14 x6) 15 x6) 16 x6) 16 (.bool false)) 17 x7) 16 (.bool false)) 18 x8) 16 (.bool false)) 19 x9) 16 (.bool false)) 20 x10) 21 x10) 22 x10) 22 (.bool false)) 23 x11) 22 (.bool false)) 24 x12) 22 (.bool false)) 25 x13) 22 (.bool false)) 26 x14) 27 x14) 28 (.map (Heap.next (Heap.alloc h (.cells c0))))) 3 (.map (Heap.next (Heap.alloc h (.cells c0))))) 4 (.int .i64 0)), 69, [], (Heap.alloc (Heap.alloc h (.cells c0)) (.map [] 0))⟩ (F.ref11_Valid.L0k K)))))) = true) : Sem Tryz.prog 13 [a0] h K :=
  sem_body mixed (noD_sound _) Tryz.func13 (c := codeOf Tryz.f13) rfl (by decide) (of_decide_eq_true (by kernel_rfl)) (F.ref11_Valid_eq.trans hh)
noncomputable def F.law11_Few.L0 : Code := partOf (codeOf Tryz.f11) [1, 1, 0, 1, 0, 0]
noncomputable def F.law11_Few.L0k (K : Out → Heap → Bool) : AX → St → Bool := (blockK 0 (seqK false (evalS Tryz.prog (semCall Tryz.prog) (partOf (codeOf Tryz.f11) [1, 1, 1])) (leaveK Tryz.prog noD Tryz.f11.results.toList K)))
theorem F.law11_Few.L0_eq {e : Env} {h : Heap} {K : AX → St → Bool} : evalS Tryz.prog (semCall Tryz.prog) F.law11_Few.L0 ⟨e, 49, [], h⟩ K = (
bindO (faS 1 (e 2)) fun x1 =>
bindO (loadS none x1 h) fun x2 =>
bindO (lenS .slice x2 h) fun x3 =>
bindO (binS .lss (e 6) x3) fun x4 =>
condB x4 (
bindO (binS .leq (e 5) (e 1)) fun x5 =>
condB x5 (
bindO (binS .add (e 5) (.int .i64 1)) fun x6 =>
bindO (faS 1 (e 2)) fun x7 =>
bindO (loadS none x7 h) fun x8 =>
bindO (iaS 4 x8 (e 6)) fun x9 =>
bindO (faS 3 x9) fun x10 =>
bindO (loadS none x10 h) fun x11 =>
bindO (lenS .slice x11 h) fun x12 =>
bindO (binS .add x6 x12) fun x13 =>
bindO (faS 1 (e 2)) fun x14 =>
bindO (loadS none x14 h) fun x15 =>
bindO (iaS 4 x15 (e 6)) fun x16 =>
bindO (faS 2 x16) fun x17 =>
bindO (loadS none x17 h) fun x18 =>
bindO (lenS .slice x18 h) fun x19 =>
bindO (binS .add x13 x19) fun x20 =>
bindO (faS 1 (e 2)) fun x21 =>
bindO (loadS none x21 h) fun x22 =>
bindO (iaS 4 x22 (e 6)) fun x23 =>
bindO (faS 1 x23) fun x24 =>
bindO (loadS none x24 h) fun x25 =>
bindO (lenS .str x25 h) fun x26 =>
bindO (binS .quo x26 (.int .i64 20)) fun x27 =>
bindO (binS .add x20 x27) fun x28 =>
bindO (binS .add (e 6) (.int .i64 1)) fun x29 =>
K .normal ⟨(setV (setV (setV (setV (setV (setV (setV (setV (setV (setV (setV (setV (setV (setV (setV (setV (setV (setV (setV (setV (setV (setV (setV (setV (setV (setV (setV (setV (setV (setV (setV (setV (setV (setV (setV (setV (setV (setV (setV (setV (setV (setV (setV (setV e 7 (e 6)) 8 x1) 9 x2) 10 x3) 11 x4) 12 x4) 12 (.bool true)) 13 (e 5)) 12 (.bool true)) 14 (e 1)) 12 (.bool true)) 15 x5) 16 x5) 19 (e 5)) 20 x6) 21 x7) 22 x8) 23 (e 6)) 24 x9) 25 x10) 26 x11) 27 x12) 28 x13) 29 x14) 30 x15) 31 (e 6)) 32 x16) 33 x17) 34 x18) 35 x19) 36 x20) 37 x21) 38 x22) 39 (e 6)) 40 x23) 41 x24) 42 x25) 43 x26) 44 x27) 45 x28) 5 x28) 17 (e 6)) 18 x29) 6 x29), 49, [], h⟩) (
K (.exit 0) ⟨(setV (setV (setV (setV (setV (setV (setV (setV (setV (setV (setV (setV (setV e 7 (e 6)) 8 x1) 9 x2) 10 x3) 11 x4) 12 x4) 12 (.bool true)) 13 (e 5)) 12 (.bool true)) 14 (e 1)) 12 (.bool true)) 15 x5) 16 x5), 49, [], h⟩)) (
K (.exit 0) ⟨(setV (setV (setV (setV (setV (setV (setV (setV (setV (setV (setV (setV (setV e 7 (e 6)) 8 x1) 9 x2) 10 x3) 11 x4) 12 x4) 12 (.bool false)) 13 noV) 12 (.bool false)) 14 noV) 12 (.bool false)) 15 noV) 16 (.bool false)), 49, [], h⟩)) := by kernel_rfl
theorem F.law11_Few.L0_x0_eq {e : Env} {h : Heap} {K : Out → Heap → Bool} : F.law11_Few.L0k K (.exit 0) ⟨e, 49, [], h⟩ = (
bindO (binS .leq (e 5) (e 1)) fun x30 =>
K (.ret x30) h) := by kernel_rfl
theorem F.law11_Few_eq {a0 a1 : AV} {h : Heap} {K : Out → Heap → Bool} : evalS Tryz.prog (semCall Tryz.prog) (codeOf Tryz.f11) ⟨mkEnv [a0, a1], 49, [], h⟩ (leaveK Tryz.prog noD Tryz.f11.results.toList K) = (
bindO (boxS a0) fun c0 =>
loopB (evalS Tryz.prog (semCall Tryz.prog) F.law11_Few.L0) ⟨(setV (setV (setV (setV (mkEnv [a0, a1]) 2 (.ptr (Heap.next h) 0)) 4 (.bool false)) 5 (.int .i64 0)) 6 (.int .i64 0)), 49, [], (Heap.alloc h (.cells c0))⟩ (F.law11_Few.L0k K)) := by kernel_rfl
theorem F.law11_Few_sem {a0 a1 : AV} {h : Heap} {K : Out → Heap → Bool} (hh : (
bindO (boxS a0) fun c0 =>
loopB (evalS Tryz.prog (semCall Tryz.prog) F.law11_Few.L0) ⟨(setV (setV (setV (setV (mkEnv [a0, a1]) 2 (.ptr (Heap.next h) 0)) 4 (.bool false)) 5 (.int .i64 0)) 6 (.int .i64 0)), 49, [], (Heap.alloc h (.cells c0))⟩ (F.law11_Few.L0k K)) = true) : Sem Tryz.prog 11 [a0, a1] h K :=
  sem_body mixed (noD_sound _) Tryz.func11 (c := codeOf Tryz.f11) rfl (by decide) (of_decide_eq_true (by kernel_rfl)) (F.law11_Few_eq.trans hh)
end
end Go.AM
/- What small functions answer: letters, words, names, lists of numbers. Conditions: none. -/
namespace Go.AM
open Go Go.Proofs
set_option linter.unusedVariables false
set_option linter.unusedSimpArgs false
noncomputable section

def letterI (n : Int) : Bool := (decide (97 ≤ n) && decide (n ≤ 122)) || (decide (65 ≤ n) && decide (n ≤ 90))
def digitI (n : Int) : Bool := decide (48 ≤ n) && decide (n ≤ 57)
def words : List Str := [[97, 110, 100], [111, 114], [110, 111, 116], [115, 111, 109, 101], [97, 108, 108], [108, 102, 112], [112, 102, 112], [116, 99], [101, 120, 105, 115, 116, 115], [116, 114, 117, 101], [102, 97, 108, 115, 101]]
def wordB (s : Str) : Bool := words.any fun w => s == w

theorem ref01_letter {n : Int} {h : Heap} {K : Out → Heap → Bool} (hK : K (.ret (.bool (letterI n))) h = true) : Sem Tryz.prog 163 [.int .u8 n] h K := by
  refine F.ref01_letter_sem ?_
  simp only [geq_int, leq_int, bindO_some, condB_bool]
  unfold letterI at hK
  by_cases h1 : 97 ≤ n <;> by_cases h2 : n ≤ 122 <;> by_cases h3 : 65 ≤ n <;> by_cases h4 : n ≤ 90 <;> simpa [h1, h2, h3, h4] using hK
theorem ref01_digit {n : Int} {h : Heap} {K : Out → Heap → Bool} (hK : K (.ret (.bool (digitI n))) h = true) : Sem Tryz.prog 165 [.int .u8 n] h K := by
  refine F.ref01_digit_sem ?_
  simp only [geq_int, leq_int, bindO_some, condB_bool]
  unfold digitI at hK
  by_cases h1 : 48 ≤ n <;> by_cases h2 : n ≤ 57 <;> simpa [h1, h2] using hK
theorem shape_letter {n : Int} {h : Heap} {K : Out → Heap → Bool} (hK : K (.ret (.bool (letterI n))) h = true) : Sem Tryz.prog 191 [.int .u8 n] h K := by
  refine F.shape_letter_sem ?_
  simp only [geq_int, leq_int, bindO_some, condB_bool]
  unfold letterI at hK
  by_cases h1 : 97 ≤ n <;> by_cases h2 : n ≤ 122 <;> by_cases h3 : 65 ≤ n <;> by_cases h4 : n ≤ 90 <;> simpa [h1, h2, h3, h4] using hK
theorem shape_digit {n : Int} {h : Heap} {K : Out → Heap → Bool} (hK : K (.ret (.bool (digitI n))) h = true) : Sem Tryz.prog 193 [.int .u8 n] h K := by
  refine F.shape_digit_sem ?_
  simp only [geq_int, leq_int, bindO_some, condB_bool]
  unfold digitI at hK
  by_cases h1 : 48 ≤ n <;> by_cases h2 : n ≤ 57 <;> simpa [h1, h2] using hK
theorem ref01_word {s : Str} {h : Heap} {K : Out → Heap → Bool} (hK : K (.ret (.bool (wordB s))) h = true) : Sem Tryz.prog 164 [.str s] h K := by
  refine F.ref01_Word_sem ?_
  simp only [eq_str, bindO_some, condB_bool]
  simp only [wordB, words, List.any_cons, List.any_nil, Bool.or_false] at hK
  repeat (first | exact hK | (generalize (s == _) = b at hK ⊢; cases b <;> simp only [cond_t, cond_f, Bool.true_or, Bool.false_or] at hK ⊢ <;> try exact hK))
theorem shape_word {s : Str} {h : Heap} {K : Out → Heap → Bool} (hK : K (.ret (.bool (wordB s))) h = true) : Sem Tryz.prog 192 [.str s] h K := by
  refine F.shape_word_sem ?_
  simp only [eq_str, bindO_some, condB_bool]
  simp only [wordB, words, List.any_cons, List.any_nil, Bool.or_false] at hK
  repeat (first | exact hK | (generalize (s == _) = b at hK ⊢; cases b <;> simp only [cond_t, cond_f, Bool.true_or, Bool.false_or] at hK ⊢ <;> try exact hK))
end
end Go.AM
/- Names. Conditions: none. -/
namespace Go.AM
open Go Go.Proofs
set_option linter.unusedVariables false
set_option linter.unusedSimpArgs false
noncomputable section

def okB (b : UInt8) : Bool := letterI b.toNat || digitI b.toNat
def nameB (s : Str) : Bool := match s with
  | [] => false
  | c :: _ => decide (s.length ≤ 12) && (letterI c.toNat && (!wordB s && s.all okB))
theorem take_all {α : Type} {p : α → Bool} {l : List α} {i : Nat} {a : α} (ha : l[i]? = some a) (ht : (l.take i).all p = true) (hp : p a = true) : (l.take (i + 1)).all p = true := by
  rw [List.take_add_one, ha]; simp [ht, hp]
theorem all_false {α : Type} {p : α → Bool} {l : List α} {i : Nat} {a : α} (ha : l[i]? = some a) (hp : p a = false) : l.all p = false := by
  rw [Bool.eq_false_iff]
  intro h
  rw [List.all_eq_true] at h
  have := h a (List.mem_of_getElem? ha)
  rw [hp] at this; cases this

theorem ref01_Name {s : Str} {h : Heap} {K : Out → Heap → Bool} (hK : K (.ret (.bool (nameB s))) h = true) : Sem Tryz.prog 107 [.str s] h K := by
  refine F.ref01_Name_sem ?_
  cases s with
  | nil => simpa [nameB, len_str, lss_int, condB, bindO] using hK
  | cons c s' =>
    have h0 : (c :: s')[0]? = some c := rfl
    simp only [len_str, lss_int, gtr_int, bindO_some, condB_bool]
    have h1 : decide (((c :: s').length : Int) < 1) = false := by simp; omega
    simp only [h1, cond_f]
    by_cases h2 : (c :: s').length ≤ 12
    · have h3 : decide ((12 : Int) < ((c :: s').length : Int)) = false := by simp at h2 ⊢; omega
      simp only [h3, cond_f]
      rw [show strIdxS (.str (c :: s')) (.int .i64 0) = some (.int .u8 (c.toNat : Int)) from idx_str (i := 0) h0]
      simp only [bindO_some]
      refine semCall_true (ref01_letter ?_)
      simp only [outK_ret, not_bool, bindO_some, condB_bool]
      cases hl : letterI c.toNat with
      | false => simpa [nameB, hl] using hK
      | true =>
        simp only [Bool.not_true, cond_f]
        refine semCall_true (ref01_word ?_)
        simp only [outK_ret, condB_bool]
        cases hw : wordB (c :: s') with
        | true => simpa [nameB, hl, hw] using hK
        | false =>
          simp only [cond_f]
          have hn : nameB (c :: s') = (c :: s').all okB := by simp only [nameB, hl, hw, Bool.not_false, Bool.true_and]; rw [decide_eq_true h2, Bool.true_and]
          rw [hn] at hK
          have h4 : ((c :: s').take 1).all okB = true := by simp [okB, hl]
          have h5 : 1 ≤ (c :: s').length := by simp
          clear h0 h1 h3 hl hw hn
          generalize (c :: s') = s at hK h2 h4 h5 ⊢
          refine loopB_range 1 s.length h5 (fun i e h' => h' = h ∧ e 0 = .str s ∧ e 3 = .int .i64 (i : Int) ∧ (s.take i).all okB = true) ⟨rfl, rfl, rfl, h4⟩ ?_ ?_
          · rintro i e h' _ hi ⟨rfl, e0, e3, ht⟩ K' hn hx hr hp
            have hb : s[i]? = some s[i] := List.getElem?_eq_getElem hi
            have hlt : decide ((i : Int) < (s.length : Int)) = true := by simp; omega
            rw [F.ref01_Name.L0_eq]
            simp only [e0, e3, len_str, lss_int, idx_str hb, bindO_some, condB_bool, hlt, cond_t]
            refine semCall_true (ref01_letter ?_)
            simp only [outK_ret, not_bool, bindO_some, condB_bool]
            cases hl : letterI s[i].toNat with
            | true =>
              simp only [Bool.not_true, cond_f, add_i64 (a := (i : Int)) (b := 1) (by omega) (by omega), bindO_some]
              exact hn _ _ ⟨rfl, e0, rfl, take_all hb ht (by simp [okB, hl])⟩
            | false =>
              simp only [Bool.not_false, cond_t]
              refine semCall_true (ref01_digit ?_)
              simp only [outK_ret, not_bool, bindO_some, condB_bool]
              cases hd : digitI s[i].toNat with
              | true =>
                simp only [Bool.not_true, cond_f, add_i64 (a := (i : Int)) (b := 1) (by omega) (by omega), bindO_some]
                exact hn _ _ ⟨rfl, e0, rfl, take_all hb ht (by simp [okB, hd])⟩
              | false =>
                simp only [Bool.not_false, cond_t]
                rw [hr, F.ref01_Name.L0_r_eq]
                have : s.all okB = false := all_false hb (by simp [okB, hl, hd])
                rw [this] at hK; exact hK
          · rintro e h' ⟨rfl, e0, e3, ht⟩ K' hx
            have hlt : decide ((s.length : Int) < (s.length : Int)) = false := by simp
            rw [F.ref01_Name.L0_eq]
            simp only [e0, e3, len_str, lss_int, bindO_some, condB_bool, hlt, cond_f]
            rw [hx, F.ref01_Name.L0_x0_eq]
            rw [List.take_of_length_le (Nat.le_refl _)] at ht
            rw [ht] at hK; exact hK
    · have h3 : decide ((12 : Int) < ((c :: s').length : Int)) = true := by simp at h2 ⊢; omega
      simp only [h3, cond_t]
      have : nameB (c :: s') = false := by simp only [nameB]; rw [decide_eq_false h2]; rfl
      rw [this] at hK; exact hK
theorem shape_Name {s : Str} {h : Heap} {K : Out → Heap → Bool} (hK : K (.ret (.bool (nameB s))) h = true) : Sem Tryz.prog 152 [.str s] h K := by
  refine F.shape_Name_sem ?_
  cases s with
  | nil => simpa [nameB, eq_str, condB, bindO] using hK
  | cons c s' =>
    have h0 : (c :: s')[0]? = some c := rfl
    have h1 : ((c :: s') == ([] : Str)) = false := rfl
    simp only [len_str, eq_str, gtr_int, bindO_some, condB_bool, h1, cond_f]
    by_cases h2 : (c :: s').length ≤ 12
    · have h3 : decide ((12 : Int) < ((c :: s').length : Int)) = false := by simp at h2 ⊢; omega
      simp only [h3, cond_f]
      rw [show strIdxS (.str (c :: s')) (.int .i64 0) = some (.int .u8 (c.toNat : Int)) from idx_str (i := 0) h0]
      simp only [bindO_some]
      refine semCall_true (shape_letter ?_)
      simp only [outK_ret, not_bool, bindO_some, condB_bool]
      cases hl : letterI c.toNat with
      | false => simpa [nameB, hl] using hK
      | true =>
        simp only [Bool.not_true, cond_f]
        refine semCall_true (shape_word ?_)
        simp only [outK_ret, condB_bool]
        cases hw : wordB (c :: s') with
        | true => simpa [nameB, hl, hw] using hK
        | false =>
          simp only [cond_f, len_str, bindO_some]
          have hn : nameB (c :: s') = (c :: s').all okB := by simp only [nameB, hl, hw, Bool.not_false, Bool.true_and]; rw [decide_eq_true h2, Bool.true_and]
          rw [hn] at hK
          have h4 : ((c :: s').take 1).all okB = true := by simp [okB, hl]
          have h5 : 1 ≤ (c :: s').length := by simp
          clear h0 h1 h3 hl hw hn
          generalize (c :: s') = s at hK h2 h4 h5 ⊢
          refine loopB_range 0 s.length (Nat.zero_le _) (fun i e h' => h' = h ∧ e 0 = .str s ∧ e 23 = .int .i64 (i : Int) ∧ e 22 = .int .i64 (s.length : Int) ∧ (s.take i).all okB = true) ⟨rfl, rfl, rfl, rfl, rfl⟩ ?_ ?_
          · rintro i e h' _ hi ⟨rfl, e0, e3, e22, ht⟩ K' hn hx hr hp
            have hb : s[i]? = some s[i] := List.getElem?_eq_getElem hi
            have hlt : decide ((i : Int) < (s.length : Int)) = true := by simp; omega
            rw [F.shape_Name.L0_eq]
            simp only [e0, e3, e22, len_str, lss_int, idx_str hb, bindO_some, condB_bool, hlt, cond_t]
            refine semCall_true (shape_letter ?_)
            simp only [outK_ret, not_bool, bindO_some, condB_bool]
            cases hl : letterI s[i].toNat with
            | true =>
              simp only [Bool.not_true, cond_f, add_i64 (a := (i : Int)) (b := 1) (by omega) (by omega), bindO_some]
              exact hn _ _ ⟨rfl, e0, rfl, e22, take_all hb ht (by simp [okB, hl])⟩
            | false =>
              simp only [Bool.not_false, cond_t]
              refine semCall_true (shape_digit ?_)
              simp only [outK_ret, not_bool, bindO_some, condB_bool]
              cases hd : digitI s[i].toNat with
              | true =>
                simp only [Bool.not_true, cond_f, add_i64 (a := (i : Int)) (b := 1) (by omega) (by omega), bindO_some]
                exact hn _ _ ⟨rfl, e0, rfl, e22, take_all hb ht (by simp [okB, hd])⟩
              | false =>
                simp only [Bool.not_false, cond_t]
                rw [hr, F.shape_Name.L0_r_eq]
                have : s.all okB = false := all_false hb (by simp [okB, hl, hd])
                rw [this] at hK; exact hK
          · rintro e h' ⟨rfl, e0, e3, e22, ht⟩ K' hx
            have hlt : decide ((s.length : Int) < (s.length : Int)) = false := by simp
            rw [F.shape_Name.L0_eq]
            simp only [e0, e3, e22, len_str, lss_int, bindO_some, condB_bool, hlt, cond_f]
            rw [hx, F.shape_Name.L0_x0_eq]
            rw [List.take_of_length_le (Nat.le_refl _)] at ht
            rw [ht] at hK; exact hK
    · have h3 : decide ((12 : Int) < ((c :: s').length : Int)) = true := by simp at h2 ⊢; omega
      simp only [h3, cond_t]
      have : nameB (c :: s') = false := by simp only [nameB]; rw [decide_eq_false h2]; rfl
      rw [this] at hK; exact hK
end
end Go.AM
/- Gates and circuits: which are valid. Conditions: none. -/
namespace Go.AM
open Go Go.Proofs
set_option linter.unusedVariables false
set_option linter.unusedSimpArgs false
noncomputable section

theorem get_ints {x : Sl Int} {i : Nat} {v : Int} (hv : x.l[i]? = some v) {h : Heap} : loadS none (.iptr (x.l.flatMap encI) (i * 1)) h = some (.int .i64 v) := by
  rw [load_elem1 len_encI hv]; rfl
def inB (n : Int) (l : List Int) : Bool := l.all fun x => !decide (x < 0) && !decide (n ≤ x)
theorem ref01_In {n : Int} {x : Sl Int} (hx : x.l.length ≤ big) {h : Heap} {K : Out → Heap → Bool} (hK : K (.ret (.bool (inB n x.l))) h = true) : Sem Tryz.prog 108 [.int .i64 n, encSl encI 1 x] h K := by
  refine F.ref01_In_sem ?_
  refine loopB_range 0 x.l.length (Nat.zero_le _) (fun i e h' => h' = h ∧ e 0 = .int .i64 n ∧ e 1 = encSl encI 1 x ∧ e 5 = .int .i64 (i : Int) ∧ inB n (x.l.take i) = true) ⟨rfl, rfl, rfl, rfl, rfl⟩ ?_ ?_
  · rintro i e h' _ hi ⟨rfl, e0, e1, e5, ht⟩ K' hn hx' hr hp
    have hv : x.l[i]? = some x.l[i] := List.getElem?_eq_getElem hi
    rw [F.ref01_In.L0_eq]
    simp only [e0, e1, e5, bindO_some, bindO2_some, outK_ret, condB_bool, cond_t, cond_f, fa_ptr, fa_iptr, part_none, Nat.zero_add, Nat.add_zero, Nat.reduceAdd, List.getElem?_cons_zero, List.getElem?_cons_succ, len_str, lenS_enc, lss_int, leq_int, gtr_int, geq_int, eq_int, ne_int, eq_str, ne_str, eq_bool, ne_bool, not_bool, extract_0, extract_1, extract_2, setV_eq, Nat.reduceEqDiff, reduceIte, lt_true hi, iaS_enc x hi, get_ints hv]
    by_cases h1 : x.l[i] < 0
    · simp only [decide_eq_true h1, cond_t]
      rw [hr, F.ref01_In.L0_r_eq]
      have : inB n x.l = false := all_false hv (by simp [h1])
      rw [this] at hK; exact hK
    · simp only [decide_eq_false h1, cond_f]
      by_cases h2 : n ≤ x.l[i]
      · simp only [decide_eq_true h2, cond_t]
        rw [hr, F.ref01_In.L0_r_eq]
        have : inB n x.l = false := all_false hv (by simp [h2])
        rw [this] at hK; exact hK
      · simp only [decide_eq_false h2, cond_f, succ_i64 hi hx, bindO_some]
        exact hn _ _ ⟨rfl, e0, e1, rfl, take_all hv ht (by simp [h1, h2])⟩
  · rintro e h' ⟨rfl, e0, e1, e5, ht⟩ K' hx'
    rw [F.ref01_In.L0_eq]
    simp only [e0, e1, e5, bindO_some, bindO2_some, outK_ret, condB_bool, cond_t, cond_f, fa_ptr, fa_iptr, part_none, Nat.zero_add, Nat.add_zero, Nat.reduceAdd, List.getElem?_cons_zero, List.getElem?_cons_succ, len_str, lenS_enc, lss_int, leq_int, gtr_int, geq_int, eq_int, ne_int, eq_str, ne_str, eq_bool, ne_bool, not_bool, extract_0, extract_1, extract_2, setV_eq, Nat.reduceEqDiff, reduceIte, lt_false]
    rw [hx', F.ref01_In.L0_x0_eq]
    rw [List.take_of_length_le (Nat.le_refl _)] at ht
    rw [ht] at hK; exact hK

/-- slices.IndexFunc over numbers, its function known at this heap. -/
theorem IndexFunc_int {x : Sl Int} (hx : x.l.length ≤ big) {g : FuncId} {a b : List AV} {h : Heap} {p : Int → Bool} (hp : ∀ (v : Int) (K : Out → Heap → Bool), K (.ret (.bool (p v))) h = true → Sem Tryz.prog g (a ++ ([.int .i64 v] ++ b)) h K)
    {K : Out → Heap → Bool} (hK : ∀ n : Int, decide (0 ≤ n) = x.l.any p → K (.ret (.int .i64 n)) h = true) : Sem Tryz.prog 168 [encSl encI 1 x, .func g a b] h K := by
  refine F.slices_IndexFunc_S_int_int_sem ?_
  simp only [bindO_some, bindO2_some, outK_ret, condB_bool, cond_t, cond_f, fa_ptr, fa_iptr, part_none, Nat.zero_add, Nat.add_zero, Nat.reduceAdd, List.getElem?_cons_zero, List.getElem?_cons_succ, len_str, lenS_enc, lss_int, leq_int, gtr_int, geq_int, eq_int, ne_int, eq_str, ne_str, eq_bool, ne_bool, not_bool, extract_0, extract_1, extract_2, setV_eq, Nat.reduceEqDiff, reduceIte]
  refine loopB_range 0 x.l.length (Nat.zero_le _) (fun i e h' => h' = h ∧ e 0 = encSl encI 1 x ∧ e 1 = .func g a b ∧ e 7 = .int .i64 (x.l.length : Int) ∧ e 8 = .int .i64 (i : Int) ∧ (x.l.take i).any p = false) ⟨rfl, rfl, rfl, rfl, rfl, rfl⟩ ?_ ?_
  · rintro i e h' _ hi ⟨rfl, e0, e1, e7, e8, ht⟩ K' hn hx' hr hp'
    have hv : x.l[i]? = some x.l[i] := List.getElem?_eq_getElem hi
    rw [F.slices_IndexFunc_S_int_int.L0_eq]
    simp only [e0, e1, e7, e8, bindO_some, bindO2_some, outK_ret, condB_bool, cond_t, cond_f, fa_ptr, fa_iptr, part_none, Nat.zero_add, Nat.add_zero, Nat.reduceAdd, List.getElem?_cons_zero, List.getElem?_cons_succ, len_str, lenS_enc, lss_int, leq_int, gtr_int, geq_int, eq_int, ne_int, eq_str, ne_str, eq_bool, ne_bool, not_bool, extract_0, extract_1, extract_2, setV_eq, Nat.reduceEqDiff, reduceIte, lt_true hi, iaS_enc x hi, get_ints hv, callV_func]
    refine semCall_true (hp _ _ ?_)
    simp only [bindO_some, bindO2_some, outK_ret, condB_bool, cond_t, cond_f, fa_ptr, fa_iptr, part_none, Nat.zero_add, Nat.add_zero, Nat.reduceAdd, List.getElem?_cons_zero, List.getElem?_cons_succ, len_str, lenS_enc, lss_int, leq_int, gtr_int, geq_int, eq_int, ne_int, eq_str, ne_str, eq_bool, ne_bool, not_bool, extract_0, extract_1, extract_2, setV_eq, Nat.reduceEqDiff, reduceIte]
    cases hq : p x.l[i] with
    | true =>
      simp only [cond_t]
      rw [hr, F.slices_IndexFunc_S_int_int.L0_r_eq]
      refine hK (i : Int) ?_
      rw [decide_eq_true (by omega : (0 : Int) ≤ (i : Int))]
      exact (List.any_eq_true.2 ⟨_, List.mem_of_getElem? hv, hq⟩).symm
    | false =>
      simp only [cond_f, succ_i64 hi hx, bindO_some]
      exact hn _ _ ⟨rfl, e0, e1, e7, rfl, by rw [List.take_add_one, hv, List.any_append, ht]; simp [hq]⟩
  · rintro e h' ⟨rfl, e0, e1, e7, e8, ht⟩ K' hx'
    rw [F.slices_IndexFunc_S_int_int.L0_eq]
    simp only [e0, e1, e7, e8, bindO_some, bindO2_some, outK_ret, condB_bool, cond_t, cond_f, fa_ptr, fa_iptr, part_none, Nat.zero_add, Nat.add_zero, Nat.reduceAdd, List.getElem?_cons_zero, List.getElem?_cons_succ, len_str, lenS_enc, lss_int, leq_int, gtr_int, geq_int, eq_int, ne_int, eq_str, ne_str, eq_bool, ne_bool, not_bool, extract_0, extract_1, extract_2, setV_eq, Nat.reduceEqDiff, reduceIte, lt_false]
    rw [hx', F.slices_IndexFunc_S_int_int.L0_x0_eq]
    rw [List.take_of_length_le (Nat.le_refl _)] at ht
    exact hK (-1) (by rw [ht]; rfl)
theorem ContainsFunc_int {x : Sl Int} (hx : x.l.length ≤ big) {g : FuncId} {a b : List AV} {h : Heap} {p : Int → Bool} (hp : ∀ (v : Int) (K : Out → Heap → Bool), K (.ret (.bool (p v))) h = true → Sem Tryz.prog g (a ++ ([.int .i64 v] ++ b)) h K)
    {K : Out → Heap → Bool} (hK : K (.ret (.bool (x.l.any p))) h = true) : Sem Tryz.prog 112 [encSl encI 1 x, .func g a b] h K := by
  refine F.slices_ContainsFunc_S_int_int_sem ?_
  refine semCall_true (IndexFunc_int hx hp fun n hn => ?_)
  simp only [bindO_some, bindO2_some, outK_ret, condB_bool, cond_t, cond_f, fa_ptr, fa_iptr, part_none, Nat.zero_add, Nat.add_zero, Nat.reduceAdd, List.getElem?_cons_zero, List.getElem?_cons_succ, len_str, lenS_enc, lss_int, leq_int, gtr_int, geq_int, eq_int, ne_int, eq_str, ne_str, eq_bool, ne_bool, not_bool, extract_0, extract_1, extract_2, setV_eq, Nat.reduceEqDiff, reduceIte]
  rw [hn]; exact hK

structure Gate where
  kind : Int
  name : Str
  at_ : Sl Int
  kids : Sl Int
def encGate (g : Gate) : List AV := [.int .i64 g.kind, .str g.name, encSl encI 1 g.at_, encSl encI 1 g.kids]
theorem len_encGate (g : Gate) : (encGate g).length = 4 := rfl
theorem pure_encGate (g : Gate) : AV.pureL (encGate g) = true := by simp [encGate, AV.pureL, AV.pure, pure_encSl pure_encI]
theorem one_encGate (g : Gate) : oneAll (encGate g) = true := by
  unfold encGate; simp only [oneAll, one_encSl, Bool.and_true]; rfl
def Gate.ok (g : Gate) : Prop := g.name.length ≤ big ∧ g.at_.l.length ≤ big ∧ g.kids.l.length ≤ big
structure Circ where
  size : Int
  gates : Sl Gate
def encCirc (c : Circ) : List AV := [.int .i64 c.size, encSl encGate 4 c.gates]
theorem pure_encCirc (c : Circ) : AV.pureL (encCirc c) = true := by simp [encCirc, AV.pureL, AV.pure, pure_encSl pure_encGate]
theorem one_encCirc (c : Circ) : oneAll (encCirc c) = true := by
  unfold encCirc; simp only [oneAll, one_encSl, Bool.and_true]; rfl
def Circ.ok (c : Circ) : Prop := c.gates.l.length ≤ big ∧ ∀ g ∈ c.gates.l, g.ok

def outB (n : Int) (x : Int) : Bool := decide (x < 0) || decide (n ≤ x)
theorem fitting_1 {b : Nat} {h : Heap} {n : Int} (hb : h.get b = some (.cells [.int .i64 n])) (v : Int) (K : Out → Heap → Bool) (hK : K (.ret (.bool (outB n v))) h = true) : Sem Tryz.prog 166 ([] ++ ([.int .i64 v] ++ [.ptr b 0])) h K := by
  refine F.gate_fitting_1_sem ?_
  simp only [load_ptr hb, bindO_some, bindO2_some, outK_ret, condB_bool, cond_t, cond_f, fa_ptr, fa_iptr, part_none, Nat.zero_add, Nat.add_zero, Nat.reduceAdd, List.getElem?_cons_zero, List.getElem?_cons_succ, len_str, lenS_enc, lss_int, leq_int, gtr_int, geq_int, eq_int, ne_int, eq_str, ne_str, eq_bool, ne_bool, not_bool, extract_0, extract_1, extract_2, setV_eq, Nat.reduceEqDiff, reduceIte]
  unfold outB at hK
  by_cases h1 : v < 0 <;> by_cases h2 : n ≤ v <;> simpa [h1, h2] using hK
theorem fitting_2 {b : Nat} {h : Heap} {n : Int} (hb : h.get b = some (.cells [.int .i64 n])) (v : Int) (K : Out → Heap → Bool) (hK : K (.ret (.bool (outB n v))) h = true) : Sem Tryz.prog 167 ([] ++ ([.int .i64 v] ++ [.ptr b 0])) h K := by
  refine F.gate_fitting_2_sem ?_
  simp only [load_ptr hb, bindO_some, bindO2_some, outK_ret, condB_bool, cond_t, cond_f, fa_ptr, fa_iptr, part_none, Nat.zero_add, Nat.add_zero, Nat.reduceAdd, List.getElem?_cons_zero, List.getElem?_cons_succ, len_str, lenS_enc, lss_int, leq_int, gtr_int, geq_int, eq_int, ne_int, eq_str, ne_str, eq_bool, ne_bool, not_bool, extract_0, extract_1, extract_2, setV_eq, Nat.reduceEqDiff, reduceIte]
  unfold outB at hK
  by_cases h1 : v < 0 <;> by_cases h2 : n ≤ v <;> simpa [h1, h2] using hK

theorem in_out (n : Int) (l : List Int) : inB n l = !(l.any (outB n)) := by
  unfold inB outB
  induction l with
  | nil => rfl
  | cons a l ih => simp only [List.all_cons, List.any_cons, ih]; cases decide (a < 0) <;> cases decide (n ≤ a) <;> rfl
/-- A gate at a place is what its kind asks. -/
def fitB (n : Int) (i : Nat) (g : Gate) : Bool :=
  decide (0 ≤ g.kind) && (decide (g.kind ≤ 4) && (inB (i : Int) g.kids.l &&
    (if g.kind = 1 then nameB g.name && (decide (g.at_.l.length ≤ 12) && (decide (g.kids.l.length = 0) && inB n g.at_.l))
    else decide (g.name = []) && (decide (g.at_.l.length = 0) && ((!decide (g.kind = 0) || decide (g.kids.l.length = 0)) && (!decide (g.kind = 2) || decide (g.kids.l.length = 1)))))))

theorem gate_fitting {g : Gate} (hg : g.ok) {i : Nat} {n : Int} {h : Heap} {K : Out → Heap → Bool} (hK : K (.ret (.bool (fitB n i g))) h = true) : Sem Tryz.prog 109 [.agg (encGate g), .int .i64 (i : Int), .int .i64 n] h K := by
  refine Sem.data (r := .bool (fitB n i g)) ?_ (by simp [AV.pureL, AV.pure, pure_encGate]) hK
  clear hK
  refine F.gate_fitting_sem ?_
  simp only [box_agg (one_encGate g), box_one (x := .int .i64 _) rfl, bindO_some, next_empty, Heap.next_alloc]
  have g0 : (Heap.alloc (Heap.alloc (Heap.alloc Heap.empty (.cells (encGate g))) (.cells [.int .i64 (i : Int)])) (.cells [.int .i64 n])).get 0 = some (.cells (encGate g)) := by simp [Heap.get_alloc, next_empty]
  have g1 : (Heap.alloc (Heap.alloc (Heap.alloc Heap.empty (.cells (encGate g))) (.cells [.int .i64 (i : Int)])) (.cells [.int .i64 n])).get 1 = some (.cells [.int .i64 (i : Int)]) := by simp [Heap.get_alloc, next_empty]
  have g2 : (Heap.alloc (Heap.alloc (Heap.alloc Heap.empty (.cells (encGate g))) (.cells [.int .i64 (i : Int)])) (.cells [.int .i64 n])).get 2 = some (.cells [.int .i64 n]) := by simp [Heap.get_alloc, next_empty]
  generalize (Heap.alloc (Heap.alloc (Heap.alloc Heap.empty (.cells (encGate g))) (.cells [.int .i64 (i : Int)])) (.cells [.int .i64 n])) = H at g0 g1 g2 ⊢
  have fin : ∀ b : Bool, b = fitB n i g → frzK (.bool (fitB n i g)) (.ret (.bool b)) H = true := fun b hb => by rw [hb]; exact frzK_same rfl
  simp only [bindO_some, bindO2_some, outK_ret, condB_bool, cond_t, cond_f, fa_ptr, fa_iptr, part_none, Nat.zero_add, Nat.add_zero, Nat.reduceAdd, List.getElem?_cons_zero, List.getElem?_cons_succ, len_str, lenS_enc, lss_int, leq_int, gtr_int, geq_int, eq_int, ne_int, eq_str, ne_str, eq_bool, ne_bool, not_bool, extract_0, extract_1, extract_2, setV_eq, Nat.reduceEqDiff, reduceIte, load_ptr g0, encGate]
  by_cases k0 : g.kind < 0
  · simp only [decide_eq_true k0, cond_t]
    exact fin _ (by simp only [fitB]; rw [decide_eq_false (by omega)]; rfl)
  simp only [decide_eq_false k0, cond_f]
  by_cases k4 : 5 ≤ g.kind
  · simp only [decide_eq_true k4, cond_t]
    exact fin _ (by simp only [fitB]; rw [decide_eq_false (by omega : ¬ g.kind ≤ 4), Bool.false_and, Bool.and_false])
  simp only [decide_eq_false k4, cond_f]
  have hf : fitB n i g = (inB (i : Int) g.kids.l &&
    (if g.kind = 1 then nameB g.name && (decide (g.at_.l.length ≤ 12) && (decide (g.kids.l.length = 0) && inB n g.at_.l))
    else decide (g.name = []) && (decide (g.at_.l.length = 0) && ((!decide (g.kind = 0) || decide (g.kids.l.length = 0)) && (!decide (g.kind = 2) || decide (g.kids.l.length = 1)))))) := by
    simp only [fitB]; rw [decide_eq_true (by omega : 0 ≤ g.kind), decide_eq_true (by omega : g.kind ≤ 4), Bool.true_and, Bool.true_and]
  rw [hf] at fin ⊢
  clear hf
  refine semCall_true (ContainsFunc_int hg.2.2 (fitting_1 g1) ?_)
  simp only [bindO_some, bindO2_some, outK_ret, condB_bool, cond_t, cond_f, fa_ptr, fa_iptr, part_none, Nat.zero_add, Nat.add_zero, Nat.reduceAdd, List.getElem?_cons_zero, List.getElem?_cons_succ, len_str, lenS_enc, lss_int, leq_int, gtr_int, geq_int, eq_int, ne_int, eq_str, ne_str, eq_bool, ne_bool, not_bool, extract_0, extract_1, extract_2, setV_eq, Nat.reduceEqDiff, reduceIte]
  rw [in_out] at fin ⊢
  cases hq : g.kids.l.any (outB (i : Int)) with
  | true =>
    rw [hq] at fin
    simp only [cond_t]; exact fin _ (by simp)
  | false =>
    rw [hq] at fin
    simp only [cond_f, Bool.not_false, Bool.true_and] at fin ⊢
    simp only [load_ptr g0, bindO_some, bindO2_some, outK_ret, condB_bool, cond_t, cond_f, fa_ptr, fa_iptr, part_none, Nat.zero_add, Nat.add_zero, Nat.reduceAdd, List.getElem?_cons_zero, List.getElem?_cons_succ, len_str, lenS_enc, lss_int, leq_int, gtr_int, geq_int, eq_int, ne_int, eq_str, ne_str, eq_bool, ne_bool, not_bool, extract_0, extract_1, extract_2, setV_eq, Nat.reduceEqDiff, reduceIte, encGate, int_beq]
    by_cases k1 : g.kind = 1
    · simp only [decide_eq_true k1, cond_t]
      rw [if_pos k1] at fin ⊢
      refine semCall_true (shape_Name ?_)
      simp only [bindO_some, bindO2_some, outK_ret, condB_bool, cond_t, cond_f, fa_ptr, fa_iptr, part_none, Nat.zero_add, Nat.add_zero, Nat.reduceAdd, List.getElem?_cons_zero, List.getElem?_cons_succ, len_str, lenS_enc, lss_int, leq_int, gtr_int, geq_int, eq_int, ne_int, eq_str, ne_str, eq_bool, ne_bool, not_bool, extract_0, extract_1, extract_2, setV_eq, Nat.reduceEqDiff, reduceIte, load_ptr g0, encGate, int_beq]
      generalize nameB g.name = nb at fin ⊢
      cases nb with
      | false => simp only [cond_f]; exact fin _ (by rw [Bool.false_and])
      | true =>
        simp only [cond_t, Bool.true_and] at fin ⊢
        by_cases h12 : g.at_.l.length ≤ 12
        · simp only [decide_eq_true (by omega : (g.at_.l.length : Int) ≤ 12), cond_t]
          rw [decide_eq_true h12, Bool.true_and] at fin ⊢
          by_cases hk : g.kids.l.length = 0
          · rw [decide_eq_true hk, Bool.true_and] at fin ⊢
            simp only [decide_eq_true (by omega : (g.kids.l.length : Int) = 0), cond_t]
            refine semCall_true (ContainsFunc_int hg.2.1 (fitting_2 g2) ?_)
            simp only [bindO_some, bindO2_some, outK_ret, condB_bool, cond_t, cond_f, fa_ptr, fa_iptr, part_none, Nat.zero_add, Nat.add_zero, Nat.reduceAdd, List.getElem?_cons_zero, List.getElem?_cons_succ, len_str, lenS_enc, lss_int, leq_int, gtr_int, geq_int, eq_int, ne_int, eq_str, ne_str, eq_bool, ne_bool, not_bool, extract_0, extract_1, extract_2, setV_eq, Nat.reduceEqDiff, reduceIte]
            rw [in_out] at fin ⊢
            exact fin _ rfl
          · rw [decide_eq_false hk, Bool.false_and] at fin ⊢
            simp only [decide_eq_false (by omega : ¬ (g.kids.l.length : Int) = 0), cond_f]
            exact fin _ rfl
        · simp only [decide_eq_false (by omega : ¬ (g.at_.l.length : Int) ≤ 12), cond_f]
          rw [decide_eq_false h12, Bool.false_and] at fin ⊢
          exact fin _ rfl
    · simp only [decide_eq_false k1, cond_f]
      rw [if_neg k1] at fin ⊢
      have e1 : (g.name == ([] : Str)) = decide (g.name = []) := by cases g.name <;> simp
      have e2 : decide ((g.at_.l.length : Int) = 0) = decide (g.at_.l.length = 0) := by simp
      have e3 : decide ((g.kids.l.length : Int) = 0) = decide (g.kids.l.length = 0) := by simp
      have e4 : decide ((g.kids.l.length : Int) = 1) = decide (g.kids.l.length = 1) := by simp; omega
      simp only [e1, e2, e3, e4]
      generalize decide (g.name = []) = b1 at fin ⊢
      generalize decide (g.at_.l.length = 0) = b2 at fin ⊢
      generalize decide (g.kids.l.length = 0) = b3 at fin ⊢
      generalize decide (g.kids.l.length = 1) = b4 at fin ⊢
      generalize decide (g.kind = 0) = b5 at fin ⊢
      generalize decide (g.kind = 2) = b6 at fin ⊢
      cases b1 <;> cases b2 <;> cases b5 <;> cases b6 <;> simp only [cond_t, cond_f, Bool.not_true, Bool.not_false, Bool.true_and, Bool.false_and, Bool.true_or, Bool.false_or, Bool.and_true] at fin ⊢ <;> (try exact fin _ rfl) <;> cases b3 <;> simp only [cond_t, cond_f, Bool.true_and, Bool.false_and] at fin ⊢ <;> exact fin _ rfl
end
end Go.AM
/- The reference's gates. Conditions: none. -/
namespace Go.AM
open Go Go.Proofs
set_option linter.unusedVariables false
set_option linter.unusedSimpArgs false
noncomputable section

theorem ref11_gate {c : Circ} (hc : c.ok) {i : Nat} {g : Gate} (hg : c.gates.l[i]? = some g) {h : Heap} {K : Out → Heap → Bool} (hK : K (.ret (.bool (fitB c.size i g))) h = true) : Sem Tryz.prog 53 [.agg (encCirc c), .int .i64 (i : Int)] h K := by
  refine Sem.data (r := .bool (fitB c.size i g)) ?_ (by simp [AV.pureL, AV.pure, pure_encCirc]) hK
  clear hK
  have hi : i < c.gates.l.length := (List.getElem?_eq_some_iff.1 hg).1
  have hgo : g.ok := hc.2 g (List.mem_of_getElem? hg)
  refine F.ref11_gate_sem ?_
  have b0 : (Heap.alloc Heap.empty (.cells (encCirc c))).get 0 = some (.cells (encCirc c)) := get_alloc_same _ _
  have bn : (Heap.alloc Heap.empty (.cells (encCirc c))).next = 1 := rfl
  simp only [box_agg (one_encCirc c), bindO_some, next_empty]
  generalize (Heap.alloc Heap.empty (.cells (encCirc c))) = H0 at b0 bn ⊢
  obtain ⟨H, hs, g1, go, gn⟩ := store_new (h := H0) (zs := [.int .i64 0, .str [], .nils, .nils]) (cs := encGate g) (n := 4) rfl rfl (one_encGate g)
  rw [bn] at hs g1
  have g0 : H.get 0 = some (.cells (encCirc c)) := by rw [go 0 (by omega)]; exact b0
  simp only [bindO_some, bindO2_some, outK_ret, condB_bool, cond_t, cond_f, fa_ptr, fa_iptr, part_none, Nat.zero_add, Nat.add_zero, Nat.reduceAdd, List.getElem?_cons_zero, List.getElem?_cons_succ, len_str, lenS_enc, lss_int, leq_int, gtr_int, geq_int, eq_int, ne_int, eq_str, ne_str, eq_bool, ne_bool, not_bool, extract_0, extract_1, extract_2, setV_eq, Nat.reduceEqDiff, reduceIte, load_ptr b0, encCirc, iaS_enc c.gates hi, load_agg len_encGate hg, bn, hs]
  simp only [bindO_some, bindO2_some, outK_ret, condB_bool, cond_t, cond_f, fa_ptr, fa_iptr, part_none, Nat.zero_add, Nat.add_zero, Nat.reduceAdd, List.getElem?_cons_zero, List.getElem?_cons_succ, len_str, lenS_enc, lss_int, leq_int, gtr_int, geq_int, eq_int, ne_int, eq_str, ne_str, eq_bool, ne_bool, not_bool, extract_0, extract_1, extract_2, setV_eq, Nat.reduceEqDiff, reduceIte, load_ptr g1, encGate, int_beq]
  have fin : ∀ b : Bool, b = fitB c.size i g → frzK (.bool (fitB c.size i g)) (.ret (.bool b)) H = true := fun b hb => by rw [hb]; exact frzK_same rfl
  have L : ∀ e0 : Env, e0 1 = .int .i64 (i : Int) → e0 2 = .ptr 0 0 → e0 5 = .ptr 1 0 → e0 6 = .int .i64 0 → (g.kind ≠ 1 → g.name = [] ∧ g.at_.l.length = 0) →
      loopB (evalS Tryz.prog (semCall Tryz.prog) F.ref11_gate.L0) ⟨e0, 89, [], H⟩ (F.ref11_gate.L0k (frzK (.bool (fitB c.size i g)))) = true := by
    intro e0 q1 q2 q5 q6 hpre
    refine loopB_range 0 g.kids.l.length (Nat.zero_le _) (fun k e h' => h' = H ∧ e 1 = .int .i64 (i : Int) ∧ e 2 = .ptr 0 0 ∧ e 5 = .ptr 1 0 ∧ e 6 = .int .i64 (k : Int) ∧ inB (i : Int) (g.kids.l.take k) = true) ⟨rfl, q1, q2, q5, q6, rfl⟩ ?_ ?_
    · rintro k e h' _ hk ⟨rfl, e1, e2, e5, e6, ht⟩ K' hn hx hr hp
      have hv : g.kids.l[k]? = some g.kids.l[k] := List.getElem?_eq_getElem hk
      rw [F.ref11_gate.L0_eq]
      simp only [e1, e2, e5, e6, bindO_some, bindO2_some, outK_ret, condB_bool, cond_t, cond_f, fa_ptr, fa_iptr, part_none, Nat.zero_add, Nat.add_zero, Nat.reduceAdd, List.getElem?_cons_zero, List.getElem?_cons_succ, len_str, lenS_enc, lss_int, leq_int, gtr_int, geq_int, eq_int, ne_int, eq_str, ne_str, eq_bool, ne_bool, not_bool, extract_0, extract_1, extract_2, setV_eq, Nat.reduceEqDiff, reduceIte, load_ptr g1, encGate, lt_true hk, iaS_enc g.kids hk, get_ints hv]
      by_cases h1 : g.kids.l[k] < 0
      · simp only [decide_eq_true h1, cond_t]
        rw [hr, F.ref11_gate.L0_r_eq]
        have : inB (i : Int) g.kids.l = false := all_false hv (by simp [h1])
        exact fin _ (by simp [fitB, this])
      · simp only [decide_eq_false h1, cond_f]
        by_cases h2 : (i : Int) ≤ g.kids.l[k]
        · simp only [decide_eq_true h2, cond_t]
          rw [hr, F.ref11_gate.L0_r_eq]
          have : inB (i : Int) g.kids.l = false := all_false hv (by simp [h2])
          exact fin _ (by simp [fitB, this])
        · simp only [decide_eq_false h2, cond_f, succ_i64 hk hgo.2.2, bindO_some]
          exact hn _ _ ⟨rfl, e1, e2, e5, rfl, take_all hv ht (by simp [h1, h2])⟩
    · rintro e h' ⟨rfl, e1, e2, e5, e6, ht⟩ K' hx
      rw [F.ref11_gate.L0_eq]
      simp only [e1, e2, e5, e6, bindO_some, bindO2_some, outK_ret, condB_bool, cond_t, cond_f, fa_ptr, fa_iptr, part_none, Nat.zero_add, Nat.add_zero, Nat.reduceAdd, List.getElem?_cons_zero, List.getElem?_cons_succ, len_str, lenS_enc, lss_int, leq_int, gtr_int, geq_int, eq_int, ne_int, eq_str, ne_str, eq_bool, ne_bool, not_bool, extract_0, extract_1, extract_2, setV_eq, Nat.reduceEqDiff, reduceIte, load_ptr g1, encGate, lt_false]
      rw [hx, F.ref11_gate.L0_x0_eq]
      rw [List.take_of_length_le (Nat.le_refl _)] at ht
      simp only [e1, e2, e5, e6, bindO_some, bindO2_some, outK_ret, condB_bool, cond_t, cond_f, fa_ptr, fa_iptr, part_none, Nat.zero_add, Nat.add_zero, Nat.reduceAdd, List.getElem?_cons_zero, List.getElem?_cons_succ, len_str, lenS_enc, lss_int, leq_int, gtr_int, geq_int, eq_int, ne_int, eq_str, ne_str, eq_bool, ne_bool, not_bool, extract_0, extract_1, extract_2, setV_eq, Nat.reduceEqDiff, reduceIte, load_ptr g1, encGate, int_beq]
      simp only [fitB, ht, Bool.true_and] at fin ⊢
      have k3 : decide ((g.kids.l.length : Int) = 0) = decide (g.kids.l.length = 0) := by simp
      have k4 : decide ((g.kids.l.length : Int) = 1) = decide (g.kids.l.length = 1) := by simp; omega
      by_cases c0 : g.kind = 0
      · simp only [c0, decide_true, cond_t] at fin ⊢
        have := hpre (by omega)
        refine fin _ ?_
        simp [this.1, this.2]
      by_cases c1 : g.kind = 1
      · simp only [c1, decide_true, cond_t, if_true] at fin ⊢
        simp only [show decide ((1 : Int) = 0) = false from rfl, show decide ((0 : Int) ≤ 1) = true from rfl, show decide ((1 : Int) ≤ 4) = true from rfl, cond_f, Bool.true_and, k3] at fin ⊢
        by_cases z : g.kids.l.length = 0
        · simp only [decide_eq_true z, cond_t, Bool.true_and] at fin ⊢
          refine semCall_true (ref01_Name ?_)
          simp only [bindO_some, bindO2_some, outK_ret, condB_bool, cond_t, cond_f, fa_ptr, fa_iptr, part_none, Nat.zero_add, Nat.add_zero, Nat.reduceAdd, List.getElem?_cons_zero, List.getElem?_cons_succ, len_str, lenS_enc, lss_int, leq_int, gtr_int, geq_int, eq_int, ne_int, eq_str, ne_str, eq_bool, ne_bool, not_bool, extract_0, extract_1, extract_2, setV_eq, Nat.reduceEqDiff, reduceIte, load_ptr g1, encGate]
          generalize nameB g.name = nb at fin ⊢
          cases nb with
          | false => simp only [cond_f, Bool.false_and] at fin ⊢; exact fin _ rfl
          | true =>
            simp only [cond_t, Bool.true_and] at fin ⊢
            by_cases h12 : g.at_.l.length ≤ 12
            · simp only [decide_eq_true (by omega : (g.at_.l.length : Int) ≤ 12), cond_t, load_ptr g0, encCirc, bindO_some, bindO2_some, outK_ret, condB_bool, cond_t, cond_f, fa_ptr, fa_iptr, part_none, Nat.zero_add, Nat.add_zero, Nat.reduceAdd, List.getElem?_cons_zero, List.getElem?_cons_succ, len_str, lenS_enc, lss_int, leq_int, gtr_int, geq_int, eq_int, ne_int, eq_str, ne_str, eq_bool, ne_bool, not_bool, extract_0, extract_1, extract_2, setV_eq, Nat.reduceEqDiff, reduceIte, load_ptr g1, encGate]
              refine semCall_true (ref01_In hgo.2.1 ?_)
              simp only [bindO_some, bindO2_some, outK_ret, condB_bool, cond_t, cond_f, fa_ptr, fa_iptr, part_none, Nat.zero_add, Nat.add_zero, Nat.reduceAdd, List.getElem?_cons_zero, List.getElem?_cons_succ, len_str, lenS_enc, lss_int, leq_int, gtr_int, geq_int, eq_int, ne_int, eq_str, ne_str, eq_bool, ne_bool, not_bool, extract_0, extract_1, extract_2, setV_eq, Nat.reduceEqDiff, reduceIte]
              refine fin _ ?_
              rw [decide_eq_true h12, Bool.true_and]
            · simp only [decide_eq_false (by omega : ¬ (g.at_.l.length : Int) ≤ 12), cond_f]
              refine fin _ ?_
              rw [decide_eq_false h12, Bool.false_and]
        · simp only [decide_eq_false z, cond_f, Bool.false_and, Bool.and_false] at fin ⊢
          exact fin _ rfl
      have pre := hpre c1
      by_cases c2 : g.kind = 2
      · simp only [c2, show decide ((2 : Int) = 0) = false from rfl, show decide ((2 : Int) = 1) = false from rfl, decide_true, cond_t, cond_f, k4] at fin ⊢
        refine fin _ ?_
        simp [pre.1, pre.2]
      by_cases c3 : g.kind = 3
      · simp only [c3, show decide ((3 : Int) = 0) = false from rfl, show decide ((3 : Int) = 1) = false from rfl, show decide ((3 : Int) = 2) = false from rfl, decide_true, cond_t, cond_f] at fin ⊢
        refine fin _ ?_
        simp [pre.1, pre.2]
      by_cases c4 : g.kind = 4
      · simp only [c4, show decide ((4 : Int) = 0) = false from rfl, show decide ((4 : Int) = 1) = false from rfl, show decide ((4 : Int) = 2) = false from rfl, show decide ((4 : Int) = 3) = false from rfl, decide_true, cond_t, cond_f] at fin ⊢
        refine fin _ ?_
        simp [pre.1, pre.2]
      · simp only [decide_eq_false c0, decide_eq_false c1, decide_eq_false c2, decide_eq_false c3, decide_eq_false c4, cond_f] at fin ⊢
        refine fin _ ?_
        by_cases q : 0 ≤ g.kind
        · rw [decide_eq_false (by omega : ¬ g.kind ≤ 4)]; simp
        · rw [decide_eq_false q]; rfl
  by_cases c1 : g.kind = 1
  · simp only [decide_eq_true c1, Bool.not_true, cond_f]
    exact L _ rfl rfl rfl rfl (fun h => absurd c1 h)
  · simp only [decide_eq_false c1, Bool.not_false, cond_t]
    by_cases hn : g.name = []
    · have e1 : (g.name == ([] : Str)) = true := by rw [hn]; rfl
      simp only [e1, Bool.not_true, cond_f]
      by_cases ha : g.at_.l.length = 0
      · simp only [decide_eq_false (by omega : ¬ (0 : Int) < (g.at_.l.length : Int)), cond_f]
        exact L _ rfl rfl rfl rfl (fun _ => ⟨hn, ha⟩)
      · simp only [decide_eq_true (by omega : (0 : Int) < (g.at_.l.length : Int)), cond_t]
        exact fin _ (by simp only [fitB, if_neg c1, decide_eq_false ha, Bool.false_and, Bool.and_false])
    · have e1 : (g.name == ([] : Str)) = false := by cases hq : g.name with | nil => exact absurd hq hn | cons a l => rfl
      simp only [e1, Bool.not_false, cond_t]
      exact fin _ (by simp only [fitB, if_neg c1, decide_eq_false hn, Bool.false_and, Bool.and_false])
end
end Go.AM
/- Which circuits are valid: the program and the reference agree. Conditions: none. -/
namespace Go.AM
open Go Go.Proofs
set_option linter.unusedVariables false
set_option linter.unusedSimpArgs false
noncomputable section

theorem part_whole {cs : List AV} {n : Nat} (h : cs.length = n) : partS (some n) cs 0 = some (.agg cs) := by
  simp [partS, h, List.take_of_length_le]
/-- The inputs' names with their places, gate by gate; none where a gate is not as it should be. -/
def symsGo (n : Int) : List Gate → Nat → MapL → Option MapL
  | [], _, m => some m
  | g :: gs, i, m => bif fitB n i g then
      (if g.kind = 1 then
        (match m.find g.name with
          | some k => if k = (g.at_.l.length : Int) then symsGo n gs (i + 1) (m.upd g.name g.at_.l.length) else none
          | none => symsGo n gs (i + 1) (m.upd g.name g.at_.l.length))
      else symsGo n gs (i + 1) m) else none
def sizeB (c : Circ) : Bool := !decide (c.size < 1) && (!decide (64 < c.size) && (!decide ((c.gates.l.length : Int) < 1) && !decide (20000 < (c.gates.l.length : Int))))
def symsOf (c : Circ) : Option MapL := bif sizeB c then symsGo c.size c.gates.l 0 [] else none
theorem symsGo_step {n : Int} {l : List Gate} {i : Nat} {g : Gate} (hg : l[i]? = some g) (m : MapL) : symsGo n (l.drop i) i m = symsGo n (g :: l.drop (i + 1)) i m := by
  have hi : i < l.length := (List.getElem?_eq_some_iff.1 hg).1
  rw [List.drop_eq_getElem_cons hi]
  rw [List.getElem?_eq_getElem hi] at hg
  cases hg; rfl

theorem gate_symbols {c : Circ} (hc : c.ok) {h : Heap} {K : Out → Heap → Bool} (hno : symsOf c = none → ∀ h', HExt h h' → K (.ret (.tuple [.nilm, .bool false])) h' = true)
    (hyes : ∀ m h' es ck, symsOf c = some m → HExt h h' → h'.get (h.next + 1) = some (.map es ck) → MapI es m → h.next + 1 < h'.next → K (.ret (.tuple [.map (h.next + 1), .bool true])) h' = true) : Sem Tryz.prog 54 [.agg (encCirc c)] h K := by
  refine F.gate_symbols_sem ?_
  simp only [box_agg (one_encCirc c), bindO_some, Heap.next_alloc]
  have b0 : (Heap.alloc (Heap.alloc h (.cells (encCirc c))) (.map [] 0)).get h.next = some (.cells (encCirc c)) := by
    rw [Heap.get_alloc, Heap.next_alloc, if_neg (by omega)]; exact get_alloc_same _ _
  have b1 : (Heap.alloc (Heap.alloc h (.cells (encCirc c))) (.map [] 0)).get (h.next + 1) = some (.map [] 0) := get_alloc_same _ _
  have bn : (Heap.alloc (Heap.alloc h (.cells (encCirc c))) (.map [] 0)).next = h.next + 2 := rfl
  have bx : HExt h (Heap.alloc (Heap.alloc h (.cells (encCirc c))) (.map [] 0)) := (HExt.alloc _ _).trans (HExt.alloc _ _)
  generalize (Heap.alloc (Heap.alloc h (.cells (encCirc c))) (.map [] 0)) = H0 at b0 b1 bn bx ⊢
  simp only [bindO_some, bindO2_some, outK_ret, condB_bool, cond_t, cond_f, fa_ptr, fa_iptr, part_none, Nat.zero_add, Nat.add_zero, Nat.reduceAdd, List.getElem?_cons_zero, List.getElem?_cons_succ, len_str, lenS_enc, lss_int, leq_int, gtr_int, geq_int, eq_int, ne_int, eq_str, ne_str, eq_bool, ne_bool, not_bool, extract_0, extract_1, extract_2, setV_eq, Nat.reduceEqDiff, reduceIte, load_ptr b0, encCirc]
  cases s1 : decide (c.size < 1) with
  | true => simp only [cond_t]; exact hno (by simp only [symsOf, sizeB, s1]; rfl) _ bx
  | false =>
  simp only [cond_f]
  cases s2 : decide (64 < c.size) with
  | true => simp only [cond_t]; exact hno (by simp only [symsOf, sizeB, s1, s2]; rfl) _ bx
  | false =>
  simp only [cond_f]
  cases s3 : decide ((c.gates.l.length : Int) < 1) with
  | true => simp only [cond_t]; exact hno (by simp only [symsOf, sizeB, s1, s2, s3]; rfl) _ bx
  | false =>
  simp only [cond_f]
  cases s4 : decide (20000 < (c.gates.l.length : Int)) with
  | true => simp only [cond_t]; exact hno (by simp only [symsOf, sizeB, s1, s2, s3, s4]; rfl) _ bx
  | false =>
  simp only [cond_f]
  have hsy : symsOf c = symsGo c.size c.gates.l 0 [] := by simp only [symsOf, sizeB, s1, s2, s3, s4]; rfl
  rw [hsy] at hno
  simp only [hsy] at hyes
  refine loopB_range 0 c.gates.l.length (Nat.zero_le _) (fun i e h' => ∃ m es ck, symsGo c.size c.gates.l 0 [] = symsGo c.size (c.gates.l.drop i) i m ∧ MapI es m ∧ h'.get h.next = some (.cells (encCirc c)) ∧ h'.get (h.next + 1) = some (.map es ck) ∧
    HExt h h' ∧ h.next + 2 ≤ h'.next ∧ e 1 = .ptr h.next 0 ∧ e 4 = .map (h.next + 1) ∧ e 31 = encSl encGate 4 c.gates ∧ e 32 = .int .i64 (c.gates.l.length : Int) ∧ e 33 = .int .i64 (i : Int))
    ⟨[], [], 0, rfl, trivial, b0, b1, bx, by omega, rfl, rfl, rfl, rfl, rfl⟩ ?_ ?_
  · rintro i e h' _ hi ⟨m, es, ck, hm, he, q0, q1, qx, qn, e1, e4, e31, e32, e33⟩ K' hn hx hr hp
    have hg : c.gates.l[i]? = some c.gates.l[i] := List.getElem?_eq_getElem hi
    generalize c.gates.l[i] = g at hg
    have hgo : g.ok := hc.2 g (List.mem_of_getElem? hg)
    rw [symsGo_step hg] at hm
    obtain ⟨H, hs, g1, go, gn⟩ := store_new (h := h') (zs := [.int .i64 0, .str [], .nils, .nils]) (cs := encGate g) (n := 4) rfl rfl (one_encGate g)
    have p0 : H.get h.next = some (.cells (encCirc c)) := by rw [go _ (by omega)]; exact q0
    have p1 : H.get (h.next + 1) = some (.map es ck) := by rw [go _ (by omega)]; exact q1
    have px : HExt h H := qx.trans ⟨by omega, fun b hb => go b (by omega)⟩
    rw [F.gate_symbols.L0_eq]
    simp only [e1, e4, e31, e32, e33, bindO_some, bindO2_some, outK_ret, condB_bool, cond_t, cond_f, fa_ptr, fa_iptr, part_none, Nat.zero_add, Nat.add_zero, Nat.reduceAdd, List.getElem?_cons_zero, List.getElem?_cons_succ, len_str, lenS_enc, lss_int, leq_int, gtr_int, geq_int, eq_int, ne_int, eq_str, ne_str, eq_bool, ne_bool, not_bool, extract_0, extract_1, extract_2, setV_eq, Nat.reduceEqDiff, reduceIte, lt_true hi, iaS_enc c.gates hi, load_agg len_encGate hg, hs, load_ptr g1, load_ptr p0, part_whole (len_encGate g), encCirc]
    refine semCall_true (gate_fitting hgo ?_)
    simp only [bindO_some, bindO2_some, outK_ret, condB_bool, cond_t, cond_f, fa_ptr, fa_iptr, part_none, Nat.zero_add, Nat.add_zero, Nat.reduceAdd, List.getElem?_cons_zero, List.getElem?_cons_succ, len_str, lenS_enc, lss_int, leq_int, gtr_int, geq_int, eq_int, ne_int, eq_str, ne_str, eq_bool, ne_bool, not_bool, extract_0, extract_1, extract_2, setV_eq, Nat.reduceEqDiff, reduceIte]
    simp only [symsGo] at hm
    cases hf : fitB c.size i g with
    | false =>
      simp only [Bool.not_false, cond_t]
      rw [hf] at hm
      rw [hr, F.gate_symbols.L0_r_eq]
      exact hno hm _ px
    | true =>
      rw [hf] at hm
      simp only [Bool.not_true, cond_f, cond_t, load_ptr g1, encGate, bindO_some, bindO2_some, outK_ret, condB_bool, cond_t, cond_f, fa_ptr, fa_iptr, part_none, Nat.zero_add, Nat.add_zero, Nat.reduceAdd, List.getElem?_cons_zero, List.getElem?_cons_succ, len_str, lenS_enc, lss_int, leq_int, gtr_int, geq_int, eq_int, ne_int, eq_str, ne_str, eq_bool, ne_bool, not_bool, extract_0, extract_1, extract_2, setV_eq, Nat.reduceEqDiff, reduceIte, int_beq] at hm ⊢
      by_cases k1 : g.kind = 1
      · rw [if_pos k1] at hm
        simp only [decide_eq_true k1, Bool.not_true, cond_f, e4, lookup_map p1 he, bindO_some, bindO2_some, outK_ret, condB_bool, cond_t, cond_f, fa_ptr, fa_iptr, part_none, Nat.zero_add, Nat.add_zero, Nat.reduceAdd, List.getElem?_cons_zero, List.getElem?_cons_succ, len_str, lenS_enc, lss_int, leq_int, gtr_int, geq_int, eq_int, ne_int, eq_str, ne_str, eq_bool, ne_bool, not_bool, extract_0, extract_1, extract_2, setV_eq, Nat.reduceEqDiff, reduceIte, int_beq]
        obtain ⟨es', ck', hu, hue⟩ := update_map p1 he g.name g.at_.l.length
        have hgoon : symsGo c.size c.gates.l 0 [] = symsGo c.size (c.gates.l.drop (i + 1)) (i + 1) (m.upd g.name g.at_.l.length) → ∃ m es ck, symsGo c.size c.gates.l 0 [] = symsGo c.size (c.gates.l.drop (i + 1)) (i + 1) m ∧ MapI es m ∧ (H.set (h.next + 1) (.map es' ck')).get h.next = some (.cells (encCirc c)) ∧ (H.set (h.next + 1) (.map es' ck')).get (h.next + 1) = some (.map es ck) ∧ HExt h (H.set (h.next + 1) (.map es' ck')) ∧ h.next + 2 ≤ (H.set (h.next + 1) (.map es' ck')).next := by
          intro hh
          exact ⟨_, es', ck', hh, hue, by rw [Heap.get_set, if_neg (by omega)]; exact p0, by rw [Heap.get_set, if_pos rfl], px.set (by omega) _, by rw [Heap.next_set]; omega⟩
        cases hmf : m.find g.name with
        | none =>
          rw [hmf] at hm
          simp only [Option.isSome_none, cond_f, load_ptr g1, encGate, bindO_some, bindO2_some, outK_ret, condB_bool, cond_t, cond_f, fa_ptr, fa_iptr, part_none, Nat.zero_add, Nat.add_zero, Nat.reduceAdd, List.getElem?_cons_zero, List.getElem?_cons_succ, len_str, lenS_enc, lss_int, leq_int, gtr_int, geq_int, eq_int, ne_int, eq_str, ne_str, eq_bool, ne_bool, not_bool, extract_0, extract_1, extract_2, setV_eq, Nat.reduceEqDiff, reduceIte, e4, hu, e33, succ_i64 hi hc.1]
          obtain ⟨m', es1, ck1, a1, a2, a3, a4, a5, a6⟩ := hgoon hm
          exact hn _ _ ⟨m', es1, ck1, a1, a2, a3, a4, a5, a6, e1, e4, e31, e32, rfl⟩
        | some k =>
          rw [hmf] at hm
          simp only [Option.isSome_some, cond_t, Option.getD_some, load_ptr g1, encGate, bindO_some, bindO2_some, outK_ret, condB_bool, cond_t, cond_f, fa_ptr, fa_iptr, part_none, Nat.zero_add, Nat.add_zero, Nat.reduceAdd, List.getElem?_cons_zero, List.getElem?_cons_succ, len_str, lenS_enc, lss_int, leq_int, gtr_int, geq_int, eq_int, ne_int, eq_str, ne_str, eq_bool, ne_bool, not_bool, extract_0, extract_1, extract_2, setV_eq, Nat.reduceEqDiff, reduceIte, int_beq] at hm ⊢
          by_cases hk : k = (g.at_.l.length : Int)
          · rw [if_pos hk] at hm
            simp only [decide_eq_true hk, Bool.not_true, cond_f, load_ptr g1, encGate, bindO_some, bindO2_some, outK_ret, condB_bool, cond_t, cond_f, fa_ptr, fa_iptr, part_none, Nat.zero_add, Nat.add_zero, Nat.reduceAdd, List.getElem?_cons_zero, List.getElem?_cons_succ, len_str, lenS_enc, lss_int, leq_int, gtr_int, geq_int, eq_int, ne_int, eq_str, ne_str, eq_bool, ne_bool, not_bool, extract_0, extract_1, extract_2, setV_eq, Nat.reduceEqDiff, reduceIte, e4, hu, e33, succ_i64 hi hc.1]
            obtain ⟨m', es1, ck1, a1, a2, a3, a4, a5, a6⟩ := hgoon hm
            exact hn _ _ ⟨m', es1, ck1, a1, a2, a3, a4, a5, a6, e1, e4, e31, e32, rfl⟩
          · rw [if_neg hk] at hm
            simp only [decide_eq_false hk, Bool.not_false, cond_t]
            rw [hr, F.gate_symbols.L0_r_eq]
            exact hno hm _ px
      · rw [if_neg k1] at hm
        simp only [decide_eq_false k1, Bool.not_false, cond_t, e33, succ_i64 hi hc.1, bindO_some]
        exact hn _ _ ⟨m, es, ck, hm, he, p0, p1, px, by omega, e1, e4, e31, e32, rfl⟩
  · rintro e h' ⟨m, es, ck, hm, he, q0, q1, qx, qn, e1, e4, e31, e32, e33⟩ K' hx
    rw [F.gate_symbols.L0_eq]
    simp only [e32, e33, bindO_some, bindO2_some, outK_ret, condB_bool, cond_t, cond_f, fa_ptr, fa_iptr, part_none, Nat.zero_add, Nat.add_zero, Nat.reduceAdd, List.getElem?_cons_zero, List.getElem?_cons_succ, len_str, lenS_enc, lss_int, leq_int, gtr_int, geq_int, eq_int, ne_int, eq_str, ne_str, eq_bool, ne_bool, not_bool, extract_0, extract_1, extract_2, setV_eq, Nat.reduceEqDiff, reduceIte, lt_false]
    rw [hx, F.gate_symbols.L0_x0_eq]
    simp only [bindO_some, bindO2_some, outK_ret, condB_bool, cond_t, cond_f, fa_ptr, fa_iptr, part_none, Nat.zero_add, Nat.add_zero, Nat.reduceAdd, List.getElem?_cons_zero, List.getElem?_cons_succ, len_str, lenS_enc, lss_int, leq_int, gtr_int, geq_int, eq_int, ne_int, eq_str, ne_str, eq_bool, ne_bool, not_bool, extract_0, extract_1, extract_2, setV_eq, Nat.reduceEqDiff, reduceIte, e4]
    rw [List.drop_of_length_le (Nat.le_refl _)] at hm
    exact hyes m _ es ck hm qx q1 he (by omega)

def validB (c : Circ) : Bool := (symsOf c).isSome
theorem ref11_Valid {c : Circ} (hc : c.ok) {h : Heap} {K : Out → Heap → Bool} (hK : K (.ret (.bool (validB c))) h = true) : Sem Tryz.prog 13 [.agg (encCirc c)] h K := by
  refine Sem.data (r := .bool (validB c)) ?_ (by simp [AV.pureL, AV.pure, pure_encCirc]) hK
  clear hK
  have fin : ∀ (b : Bool) (H : Heap), b = validB c → frzK (.bool (validB c)) (.ret (.bool b)) H = true := fun b H hb => by rw [hb]; exact frzK_same rfl
  generalize frzK (.bool (validB c)) = K at fin ⊢
  refine F.ref11_Valid_sem ?_
  have b0 : (Heap.alloc Heap.empty (.cells (encCirc c))).get 0 = some (.cells (encCirc c)) := get_alloc_same _ _
  have bn : (Heap.alloc Heap.empty (.cells (encCirc c))).next = 1 := rfl
  simp only [box_agg (one_encCirc c), bindO_some, next_empty]
  generalize (Heap.alloc Heap.empty (.cells (encCirc c))) = H0 at b0 bn ⊢
  simp only [bindO_some, bindO2_some, outK_ret, condB_bool, cond_t, cond_f, fa_ptr, fa_iptr, part_none, Nat.zero_add, Nat.add_zero, Nat.reduceAdd, List.getElem?_cons_zero, List.getElem?_cons_succ, len_str, lenS_enc, lss_int, leq_int, gtr_int, geq_int, eq_int, ne_int, eq_str, ne_str, eq_bool, ne_bool, not_bool, extract_0, extract_1, extract_2, setV_eq, Nat.reduceEqDiff, reduceIte, load_ptr b0, encCirc, bn]
  cases s1 : decide (c.size < 1) with
  | true => simp only [cond_t]; exact fin _ _ (by simp only [validB, symsOf, sizeB, s1]; rfl)
  | false =>
  simp only [cond_f]
  cases s2 : decide (64 < c.size) with
  | true => simp only [cond_t]; exact fin _ _ (by simp only [validB, symsOf, sizeB, s1, s2]; rfl)
  | false =>
  simp only [cond_f]
  cases s3 : decide ((c.gates.l.length : Int) < 1) with
  | true => simp only [cond_t]; exact fin _ _ (by simp only [validB, symsOf, sizeB, s1, s2, s3]; rfl)
  | false =>
  simp only [cond_f]
  cases s4 : decide (20000 < (c.gates.l.length : Int)) with
  | true => simp only [cond_t]; exact fin _ _ (by simp only [validB, symsOf, sizeB, s1, s2, s3, s4]; rfl)
  | false =>
  simp only [cond_f]
  have hsy : validB c = (symsGo c.size c.gates.l 0 []).isSome := by simp only [validB, symsOf, sizeB, s1, s2, s3, s4]; rfl
  rw [hsy] at fin
  refine loopB_range 0 c.gates.l.length (Nat.zero_le _) (fun i e h' => ∃ m es ck, symsGo c.size c.gates.l 0 [] = symsGo c.size (c.gates.l.drop i) i m ∧ MapI es m ∧ h'.get 0 = some (.cells (encCirc c)) ∧ h'.get 1 = some (.map es ck) ∧
    2 ≤ h'.next ∧ e 1 = .ptr 0 0 ∧ e 3 = .map 1 ∧ e 4 = .int .i64 (i : Int))
    ⟨[], [], 0, rfl, trivial, by rw [Heap.get_alloc, bn, if_neg (by omega)]; exact b0, by rw [← bn]; exact get_alloc_same _ _, by rw [Heap.next_alloc, bn]; omega, rfl, rfl, rfl⟩ ?_ ?_
  · rintro i e h' _ hi ⟨m, es, ck, hm, he, q0, q1, qn, e1, e3, e4⟩ K' hn hx hr hp
    have hg : c.gates.l[i]? = some c.gates.l[i] := List.getElem?_eq_getElem hi
    generalize c.gates.l[i] = g at hg
    have hgo : g.ok := hc.2 g (List.mem_of_getElem? hg)
    rw [symsGo_step hg] at hm
    obtain ⟨H, hs, g1, go, gn⟩ := store_new (h := h') (zs := [.int .i64 0, .str [], .nils, .nils]) (cs := encGate g) (n := 4) rfl rfl (one_encGate g)
    have p0 : H.get 0 = some (.cells (encCirc c)) := by rw [go _ (by omega)]; exact q0
    have p1 : H.get 1 = some (.map es ck) := by rw [go _ (by omega)]; exact q1
    rw [F.ref11_Valid.L0_eq]
    simp only [e1, e3, e4, bindO_some, bindO2_some, outK_ret, condB_bool, cond_t, cond_f, fa_ptr, fa_iptr, part_none, Nat.zero_add, Nat.add_zero, Nat.reduceAdd, List.getElem?_cons_zero, List.getElem?_cons_succ, len_str, lenS_enc, lss_int, leq_int, gtr_int, geq_int, eq_int, ne_int, eq_str, ne_str, eq_bool, ne_bool, not_bool, extract_0, extract_1, extract_2, setV_eq, Nat.reduceEqDiff, reduceIte, load_ptr q0, lt_true hi, part_whole (cs := encCirc c) (n := 2) rfl]
    rw [show (encCirc c)[1]? = some (encSl encGate 4 c.gates) from rfl]
    simp only [bindO_some, bindO2_some, outK_ret, condB_bool, cond_t, cond_f, fa_ptr, fa_iptr, part_none, Nat.zero_add, Nat.add_zero, Nat.reduceAdd, List.getElem?_cons_zero, List.getElem?_cons_succ, len_str, lenS_enc, lss_int, leq_int, gtr_int, geq_int, eq_int, ne_int, eq_str, ne_str, eq_bool, ne_bool, not_bool, extract_0, extract_1, extract_2, setV_eq, Nat.reduceEqDiff, reduceIte, lt_true hi]
    refine semCall_true (ref11_gate hc hg ?_)
    simp only [bindO_some, bindO2_some, outK_ret, condB_bool, cond_t, cond_f, fa_ptr, fa_iptr, part_none, Nat.zero_add, Nat.add_zero, Nat.reduceAdd, List.getElem?_cons_zero, List.getElem?_cons_succ, len_str, lenS_enc, lss_int, leq_int, gtr_int, geq_int, eq_int, ne_int, eq_str, ne_str, eq_bool, ne_bool, not_bool, extract_0, extract_1, extract_2, setV_eq, Nat.reduceEqDiff, reduceIte]
    simp only [symsGo] at hm
    cases hf : fitB c.size i g with
    | false =>
      simp only [Bool.not_false, cond_t]
      rw [hf] at hm
      rw [hr, F.ref11_Valid.L0_r_eq]
      exact fin _ _ (by rw [hm]; rfl)
    | true =>
      rw [hf] at hm
      simp only [Bool.not_true, cond_f, cond_t, e1, e4, load_ptr q0, encCirc, bindO_some, bindO2_some, outK_ret, condB_bool, cond_t, cond_f, fa_ptr, fa_iptr, part_none, Nat.zero_add, Nat.add_zero, Nat.reduceAdd, List.getElem?_cons_zero, List.getElem?_cons_succ, len_str, lenS_enc, lss_int, leq_int, gtr_int, geq_int, eq_int, ne_int, eq_str, ne_str, eq_bool, ne_bool, not_bool, extract_0, extract_1, extract_2, setV_eq, Nat.reduceEqDiff, reduceIte, iaS_enc c.gates hi, load_agg len_encGate hg, hs] at hm ⊢
      simp only [load_ptr g1, encGate, bindO_some, bindO2_some, outK_ret, condB_bool, cond_t, cond_f, fa_ptr, fa_iptr, part_none, Nat.zero_add, Nat.add_zero, Nat.reduceAdd, List.getElem?_cons_zero, List.getElem?_cons_succ, len_str, lenS_enc, lss_int, leq_int, gtr_int, geq_int, eq_int, ne_int, eq_str, ne_str, eq_bool, ne_bool, not_bool, extract_0, extract_1, extract_2, setV_eq, Nat.reduceEqDiff, reduceIte, int_beq]
      by_cases k1 : g.kind = 1
      · rw [if_pos k1] at hm
        simp only [decide_eq_true k1, cond_t, e3, lookup_map p1 he, bindO_some, bindO2_some, outK_ret, condB_bool, cond_t, cond_f, fa_ptr, fa_iptr, part_none, Nat.zero_add, Nat.add_zero, Nat.reduceAdd, List.getElem?_cons_zero, List.getElem?_cons_succ, len_str, lenS_enc, lss_int, leq_int, gtr_int, geq_int, eq_int, ne_int, eq_str, ne_str, eq_bool, ne_bool, not_bool, extract_0, extract_1, extract_2, setV_eq, Nat.reduceEqDiff, reduceIte, int_beq]
        obtain ⟨es', ck', hu, hue⟩ := update_map p1 he g.name g.at_.l.length
        have hgoon : symsGo c.size c.gates.l 0 [] = symsGo c.size (c.gates.l.drop (i + 1)) (i + 1) (m.upd g.name g.at_.l.length) → ∃ m es ck, symsGo c.size c.gates.l 0 [] = symsGo c.size (c.gates.l.drop (i + 1)) (i + 1) m ∧ MapI es m ∧ (H.set 1 (.map es' ck')).get 0 = some (.cells (encCirc c)) ∧ (H.set 1 (.map es' ck')).get 1 = some (.map es ck) ∧ 2 ≤ (H.set 1 (.map es' ck')).next := by
          intro hh
          exact ⟨_, es', ck', hh, hue, by rw [Heap.get_set, if_neg (by omega)]; exact p0, by rw [Heap.get_set, if_pos rfl], by rw [Heap.next_set]; omega⟩
        cases hmf : m.find g.name with
        | none =>
          rw [hmf] at hm
          simp only [Option.isSome_none, cond_f, load_ptr g1, encGate, bindO_some, bindO2_some, outK_ret, condB_bool, cond_t, cond_f, fa_ptr, fa_iptr, part_none, Nat.zero_add, Nat.add_zero, Nat.reduceAdd, List.getElem?_cons_zero, List.getElem?_cons_succ, len_str, lenS_enc, lss_int, leq_int, gtr_int, geq_int, eq_int, ne_int, eq_str, ne_str, eq_bool, ne_bool, not_bool, extract_0, extract_1, extract_2, setV_eq, Nat.reduceEqDiff, reduceIte, e3, hu, e4, succ_i64 hi hc.1]
          obtain ⟨m', es1, ck1, a1, a2, a3, a4, a6⟩ := hgoon hm
          exact hn _ _ ⟨m', es1, ck1, a1, a2, a3, a4, a6, e1, e3, rfl⟩
        | some k =>
          rw [hmf] at hm
          simp only [Option.isSome_some, cond_t, Option.getD_some, load_ptr g1, encGate, bindO_some, bindO2_some, outK_ret, condB_bool, cond_t, cond_f, fa_ptr, fa_iptr, part_none, Nat.zero_add, Nat.add_zero, Nat.reduceAdd, List.getElem?_cons_zero, List.getElem?_cons_succ, len_str, lenS_enc, lss_int, leq_int, gtr_int, geq_int, eq_int, ne_int, eq_str, ne_str, eq_bool, ne_bool, not_bool, extract_0, extract_1, extract_2, setV_eq, Nat.reduceEqDiff, reduceIte, int_beq] at hm ⊢
          by_cases hk : k = (g.at_.l.length : Int)
          · rw [if_pos hk] at hm
            simp only [decide_eq_true hk, Bool.not_true, cond_f, load_ptr g1, encGate, bindO_some, bindO2_some, outK_ret, condB_bool, cond_t, cond_f, fa_ptr, fa_iptr, part_none, Nat.zero_add, Nat.add_zero, Nat.reduceAdd, List.getElem?_cons_zero, List.getElem?_cons_succ, len_str, lenS_enc, lss_int, leq_int, gtr_int, geq_int, eq_int, ne_int, eq_str, ne_str, eq_bool, ne_bool, not_bool, extract_0, extract_1, extract_2, setV_eq, Nat.reduceEqDiff, reduceIte, e3, hu, e4, succ_i64 hi hc.1]
            obtain ⟨m', es1, ck1, a1, a2, a3, a4, a6⟩ := hgoon hm
            exact hn _ _ ⟨m', es1, ck1, a1, a2, a3, a4, a6, e1, e3, rfl⟩
          · rw [if_neg hk] at hm
            simp only [decide_eq_false hk, Bool.not_false, cond_t]
            rw [hr, F.ref11_Valid.L0_r_eq]
            exact fin _ _ (by rw [hm]; rfl)
      · rw [if_neg k1] at hm
        simp only [decide_eq_false k1, cond_f, e4, succ_i64 hi hc.1, bindO_some]
        exact hn _ _ ⟨m, es, ck, hm, he, p0, p1, by omega, e1, e3, rfl⟩
  · rintro e h' ⟨m, es, ck, hm, he, q0, q1, qn, e1, e3, e4⟩ K' hx
    rw [F.ref11_Valid.L0_eq]
    simp only [e1, e4, load_ptr q0, bindO_some, bindO2_some, outK_ret, condB_bool, cond_t, cond_f, fa_ptr, fa_iptr, part_none, Nat.zero_add, Nat.add_zero, Nat.reduceAdd, List.getElem?_cons_zero, List.getElem?_cons_succ, len_str, lenS_enc, lss_int, leq_int, gtr_int, geq_int, eq_int, ne_int, eq_str, ne_str, eq_bool, ne_bool, not_bool, extract_0, extract_1, extract_2, setV_eq, Nat.reduceEqDiff, reduceIte]
    rw [show (encCirc c)[1]? = some (encSl encGate 4 c.gates) from rfl]
    simp only [bindO_some, bindO2_some, outK_ret, condB_bool, cond_t, cond_f, fa_ptr, fa_iptr, part_none, Nat.zero_add, Nat.add_zero, Nat.reduceAdd, List.getElem?_cons_zero, List.getElem?_cons_succ, len_str, lenS_enc, lss_int, leq_int, gtr_int, geq_int, eq_int, ne_int, eq_str, ne_str, eq_bool, ne_bool, not_bool, extract_0, extract_1, extract_2, setV_eq, Nat.reduceEqDiff, reduceIte, lt_false]
    rw [hx, F.ref11_Valid.L0_x0_eq]
    rw [List.drop_of_length_le (Nat.le_refl _)] at hm
    exact fin _ _ (by rw [hm]; rfl)
end
end Go.AM
/- The depth of a circuit: the program and the reference agree. Conditions: none. -/
namespace Go.AM
open Go Go.Proofs
set_option linter.unusedVariables false
set_option linter.unusedSimpArgs false
noncomputable section

/-! ### Rows of numbers in a block -/
def iv (n : Int) : AV := .int .i64 n
theorem map_iv (d : List Int) : d.map iv = d.flatMap encI := by
  induction d with
  | nil => rfl
  | cons a d ih => rw [List.map_cons, List.flatMap_cons, ih]; rfl
theorem ia_sl {b i n : Nat} {k : IntKind} (h : i < n) : iaS 1 (.slice b 0 n 1) (.int k (i : Int)) = some (.ptr b i) := by simp [iaS, asNat, h]
theorem store_sl {b i : Nat} {h : Heap} {d : List Int} {v : Int} (hb : h.get b = some (.cells (d.map iv))) (hi : i < d.length) : storeS 1 (.ptr b i) (.int .i64 v) h = some (h.set b (.cells ((d.set i v).map iv))) := by
  rw [store_ptr (n := 1) hb rfl rfl (by simp; omega), List.map_set]; rfl
theorem rep_iv (n : Nat) : repZero [.int .i64 0] n = (List.replicate n (0 : Int)).map iv := by
  induction n with
  | zero => rfl
  | succ n ih => rw [repZero, ih]; rfl
theorem make_sl {n : Nat} (hn : n ≤ 1000000) (h : Heap) : makeSliceS 1 8 [.int .i64 0] (.int .i64 (n : Int)) (.int .i64 (n : Int)) h = some (.slice h.next 0 n 1, h.alloc (.cells ((List.replicate n (0 : Int)).map iv))) := by
  have : (8 * (n : Int)) ≤ 140737488355328 := by omega
  simp [makeSliceS, makeOk, this, rep_iv]
def mx (a b : Int) : Int := if b > a then b else a
theorem frz_ints {d : List Int} {h : Heap} {b : Nat} (hb : h.get b = some (.cells (d.map iv))) : Fz true h (.slice b 0 d.length 1) (encSl encI 1 (some d)) := by
  refine .slice b 0 d.length 1 _ _ hb (by rw [map_iv]) fun i x y hx hy => ?_
  rw [map_iv, hy] at hx
  cases hx
  rw [← map_iv, List.getElem?_map] at hy
  obtain ⟨v, hv, rfl⟩ := Option.map_eq_some_iff.1 hy
  exact .scalar _ rfl

/-! ### The depths -/
def at0 (d : List Int) (k : Int) : Int := d.getD k.toNat 0
def accD (d : List Int) (kids : List Int) : Int := kids.foldl (fun a k => mx a (at0 d k)) 0
def stepD (d : List Int) (i : Nat) (g : Gate) : List Int := if g.kind = 0 ∨ g.kind = 1 then d else d.set i (accD d g.kids.l + 1)
def dGo : List Gate → Nat → List Int → List Int
  | [], _, d => d
  | g :: gs, i, d => dGo gs (i + 1) (stepD d i g)
def Bd (d : List Int) (i : Nat) : Prop := ∀ v ∈ d, 0 ≤ v ∧ v ≤ (i : Int)
theorem Bd.set {d : List Int} {i : Nat} (hb : Bd d i) {v : Int} (h1 : 0 ≤ v) (h2 : v ≤ ((i + 1 : Nat) : Int)) : Bd (d.set i v) (i + 1) := fun x hx => by
  rcases List.mem_or_eq_of_mem_set hx with h | h
  · have := hb x h; omega
  · rw [h]; exact ⟨h1, h2⟩
theorem Bd.up {d : List Int} {i : Nat} (hb : Bd d i) : Bd d (i + 1) := fun x hx => by have := hb x hx; omega
/-- From here on noughts. -/
def Zs (d : List Int) (i : Nat) : Prop := ∀ j, i ≤ j → j < d.length → d[j]? = some 0
theorem fits_of {n : Int} : ∀ (l : List Gate) (i : Nat) (m m' : MapL), symsGo n l i m = some m' → ∀ (j : Nat) (g : Gate), l[j]? = some g → fitB n (i + j) g = true
  | [], _, _, _, _, j, g, h => by simp at h
  | g0 :: l, i, m, m', hs, j, g, h => by
    simp only [symsGo] at hs
    cases hf : fitB n i g0 with
    | false => rw [hf] at hs; cases hs
    | true =>
      rw [hf] at hs
      simp only [cond_t] at hs
      cases j with
      | zero => simp at h; subst h; exact hf
      | succ j =>
        have h' : l[j]? = some g := by simpa using h
        have ih : ∀ m, symsGo n l (i + 1) m = some m' → fitB n (i + 1 + j) g = true := fun m hs => fits_of l (i + 1) m m' hs j g h'
        rw [show i + (j + 1) = i + 1 + j by omega]
        split at hs
        · split at hs
          · split at hs
            · exact ih _ hs
            · cases hs
          · exact ih _ hs
        · exact ih _ hs
theorem fit_kids {n : Int} {i : Nat} {g : Gate} (hf : fitB n i g = true) {k : Nat} {v : Int} (hv : g.kids.l[k]? = some v) : 0 ≤ v ∧ v < (i : Int) := by
  simp only [fitB, Bool.and_eq_true] at hf
  have := List.all_eq_true.1 hf.2.2.1 v (List.mem_of_getElem? hv)
  simp at this; omega
def Circ.fits (c : Circ) : Prop := c.gates.l.length ≤ 20000 ∧ 1 ≤ c.gates.l.length ∧ ∀ i g, c.gates.l[i]? = some g → fitB c.size i g = true
theorem fits_valid {c : Circ} (h : validB c = true) : c.fits := by
  unfold validB symsOf at h
  cases hs : sizeB c with
  | false => rw [hs] at h; cases h
  | true =>
    rw [hs] at h
    simp only [cond_t] at h
    obtain ⟨m, hm⟩ := Option.isSome_iff_exists.1 h
    simp only [sizeB, Bool.and_eq_true, Bool.not_eq_true', decide_eq_false_iff_not] at hs
    exact ⟨by omega, by omega, fun i g hg => by simpa using fits_of _ 0 _ _ hm i g hg⟩
def depthsOf (c : Circ) : List Int := dGo c.gates.l 0 (List.replicate c.gates.l.length 0)
end
end Go.AM
/- A closed call of the program's function 24: what it answers. Conditions: none. -/
namespace Go.AM
open Go
noncomputable section
def sA0 : List AV := [(.agg [(.int .i64 7), (.int .i64 0), (.str []), (.islice [(.str [120])] 0 1 1), .nils, (.islice [(.int .i64 6), (.int .i64 0), (.str []), (.islice [(.str [121])] 0 1 1), .nils, (.islice [(.int .i64 0), (.int .i64 0), (.str [69]), .nils, (.islice [(.str [120]), (.str [121])] 0 2 1), .nils] 0 1 6)] 0 1 6)]), (.int .i64 2)]
def sR0 : AV := (.tuple [(.agg [(.int .i64 2), (.islice [(.int .i64 1), (.str [69]), (.islice [(.int .i64 0), (.int .i64 0)] 0 2 1), .nils, (.int .i64 1), (.str [69]), (.islice [(.int .i64 0), (.int .i64 1)] 0 2 1), .nils, (.int .i64 4), (.str []), .nils, (.islice [(.int .i64 0), (.int .i64 1)] 0 2 1), (.int .i64 1), (.str [69]), (.islice [(.int .i64 1), (.int .i64 0)] 0 2 1), .nils, (.int .i64 1), (.str [69]), (.islice [(.int .i64 1), (.int .i64 1)] 0 2 1), .nils, (.int .i64 4), (.str []), .nils, (.islice [(.int .i64 3), (.int .i64 4)] 0 2 1), (.int .i64 3), (.str []), .nils, (.islice [(.int .i64 2), (.int .i64 5)] 0 2 1)] 0 7 4)]), (.int .i64 0)])
theorem stage0 : evalFn Proofs.Tryz.prog F0 D0 200 24 sA0 Heap.empty (pureK false 20 sR0) = true := by kernel_rfl
end
end Go.AM
/- A closed call of the program's function 18: what it answers. Conditions: none. -/
namespace Go.AM
open Go
noncomputable section
def sA1 : List AV := [(.agg [(.int .i64 2), (.islice [(.int .i64 1), (.str [69]), (.islice [(.int .i64 0), (.int .i64 0)] 0 2 1), .nils, (.int .i64 1), (.str [69]), (.islice [(.int .i64 0), (.int .i64 1)] 0 2 1), .nils, (.int .i64 4), (.str []), .nils, (.islice [(.int .i64 0), (.int .i64 1)] 0 2 1), (.int .i64 1), (.str [69]), (.islice [(.int .i64 1), (.int .i64 0)] 0 2 1), .nils, (.int .i64 1), (.str [69]), (.islice [(.int .i64 1), (.int .i64 1)] 0 2 1), .nils, (.int .i64 4), (.str []), .nils, (.islice [(.int .i64 3), (.int .i64 4)] 0 2 1), (.int .i64 3), (.str []), .nils, (.islice [(.int .i64 2), (.int .i64 5)] 0 2 1)] 0 7 4)]), (.agg [(.int .i64 2), (.islice [(.str [69]), (.int .i64 2), (.islice [(.islice [(.int .i64 0), (.int .i64 1)] 0 2 1), (.islice [(.int .i64 1), (.int .i64 0)] 0 2 1)] 0 2 1)] 0 1 3)])]
def sR1 : AV := (.tuple [(.bool true), (.int .i64 0)])
theorem stage1 : evalFn Proofs.Tryz.prog F0 D0 200 18 sA1 Heap.empty (pureK false 20 sR1) = true := by kernel_rfl
end
end Go.AM
/- A closed call of the program's function 38: what it answers. Conditions: none. -/
namespace Go.AM
open Go
noncomputable section
def sA2 : List AV := [(.agg [(.int .i64 2), (.islice [(.int .i64 1), (.str [69]), (.islice [(.int .i64 0), (.int .i64 0)] 0 2 1), .nils, (.int .i64 1), (.str [69]), (.islice [(.int .i64 0), (.int .i64 1)] 0 2 1), .nils, (.int .i64 4), (.str []), .nils, (.islice [(.int .i64 0), (.int .i64 1)] 0 2 1), (.int .i64 1), (.str [69]), (.islice [(.int .i64 1), (.int .i64 0)] 0 2 1), .nils, (.int .i64 1), (.str [69]), (.islice [(.int .i64 1), (.int .i64 1)] 0 2 1), .nils, (.int .i64 4), (.str []), .nils, (.islice [(.int .i64 3), (.int .i64 4)] 0 2 1), (.int .i64 3), (.str []), .nils, (.islice [(.int .i64 2), (.int .i64 5)] 0 2 1)] 0 7 4)]), (.agg [(.int .i64 2), (.islice [(.str [69]), (.int .i64 2), (.islice [(.islice [(.int .i64 0), (.int .i64 1)] 0 2 1), (.islice [(.int .i64 1), (.int .i64 0)] 0 2 1)] 0 2 1)] 0 1 3)])]
def sR2 : AV := (.tuple [(.islice [(.str [69]), (.islice [(.int .i64 0), (.int .i64 1)] 0 2 1), (.str [69]), (.islice [(.int .i64 1), (.int .i64 0)] 0 2 1)] 0 2 2), (.int .i64 0)])
theorem stage2 : evalFn Proofs.Tryz.prog F0 D0 200 38 sA2 Heap.empty (pureK false 20 sR2) = true := by kernel_rfl
end
end Go.AM
/- A closed call of the program's function 16: what it answers. Conditions: none. -/
namespace Go.AM
open Go
noncomputable section
def sA3 : List AV := [(.agg [(.int .i64 2), (.islice [(.int .i64 1), (.str [69]), (.islice [(.int .i64 0), (.int .i64 0)] 0 2 1), .nils, (.int .i64 1), (.str [69]), (.islice [(.int .i64 0), (.int .i64 1)] 0 2 1), .nils, (.int .i64 4), (.str []), .nils, (.islice [(.int .i64 0), (.int .i64 1)] 0 2 1), (.int .i64 1), (.str [69]), (.islice [(.int .i64 1), (.int .i64 0)] 0 2 1), .nils, (.int .i64 1), (.str [69]), (.islice [(.int .i64 1), (.int .i64 1)] 0 2 1), .nils, (.int .i64 4), (.str []), .nils, (.islice [(.int .i64 3), (.int .i64 4)] 0 2 1), (.int .i64 3), (.str []), .nils, (.islice [(.int .i64 2), (.int .i64 5)] 0 2 1)] 0 7 4)])]
def sR3 : AV := (.int .i64 2)
theorem stage3 : evalFn Proofs.Tryz.prog F0 D0 200 16 sA3 Heap.empty (pureK true 20 sR3) = true := by kernel_rfl
end
end Go.AM
/- The closed calls of a level, gathered. Conditions: none. -/
namespace Go.AM
open Go
noncomputable section
def F1 : Prims := fun x => if x = 24 then some (lentP 20 sA0 sR0) else if x = 18 then some (lentP 20 sA1 sR1) else if x = 38 then some (lentP 20 sA2 sR2) else if x = 16 then some (pureP sA3 sR3) else F0 x
theorem F1_sound : PrimsSound Proofs.Tryz.prog F1 := by
  have hs := evalFn_sound mixed F0_sound D0_sound 200
  intro f g hg args h K hK
  unfold F1 at hg
  split at hg
  · rename_i e
    subst e
    cases hg
    exact lentP_sound hs stage0 args h K hK
  split at hg
  · rename_i e
    subst e
    cases hg
    exact lentP_sound hs stage1 args h K hK
  split at hg
  · rename_i e
    subst e
    cases hg
    exact lentP_sound hs stage2 args h K hK
  split at hg
  · rename_i e
    subst e
    cases hg
    exact pureP_sound hs (by kernel_rfl) stage3 args h K hK
  exact F0_sound f g hg args h K hK
end
end Go.AM
/- The chapter's example answers true, called from anywhere. Conditions: none. -/
namespace Go.AM
open Go
theorem alive_true : evalFn Proofs.Tryz.prog F1 D0 200 12 [] Heap.empty (boolK true) = true := by kernel_rfl
theorem alive_sem {h : Heap} {K : Out → Heap → Bool} (hK : K (.ret (.bool true)) h = true) : Sem Proofs.Tryz.prog 12 [] h K :=
  boolP_sound (evalFn_sound mixed F1_sound D0_sound 200) alive_true [] h K hK
end Go.AM
/- What functions of the program do, as terms: printed by a program. Conditions: none. -/
namespace Go.AM
open Go Go.Proofs
set_option linter.unusedVariables false
noncomputable section
noncomputable def F.ref01_Tuples.L0 : Code := partOf (codeOf Tryz.f35) [1, 1, 0, 1, 0, 0]
noncomputable def F.ref01_Tuples.L0k (K : Out → Heap → Bool) : AX → St → Bool := (blockK 0 (seqK false (evalS Tryz.prog (semCall Tryz.prog) (partOf (codeOf Tryz.f35) [1, 1, 1])) (leaveK Tryz.prog noD Tryz.f35.results.toList K)))
noncomputable def F.ref01_Tuples.L1 : Code := partOf (codeOf Tryz.f35) [1, 1, 0, 1, 0, 0, 1, 0, 0, 1, 0, 1, 0, 0]
noncomputable def F.ref01_Tuples.L1k (K : AX → St → Bool) : AX → St → Bool := (blockK 2 (seqK false (evalS Tryz.prog (semCall Tryz.prog) (partOf (codeOf Tryz.f35) [1, 1, 0, 1, 0, 0, 1, 0, 0, 1, 1])) (blockK 1 (seqK false (evalS Tryz.prog (semCall Tryz.prog) (partOf (codeOf Tryz.f35) [1, 1, 0, 1, 0, 0, 1, 1])) K))))
noncomputable def F.ref01_Tuples.L2 : Code := partOf (codeOf Tryz.f35) [1, 1, 0, 1, 0, 0, 1, 0, 0, 1, 0, 1, 0, 0, 1, 0, 0, 1, 0, 0]
noncomputable def F.ref01_Tuples.L2k (K : AX → St → Bool) : AX → St → Bool := (blockK 4 (blockK 3 (seqK false (evalS Tryz.prog (semCall Tryz.prog) (partOf (codeOf Tryz.f35) [1, 1, 0, 1, 0, 0, 1, 0, 0, 1, 0, 1, 0, 0, 1, 1])) K)))
theorem F.ref01_Tuples.L0_eq {e : Env} {h : Heap} {K : AX → St → Bool} : evalS Tryz.prog (semCall Tryz.prog) F.ref01_Tuples.L0 ⟨e, 42, [], h⟩ K = (
bindO (binS .lss (e 6) (e 1)) fun x2 =>
condB x2 (
loopB (evalS Tryz.prog (semCall Tryz.prog) F.ref01_Tuples.L1) ⟨(setV (setV (setV (setV (setV e 12 (e 6)) 13 (e 1)) 14 x2) 7 .nils) 8 (.int .i64 0)), 42, [], h⟩ (F.ref01_Tuples.L1k K)) (
K (.exit 0) ⟨(setV (setV (setV e 12 (e 6)) 13 (e 1)) 14 x2), 42, [], h⟩)) := by kernel_rfl
theorem F.ref01_Tuples.L0_x0_eq {e : Env} {h : Heap} {K : Out → Heap → Bool} : F.ref01_Tuples.L0k K (.exit 0) ⟨e, 42, [], h⟩ = (
K (.ret (e 5)) h) := by kernel_rfl
theorem F.ref01_Tuples.L1_eq {e : Env} {h : Heap} {K : AX → St → Bool} : evalS Tryz.prog (semCall Tryz.prog) F.ref01_Tuples.L1 ⟨e, 42, [], h⟩ K = (
bindO (lenS .slice (e 5) h) fun x3 =>
bindO (binS .lss (e 8) x3) fun x4 =>
condB x4 (
loopB (evalS Tryz.prog (semCall Tryz.prog) F.ref01_Tuples.L2) ⟨(setV (setV (setV (setV (setV e 17 (e 8)) 18 (e 5)) 19 x3) 20 x4) 9 (.int .i64 0)), 42, [], h⟩ (F.ref01_Tuples.L2k K)) (
K (.exit 2) ⟨(setV (setV (setV (setV e 17 (e 8)) 18 (e 5)) 19 x3) 20 x4), 42, [], h⟩)) := by kernel_rfl
theorem F.ref01_Tuples.L1_x2_eq {e : Env} {h : Heap} {K : AX → St → Bool} : F.ref01_Tuples.L1k K (.exit 2) ⟨e, 42, [], h⟩ = (
bindO (binS .add (e 6) (.int .i64 1)) fun x5 =>
K .normal ⟨(setV (setV (setV (setV (setV e 40 (e 7)) 5 (e 7)) 15 (e 6)) 16 x5) 6 x5), 42, [], h⟩) := by kernel_rfl
theorem F.ref01_Tuples.L2_eq {e : Env} {h : Heap} {K : AX → St → Bool} : evalS Tryz.prog (semCall Tryz.prog) F.ref01_Tuples.L2 ⟨e, 42, [], h⟩ K = (
bindO (binS .lss (e 9) (e 0)) fun x6 =>
condB x6 (
bindO (rowS [] [] []) fun c7 =>
bindO (iaS 1 (e 5) (e 8)) fun x8 =>
bindO (loadS none x8 (Heap.alloc h (.cells c7))) fun x9 =>
bindO2 (appendS 1 8 (.slice (Heap.next h) 0 0 1) x9 (Heap.alloc h (.cells c7))) fun x10 h11 =>
bindO (rowS [(.int .i64 0)] [(0, 1)] [(e 9)]) fun c12 =>
bindO2 (appendS 1 8 x10 (.slice (Heap.next h11) 0 1 1) (Heap.alloc h11 (.cells c12))) fun x13 h14 =>
bindO (rowS [.nils] [(0, 1)] [x13]) fun c15 =>
bindO2 (appendS 1 24 (e 7) (.slice (Heap.next h14) 0 1 1) (Heap.alloc h14 (.cells c15))) fun x16 h17 =>
bindO (binS .add (e 9) (.int .i64 1)) fun x18 =>
K .normal ⟨(setV (setV (setV (setV (setV (setV (setV (setV (setV (setV (setV (setV (setV (setV (setV (setV (setV (setV (setV e 23 (e 9)) 24 (e 0)) 25 x6) 28 (e 7)) 29 (.slice (Heap.next h) 0 0 1)) 30 (e 5)) 31 (e 8)) 32 x8) 33 x9) 34 x10) 35 (e 9)) 36 (.slice (Heap.next h11) 0 1 1)) 37 x13) 38 (.slice (Heap.next h14) 0 1 1)) 39 x16) 7 x16) 26 (e 9)) 27 x18) 9 x18), 42, [], h17⟩) (
K (.exit 4) ⟨(setV (setV (setV e 23 (e 9)) 24 (e 0)) 25 x6), 42, [], h⟩)) := by kernel_rfl
theorem F.ref01_Tuples.L2_x4_eq {e : Env} {h : Heap} {K : AX → St → Bool} : F.ref01_Tuples.L2k K (.exit 4) ⟨e, 42, [], h⟩ = (
bindO (binS .add (e 8) (.int .i64 1)) fun x19 =>
K .normal ⟨(setV (setV (setV e 21 (e 8)) 22 x19) 8 x19), 42, [], h⟩) := by kernel_rfl
theorem F.ref01_Tuples_eq {a0 a1 : AV} {h : Heap} {K : Out → Heap → Bool} : evalS Tryz.prog (semCall Tryz.prog) (codeOf Tryz.f35) ⟨mkEnv [a0, a1], 42, [], h⟩ (leaveK Tryz.prog noD Tryz.f35.results.toList K) = (
bindO (rowS [] [] []) fun c0 =>
bindO (rowS [.nils] [(0, 1)] [(.slice (Heap.next h) 0 0 1)]) fun c1 =>
loopB (evalS Tryz.prog (semCall Tryz.prog) F.ref01_Tuples.L0) ⟨(setV (setV (setV (setV (setV (mkEnv [a0, a1]) 4 .nils) 10 (.slice (Heap.next h) 0 0 1)) 11 (.slice (Heap.next (Heap.alloc h (.cells c0))) 0 1 1)) 5 (.slice (Heap.next (Heap.alloc h (.cells c0))) 0 1 1)) 6 (.int .i64 0)), 42, [], (Heap.alloc (Heap.alloc h (.cells c0)) (.cells c1))⟩ (F.ref01_Tuples.L0k K)) := by kernel_rfl
theorem F.ref01_Tuples_sem {a0 a1 : AV} {h : Heap} {K : Out → Heap → Bool} (hh : (
bindO (rowS [] [] []) fun c0 =>
bindO (rowS [.nils] [(0, 1)] [(.slice (Heap.next h) 0 0 1)]) fun c1 =>
loopB (evalS Tryz.prog (semCall Tryz.prog) F.ref01_Tuples.L0) ⟨(setV (setV (setV (setV (setV (mkEnv [a0, a1]) 4 .nils) 10 (.slice (Heap.next h) 0 0 1)) 11 (.slice (Heap.next (Heap.alloc h (.cells c0))) 0 1 1)) 5 (.slice (Heap.next (Heap.alloc h (.cells c0))) 0 1 1)) 6 (.int .i64 0)), 42, [], (Heap.alloc (Heap.alloc h (.cells c0)) (.cells c1))⟩ (F.ref01_Tuples.L0k K)) = true) : Sem Tryz.prog 35 [a0, a1] h K :=
  sem_body mixed (noD_sound _) Tryz.func35 (c := codeOf Tryz.f35) rfl (by decide) (of_decide_eq_true (by kernel_rfl)) (F.ref01_Tuples_eq.trans hh)
noncomputable def F.ref01_Put.L0 : Code := partOf (codeOf Tryz.f36) [1, 1, 1, 1, 0, 1, 0, 0]
noncomputable def F.ref01_Put.L0k (K : Out → Heap → Bool) : AX → St → Bool := (blockK 0 (seqK false (evalS Tryz.prog (semCall Tryz.prog) (partOf (codeOf Tryz.f36) [1, 1, 1, 1, 1])) (leaveK Tryz.prog noD Tryz.f36.results.toList K)))
theorem F.ref01_Put.L0_eq {e : Env} {h : Heap} {K : AX → St → Bool} : evalS Tryz.prog (semCall Tryz.prog) F.ref01_Put.L0 ⟨e, 66, [], h⟩ K = (
bindO (faS 1 (e 4)) fun x12 =>
bindO (loadS none x12 h) fun x13 =>
bindO (iaS 3 x13 (e 10)) fun x14 =>
bindO (faS 2 x14) fun x15 =>
bindO (loadS none x15 h) fun x16 =>
bindO (lenS .slice x16 h) fun x17 =>
bindO (binS .lss (e 12) x17) fun x18 =>
condB x18 (
bindO (faS 1 (e 4)) fun x19 =>
bindO (loadS none x19 h) fun x20 =>
bindO (iaS 3 x20 (e 10)) fun x21 =>
bindO (faS 2 x21) fun x22 =>
bindO (loadS none x22 h) fun x23 =>
bindO (iaS 1 x23 (e 12)) fun x24 =>
bindO (loadS none x24 h) fun x25 =>
semCall Tryz.prog 52 [x25, (e 2)] h (outK (fun x26 h27 =>
bindO (unS .not x26) fun x30 =>
condB x30 (
bindO (faS 1 (e 4)) fun x31 =>
bindO (loadS none x31 h27) fun x32 =>
bindO (iaS 3 x32 (e 10)) fun x33 =>
bindO (faS 2 x33) fun x34 =>
bindO (loadS none x34 h27) fun x35 =>
bindO (iaS 1 x35 (e 12)) fun x36 =>
bindO (loadS none x36 h27) fun x37 =>
bindO (rowS [.nils] [(0, 1)] [x37]) fun c38 =>
bindO2 (appendS 1 24 (e 11) (.slice (Heap.next h27) 0 1 1) (Heap.alloc h27 (.cells c38))) fun x39 h40 =>
bindO (binS .add (e 12) (.int .i64 1)) fun x41 =>
K .normal ⟨(setV (setV (setV (setV (setV (setV (setV (setV (setV (setV (setV (setV (setV (setV (setV (setV (setV (setV (setV (setV (setV (setV (setV (setV (setV (setV (setV (setV (setV (setV (setV (setV (setV (setV (setV (setV (setV e 18 (e 12)) 19 x12) 20 x13) 21 (e 10)) 22 x14) 23 x15) 24 x16) 25 x17) 26 x18) 29 x19) 30 x20) 31 (e 10)) 32 x21) 33 x22) 34 x23) 35 (e 12)) 36 x24) 37 x25) 38 (e 2)) 39 x26) 40 x30) 41 (e 11)) 42 x31) 43 x32) 44 (e 10)) 45 x33) 46 x34) 47 x35) 48 (e 12)) 49 x36) 50 x37) 51 (.slice (Heap.next h27) 0 1 1)) 52 x39) 11 x39) 27 (e 12)) 28 x41) 12 x41), 66, [], h40⟩) (
bindO (binS .add (e 12) (.int .i64 1)) fun x42 =>
K .normal ⟨(setV (setV (setV (setV (setV (setV (setV (setV (setV (setV (setV (setV (setV (setV (setV (setV (setV (setV (setV (setV (setV (setV (setV (setV e 18 (e 12)) 19 x12) 20 x13) 21 (e 10)) 22 x14) 23 x15) 24 x16) 25 x17) 26 x18) 29 x19) 30 x20) 31 (e 10)) 32 x21) 33 x22) 34 x23) 35 (e 12)) 36 x24) 37 x25) 38 (e 2)) 39 x26) 40 x30) 27 (e 12)) 28 x42) 12 x42), 66, [], h27⟩)) (fun v28 h29 => K (.panic v28) ⟨(setV (setV (setV (setV (setV (setV (setV (setV (setV (setV (setV (setV (setV (setV (setV (setV (setV (setV (setV e 18 (e 12)) 19 x12) 20 x13) 21 (e 10)) 22 x14) 23 x15) 24 x16) 25 x17) 26 x18) 29 x19) 30 x20) 31 (e 10)) 32 x21) 33 x22) 34 x23) 35 (e 12)) 36 x24) 37 x25) 38 (e 2)), 66, [], h29⟩))) (
K (.exit 0) ⟨(setV (setV (setV (setV (setV (setV (setV (setV (setV e 18 (e 12)) 19 x12) 20 x13) 21 (e 10)) 22 x14) 23 x15) 24 x16) 25 x17) 26 x18), 66, [], h⟩)) := by kernel_rfl
theorem F.ref01_Put.L0_x0_eq {e : Env} {h : Heap} {K : Out → Heap → Bool} : F.ref01_Put.L0k K (.exit 0) ⟨e, 66, [], h⟩ = (
condB (e 3) (
bindO (rowS [.nils] [(0, 1)] [(e 2)]) fun c43 =>
bindO2 (appendS 1 24 (e 11) (.slice (Heap.next h) 0 1 1) (Heap.alloc h (.cells c43))) fun x44 h45 =>
bindO (faS 1 (e 9)) fun x46 =>
bindO (loadS none x46 h45) fun x47 =>
semCall Tryz.prog 86 [x44] h45 (outK (fun x48 h49 =>
if ((bindO (loadS none x46 h49) fun x50 =>
AV.beq x50 x47) && true) = true then (
bindO (iaS 3 x47 (e 10)) fun x51 =>
bindO (faS 2 x51) fun x52 =>
bindO (storeS 1 x52 x48 h49) fun h53 =>
bindO (loadS (some 2) (e 9) h53) fun x54 =>
bindO (storeS 2 (e 8) x54 h53) fun h55 =>
bindO (resultL Tryz.prog ⟨(setV (setV (setV (setV (setV (setV (setV (setV (setV (setV (setV (setV (setV (setV e 53 (e 3)) 54 (e 11)) 55 (e 2)) 56 (.slice (Heap.next h) 0 1 1)) 57 x44) 11 x44) 58 x46) 59 x47) 60 (e 10)) 61 x44) 62 x48) 63 x51) 64 x52) 65 x54), 66, [], h55⟩ Tryz.f36.results.toList) fun vs => K (.ret (oneOf vs)) h55) else false) (fun _ _ => false))) (
bindO (faS 1 (e 9)) fun x56 =>
bindO (loadS none x56 h) fun x57 =>
semCall Tryz.prog 86 [(e 11)] h (outK (fun x58 h59 =>
if ((bindO (loadS none x56 h59) fun x60 =>
AV.beq x60 x57) && true) = true then (
bindO (iaS 3 x57 (e 10)) fun x61 =>
bindO (faS 2 x61) fun x62 =>
bindO (storeS 1 x62 x58 h59) fun h63 =>
bindO (loadS (some 2) (e 9) h63) fun x64 =>
bindO (storeS 2 (e 8) x64 h63) fun h65 =>
bindO (resultL Tryz.prog ⟨(setV (setV (setV (setV (setV (setV (setV (setV (setV e 53 (e 3)) 58 x56) 59 x57) 60 (e 10)) 61 (e 11)) 62 x58) 63 x61) 64 x62) 65 x64), 66, [], h65⟩ Tryz.f36.results.toList) fun vs => K (.ret (oneOf vs)) h65) else false) (fun _ _ => false)))) := by kernel_rfl
theorem F.ref01_Put_eq {a0 a1 a2 a3 : AV} {h : Heap} {K : Out → Heap → Bool} : evalS Tryz.prog (semCall Tryz.prog) (codeOf Tryz.f36) ⟨mkEnv [a0, a1, a2, a3], 66, [], h⟩ (leaveK Tryz.prog noD Tryz.f36.results.toList K) = (
bindO (boxS a0) fun c0 =>
bindO (loadS (some 2) (.ptr (Heap.next h) 0) (Heap.alloc (Heap.alloc h (.cells c0)) (.cells [(.int .i64 0), .nils]))) fun x1 =>
semCall Tryz.prog 45 [x1] (Heap.alloc (Heap.alloc h (.cells c0)) (.cells [(.int .i64 0), .nils])) (outK (fun x2 h3 =>
bindO (storeS 2 (.ptr (Heap.next h3) 0) x2 (Heap.alloc h3 (.cells [(.int .i64 0), .nils]))) fun h6 =>
bindO (loadS (some 2) (.ptr (Heap.next h) 0) h6) fun x7 =>
semCall Tryz.prog 85 [x7, a1] h6 (outK (fun x8 h9 =>
loopB (evalS Tryz.prog (semCall Tryz.prog) F.ref01_Put.L0) ⟨(setV (setV (setV (setV (setV (setV (setV (setV (setV (setV (setV (mkEnv [a0, a1, a2, a3]) 4 (.ptr (Heap.next h) 0)) 8 (.ptr (Heap.next (Heap.alloc h (.cells c0))) 0)) 13 x1) 14 x2) 9 (.ptr (Heap.next h3) 0)) 15 x7) 16 a1) 17 x8) 10 x8) 11 .nils) 12 (.int .i64 0)), 66, [], h9⟩ (F.ref01_Put.L0k K)) (fun v10 h11 => K (.panic v10) h11))) (fun v4 h5 => K (.panic v4) h5))) := by kernel_rfl
theorem F.ref01_Put_sem {a0 a1 a2 a3 : AV} {h : Heap} {K : Out → Heap → Bool} (hh : (
bindO (boxS a0) fun c0 =>
bindO (loadS (some 2) (.ptr (Heap.next h) 0) (Heap.alloc (Heap.alloc h (.cells c0)) (.cells [(.int .i64 0), .nils]))) fun x1 =>
semCall Tryz.prog 45 [x1] (Heap.alloc (Heap.alloc h (.cells c0)) (.cells [(.int .i64 0), .nils])) (outK (fun x2 h3 =>
bindO (storeS 2 (.ptr (Heap.next h3) 0) x2 (Heap.alloc h3 (.cells [(.int .i64 0), .nils]))) fun h6 =>
bindO (loadS (some 2) (.ptr (Heap.next h) 0) h6) fun x7 =>
semCall Tryz.prog 85 [x7, a1] h6 (outK (fun x8 h9 =>
loopB (evalS Tryz.prog (semCall Tryz.prog) F.ref01_Put.L0) ⟨(setV (setV (setV (setV (setV (setV (setV (setV (setV (setV (setV (mkEnv [a0, a1, a2, a3]) 4 (.ptr (Heap.next h) 0)) 8 (.ptr (Heap.next (Heap.alloc h (.cells c0))) 0)) 13 x1) 14 x2) 9 (.ptr (Heap.next h3) 0)) 15 x7) 16 a1) 17 x8) 10 x8) 11 .nils) 12 (.int .i64 0)), 66, [], h9⟩ (F.ref01_Put.L0k K)) (fun v10 h11 => K (.panic v10) h11))) (fun v4 h5 => K (.panic v4) h5))) = true) : Sem Tryz.prog 36 [a0, a1, a2, a3] h K :=
  sem_body mixed (noD_sound _) Tryz.func36 (c := codeOf Tryz.f36) rfl (by decide) (of_decide_eq_true (by kernel_rfl)) (F.ref01_Put_eq.trans hh)
noncomputable def F.ref01_Copy.L0 : Code := partOf (codeOf Tryz.f45) [1, 1, 0, 1, 0, 0]
noncomputable def F.ref01_Copy.L0k (K : Out → Heap → Bool) : AX → St → Bool := (blockK 0 (seqK false (evalS Tryz.prog (semCall Tryz.prog) (partOf (codeOf Tryz.f45) [1, 1, 1])) (leaveK Tryz.prog noD Tryz.f45.results.toList K)))
theorem F.ref01_Copy.L0_eq {e : Env} {h : Heap} {K : AX → St → Bool} : evalS Tryz.prog (semCall Tryz.prog) F.ref01_Copy.L0 ⟨e, 41, [], h⟩ K = (
bindO (faS 1 (e 1)) fun x5 =>
bindO (loadS none x5 h) fun x6 =>
bindO (lenS .slice x6 h) fun x7 =>
bindO (binS .lss (e 4) x7) fun x8 =>
condB x8 (
bindO (faS 1 (e 3)) fun x9 =>
bindO (loadS none x9 h) fun x10 =>
bindO (faS 1 (e 1)) fun x11 =>
bindO (loadS none x11 h) fun x12 =>
bindO (iaS 3 x12 (e 4)) fun x13 =>
bindO (faS 0 x13) fun x14 =>
bindO (loadS none x14 h) fun x15 =>
bindO (faS 1 (e 1)) fun x16 =>
bindO (loadS none x16 h) fun x17 =>
bindO (iaS 3 x17 (e 4)) fun x18 =>
bindO (faS 1 x18) fun x19 =>
bindO (loadS none x19 h) fun x20 =>
bindO (faS 1 (e 1)) fun x21 =>
bindO (loadS none x21 h) fun x22 =>
bindO (iaS 3 x22 (e 4)) fun x23 =>
bindO (faS 2 x23) fun x24 =>
bindO (loadS none x24 h) fun x25 =>
semCall Tryz.prog 96 [x25] h (outK (fun x26 h27 =>
if ((bindO (loadS none x19 h27) fun x28 =>
AV.beq x28 x20) && ((bindO (loadS none x16 h27) fun x29 =>
AV.beq x29 x17) && ((bindO (loadS none x14 h27) fun x30 =>
AV.beq x30 x15) && ((bindO (loadS none x11 h27) fun x31 =>
AV.beq x31 x12) && ((bindO (loadS none x9 h27) fun x32 =>
AV.beq x32 x10) && true))))) = true then (
bindO (aggS [(.str []), (.int .i64 0), .nils] [(0, 1), (1, 1), (2, 1)] [x15, x20, x26]) fun x33 =>
bindO (rowS [(.str []), (.int .i64 0), .nils] [(0, 3)] [x33]) fun c34 =>
bindO2 (appendS 3 48 x10 (.slice (Heap.next h27) 0 1 3) (Heap.alloc h27 (.cells c34))) fun x35 h36 =>
bindO (faS 1 (e 3)) fun x37 =>
bindO (storeS 1 x37 x35 h36) fun h38 =>
bindO (binS .add (e 4) (.int .i64 1)) fun x39 =>
K .normal ⟨(setV (setV (setV (setV (setV (setV (setV (setV (setV (setV (setV (setV (setV (setV (setV (setV (setV (setV (setV (setV (setV (setV (setV (setV (setV (setV (setV (setV (setV (setV (setV (setV (setV e 8 (e 4)) 9 x5) 10 x6) 11 x7) 12 x8) 15 x9) 16 x10) 17 x11) 18 x12) 19 (e 4)) 20 x13) 21 x14) 22 x15) 23 x16) 24 x17) 25 (e 4)) 26 x18) 27 x19) 28 x20) 29 x21) 30 x22) 31 (e 4)) 32 x23) 33 x24) 34 x25) 35 x26) 36 x33) 37 (.slice (Heap.next h27) 0 1 3)) 38 x35) 39 x37) 13 (e 4)) 14 x39) 4 x39), 41, [], h38⟩) else false) (fun _ _ => false))) (
K (.exit 0) ⟨(setV (setV (setV (setV (setV e 8 (e 4)) 9 x5) 10 x6) 11 x7) 12 x8), 41, [], h⟩)) := by kernel_rfl
theorem F.ref01_Copy.L0_x0_eq {e : Env} {h : Heap} {K : Out → Heap → Bool} : F.ref01_Copy.L0k K (.exit 0) ⟨e, 41, [], h⟩ = (
bindO (loadS (some 2) (e 3) h) fun x40 =>
bindO (storeS 2 (e 2) x40 h) fun h41 =>
bindO (resultL Tryz.prog ⟨(setV e 40 x40), 41, [], h41⟩ Tryz.f45.results.toList) fun vs => K (.ret (oneOf vs)) h41) := by kernel_rfl
theorem F.ref01_Copy_eq {a0 : AV} {h : Heap} {K : Out → Heap → Bool} : evalS Tryz.prog (semCall Tryz.prog) (codeOf Tryz.f45) ⟨mkEnv [a0], 41, [], h⟩ (leaveK Tryz.prog noD Tryz.f45.results.toList K) = (
bindO (boxS a0) fun c0 =>
bindO (faS 0 (.ptr (Heap.next h) 0)) fun x1 =>
bindO (loadS none x1 (Heap.alloc (Heap.alloc h (.cells c0)) (.cells [(.int .i64 0), .nils]))) fun x2 =>
bindO (aggS [(.int .i64 0), .nils] [(0, 1)] [x2]) fun x3 =>
bindO (storeS 2 (.ptr (Heap.next (Heap.alloc (Heap.alloc h (.cells c0)) (.cells [(.int .i64 0), .nils]))) 0) x3 (Heap.alloc (Heap.alloc (Heap.alloc h (.cells c0)) (.cells [(.int .i64 0), .nils])) (.cells [(.int .i64 0), .nils]))) fun h4 =>
loopB (evalS Tryz.prog (semCall Tryz.prog) F.ref01_Copy.L0) ⟨(setV (setV (setV (setV (setV (setV (setV (mkEnv [a0]) 1 (.ptr (Heap.next h) 0)) 2 (.ptr (Heap.next (Heap.alloc h (.cells c0))) 0)) 5 x1) 6 x2) 7 x3) 3 (.ptr (Heap.next (Heap.alloc (Heap.alloc h (.cells c0)) (.cells [(.int .i64 0), .nils]))) 0)) 4 (.int .i64 0)), 41, [], h4⟩ (F.ref01_Copy.L0k K)) := by kernel_rfl
theorem F.ref01_Copy_sem {a0 : AV} {h : Heap} {K : Out → Heap → Bool} (hh : (
bindO (boxS a0) fun c0 =>
bindO (faS 0 (.ptr (Heap.next h) 0)) fun x1 =>
bindO (loadS none x1 (Heap.alloc (Heap.alloc h (.cells c0)) (.cells [(.int .i64 0), .nils]))) fun x2 =>
bindO (aggS [(.int .i64 0), .nils] [(0, 1)] [x2]) fun x3 =>
bindO (storeS 2 (.ptr (Heap.next (Heap.alloc (Heap.alloc h (.cells c0)) (.cells [(.int .i64 0), .nils]))) 0) x3 (Heap.alloc (Heap.alloc (Heap.alloc h (.cells c0)) (.cells [(.int .i64 0), .nils])) (.cells [(.int .i64 0), .nils]))) fun h4 =>
loopB (evalS Tryz.prog (semCall Tryz.prog) F.ref01_Copy.L0) ⟨(setV (setV (setV (setV (setV (setV (setV (mkEnv [a0]) 1 (.ptr (Heap.next h) 0)) 2 (.ptr (Heap.next (Heap.alloc h (.cells c0))) 0)) 5 x1) 6 x2) 7 x3) 3 (.ptr (Heap.next (Heap.alloc (Heap.alloc h (.cells c0)) (.cells [(.int .i64 0), .nils]))) 0)) 4 (.int .i64 0)), 41, [], h4⟩ (F.ref01_Copy.L0k K)) = true) : Sem Tryz.prog 45 [a0] h K :=
  sem_body mixed (noD_sound _) Tryz.func45 (c := codeOf Tryz.f45) rfl (by decide) (of_decide_eq_true (by kernel_rfl)) (F.ref01_Copy_eq.trans hh)
noncomputable def F.ref01_copied.L0 : Code := partOf (codeOf Tryz.f96) [1, 1, 0, 1, 0, 0]
noncomputable def F.ref01_copied.L0k (K : Out → Heap → Bool) : AX → St → Bool := (blockK 0 (seqK false (evalS Tryz.prog (semCall Tryz.prog) (partOf (codeOf Tryz.f96) [1, 1, 1])) (leaveK Tryz.prog noD Tryz.f96.results.toList K)))
theorem F.ref01_copied.L0_eq {e : Env} {h : Heap} {K : AX → St → Bool} : evalS Tryz.prog (semCall Tryz.prog) F.ref01_copied.L0 ⟨e, 21, [], h⟩ K = (
bindO (lenS .slice (e 0) h) fun x0 =>
bindO (binS .lss (e 4) x0) fun x1 =>
condB x1 (
bindO (rowS [] [] []) fun c2 =>
bindO (iaS 1 (e 0) (e 4)) fun x3 =>
bindO (loadS none x3 (Heap.alloc h (.cells c2))) fun x4 =>
bindO2 (appendS 1 8 (.slice (Heap.next h) 0 0 1) x4 (Heap.alloc h (.cells c2))) fun x5 h6 =>
bindO (rowS [.nils] [(0, 1)] [x5]) fun c7 =>
bindO2 (appendS 1 24 (e 3) (.slice (Heap.next h6) 0 1 1) (Heap.alloc h6 (.cells c7))) fun x8 h9 =>
bindO (binS .add (e 4) (.int .i64 1)) fun x10 =>
K .normal ⟨(setV (setV (setV (setV (setV (setV (setV (setV (setV (setV (setV (setV (setV (setV (setV (setV (setV e 5 (e 4)) 6 (e 0)) 7 x0) 8 x1) 11 (e 3)) 12 (.slice (Heap.next h) 0 0 1)) 13 (e 0)) 14 (e 4)) 15 x3) 16 x4) 17 x5) 18 (.slice (Heap.next h6) 0 1 1)) 19 x8) 3 x8) 9 (e 4)) 10 x10) 4 x10), 21, [], h9⟩) (
K (.exit 0) ⟨(setV (setV (setV (setV e 5 (e 4)) 6 (e 0)) 7 x0) 8 x1), 21, [], h⟩)) := by kernel_rfl
theorem F.ref01_copied.L0_x0_eq {e : Env} {h : Heap} {K : Out → Heap → Bool} : F.ref01_copied.L0k K (.exit 0) ⟨e, 21, [], h⟩ = (
K (.ret (e 3)) h) := by kernel_rfl
theorem F.ref01_copied_eq {a0 : AV} {h : Heap} {K : Out → Heap → Bool} : evalS Tryz.prog (semCall Tryz.prog) (codeOf Tryz.f96) ⟨mkEnv [a0], 21, [], h⟩ (leaveK Tryz.prog noD Tryz.f96.results.toList K) = (
loopB (evalS Tryz.prog (semCall Tryz.prog) F.ref01_copied.L0) ⟨(setV (setV (setV (mkEnv [a0]) 2 .nils) 3 .nils) 4 (.int .i64 0)), 21, [], h⟩ (F.ref01_copied.L0k K)) := by kernel_rfl
theorem F.ref01_copied_sem {a0 : AV} {h : Heap} {K : Out → Heap → Bool} (hh : (
loopB (evalS Tryz.prog (semCall Tryz.prog) F.ref01_copied.L0) ⟨(setV (setV (setV (mkEnv [a0]) 2 .nils) 3 .nils) 4 (.int .i64 0)), 21, [], h⟩ (F.ref01_copied.L0k K)) = true) : Sem Tryz.prog 96 [a0] h K :=
  sem_body mixed (noD_sound _) Tryz.func96 (c := codeOf Tryz.f96) rfl (by decide) (of_decide_eq_true (by kernel_rfl)) (F.ref01_copied_eq.trans hh)
noncomputable def F.ref01_Sorted.L0 : Code := partOf (codeOf Tryz.f86) [1, 1, 0, 1, 0, 0]
noncomputable def F.ref01_Sorted.L0k (K : Out → Heap → Bool) : AX → St → Bool := (blockK 0 (seqK false (evalS Tryz.prog (semCall Tryz.prog) (partOf (codeOf Tryz.f86) [1, 1, 1])) (leaveK Tryz.prog noD Tryz.f86.results.toList K)))
noncomputable def F.ref01_Sorted.L1 : Code := partOf (codeOf Tryz.f86) [1, 1, 0, 1, 0, 0, 1, 0, 0, 1, 0, 0, 0]
noncomputable def F.ref01_Sorted.L1k (K : AX → St → Bool) : AX → St → Bool := (blockK 2 (seqK false (evalS Tryz.prog (semCall Tryz.prog) (partOf (codeOf Tryz.f86) [1, 1, 0, 1, 0, 0, 1, 0, 0, 1, 1])) (blockK 1 (seqK false (evalS Tryz.prog (semCall Tryz.prog) (partOf (codeOf Tryz.f86) [1, 1, 0, 1, 0, 0, 1, 1])) K))))
theorem F.ref01_Sorted.L0_eq {e : Env} {h : Heap} {K : AX → St → Bool} : evalS Tryz.prog (semCall Tryz.prog) F.ref01_Sorted.L0 ⟨e, 65, [], h⟩ K = (
bindO (lenS .slice (e 0) h) fun x0 =>
bindO (binS .lss (e 4) x0) fun x1 =>
condB x1 (
bindO (lenS .slice (e 3) h) fun x2 =>
loopB (evalS Tryz.prog (semCall Tryz.prog) F.ref01_Sorted.L1) ⟨(setV (setV (setV (setV (setV (setV (setV e 6 (e 4)) 7 (e 0)) 8 x0) 9 x1) 12 (e 3)) 13 x2) 5 x2), 65, [], h⟩ (F.ref01_Sorted.L1k K)) (
K (.exit 0) ⟨(setV (setV (setV (setV e 6 (e 4)) 7 (e 0)) 8 x0) 9 x1), 65, [], h⟩)) := by kernel_rfl
theorem F.ref01_Sorted.L0_x0_eq {e : Env} {h : Heap} {K : Out → Heap → Bool} : F.ref01_Sorted.L0k K (.exit 0) ⟨e, 65, [], h⟩ = (
K (.ret (e 3)) h) := by kernel_rfl
theorem F.ref01_Sorted.L1_eq {e : Env} {h : Heap} {K : AX → St → Bool} : evalS Tryz.prog (semCall Tryz.prog) F.ref01_Sorted.L1 ⟨e, 65, [], h⟩ K = (
bindO (binS .gtr (e 5) (.int .i64 0)) fun x3 =>
condB x3 (
bindO (iaS 1 (e 0) (e 4)) fun x4 =>
bindO (loadS none x4 h) fun x5 =>
bindO (binS .sub (e 5) (.int .i64 1)) fun x6 =>
bindO (iaS 1 (e 3) x6) fun x7 =>
bindO (loadS none x7 h) fun x8 =>
semCall Tryz.prog 145 [x5, x8] h (outK (fun x9 h10 =>
condB x9 (
bindO (binS .sub (e 5) (.int .i64 1)) fun x11 =>
K .normal ⟨(setV (setV (setV (setV (setV (setV (setV (setV (setV (setV (setV (setV (setV (setV (setV (setV (setV (setV (setV (setV (setV (setV (setV (setV (setV (setV (setV e 14 (e 5)) 15 x3) 16 x3) 16 (.bool true)) 17 (e 0)) 16 (.bool true)) 18 (e 4)) 16 (.bool true)) 19 x4) 16 (.bool true)) 20 x5) 16 (.bool true)) 21 (e 3)) 16 (.bool true)) 22 (e 5)) 16 (.bool true)) 23 x6) 16 (.bool true)) 24 x7) 16 (.bool true)) 25 x8) 16 (.bool true)) 26 x9) 27 x9) 28 (e 5)) 29 x11) 5 x11), 65, [], h10⟩) (
K (.exit 2) ⟨(setV (setV (setV (setV (setV (setV (setV (setV (setV (setV (setV (setV (setV (setV (setV (setV (setV (setV (setV (setV (setV (setV (setV (setV e 14 (e 5)) 15 x3) 16 x3) 16 (.bool true)) 17 (e 0)) 16 (.bool true)) 18 (e 4)) 16 (.bool true)) 19 x4) 16 (.bool true)) 20 x5) 16 (.bool true)) 21 (e 3)) 16 (.bool true)) 22 (e 5)) 16 (.bool true)) 23 x6) 16 (.bool true)) 24 x7) 16 (.bool true)) 25 x8) 16 (.bool true)) 26 x9) 27 x9), 65, [], h10⟩)) (fun _ _ => false))) (
K (.exit 2) ⟨(setV (setV (setV (setV (setV (setV (setV (setV (setV (setV (setV (setV (setV (setV (setV (setV (setV (setV (setV (setV (setV (setV (setV (setV e 14 (e 5)) 15 x3) 16 x3) 16 (.bool false)) 17 noV) 16 (.bool false)) 18 noV) 16 (.bool false)) 19 noV) 16 (.bool false)) 20 noV) 16 (.bool false)) 21 noV) 16 (.bool false)) 22 noV) 16 (.bool false)) 23 noV) 16 (.bool false)) 24 noV) 16 (.bool false)) 25 noV) 16 (.bool false)) 26 noV) 27 (.bool false)), 65, [], h⟩)) := by kernel_rfl
theorem F.ref01_Sorted.L1_x2_eq {e : Env} {h : Heap} {K : AX → St → Bool} : F.ref01_Sorted.L1k K (.exit 2) ⟨e, 65, [], h⟩ = (
bindO (binS .gtr (e 5) (.int .i64 0)) fun x12 =>
condB x12 (
bindO (binS .sub (e 5) (.int .i64 1)) fun x13 =>
bindO (iaS 1 (e 3) x13) fun x14 =>
bindO (loadS none x14 h) fun x15 =>
bindO (iaS 1 (e 0) (e 4)) fun x16 =>
bindO (loadS none x16 h) fun x17 =>
semCall Tryz.prog 52 [x15, x17] h (outK (fun x18 h19 =>
condB x18 (
bindO (binS .add (e 4) (.int .i64 1)) fun x20 =>
K .normal ⟨(setV (setV (setV (setV (setV (setV (setV (setV (setV (setV (setV (setV (setV (setV (setV (setV (setV (setV (setV (setV (setV (setV (setV (setV (setV (setV (setV e 30 (e 5)) 31 x12) 32 x12) 32 (.bool true)) 33 (e 3)) 32 (.bool true)) 34 (e 5)) 32 (.bool true)) 35 x13) 32 (.bool true)) 36 x14) 32 (.bool true)) 37 x15) 32 (.bool true)) 38 (e 0)) 32 (.bool true)) 39 (e 4)) 32 (.bool true)) 40 x16) 32 (.bool true)) 41 x17) 32 (.bool true)) 42 x18) 43 x18) 10 (e 4)) 11 x20) 4 x20), 65, [], h19⟩) (
bindO (rowS [.nils] [(0, 1)] [.nils]) fun c21 =>
bindO2 (appendS 1 24 (e 3) (.slice (Heap.next h19) 0 1 1) (Heap.alloc h19 (.cells c21))) fun x22 h23 =>
bindO (binS .add (e 5) (.int .i64 1)) fun x24 =>
bindO (sliceS (some 1) x22 (some x24) none) fun x25 =>
bindO (sliceS (some 1) x22 (some (e 5)) none) fun x26 =>
bindO2 (copyS 1 x25 x26 h23) fun x27 h28 =>
bindO (rowS [] [] []) fun c29 =>
bindO (iaS 1 (e 0) (e 4)) fun x30 =>
bindO (loadS none x30 (Heap.alloc h28 (.cells c29))) fun x31 =>
bindO2 (appendS 1 8 (.slice (Heap.next h28) 0 0 1) x31 (Heap.alloc h28 (.cells c29))) fun x32 h33 =>
bindO (iaS 1 x22 (e 5)) fun x34 =>
bindO (storeS 1 x34 x32 h33) fun h35 =>
bindO (binS .add (e 4) (.int .i64 1)) fun x36 =>
K .normal ⟨(setV (setV (setV (setV (setV (setV (setV (setV (setV (setV (setV (setV (setV (setV (setV (setV (setV (setV (setV (setV (setV (setV (setV (setV (setV (setV (setV (setV (setV (setV (setV (setV (setV (setV (setV (setV (setV (setV (setV (setV (setV (setV (setV (setV (setV (setV (setV (setV e 30 (e 5)) 31 x12) 32 x12) 32 (.bool true)) 33 (e 3)) 32 (.bool true)) 34 (e 5)) 32 (.bool true)) 35 x13) 32 (.bool true)) 36 x14) 32 (.bool true)) 37 x15) 32 (.bool true)) 38 (e 0)) 32 (.bool true)) 39 (e 4)) 32 (.bool true)) 40 x16) 32 (.bool true)) 41 x17) 32 (.bool true)) 42 x18) 43 x18) 44 (e 3)) 45 (.slice (Heap.next h19) 0 1 1)) 46 x22) 3 x22) 47 x22) 48 (e 5)) 49 x24) 50 x25) 51 x22) 52 (e 5)) 53 x26) 54 x27) 55 x22) 56 (e 5)) 57 (.slice (Heap.next h28) 0 0 1)) 58 (e 0)) 59 (e 4)) 60 x30) 61 x31) 62 x32) 63 x34) 10 (e 4)) 11 x36) 4 x36), 65, [], h35⟩)) (fun _ _ => false))) (
bindO (rowS [.nils] [(0, 1)] [.nils]) fun c37 =>
bindO2 (appendS 1 24 (e 3) (.slice (Heap.next h) 0 1 1) (Heap.alloc h (.cells c37))) fun x38 h39 =>
bindO (binS .add (e 5) (.int .i64 1)) fun x40 =>
bindO (sliceS (some 1) x38 (some x40) none) fun x41 =>
bindO (sliceS (some 1) x38 (some (e 5)) none) fun x42 =>
bindO2 (copyS 1 x41 x42 h39) fun x43 h44 =>
bindO (rowS [] [] []) fun c45 =>
bindO (iaS 1 (e 0) (e 4)) fun x46 =>
bindO (loadS none x46 (Heap.alloc h44 (.cells c45))) fun x47 =>
bindO2 (appendS 1 8 (.slice (Heap.next h44) 0 0 1) x47 (Heap.alloc h44 (.cells c45))) fun x48 h49 =>
bindO (iaS 1 x38 (e 5)) fun x50 =>
bindO (storeS 1 x50 x48 h49) fun h51 =>
bindO (binS .add (e 4) (.int .i64 1)) fun x52 =>
K .normal ⟨(setV (setV (setV (setV (setV (setV (setV (setV (setV (setV (setV (setV (setV (setV (setV (setV (setV (setV (setV (setV (setV (setV (setV (setV (setV (setV (setV (setV (setV (setV (setV (setV (setV (setV (setV (setV (setV (setV (setV (setV (setV (setV (setV (setV (setV (setV (setV (setV e 30 (e 5)) 31 x12) 32 x12) 32 (.bool false)) 33 noV) 32 (.bool false)) 34 noV) 32 (.bool false)) 35 noV) 32 (.bool false)) 36 noV) 32 (.bool false)) 37 noV) 32 (.bool false)) 38 noV) 32 (.bool false)) 39 noV) 32 (.bool false)) 40 noV) 32 (.bool false)) 41 noV) 32 (.bool false)) 42 noV) 43 (.bool false)) 44 (e 3)) 45 (.slice (Heap.next h) 0 1 1)) 46 x38) 3 x38) 47 x38) 48 (e 5)) 49 x40) 50 x41) 51 x38) 52 (e 5)) 53 x42) 54 x43) 55 x38) 56 (e 5)) 57 (.slice (Heap.next h44) 0 0 1)) 58 (e 0)) 59 (e 4)) 60 x46) 61 x47) 62 x48) 63 x50) 10 (e 4)) 11 x52) 4 x52), 65, [], h51⟩)) := by kernel_rfl
theorem F.ref01_Sorted_eq {a0 : AV} {h : Heap} {K : Out → Heap → Bool} : evalS Tryz.prog (semCall Tryz.prog) (codeOf Tryz.f86) ⟨mkEnv [a0], 65, [], h⟩ (leaveK Tryz.prog noD Tryz.f86.results.toList K) = (
loopB (evalS Tryz.prog (semCall Tryz.prog) F.ref01_Sorted.L0) ⟨(setV (setV (setV (mkEnv [a0]) 2 .nils) 3 .nils) 4 (.int .i64 0)), 65, [], h⟩ (F.ref01_Sorted.L0k K)) := by kernel_rfl
theorem F.ref01_Sorted_sem {a0 : AV} {h : Heap} {K : Out → Heap → Bool} (hh : (
loopB (evalS Tryz.prog (semCall Tryz.prog) F.ref01_Sorted.L0) ⟨(setV (setV (setV (mkEnv [a0]) 2 .nils) 3 .nils) 4 (.int .i64 0)), 65, [], h⟩ (F.ref01_Sorted.L0k K)) = true) : Sem Tryz.prog 86 [a0] h K :=
  sem_body mixed (noD_sound _) Tryz.func86 (c := codeOf Tryz.f86) rfl (by decide) (of_decide_eq_true (by kernel_rfl)) (F.ref01_Sorted_eq.trans hh)
noncomputable def F.ref01_Equal.L0 : Code := partOf (codeOf Tryz.f52) [1, 1, 0, 1, 0, 0]
noncomputable def F.ref01_Equal.L0k (K : Out → Heap → Bool) : AX → St → Bool := (blockK 0 (seqK false (evalS Tryz.prog (semCall Tryz.prog) (partOf (codeOf Tryz.f52) [1, 1, 1])) (leaveK Tryz.prog noD Tryz.f52.results.toList K)))
theorem F.ref01_Equal.L0_eq {e : Env} {h : Heap} {K : AX → St → Bool} : evalS Tryz.prog (semCall Tryz.prog) F.ref01_Equal.L0 ⟨e, 26, [], h⟩ K = (
bindO (lenS .slice (e 0) h) fun x3 =>
bindO (binS .lss (e 5) x3) fun x4 =>
condB x4 (
bindO (iaS 1 (e 0) (e 5)) fun x5 =>
bindO (loadS none x5 h) fun x6 =>
bindO (iaS 1 (e 1) (e 5)) fun x7 =>
bindO (loadS none x7 h) fun x8 =>
bindO (neV (.int .i64) x6 x8) fun x9 =>
condB x9 (
K .ret ⟨(setV (setV (setV (setV (setV (setV (setV (setV (setV (setV (setV (setV (setV (setV e 11 (e 5)) 12 (e 0)) 13 x3) 14 x4) 17 (e 0)) 18 (e 5)) 19 x5) 20 x6) 21 (e 1)) 22 (e 5)) 23 x7) 24 x8) 25 x9) 4 (.bool false)), 26, [], h⟩) (
bindO (binS .add (e 5) (.int .i64 1)) fun x10 =>
K .normal ⟨(setV (setV (setV (setV (setV (setV (setV (setV (setV (setV (setV (setV (setV (setV (setV (setV e 11 (e 5)) 12 (e 0)) 13 x3) 14 x4) 17 (e 0)) 18 (e 5)) 19 x5) 20 x6) 21 (e 1)) 22 (e 5)) 23 x7) 24 x8) 25 x9) 15 (e 5)) 16 x10) 5 x10), 26, [], h⟩)) (
K (.exit 0) ⟨(setV (setV (setV (setV e 11 (e 5)) 12 (e 0)) 13 x3) 14 x4), 26, [], h⟩)) := by kernel_rfl
theorem F.ref01_Equal.L0_x0_eq {e : Env} {h : Heap} {K : Out → Heap → Bool} : F.ref01_Equal.L0k K (.exit 0) ⟨e, 26, [], h⟩ = (
K (.ret (.bool true)) h) := by kernel_rfl
theorem F.ref01_Equal.L0_r_eq {e : Env} {h : Heap} {K : Out → Heap → Bool} : F.ref01_Equal.L0k K .ret ⟨e, 26, [], h⟩ = (
K (.ret (e 4)) h) := by kernel_rfl
theorem F.ref01_Equal_eq {a0 a1 : AV} {h : Heap} {K : Out → Heap → Bool} : evalS Tryz.prog (semCall Tryz.prog) (codeOf Tryz.f52) ⟨mkEnv [a0, a1], 26, [], h⟩ (leaveK Tryz.prog noD Tryz.f52.results.toList K) = (
bindO (lenS .slice a0 h) fun x0 =>
bindO (lenS .slice a1 h) fun x1 =>
bindO (neV (.int .i64) x0 x1) fun x2 =>
condB x2 (
K (.ret (.bool false)) h) (
loopB (evalS Tryz.prog (semCall Tryz.prog) F.ref01_Equal.L0) ⟨(setV (setV (setV (setV (setV (setV (setV (mkEnv [a0, a1]) 4 (.bool false)) 6 a0) 7 x0) 8 a1) 9 x1) 10 x2) 5 (.int .i64 0)), 26, [], h⟩ (F.ref01_Equal.L0k K))) := by kernel_rfl
theorem F.ref01_Equal_sem {a0 a1 : AV} {h : Heap} {K : Out → Heap → Bool} (hh : (
bindO (lenS .slice a0 h) fun x0 =>
bindO (lenS .slice a1 h) fun x1 =>
bindO (neV (.int .i64) x0 x1) fun x2 =>
condB x2 (
K (.ret (.bool false)) h) (
loopB (evalS Tryz.prog (semCall Tryz.prog) F.ref01_Equal.L0) ⟨(setV (setV (setV (setV (setV (setV (setV (mkEnv [a0, a1]) 4 (.bool false)) 6 a0) 7 x0) 8 a1) 9 x1) 10 x2) 5 (.int .i64 0)), 26, [], h⟩ (F.ref01_Equal.L0k K))) = true) : Sem Tryz.prog 52 [a0, a1] h K :=
  sem_body mixed (noD_sound _) Tryz.func52 (c := codeOf Tryz.f52) rfl (by decide) (of_decide_eq_true (by kernel_rfl)) (F.ref01_Equal_eq.trans hh)
end
end Go.AM
/- What functions of the program do, as terms: printed by a program. Conditions: none. -/
namespace Go.AM
open Go Go.Proofs
set_option linter.unusedVariables false
noncomputable section
theorem F.law11_GateFlips_eq {a0 a1 : AV} {h : Heap} {K : Out → Heap → Bool} : evalS Tryz.prog (semCall Tryz.prog) (codeOf Tryz.f7) ⟨mkEnv [a0, a1], 60, [], h⟩ (leaveK Tryz.prog noD Tryz.f7.results.toList K) = (
bindO (boxS a0) fun c0 =>
bindO (boxS a1) fun c1 =>
bindO (loadS (some 2) (.ptr (Heap.next h) 0) (Heap.alloc (Heap.alloc h (.cells c0)) (.cells c1))) fun x2 =>
semCall Tryz.prog 11 [x2, (.int .i64 600)] (Heap.alloc (Heap.alloc h (.cells c0)) (.cells c1)) (outK (fun x3 h4 =>
bindO (unS .not x3) fun x7 =>
condB x7 (
semCall Tryz.prog 12 [] h4 (outK (fun x8 h9 =>
K (.ret x8) h9) (fun v10 h11 => K (.panic v10) h11))) (
bindO (loadS (some 2) (.ptr (Heap.next (Heap.alloc h (.cells c0))) 0) h4) fun x12 =>
bindO (rowS [(.int .i64 0), .nils] [(0, 2)] [x12]) fun c13 =>
semCall Tryz.prog 17 [(.slice (Heap.next h4) 0 1 2)] (Heap.alloc h4 (.cells c13)) (outK (fun x14 h15 =>
bindO (unS .not x14) fun x18 =>
condB x18 (
semCall Tryz.prog 12 [] h15 (outK (fun x19 h20 =>
K (.ret x19) h20) (fun v21 h22 => K (.panic v21) h22))) (
bindO (loadS (some 2) (.ptr (Heap.next h) 0) h15) fun x23 =>
bindO (loadS (some 2) (.ptr (Heap.next (Heap.alloc h (.cells c0))) 0) h15) fun x24 =>
semCall Tryz.prog 19 [x23, x24] h15 (outK (fun x25 h26 =>
bindO (eqV (.int .i64) x25 (.int .i64 0)) fun x29 =>
condB x29 (
bindO (loadS (some 2) (.ptr (Heap.next h) 0) h26) fun x30 =>
semCall Tryz.prog 37 [x30] h26 (outK (fun x31 h32 =>
bindO (binS .gtr x31 (.int .i64 150)) fun x35 =>
condB x35 (
semCall Tryz.prog 12 [] h32 (outK (fun x36 h37 =>
K (.ret x36) h37) (fun v38 h39 => K (.panic v38) h39))) (
bindO (loadS (some 2) (.ptr (Heap.next h) 0) h32) fun x40 =>
bindO (loadS (some 2) (.ptr (Heap.next (Heap.alloc h (.cells c0))) 0) h32) fun x41 =>
semCall Tryz.prog 38 [x40, x41] h32 (outK (fun x42 h43 =>
bindO (extractS x42 0) fun x46 =>
bindO (extractS x42 1) fun x47 =>
bindO (neV (.int .i64) x25 (.int .i64 0)) fun x48 =>
condB x48 (
bindO (eqV (.int .i64) x47 x25) fun x49 =>
condB x49 (
bindO (lenS .slice x46 h43) fun x50 =>
bindO (eqV (.int .i64) x50 (.int .i64 0)) fun x51 =>
condB x51 (
semCall Tryz.prog 12 [] h43 (outK (fun x52 h53 =>
K (.ret x52) h53) (fun v54 h55 => K (.panic v54) h55))) (
K (.ret (.bool false)) h43)) (
K (.ret (.bool false)) h43)) (
bindO (eqV (.int .i64) x47 (.int .i64 0)) fun x56 =>
condB x56 (
bindO (loadS (some 2) (.ptr (Heap.next h) 0) h43) fun x57 =>
bindO (loadS (some 2) (.ptr (Heap.next (Heap.alloc h (.cells c0))) 0) h43) fun x58 =>
semCall Tryz.prog 40 [x57, x58] h43 (outK (fun x59 h60 =>
semCall Tryz.prog 39 [x46, x59] h60 (outK (fun x63 h64 =>
condB x63 (
semCall Tryz.prog 12 [] h64 (outK (fun x67 h68 =>
K (.ret x67) h68) (fun v69 h70 => K (.panic v69) h70))) (
K (.ret (.bool false)) h64)) (fun v65 h66 => K (.panic v65) h66))) (fun v61 h62 => K (.panic v61) h62))) (
K (.ret (.bool false)) h43))) (fun v44 h45 => K (.panic v44) h45)))) (fun v33 h34 => K (.panic v33) h34))) (
bindO (loadS (some 2) (.ptr (Heap.next h) 0) h26) fun x71 =>
bindO (loadS (some 2) (.ptr (Heap.next (Heap.alloc h (.cells c0))) 0) h26) fun x72 =>
semCall Tryz.prog 38 [x71, x72] h26 (outK (fun x73 h74 =>
bindO (extractS x73 0) fun x77 =>
bindO (extractS x73 1) fun x78 =>
bindO (neV (.int .i64) x25 (.int .i64 0)) fun x79 =>
condB x79 (
bindO (eqV (.int .i64) x78 x25) fun x80 =>
condB x80 (
bindO (lenS .slice x77 h74) fun x81 =>
bindO (eqV (.int .i64) x81 (.int .i64 0)) fun x82 =>
condB x82 (
semCall Tryz.prog 12 [] h74 (outK (fun x83 h84 =>
K (.ret x83) h84) (fun v85 h86 => K (.panic v85) h86))) (
K (.ret (.bool false)) h74)) (
K (.ret (.bool false)) h74)) (
bindO (eqV (.int .i64) x78 (.int .i64 0)) fun x87 =>
condB x87 (
bindO (loadS (some 2) (.ptr (Heap.next h) 0) h74) fun x88 =>
bindO (loadS (some 2) (.ptr (Heap.next (Heap.alloc h (.cells c0))) 0) h74) fun x89 =>
semCall Tryz.prog 40 [x88, x89] h74 (outK (fun x90 h91 =>
semCall Tryz.prog 39 [x77, x90] h91 (outK (fun x94 h95 =>
condB x94 (
semCall Tryz.prog 12 [] h95 (outK (fun x98 h99 =>
K (.ret x98) h99) (fun v100 h101 => K (.panic v100) h101))) (
K (.ret (.bool false)) h95)) (fun v96 h97 => K (.panic v96) h97))) (fun v92 h93 => K (.panic v92) h93))) (
K (.ret (.bool false)) h74))) (fun v75 h76 => K (.panic v75) h76)))) (fun v27 h28 => K (.panic v27) h28)))) (fun v16 h17 => K (.panic v16) h17)))) (fun v5 h6 => K (.panic v5) h6))) := by kernel_rfl
theorem F.law11_GateFlips_sem {a0 a1 : AV} {h : Heap} {K : Out → Heap → Bool} (hh : (
bindO (boxS a0) fun c0 =>
bindO (boxS a1) fun c1 =>
bindO (loadS (some 2) (.ptr (Heap.next h) 0) (Heap.alloc (Heap.alloc h (.cells c0)) (.cells c1))) fun x2 =>
semCall Tryz.prog 11 [x2, (.int .i64 600)] (Heap.alloc (Heap.alloc h (.cells c0)) (.cells c1)) (outK (fun x3 h4 =>
bindO (unS .not x3) fun x7 =>
condB x7 (
semCall Tryz.prog 12 [] h4 (outK (fun x8 h9 =>
K (.ret x8) h9) (fun v10 h11 => K (.panic v10) h11))) (
bindO (loadS (some 2) (.ptr (Heap.next (Heap.alloc h (.cells c0))) 0) h4) fun x12 =>
bindO (rowS [(.int .i64 0), .nils] [(0, 2)] [x12]) fun c13 =>
semCall Tryz.prog 17 [(.slice (Heap.next h4) 0 1 2)] (Heap.alloc h4 (.cells c13)) (outK (fun x14 h15 =>
bindO (unS .not x14) fun x18 =>
condB x18 (
semCall Tryz.prog 12 [] h15 (outK (fun x19 h20 =>
K (.ret x19) h20) (fun v21 h22 => K (.panic v21) h22))) (
bindO (loadS (some 2) (.ptr (Heap.next h) 0) h15) fun x23 =>
bindO (loadS (some 2) (.ptr (Heap.next (Heap.alloc h (.cells c0))) 0) h15) fun x24 =>
semCall Tryz.prog 19 [x23, x24] h15 (outK (fun x25 h26 =>
bindO (eqV (.int .i64) x25 (.int .i64 0)) fun x29 =>
condB x29 (
bindO (loadS (some 2) (.ptr (Heap.next h) 0) h26) fun x30 =>
semCall Tryz.prog 37 [x30] h26 (outK (fun x31 h32 =>
bindO (binS .gtr x31 (.int .i64 150)) fun x35 =>
condB x35 (
semCall Tryz.prog 12 [] h32 (outK (fun x36 h37 =>
K (.ret x36) h37) (fun v38 h39 => K (.panic v38) h39))) (
bindO (loadS (some 2) (.ptr (Heap.next h) 0) h32) fun x40 =>
bindO (loadS (some 2) (.ptr (Heap.next (Heap.alloc h (.cells c0))) 0) h32) fun x41 =>
semCall Tryz.prog 38 [x40, x41] h32 (outK (fun x42 h43 =>
bindO (extractS x42 0) fun x46 =>
bindO (extractS x42 1) fun x47 =>
bindO (neV (.int .i64) x25 (.int .i64 0)) fun x48 =>
condB x48 (
bindO (eqV (.int .i64) x47 x25) fun x49 =>
condB x49 (
bindO (lenS .slice x46 h43) fun x50 =>
bindO (eqV (.int .i64) x50 (.int .i64 0)) fun x51 =>
condB x51 (
semCall Tryz.prog 12 [] h43 (outK (fun x52 h53 =>
K (.ret x52) h53) (fun v54 h55 => K (.panic v54) h55))) (
K (.ret (.bool false)) h43)) (
K (.ret (.bool false)) h43)) (
bindO (eqV (.int .i64) x47 (.int .i64 0)) fun x56 =>
condB x56 (
bindO (loadS (some 2) (.ptr (Heap.next h) 0) h43) fun x57 =>
bindO (loadS (some 2) (.ptr (Heap.next (Heap.alloc h (.cells c0))) 0) h43) fun x58 =>
semCall Tryz.prog 40 [x57, x58] h43 (outK (fun x59 h60 =>
semCall Tryz.prog 39 [x46, x59] h60 (outK (fun x63 h64 =>
condB x63 (
semCall Tryz.prog 12 [] h64 (outK (fun x67 h68 =>
K (.ret x67) h68) (fun v69 h70 => K (.panic v69) h70))) (
K (.ret (.bool false)) h64)) (fun v65 h66 => K (.panic v65) h66))) (fun v61 h62 => K (.panic v61) h62))) (
K (.ret (.bool false)) h43))) (fun v44 h45 => K (.panic v44) h45)))) (fun v33 h34 => K (.panic v33) h34))) (
bindO (loadS (some 2) (.ptr (Heap.next h) 0) h26) fun x71 =>
bindO (loadS (some 2) (.ptr (Heap.next (Heap.alloc h (.cells c0))) 0) h26) fun x72 =>
semCall Tryz.prog 38 [x71, x72] h26 (outK (fun x73 h74 =>
bindO (extractS x73 0) fun x77 =>
bindO (extractS x73 1) fun x78 =>
bindO (neV (.int .i64) x25 (.int .i64 0)) fun x79 =>
condB x79 (
bindO (eqV (.int .i64) x78 x25) fun x80 =>
condB x80 (
bindO (lenS .slice x77 h74) fun x81 =>
bindO (eqV (.int .i64) x81 (.int .i64 0)) fun x82 =>
condB x82 (
semCall Tryz.prog 12 [] h74 (outK (fun x83 h84 =>
K (.ret x83) h84) (fun v85 h86 => K (.panic v85) h86))) (
K (.ret (.bool false)) h74)) (
K (.ret (.bool false)) h74)) (
bindO (eqV (.int .i64) x78 (.int .i64 0)) fun x87 =>
condB x87 (
bindO (loadS (some 2) (.ptr (Heap.next h) 0) h74) fun x88 =>
bindO (loadS (some 2) (.ptr (Heap.next (Heap.alloc h (.cells c0))) 0) h74) fun x89 =>
semCall Tryz.prog 40 [x88, x89] h74 (outK (fun x90 h91 =>
semCall Tryz.prog 39 [x77, x90] h91 (outK (fun x94 h95 =>
condB x94 (
semCall Tryz.prog 12 [] h95 (outK (fun x98 h99 =>
K (.ret x98) h99) (fun v100 h101 => K (.panic v100) h101))) (
K (.ret (.bool false)) h95)) (fun v96 h97 => K (.panic v96) h97))) (fun v92 h93 => K (.panic v92) h93))) (
K (.ret (.bool false)) h74))) (fun v75 h76 => K (.panic v75) h76)))) (fun v27 h28 => K (.panic v27) h28)))) (fun v16 h17 => K (.panic v16) h17)))) (fun v5 h6 => K (.panic v5) h6))) = true) : Sem Tryz.prog 7 [a0, a1] h K :=
  sem_body mixed (noD_sound _) Tryz.func7 (c := codeOf Tryz.f7) rfl (by decide) (of_decide_eq_true (by kernel_rfl)) (F.law11_GateFlips_eq.trans hh)
noncomputable def F.law11_cells.L0 : Code := partOf (codeOf Tryz.f37) [1, 1, 1, 0, 1, 0, 0]
noncomputable def F.law11_cells.L0k (K : Out → Heap → Bool) : AX → St → Bool := (blockK 0 (seqK false (evalS Tryz.prog (semCall Tryz.prog) (partOf (codeOf Tryz.f37) [1, 1, 1, 1])) (leaveK Tryz.prog noD Tryz.f37.results.toList K)))
theorem F.law11_cells.L0_eq {e : Env} {h : Heap} {K : AX → St → Bool} : evalS Tryz.prog (semCall Tryz.prog) F.law11_cells.L0 ⟨e, 25, [], h⟩ K = (
bindO (lenS .slice (e 3) h) fun x6 =>
bindO (binS .lss (e 5) x6) fun x7 =>
condB x7 (
bindO (faS 0 (e 1)) fun x8 =>
bindO (loadS none x8 h) fun x9 =>
bindO (iaS 2 (e 3) (e 5)) fun x10 =>
bindO (faS 1 x10) fun x11 =>
bindO (loadS none x11 h) fun x12 =>
semCall Tryz.prog 87 [x9, x12] h (outK (fun x13 h14 =>
bindO (binS .add (e 4) x13) fun x15 =>
bindO (binS .add (e 5) (.int .i64 1)) fun x16 =>
K .normal ⟨(setV (setV (setV (setV (setV (setV (setV (setV (setV (setV (setV (setV (setV (setV (setV (setV (setV (setV e 8 (e 5)) 9 (e 3)) 10 x6) 11 x7) 14 (e 4)) 15 x8) 16 x9) 17 (e 3)) 18 (e 5)) 19 x10) 20 x11) 21 x12) 22 x13) 23 x15) 4 x15) 12 (e 5)) 13 x16) 5 x16), 25, [], h14⟩) (fun _ _ => false))) (
K (.exit 0) ⟨(setV (setV (setV (setV e 8 (e 5)) 9 (e 3)) 10 x6) 11 x7), 25, [], h⟩)) := by kernel_rfl
theorem F.law11_cells.L0_x0_eq {e : Env} {h : Heap} {K : Out → Heap → Bool} : F.law11_cells.L0k K (.exit 0) ⟨e, 25, [], h⟩ = (
K (.ret (e 4)) h) := by kernel_rfl
theorem F.law11_cells_eq {a0 : AV} {h : Heap} {K : Out → Heap → Bool} : evalS Tryz.prog (semCall Tryz.prog) (codeOf Tryz.f37) ⟨mkEnv [a0], 25, [], h⟩ (leaveK Tryz.prog noD Tryz.f37.results.toList K) = (
bindO (boxS a0) fun c0 =>
bindO (loadS (some 2) (.ptr (Heap.next h) 0) (Heap.alloc h (.cells c0))) fun x1 =>
semCall Tryz.prog 29 [x1] (Heap.alloc h (.cells c0)) (outK (fun x2 h3 =>
loopB (evalS Tryz.prog (semCall Tryz.prog) F.law11_cells.L0) ⟨(setV (setV (setV (setV (setV (setV (setV (mkEnv [a0]) 1 (.ptr (Heap.next h) 0)) 2 (.int .i64 0)) 6 x1) 7 x2) 3 x2) 4 (.int .i64 0)) 5 (.int .i64 0)), 25, [], h3⟩ (F.law11_cells.L0k K)) (fun v4 h5 => K (.panic v4) h5))) := by kernel_rfl
theorem F.law11_cells_sem {a0 : AV} {h : Heap} {K : Out → Heap → Bool} (hh : (
bindO (boxS a0) fun c0 =>
bindO (loadS (some 2) (.ptr (Heap.next h) 0) (Heap.alloc h (.cells c0))) fun x1 =>
semCall Tryz.prog 29 [x1] (Heap.alloc h (.cells c0)) (outK (fun x2 h3 =>
loopB (evalS Tryz.prog (semCall Tryz.prog) F.law11_cells.L0) ⟨(setV (setV (setV (setV (setV (setV (setV (mkEnv [a0]) 1 (.ptr (Heap.next h) 0)) 2 (.int .i64 0)) 6 x1) 7 x2) 3 x2) 4 (.int .i64 0)) 5 (.int .i64 0)), 25, [], h3⟩ (F.law11_cells.L0k K)) (fun v4 h5 => K (.panic v4) h5))) = true) : Sem Tryz.prog 37 [a0] h K :=
  sem_body mixed (noD_sound _) Tryz.func37 (c := codeOf Tryz.f37) rfl (by decide) (of_decide_eq_true (by kernel_rfl)) (F.law11_cells_eq.trans hh)
noncomputable def F.gate_Flips.L0 : Code := partOf (codeOf Tryz.f38) [1, 1, 1, 1, 1, 0, 1, 0, 0]
noncomputable def F.gate_Flips.L0k (K : Out → Heap → Bool) : AX → St → Bool := (blockK 0 (seqK false (evalS Tryz.prog (semCall Tryz.prog) (partOf (codeOf Tryz.f38) [1, 1, 1, 1, 1, 1])) (leaveK Tryz.prog noD Tryz.f38.results.toList K)))
noncomputable def F.gate_Flips.L1 : Code := partOf (codeOf Tryz.f38) [1, 1, 1, 1, 1, 0, 1, 0, 0, 1, 1, 0, 0, 1, 1, 1, 0, 0]
noncomputable def F.gate_Flips.L1k (K : AX → St → Bool) : AX → St → Bool := (blockK 2 (blockK 1 (seqK false (evalS Tryz.prog (semCall Tryz.prog) (partOf (codeOf Tryz.f38) [1, 1, 1, 1, 1, 0, 1, 0, 0, 1, 1, 1])) K)))
theorem F.gate_Flips.L0_eq {e : Env} {h : Heap} {K : AX → St → Bool} : evalS Tryz.prog (semCall Tryz.prog) F.gate_Flips.L0 ⟨e, 86, [], h⟩ K = (
bindO (binS .lss (e 34) (e 33)) fun x26 =>
condB x26 (
bindO (iaS 1 (e 32) (e 34)) fun x27 =>
bindO (loadS none x27 h) fun x28 =>
bindO (lookupS .string .nils false (e 6) x28 h) fun x29 =>
bindO (lenS .slice x29 h) fun x30 =>
loopB (evalS Tryz.prog (semCall Tryz.prog) F.gate_Flips.L1) ⟨(setV (setV (setV (setV (setV (setV (setV (setV (setV (setV (setV e 35 x26) 36 x27) 37 x28) 12 x28) 38 (e 6)) 39 x28) 40 x29) 13 x29) 41 x29) 42 x30) 43 (.int .i64 0)), 86, [], h⟩ (F.gate_Flips.L1k K)) (
K (.exit 0) ⟨(setV e 35 x26), 86, [], h⟩)) := by kernel_rfl
theorem F.gate_Flips.L0_x0_eq {e : Env} {h : Heap} {K : Out → Heap → Bool} : F.gate_Flips.L0k K (.exit 0) ⟨e, 86, [], h⟩ = (
K (.ret (.tuple [(e 10), (.int .i64 0)])) h) := by kernel_rfl
theorem F.gate_Flips.L1_eq {e : Env} {h : Heap} {K : AX → St → Bool} : evalS Tryz.prog (semCall Tryz.prog) F.gate_Flips.L1 ⟨e, 86, [], h⟩ K = (
bindO (binS .lss (e 43) (e 42)) fun x31 =>
condB x31 (
bindO (iaS 1 (e 13) (e 43)) fun x32 =>
bindO (loadS none x32 h) fun x33 =>
bindO (unS .not x33) fun x34 =>
bindO (iaS 1 (e 13) (e 43)) fun x35 =>
bindO (storeS 1 x35 x34 h) fun h36 =>
bindO (loadS (some 2) (e 2) h36) fun x37 =>
semCall Tryz.prog 57 [x37, (e 6)] h36 (outK (fun x38 h39 =>
bindO (neV .bool x38 (e 9)) fun x42 =>
condB x42 (
bindO (faS 0 (e 3)) fun x43 =>
bindO (loadS none x43 h39) fun x44 =>
bindO (lookupS .string (.int .i64 0) false (e 7) (e 12) h39) fun x45 =>
semCall Tryz.prog 90 [x44, x45, (e 43)] h39 (outK (fun x46 h47 =>
bindO (extractS x46 0) fun x50 =>
bindO (extractS x46 1) fun x51 =>
bindO (aggS [(.str []), .nils] [(0, 1), (1, 1)] [(e 12), x50]) fun x52 =>
bindO (rowS [(.str []), .nils] [(0, 2)] [x52]) fun c53 =>
bindO2 (appendS 2 40 (e 10) (.slice (Heap.next h47) 0 1 2) (Heap.alloc h47 (.cells c53))) fun x54 h55 =>
bindO (iaS 1 (e 13) (e 43)) fun x56 =>
bindO (loadS none x56 h55) fun x57 =>
bindO (unS .not x57) fun x58 =>
bindO (iaS 1 (e 13) (e 43)) fun x59 =>
bindO (storeS 1 x59 x58 h55) fun h60 =>
bindO (binS .add (e 43) (.int .i64 1)) fun x61 =>
K .normal ⟨(setV (setV (setV (setV (setV (setV (setV (setV (setV (setV (setV (setV (setV (setV (setV (setV (setV (setV (setV (setV (setV (setV (setV (setV (setV (setV (setV (setV (setV (setV (setV (setV (setV (setV (setV (setV (setV (setV (setV (setV (setV (setV (setV (setV (setV e 44 x31) 45 (e 43)) 14 (e 43)) 46 (e 13)) 47 (e 43)) 48 (e 13)) 49 (e 43)) 50 x32) 51 x33) 52 x34) 53 x35) 54 x37) 55 (e 6)) 56 x38) 57 (e 9)) 58 x42) 60 x43) 61 x44) 62 (e 7)) 63 (e 12)) 64 x45) 65 (e 43)) 66 x46) 59 x46) 67 x50) 68 x51) 15 x50) 16 x51) 69 (e 10)) 70 (e 12)) 71 x50) 72 x52) 73 (.slice (Heap.next h47) 0 1 2)) 74 x54) 10 x54) 75 (e 13)) 76 (e 43)) 77 (e 13)) 78 (e 43)) 79 x56) 80 x57) 81 x58) 82 x59) 83 x61) 43 x61), 86, [], h60⟩) (fun v48 h49 => K (.panic v48) ⟨(setV (setV (setV (setV (setV (setV (setV (setV (setV (setV (setV (setV (setV (setV (setV (setV (setV (setV (setV (setV (setV (setV e 44 x31) 45 (e 43)) 14 (e 43)) 46 (e 13)) 47 (e 43)) 48 (e 13)) 49 (e 43)) 50 x32) 51 x33) 52 x34) 53 x35) 54 x37) 55 (e 6)) 56 x38) 57 (e 9)) 58 x42) 60 x43) 61 x44) 62 (e 7)) 63 (e 12)) 64 x45) 65 (e 43)), 86, [], h49⟩))) (
bindO (iaS 1 (e 13) (e 43)) fun x62 =>
bindO (loadS none x62 h39) fun x63 =>
bindO (unS .not x63) fun x64 =>
bindO (iaS 1 (e 13) (e 43)) fun x65 =>
bindO (storeS 1 x65 x64 h39) fun h66 =>
bindO (binS .add (e 43) (.int .i64 1)) fun x67 =>
K .normal ⟨(setV (setV (setV (setV (setV (setV (setV (setV (setV (setV (setV (setV (setV (setV (setV (setV (setV (setV (setV (setV (setV (setV (setV (setV (setV (setV e 44 x31) 45 (e 43)) 14 (e 43)) 46 (e 13)) 47 (e 43)) 48 (e 13)) 49 (e 43)) 50 x32) 51 x33) 52 x34) 53 x35) 54 x37) 55 (e 6)) 56 x38) 57 (e 9)) 58 x42) 75 (e 13)) 76 (e 43)) 77 (e 13)) 78 (e 43)) 79 x62) 80 x63) 81 x64) 82 x65) 83 x67) 43 x67), 86, [], h66⟩)) (fun v40 h41 => K (.panic v40) ⟨(setV (setV (setV (setV (setV (setV (setV (setV (setV (setV (setV (setV (setV e 44 x31) 45 (e 43)) 14 (e 43)) 46 (e 13)) 47 (e 43)) 48 (e 13)) 49 (e 43)) 50 x32) 51 x33) 52 x34) 53 x35) 54 x37) 55 (e 6)), 86, [], h41⟩))) (
K (.exit 2) ⟨(setV e 44 x31), 86, [], h⟩)) := by kernel_rfl
theorem F.gate_Flips.L1_x2_eq {e : Env} {h : Heap} {K : AX → St → Bool} : F.gate_Flips.L1k K (.exit 2) ⟨e, 86, [], h⟩ = (
bindO (binS .add (e 34) (.int .i64 1)) fun x68 =>
K .normal ⟨(setV (setV e 84 x68) 34 x68), 86, [], h⟩) := by kernel_rfl
theorem F.gate_Flips_eq {a0 a1 : AV} {h : Heap} {K : Out → Heap → Bool} : evalS Tryz.prog (semCall Tryz.prog) (codeOf Tryz.f38) ⟨mkEnv [a0, a1], 86, [], h⟩ (leaveK Tryz.prog noD Tryz.f38.results.toList K) = (
bindO (boxS a0) fun c0 =>
bindO (boxS a1) fun c1 =>
bindO (loadS (some 2) (.ptr (Heap.next h) 0) (Heap.alloc (Heap.alloc h (.cells c0)) (.cells c1))) fun x2 =>
bindO (loadS (some 2) (.ptr (Heap.next (Heap.alloc h (.cells c0))) 0) (Heap.alloc (Heap.alloc h (.cells c0)) (.cells c1))) fun x3 =>
semCall Tryz.prog 56 [x2, x3] (Heap.alloc (Heap.alloc h (.cells c0)) (.cells c1)) (outK (fun x4 h5 =>
bindO (extractS x4 0) fun x8 =>
bindO (extractS x4 1) fun x9 =>
bindO (extractS x4 2) fun x10 =>
bindO (neV (.int .i64) x10 (.int .i64 0)) fun x11 =>
condB x11 (
K (.ret (.tuple [.nils, x10])) h5) (
bindO (loadS (some 2) (.ptr (Heap.next h) 0) h5) fun x12 =>
semCall Tryz.prog 57 [x12, x8] h5 (outK (fun x13 h14 =>
semCall Tryz.prog 89 [x9] h14 (outK (fun x17 h18 =>
semCall Tryz.prog 88 [x17] h18 (outK (fun x21 h22 =>
bindO (lenS .slice x21 h22) fun x25 =>
loopB (evalS Tryz.prog (semCall Tryz.prog) F.gate_Flips.L0) ⟨(setV (setV (setV (setV (setV (setV (setV (setV (setV (setV (setV (setV (setV (setV (setV (setV (setV (setV (setV (setV (setV (setV (setV (setV (setV (setV (mkEnv [a0, a1]) 2 (.ptr (Heap.next h) 0)) 3 (.ptr (Heap.next (Heap.alloc h (.cells c0))) 0)) 4 .nils) 5 (.int .i64 0)) 18 x2) 19 x3) 20 x4) 17 x4) 21 x8) 22 x9) 23 x10) 6 x8) 7 x9) 8 x10) 24 x10) 25 x11) 27 x12) 28 x8) 29 x13) 9 x13) 10 .nils) 30 x9) 31 x17) 32 x21) 33 x25) 34 (.int .i64 0)), 86, [], h22⟩ (F.gate_Flips.L0k K)) (fun v23 h24 => K (.panic v23) h24))) (fun v19 h20 => K (.panic v19) h20))) (fun v15 h16 => K (.panic v15) h16)))) (fun v6 h7 => K (.panic v6) h7))) := by kernel_rfl
theorem F.gate_Flips_sem {a0 a1 : AV} {h : Heap} {K : Out → Heap → Bool} (hh : (
bindO (boxS a0) fun c0 =>
bindO (boxS a1) fun c1 =>
bindO (loadS (some 2) (.ptr (Heap.next h) 0) (Heap.alloc (Heap.alloc h (.cells c0)) (.cells c1))) fun x2 =>
bindO (loadS (some 2) (.ptr (Heap.next (Heap.alloc h (.cells c0))) 0) (Heap.alloc (Heap.alloc h (.cells c0)) (.cells c1))) fun x3 =>
semCall Tryz.prog 56 [x2, x3] (Heap.alloc (Heap.alloc h (.cells c0)) (.cells c1)) (outK (fun x4 h5 =>
bindO (extractS x4 0) fun x8 =>
bindO (extractS x4 1) fun x9 =>
bindO (extractS x4 2) fun x10 =>
bindO (neV (.int .i64) x10 (.int .i64 0)) fun x11 =>
condB x11 (
K (.ret (.tuple [.nils, x10])) h5) (
bindO (loadS (some 2) (.ptr (Heap.next h) 0) h5) fun x12 =>
semCall Tryz.prog 57 [x12, x8] h5 (outK (fun x13 h14 =>
semCall Tryz.prog 89 [x9] h14 (outK (fun x17 h18 =>
semCall Tryz.prog 88 [x17] h18 (outK (fun x21 h22 =>
bindO (lenS .slice x21 h22) fun x25 =>
loopB (evalS Tryz.prog (semCall Tryz.prog) F.gate_Flips.L0) ⟨(setV (setV (setV (setV (setV (setV (setV (setV (setV (setV (setV (setV (setV (setV (setV (setV (setV (setV (setV (setV (setV (setV (setV (setV (setV (setV (mkEnv [a0, a1]) 2 (.ptr (Heap.next h) 0)) 3 (.ptr (Heap.next (Heap.alloc h (.cells c0))) 0)) 4 .nils) 5 (.int .i64 0)) 18 x2) 19 x3) 20 x4) 17 x4) 21 x8) 22 x9) 23 x10) 6 x8) 7 x9) 8 x10) 24 x10) 25 x11) 27 x12) 28 x8) 29 x13) 9 x13) 10 .nils) 30 x9) 31 x17) 32 x21) 33 x25) 34 (.int .i64 0)), 86, [], h22⟩ (F.gate_Flips.L0k K)) (fun v23 h24 => K (.panic v23) h24))) (fun v19 h20 => K (.panic v19) h20))) (fun v15 h16 => K (.panic v15) h16)))) (fun v6 h7 => K (.panic v6) h7))) = true) : Sem Tryz.prog 38 [a0, a1] h K :=
  sem_body mixed (noD_sound _) Tryz.func38 (c := codeOf Tryz.f38) rfl (by decide) (of_decide_eq_true (by kernel_rfl)) (F.gate_Flips_eq.trans hh)
noncomputable def F.ref08_Same.L0 : Code := partOf (codeOf Tryz.f39) [1, 1, 0, 1, 0, 0]
noncomputable def F.ref08_Same.L0k (K : Out → Heap → Bool) : AX → St → Bool := (blockK 0 (seqK false (evalS Tryz.prog (semCall Tryz.prog) (partOf (codeOf Tryz.f39) [1, 1, 1])) (leaveK Tryz.prog noD Tryz.f39.results.toList K)))
theorem F.ref08_Same.L0_eq {e : Env} {h : Heap} {K : AX → St → Bool} : evalS Tryz.prog (semCall Tryz.prog) F.ref08_Same.L0 ⟨e, 42, [], h⟩ K = (
bindO (lenS .slice (e 0) h) fun x3 =>
bindO (binS .lss (e 5) x3) fun x4 =>
condB x4 (
bindO (iaS 2 (e 0) (e 5)) fun x5 =>
bindO (faS 0 x5) fun x6 =>
bindO (loadS none x6 h) fun x7 =>
bindO (iaS 2 (e 1) (e 5)) fun x8 =>
bindO (faS 0 x8) fun x9 =>
bindO (loadS none x9 h) fun x10 =>
bindO (neV .string x7 x10) fun x11 =>
condB x11 (
K .ret ⟨(setV (setV (setV (setV (setV (setV (setV (setV (setV (setV (setV (setV (setV (setV (setV (setV (setV (setV (setV (setV (setV (setV (setV (setV (setV (setV (setV (setV (setV (setV (setV (setV (setV (setV (setV (setV (setV (setV (setV (setV (setV (setV e 11 (e 5)) 12 (e 0)) 13 x3) 14 x4) 17 (e 0)) 18 (e 5)) 19 x5) 20 x6) 21 x7) 22 (e 1)) 23 (e 5)) 24 x8) 25 x9) 26 x10) 27 x11) 28 x11) 28 (.bool true)) 29 noV) 28 (.bool true)) 30 noV) 28 (.bool true)) 31 noV) 28 (.bool true)) 32 noV) 28 (.bool true)) 33 noV) 28 (.bool true)) 34 noV) 28 (.bool true)) 35 noV) 28 (.bool true)) 36 noV) 28 (.bool true)) 37 noV) 28 (.bool true)) 38 noV) 28 (.bool true)) 39 noV) 28 (.bool true)) 40 noV) 41 (.bool true)) 4 (.bool false)), 42, [], h⟩) (
bindO (iaS 2 (e 0) (e 5)) fun x12 =>
bindO (faS 1 x12) fun x13 =>
bindO (loadS none x13 h) fun x14 =>
bindO (iaS 2 (e 1) (e 5)) fun x15 =>
bindO (faS 1 x15) fun x16 =>
bindO (loadS none x16 h) fun x17 =>
semCall Tryz.prog 52 [x14, x17] h (outK (fun x18 h19 =>
bindO (unS .not x18) fun x20 =>
condB x20 (
K .ret ⟨(setV (setV (setV (setV (setV (setV (setV (setV (setV (setV (setV (setV (setV (setV (setV (setV (setV (setV (setV (setV (setV (setV (setV (setV (setV (setV (setV (setV (setV (setV (setV (setV (setV (setV (setV (setV (setV (setV (setV (setV (setV (setV e 11 (e 5)) 12 (e 0)) 13 x3) 14 x4) 17 (e 0)) 18 (e 5)) 19 x5) 20 x6) 21 x7) 22 (e 1)) 23 (e 5)) 24 x8) 25 x9) 26 x10) 27 x11) 28 x11) 28 (.bool false)) 29 (e 0)) 28 (.bool false)) 30 (e 5)) 28 (.bool false)) 31 x12) 28 (.bool false)) 32 x13) 28 (.bool false)) 33 x14) 28 (.bool false)) 34 (e 1)) 28 (.bool false)) 35 (e 5)) 28 (.bool false)) 36 x15) 28 (.bool false)) 37 x16) 28 (.bool false)) 38 x17) 28 (.bool false)) 39 x18) 28 (.bool false)) 40 x20) 41 x20) 4 (.bool false)), 42, [], h19⟩) (
bindO (binS .add (e 5) (.int .i64 1)) fun x21 =>
K .normal ⟨(setV (setV (setV (setV (setV (setV (setV (setV (setV (setV (setV (setV (setV (setV (setV (setV (setV (setV (setV (setV (setV (setV (setV (setV (setV (setV (setV (setV (setV (setV (setV (setV (setV (setV (setV (setV (setV (setV (setV (setV (setV (setV (setV (setV e 11 (e 5)) 12 (e 0)) 13 x3) 14 x4) 17 (e 0)) 18 (e 5)) 19 x5) 20 x6) 21 x7) 22 (e 1)) 23 (e 5)) 24 x8) 25 x9) 26 x10) 27 x11) 28 x11) 28 (.bool false)) 29 (e 0)) 28 (.bool false)) 30 (e 5)) 28 (.bool false)) 31 x12) 28 (.bool false)) 32 x13) 28 (.bool false)) 33 x14) 28 (.bool false)) 34 (e 1)) 28 (.bool false)) 35 (e 5)) 28 (.bool false)) 36 x15) 28 (.bool false)) 37 x16) 28 (.bool false)) 38 x17) 28 (.bool false)) 39 x18) 28 (.bool false)) 40 x20) 41 x20) 15 (e 5)) 16 x21) 5 x21), 42, [], h19⟩)) (fun _ _ => false)))) (
K (.exit 0) ⟨(setV (setV (setV (setV e 11 (e 5)) 12 (e 0)) 13 x3) 14 x4), 42, [], h⟩)) := by kernel_rfl
theorem F.ref08_Same.L0_x0_eq {e : Env} {h : Heap} {K : Out → Heap → Bool} : F.ref08_Same.L0k K (.exit 0) ⟨e, 42, [], h⟩ = (
K (.ret (.bool true)) h) := by kernel_rfl
theorem F.ref08_Same.L0_r_eq {e : Env} {h : Heap} {K : Out → Heap → Bool} : F.ref08_Same.L0k K .ret ⟨e, 42, [], h⟩ = (
K (.ret (e 4)) h) := by kernel_rfl
theorem F.ref08_Same_eq {a0 a1 : AV} {h : Heap} {K : Out → Heap → Bool} : evalS Tryz.prog (semCall Tryz.prog) (codeOf Tryz.f39) ⟨mkEnv [a0, a1], 42, [], h⟩ (leaveK Tryz.prog noD Tryz.f39.results.toList K) = (
bindO (lenS .slice a0 h) fun x0 =>
bindO (lenS .slice a1 h) fun x1 =>
bindO (neV (.int .i64) x0 x1) fun x2 =>
condB x2 (
K (.ret (.bool false)) h) (
loopB (evalS Tryz.prog (semCall Tryz.prog) F.ref08_Same.L0) ⟨(setV (setV (setV (setV (setV (setV (setV (mkEnv [a0, a1]) 4 (.bool false)) 6 a0) 7 x0) 8 a1) 9 x1) 10 x2) 5 (.int .i64 0)), 42, [], h⟩ (F.ref08_Same.L0k K))) := by kernel_rfl
theorem F.ref08_Same_sem {a0 a1 : AV} {h : Heap} {K : Out → Heap → Bool} (hh : (
bindO (lenS .slice a0 h) fun x0 =>
bindO (lenS .slice a1 h) fun x1 =>
bindO (neV (.int .i64) x0 x1) fun x2 =>
condB x2 (
K (.ret (.bool false)) h) (
loopB (evalS Tryz.prog (semCall Tryz.prog) F.ref08_Same.L0) ⟨(setV (setV (setV (setV (setV (setV (setV (mkEnv [a0, a1]) 4 (.bool false)) 6 a0) 7 x0) 8 a1) 9 x1) 10 x2) 5 (.int .i64 0)), 42, [], h⟩ (F.ref08_Same.L0k K))) = true) : Sem Tryz.prog 39 [a0, a1] h K :=
  sem_body mixed (noD_sound _) Tryz.func39 (c := codeOf Tryz.f39) rfl (by decide) (of_decide_eq_true (by kernel_rfl)) (F.ref08_Same_eq.trans hh)
noncomputable def F.ref11_Flips.L0 : Code := partOf (codeOf Tryz.f40) [1, 1, 1, 1, 0, 1, 0, 0]
noncomputable def F.ref11_Flips.L0k (K : Out → Heap → Bool) : AX → St → Bool := (blockK 0 (seqK false (evalS Tryz.prog (semCall Tryz.prog) (partOf (codeOf Tryz.f40) [1, 1, 1, 1, 1])) (leaveK Tryz.prog noD Tryz.f40.results.toList K)))
noncomputable def F.ref11_Flips.L1 : Code := partOf (codeOf Tryz.f40) [1, 1, 1, 1, 0, 1, 0, 0, 1, 0, 0, 1, 1, 1, 0, 0]
noncomputable def F.ref11_Flips.L1k (K : AX → St → Bool) : AX → St → Bool := (blockK 2 (blockK 1 (seqK false (evalS Tryz.prog (semCall Tryz.prog) (partOf (codeOf Tryz.f40) [1, 1, 1, 1, 0, 1, 0, 0, 1, 1])) K)))
theorem F.ref11_Flips.L0_eq {e : Env} {h : Heap} {K : AX → St → Bool} : evalS Tryz.prog (semCall Tryz.prog) F.ref11_Flips.L0 ⟨e, 85, [], h⟩ K = (
bindO (lenS .slice (e 7) h) fun x13 =>
bindO (binS .lss (e 8) x13) fun x14 =>
condB x14 (
bindO (faS 0 (e 3)) fun x15 =>
bindO (loadS none x15 h) fun x16 =>
bindO (iaS 2 (e 7) (e 8)) fun x17 =>
bindO (faS 1 x17) fun x18 =>
bindO (loadS none x18 h) fun x19 =>
semCall Tryz.prog 35 [x16, x19] h (outK (fun x20 h21 =>
bindO (faS 1 (e 3)) fun x22 =>
bindO (loadS none x22 h21) fun x23 =>
bindO (loadS (some 2) (e 3) h21) fun x24 =>
bindO (iaS 2 (e 7) (e 8)) fun x25 =>
bindO (faS 0 x25) fun x26 =>
bindO (loadS none x26 h21) fun x27 =>
semCall Tryz.prog 85 [x24, x27] h21 (outK (fun x28 h29 =>
if ((bindO (loadS none x22 h29) fun x30 =>
AV.beq x30 x23) && true) = true then (
bindO (iaS 3 x23 x28) fun x31 =>
bindO (faS 2 x31) fun x32 =>
bindO (loadS none x32 h29) fun x33 =>
loopB (evalS Tryz.prog (semCall Tryz.prog) F.ref11_Flips.L1) ⟨(setV (setV (setV (setV (setV (setV (setV (setV (setV (setV (setV (setV (setV (setV (setV (setV (setV (setV (setV (setV (setV (setV (setV (setV (setV (setV (setV e 17 (e 8)) 18 (e 7)) 19 x13) 20 x14) 23 x15) 24 x16) 25 (e 7)) 26 (e 8)) 27 x17) 28 x18) 29 x19) 30 x20) 9 x20) 31 x22) 32 x23) 33 x24) 34 (e 7)) 35 (e 8)) 36 x25) 37 x26) 38 x27) 39 x28) 40 x31) 41 x32) 42 x33) 10 x33) 11 (.int .i64 0)), 85, [], h29⟩ (F.ref11_Flips.L1k K)) else false) (fun _ _ => false))) (fun _ _ => false))) (
K (.exit 0) ⟨(setV (setV (setV (setV e 17 (e 8)) 18 (e 7)) 19 x13) 20 x14), 85, [], h⟩)) := by kernel_rfl
theorem F.ref11_Flips.L0_x0_eq {e : Env} {h : Heap} {K : Out → Heap → Bool} : F.ref11_Flips.L0k K (.exit 0) ⟨e, 85, [], h⟩ = (
K (.ret (e 5)) h) := by kernel_rfl
theorem F.ref11_Flips.L1_eq {e : Env} {h : Heap} {K : AX → St → Bool} : evalS Tryz.prog (semCall Tryz.prog) F.ref11_Flips.L1 ⟨e, 85, [], h⟩ K = (
bindO (lenS .slice (e 9) h) fun x34 =>
bindO (binS .lss (e 11) x34) fun x35 =>
condB x35 (
bindO (loadS (some 2) (e 2) h) fun x36 =>
bindO (loadS (some 2) (e 3) h) fun x37 =>
bindO (iaS 2 (e 7) (e 8)) fun x38 =>
bindO (faS 0 x38) fun x39 =>
bindO (loadS none x39 h) fun x40 =>
bindO (iaS 1 (e 9) (e 11)) fun x41 =>
bindO (loadS none x41 h) fun x42 =>
bindO (iaS 1 (e 9) (e 11)) fun x43 =>
bindO (loadS none x43 h) fun x44 =>
semCall Tryz.prog 91 [(e 10), x44] h (outK (fun x45 h46 =>
if ((bindO (loadS none x41 h46) fun x47 =>
AV.beq x47 x42) && ((bindO (loadS none x39 h46) fun x48 =>
AV.beq x48 x40) && ((bindO (loadS (some 2) (e 3) h46) fun x49 =>
AV.beq x49 x37) && ((bindO (loadS (some 2) (e 2) h46) fun x50 =>
AV.beq x50 x36) && true)))) = true then (
bindO (unS .not x45) fun x51 =>
semCall Tryz.prog 36 [x37, x40, x42, x51] h46 (outK (fun x52 h53 =>
if ((bindO (loadS (some 2) (e 2) h53) fun x54 =>
AV.beq x54 x36) && true) = true then (
semCall Tryz.prog 20 [x36, x52] h53 (outK (fun x55 h56 =>
bindO (neV .bool x55 (e 6)) fun x57 =>
condB x57 (
bindO (iaS 2 (e 7) (e 8)) fun x58 =>
bindO (faS 0 x58) fun x59 =>
bindO (loadS none x59 h56) fun x60 =>
bindO (iaS 1 (e 9) (e 11)) fun x61 =>
bindO (loadS none x61 h56) fun x62 =>
bindO (aggS [(.str []), .nils] [(0, 1), (1, 1)] [x60, x62]) fun x63 =>
bindO (rowS [(.str []), .nils] [(0, 2)] [x63]) fun c64 =>
bindO2 (appendS 2 40 (e 5) (.slice (Heap.next h56) 0 1 2) (Heap.alloc h56 (.cells c64))) fun x65 h66 =>
bindO (binS .add (e 11) (.int .i64 1)) fun x67 =>
K .normal ⟨(setV (setV (setV (setV (setV (setV (setV (setV (setV (setV (setV (setV (setV (setV (setV (setV (setV (setV (setV (setV (setV (setV (setV (setV (setV (setV (setV (setV (setV (setV (setV (setV (setV (setV (setV (setV (setV (setV (setV (setV (setV (setV (setV e 43 (e 11)) 44 (e 9)) 45 x34) 46 x35) 49 x36) 50 x37) 51 (e 7)) 52 (e 8)) 53 x38) 54 x39) 55 x40) 56 (e 9)) 57 (e 11)) 58 x41) 59 x42) 60 (e 10)) 61 (e 9)) 62 (e 11)) 63 x43) 64 x44) 69 (e 6)) 65 x45) 66 x51) 67 x52) 68 x55) 70 x57) 71 (e 5)) 72 (e 7)) 73 (e 8)) 74 x58) 75 x59) 76 x60) 77 (e 9)) 78 (e 11)) 79 x61) 80 x62) 81 x63) 82 (.slice (Heap.next h56) 0 1 2)) 83 x65) 5 x65) 47 (e 11)) 48 x67) 11 x67), 85, [], h66⟩) (
bindO (binS .add (e 11) (.int .i64 1)) fun x68 =>
K .normal ⟨(setV (setV (setV (setV (setV (setV (setV (setV (setV (setV (setV (setV (setV (setV (setV (setV (setV (setV (setV (setV (setV (setV (setV (setV (setV (setV (setV (setV (setV e 43 (e 11)) 44 (e 9)) 45 x34) 46 x35) 49 x36) 50 x37) 51 (e 7)) 52 (e 8)) 53 x38) 54 x39) 55 x40) 56 (e 9)) 57 (e 11)) 58 x41) 59 x42) 60 (e 10)) 61 (e 9)) 62 (e 11)) 63 x43) 64 x44) 69 (e 6)) 65 x45) 66 x51) 67 x52) 68 x55) 70 x57) 47 (e 11)) 48 x68) 11 x68), 85, [], h56⟩)) (fun _ _ => false))) else false) (fun _ _ => false))) else false) (fun _ _ => false))) (
K (.exit 2) ⟨(setV (setV (setV (setV e 43 (e 11)) 44 (e 9)) 45 x34) 46 x35), 85, [], h⟩)) := by kernel_rfl
theorem F.ref11_Flips.L1_x2_eq {e : Env} {h : Heap} {K : AX → St → Bool} : F.ref11_Flips.L1k K (.exit 2) ⟨e, 85, [], h⟩ = (
bindO (binS .add (e 8) (.int .i64 1)) fun x69 =>
K .normal ⟨(setV (setV (setV e 21 (e 8)) 22 x69) 8 x69), 85, [], h⟩) := by kernel_rfl
theorem F.ref11_Flips_eq {a0 a1 : AV} {h : Heap} {K : Out → Heap → Bool} : evalS Tryz.prog (semCall Tryz.prog) (codeOf Tryz.f40) ⟨mkEnv [a0, a1], 85, [], h⟩ (leaveK Tryz.prog noD Tryz.f40.results.toList K) = (
bindO (boxS a0) fun c0 =>
bindO (boxS a1) fun c1 =>
bindO (loadS (some 2) (.ptr (Heap.next h) 0) (Heap.alloc (Heap.alloc h (.cells c0)) (.cells c1))) fun x2 =>
bindO (loadS (some 2) (.ptr (Heap.next (Heap.alloc h (.cells c0))) 0) (Heap.alloc (Heap.alloc h (.cells c0)) (.cells c1))) fun x3 =>
semCall Tryz.prog 20 [x2, x3] (Heap.alloc (Heap.alloc h (.cells c0)) (.cells c1)) (outK (fun x4 h5 =>
bindO (loadS (some 2) (.ptr (Heap.next h) 0) h5) fun x8 =>
semCall Tryz.prog 29 [x8] h5 (outK (fun x9 h10 =>
loopB (evalS Tryz.prog (semCall Tryz.prog) F.ref11_Flips.L0) ⟨(setV (setV (setV (setV (setV (setV (setV (setV (setV (setV (setV (setV (mkEnv [a0, a1]) 2 (.ptr (Heap.next h) 0)) 3 (.ptr (Heap.next (Heap.alloc h (.cells c0))) 0)) 4 .nils) 5 .nils) 12 x2) 13 x3) 14 x4) 6 x4) 15 x8) 16 x9) 7 x9) 8 (.int .i64 0)), 85, [], h10⟩ (F.ref11_Flips.L0k K)) (fun v11 h12 => K (.panic v11) h12))) (fun v6 h7 => K (.panic v6) h7))) := by kernel_rfl
theorem F.ref11_Flips_sem {a0 a1 : AV} {h : Heap} {K : Out → Heap → Bool} (hh : (
bindO (boxS a0) fun c0 =>
bindO (boxS a1) fun c1 =>
bindO (loadS (some 2) (.ptr (Heap.next h) 0) (Heap.alloc (Heap.alloc h (.cells c0)) (.cells c1))) fun x2 =>
bindO (loadS (some 2) (.ptr (Heap.next (Heap.alloc h (.cells c0))) 0) (Heap.alloc (Heap.alloc h (.cells c0)) (.cells c1))) fun x3 =>
semCall Tryz.prog 20 [x2, x3] (Heap.alloc (Heap.alloc h (.cells c0)) (.cells c1)) (outK (fun x4 h5 =>
bindO (loadS (some 2) (.ptr (Heap.next h) 0) h5) fun x8 =>
semCall Tryz.prog 29 [x8] h5 (outK (fun x9 h10 =>
loopB (evalS Tryz.prog (semCall Tryz.prog) F.ref11_Flips.L0) ⟨(setV (setV (setV (setV (setV (setV (setV (setV (setV (setV (setV (setV (mkEnv [a0, a1]) 2 (.ptr (Heap.next h) 0)) 3 (.ptr (Heap.next (Heap.alloc h (.cells c0))) 0)) 4 .nils) 5 .nils) 12 x2) 13 x3) 14 x4) 6 x4) 15 x8) 16 x9) 7 x9) 8 (.int .i64 0)), 85, [], h10⟩ (F.ref11_Flips.L0k K)) (fun v11 h12 => K (.panic v11) h12))) (fun v6 h7 => K (.panic v6) h7))) = true) : Sem Tryz.prog 40 [a0, a1] h K :=
  sem_body mixed (noD_sound _) Tryz.func40 (c := codeOf Tryz.f40) rfl (by decide) (of_decide_eq_true (by kernel_rfl)) (F.ref11_Flips_eq.trans hh)
noncomputable def F.shape_Tuple.L0 : Code := partOf (codeOf Tryz.f90) [1, 1, 1, 1, 1, 0, 1, 0, 0]
noncomputable def F.shape_Tuple.L0k (K : Out → Heap → Bool) : AX → St → Bool := (blockK 0 (seqK false (evalS Tryz.prog (semCall Tryz.prog) (partOf (codeOf Tryz.f90) [1, 1, 1, 1, 1, 1])) (leaveK Tryz.prog noD Tryz.f90.results.toList K)))
theorem F.shape_Tuple.L0_eq {e : Env} {h : Heap} {K : AX → St → Bool} : evalS Tryz.prog (semCall Tryz.prog) F.shape_Tuple.L0 ⟨e, 46, [], h⟩ K = (
bindO (binS .geq (e 11) (.int .i64 0)) fun x12 =>
condB x12 (
bindO (binS .rem (e 2) (e 0)) fun x13 =>
bindO (binS .quo (e 2) (e 0)) fun x14 =>
bindO (iaS 1 (e 10) (e 11)) fun x15 =>
bindO (storeS 1 x15 x13 h) fun h16 =>
bindO (binS .sub (e 11) (.int .i64 1)) fun x17 =>
K .normal ⟨(setV (setV (setV (setV (setV (setV (setV (setV (setV (setV (setV (setV (setV (setV (setV e 32 (e 11)) 33 x12) 36 (e 10)) 37 (e 11)) 38 (e 2)) 39 (e 0)) 40 x13) 41 (e 2)) 42 (e 0)) 43 x14) 44 x15) 2 x14) 34 (e 11)) 35 x17) 11 x17), 46, [], h16⟩) (
K (.exit 0) ⟨(setV (setV e 32 (e 11)) 33 x12), 46, [], h⟩)) := by kernel_rfl
theorem F.shape_Tuple.L0_x0_eq {e : Env} {h : Heap} {K : Out → Heap → Bool} : F.shape_Tuple.L0k K (.exit 0) ⟨e, 46, [], h⟩ = (
K (.ret (.tuple [(e 10), (.int .i64 0)])) h) := by kernel_rfl
theorem F.shape_Tuple_eq {a0 a1 a2 : AV} {h : Heap} {K : Out → Heap → Bool} : evalS Tryz.prog (semCall Tryz.prog) (codeOf Tryz.f90) ⟨mkEnv [a0, a1, a2], 46, [], h⟩ (leaveK Tryz.prog noD Tryz.f90.results.toList K) = (
semCall Tryz.prog 110 [a0, a1] h (outK (fun x0 h1 =>
bindO (extractS x0 0) fun x4 =>
bindO (extractS x0 1) fun x5 =>
bindO (neV (.int .i64) x5 (.int .i64 0)) fun x6 =>
condB x6 (
K (.ret (.tuple [.nils, x5])) h1) (
bindO (binS .lss a2 (.int .i64 0)) fun x7 =>
condB x7 (
K (.ret (.tuple [.nils, (.int .i64 2)])) h1) (
bindO (binS .geq a2 x4) fun x8 =>
condB x8 (
K (.ret (.tuple [.nils, (.int .i64 2)])) h1) (
bindO2 (makeSliceS 1 8 [(.int .i64 0)] a1 a1 h1) fun x9 h10 =>
bindO (binS .sub a1 (.int .i64 1)) fun x11 =>
loopB (evalS Tryz.prog (semCall Tryz.prog) F.shape_Tuple.L0) ⟨(setV (setV (setV (setV (setV (setV (setV (setV (setV (setV (setV (setV (setV (setV (setV (setV (setV (setV (setV (setV (setV (setV (setV (setV (setV (setV (setV (setV (mkEnv [a0, a1, a2]) 6 .nils) 7 (.int .i64 0)) 13 a0) 14 a1) 15 x0) 12 x0) 16 x4) 17 x5) 8 x4) 9 x5) 18 x5) 19 x6) 21 a2) 22 x7) 23 x7) 23 (.bool false)) 24 a2) 23 (.bool false)) 25 x4) 23 (.bool false)) 26 x8) 27 x8) 28 a1) 29 x9) 10 x9) 30 a1) 31 x11) 11 x11), 46, [], h10⟩ (F.shape_Tuple.L0k K))))) (fun v2 h3 => K (.panic v2) h3))) := by kernel_rfl
theorem F.shape_Tuple_sem {a0 a1 a2 : AV} {h : Heap} {K : Out → Heap → Bool} (hh : (
semCall Tryz.prog 110 [a0, a1] h (outK (fun x0 h1 =>
bindO (extractS x0 0) fun x4 =>
bindO (extractS x0 1) fun x5 =>
bindO (neV (.int .i64) x5 (.int .i64 0)) fun x6 =>
condB x6 (
K (.ret (.tuple [.nils, x5])) h1) (
bindO (binS .lss a2 (.int .i64 0)) fun x7 =>
condB x7 (
K (.ret (.tuple [.nils, (.int .i64 2)])) h1) (
bindO (binS .geq a2 x4) fun x8 =>
condB x8 (
K (.ret (.tuple [.nils, (.int .i64 2)])) h1) (
bindO2 (makeSliceS 1 8 [(.int .i64 0)] a1 a1 h1) fun x9 h10 =>
bindO (binS .sub a1 (.int .i64 1)) fun x11 =>
loopB (evalS Tryz.prog (semCall Tryz.prog) F.shape_Tuple.L0) ⟨(setV (setV (setV (setV (setV (setV (setV (setV (setV (setV (setV (setV (setV (setV (setV (setV (setV (setV (setV (setV (setV (setV (setV (setV (setV (setV (setV (setV (mkEnv [a0, a1, a2]) 6 .nils) 7 (.int .i64 0)) 13 a0) 14 a1) 15 x0) 12 x0) 16 x4) 17 x5) 8 x4) 9 x5) 18 x5) 19 x6) 21 a2) 22 x7) 23 x7) 23 (.bool false)) 24 a2) 23 (.bool false)) 25 x4) 23 (.bool false)) 26 x8) 27 x8) 28 a1) 29 x9) 10 x9) 30 a1) 31 x11) 11 x11), 46, [], h10⟩ (F.shape_Tuple.L0k K))))) (fun v2 h3 => K (.panic v2) h3))) = true) : Sem Tryz.prog 90 [a0, a1, a2] h K :=
  sem_body mixed (noD_sound _) Tryz.func90 (c := codeOf Tryz.f90) rfl (by decide) (of_decide_eq_true (by kernel_rfl)) (F.shape_Tuple_eq.trans hh)
noncomputable def F.ref01_Among.L0 : Code := partOf (codeOf Tryz.f91) [1, 0, 1, 0, 0]
noncomputable def F.ref01_Among.L0k (K : Out → Heap → Bool) : AX → St → Bool := (blockK 0 (seqK false (evalS Tryz.prog (semCall Tryz.prog) (partOf (codeOf Tryz.f91) [1, 1])) (leaveK Tryz.prog noD Tryz.f91.results.toList K)))
theorem F.ref01_Among.L0_eq {e : Env} {h : Heap} {K : AX → St → Bool} : evalS Tryz.prog (semCall Tryz.prog) F.ref01_Among.L0 ⟨e, 18, [], h⟩ K = (
bindO (lenS .slice (e 0) h) fun x0 =>
bindO (binS .lss (e 5) x0) fun x1 =>
condB x1 (
bindO (iaS 1 (e 0) (e 5)) fun x2 =>
bindO (loadS none x2 h) fun x3 =>
semCall Tryz.prog 52 [x3, (e 1)] h (outK (fun x4 h5 =>
condB x4 (
K .ret ⟨(setV (setV (setV (setV (setV (setV (setV (setV (setV (setV (setV e 6 (e 5)) 7 (e 0)) 8 x0) 9 x1) 12 (e 0)) 13 (e 5)) 14 x2) 15 x3) 16 (e 1)) 17 x4) 4 (.bool true)), 18, [], h5⟩) (
bindO (binS .add (e 5) (.int .i64 1)) fun x8 =>
K .normal ⟨(setV (setV (setV (setV (setV (setV (setV (setV (setV (setV (setV (setV (setV e 6 (e 5)) 7 (e 0)) 8 x0) 9 x1) 12 (e 0)) 13 (e 5)) 14 x2) 15 x3) 16 (e 1)) 17 x4) 10 (e 5)) 11 x8) 5 x8), 18, [], h5⟩)) (fun v6 h7 => K (.panic v6) ⟨(setV (setV (setV (setV (setV (setV (setV (setV (setV e 6 (e 5)) 7 (e 0)) 8 x0) 9 x1) 12 (e 0)) 13 (e 5)) 14 x2) 15 x3) 16 (e 1)), 18, [], h7⟩))) (
K (.exit 0) ⟨(setV (setV (setV (setV e 6 (e 5)) 7 (e 0)) 8 x0) 9 x1), 18, [], h⟩)) := by kernel_rfl
theorem F.ref01_Among.L0_x0_eq {e : Env} {h : Heap} {K : Out → Heap → Bool} : F.ref01_Among.L0k K (.exit 0) ⟨e, 18, [], h⟩ = (
K (.ret (.bool false)) h) := by kernel_rfl
theorem F.ref01_Among.L0_r_eq {e : Env} {h : Heap} {K : Out → Heap → Bool} : F.ref01_Among.L0k K .ret ⟨e, 18, [], h⟩ = (
K (.ret (e 4)) h) := by kernel_rfl
theorem F.ref01_Among_eq {a0 a1 : AV} {h : Heap} {K : Out → Heap → Bool} : evalS Tryz.prog (semCall Tryz.prog) (codeOf Tryz.f91) ⟨mkEnv [a0, a1], 18, [], h⟩ (leaveK Tryz.prog noD Tryz.f91.results.toList K) = (
loopB (evalS Tryz.prog (semCall Tryz.prog) F.ref01_Among.L0) ⟨(setV (setV (mkEnv [a0, a1]) 4 (.bool false)) 5 (.int .i64 0)), 18, [], h⟩ (F.ref01_Among.L0k K)) := by kernel_rfl
theorem F.ref01_Among_sem {a0 a1 : AV} {h : Heap} {K : Out → Heap → Bool} (hh : (
loopB (evalS Tryz.prog (semCall Tryz.prog) F.ref01_Among.L0) ⟨(setV (setV (mkEnv [a0, a1]) 4 (.bool false)) 5 (.int .i64 0)), 18, [], h⟩ (F.ref01_Among.L0k K)) = true) : Sem Tryz.prog 91 [a0, a1] h K :=
  sem_body mixed (noD_sound _) Tryz.func91 (c := codeOf Tryz.f91) rfl (by decide) (of_decide_eq_true (by kernel_rfl)) (F.ref01_Among_eq.trans hh)
end
end Go.AM
