/- Parts of a proof, merged out of smaller texts: the abstract machine and what functions do. Conditions: none. -/
import Derived.Test.YtkenhcicdkmbnaaGreatRl3
import Derived.Test.YtkenhcicdkmbnaaGreatRl8
import Derived.Test.YtkenhcicdkmbnaaGreatRl9
import Derived.Test.YtkenhcicdkmbnaaGreatRl10
import Derived.Test.YtkenhcicdkmbnaaGreatRl11
import Derived.KernelRfl
/- The functions whose contracts are given, at this seat: slices.Sorted of maps.Keys, deferred functions that recover. Conditions: none. -/
namespace Go.Proofs
open Go.RowKit Go.Maps Go.Sort Go.Shelf
theorem Tryz.sortsIn (m : Nat) : AnyZ.SortsIn Tryz.prog Tryz.sorted26_ren Fence.wide m :=
  ⟨fun blk off cap ss W hH hblk hsz => callsIn_wide.2 (AnyM.slices_Sort_string Tryz.sort67 blk off cap ss W hH hblk hsz),
   fun p cap W => callsIn_wide.2 (AnyM.slices_Sort_string_none Tryz.sort67 p cap W)⟩
theorem Tryz.keysGiven27 : AM.KeysGiven Tryz.prog 27 68 82 := fun mb W => callsIn_wide.1 (AnyZ.keys_in Tryz.keys27 Fence.wide 5 trivial rfl mb W)
set_option maxHeartbeats 1000000 in
theorem Tryz.sortedGiven27 : AM.SortedGiven Tryz.prog 26 68 9 := by
  refine ⟨fun Bm b nn D0 w h1 h2 hown hmax hbytes => (callsIn_wide (n := 5)).1 ?_, fun Bm w h1 h2 => ?_⟩
  · have hseq : SeqGives Fence.wide 2 Tryz.prog 68 #[.pointer (some ⟨Bm, 0, none⟩)] encStr (fun ss => ss.Perm (strKeys D0)) (Maps.size D0) w :=
      AnyZ.keys_gives (ρ := Tryz.keys27_ren) { Tryz.keys27 with } Fence.wide _ trivial rfl (by omega) Bm b nn D0 w h1 h2 hown
    exact AnyZ.sorted_in Tryz.sorted26 Fence.wide 5 trivial trivial trivial trivial rfl (by omega) (Tryz.sortsIn _) (enters_of Tryz.func67 (by kernel_rfl) rfl) 68 #[.pointer (some ⟨Bm, 0, none⟩)] trivial (enters_of Tryz.func68 (by kernel_rfl) rfl) _ _ hmax hbytes w hseq
  · have hseq : SeqGives Fence.wide 2 Tryz.prog 68 #[.pointer (some ⟨Bm, 0, none⟩)] encStr (fun ss : List (List UInt8) => ss = []) 0 w :=
      AnyZ.keys_gives_nil (ρ := Tryz.keys27_ren) { Tryz.keys27 with } Fence.wide _ trivial rfl Bm w h1 h2
    refine Calls.mono ((callsIn_wide (n := 5)).1 (AnyZ.sorted_in Tryz.sorted26 Fence.wide 5 trivial trivial trivial trivial rfl (by omega) (Tryz.sortsIn _) (enters_of Tryz.func67 (by kernel_rfl) rfl) 68 #[.pointer (some ⟨Bm, 0, none⟩)] trivial (enters_of Tryz.func68 (by kernel_rfl) rfl) _ 0 (Nat.zero_le _) (by omega) w hseq)) fun e w' hR => ?_
    obtain ⟨v, ss, rfl, s1, s2, s3, s4⟩ := hR
    exact ⟨by rw [s3.2 s1], s4⟩
end Go.Proofs
namespace Go.AM
open Go Go.Proofs
noncomputable section
theorem mixed : Tryz.prog.follows .mixedOrders = true := by kernel_rfl
noncomputable def opsAt : Code → List Oper
  | .seq (.region _ ops _) _ => ops.toList
  | _ => []
noncomputable def idAt : Code → Nat
  | .seq (.region id _ _) _ => id
  | _ => 0
noncomputable def headOp : List Oper → Oper
  | o :: _ => o
  | [] => default
noncomputable def tsOf : Op → Array TypeId
  | .call c => c.argTypes
  | _ => #[]
def F0 : Prims := fun f => if f = 27 then some (keysP 68) else if f = 26 then some (sortedP 68) else none
theorem enters27 : Enters Tryz.prog 27 := ⟨_, _, Tryz.func27, rfl, by decide⟩
theorem enters26 : Enters Tryz.prog 26 := ⟨_, _, Tryz.func26, rfl, by decide⟩
theorem F0_sound : PrimsSound Tryz.prog F0 := by
  intro f g hg args h K hK
  unfold F0 at hg
  split at hg
  · rename_i e; subst e; cases hg; exact keysP_sound enters27 Tryz.keysGiven27 args h K hK
  split at hg
  · rename_i e; subst e; cases hg
    exact sortedP_sound enters26 (by kernel_rfl) Tryz.sortedGiven27 args h K hK
  · cases hg
noncomputable def defOps45 : List Oper := opsAt (codeOf Tryz.f45)
noncomputable def defCode45 : Code := partOf (codeOf Tryz.f45) [1]
def D0 : DPrims := fun f => if f = 45 then some (fun args pan h K => Nat.ble args.length 2 && deferP Tryz.prog 10 5 defOps45 defCode45 args pan h K) else none
theorem deferAt45 : DeferAt Tryz.prog 45 10 5 defOps45 defCode45 2 := ⟨⟨Tryz.f45, idAt (codeOf Tryz.f45), headOp defOps45, tsOf (headOp defOps45).op, Tryz.func45, by kernel_rfl, by kernel_rfl, by decide, by kernel_rfl, by decide, by decide, by kernel_rfl, by kernel_rfl, by kernel_rfl, by kernel_rfl⟩⟩
theorem D0_sound : DSound Tryz.prog D0 := by
  intro f g hg
  unfold D0 at hg
  split at hg
  · rename_i e; subst e; cases hg
    refine ⟨⟨_, _, Tryz.func45, rfl, by decide⟩, fun args pan h K hh w0 μ w vs pv h1 h2 h3 => ?_⟩
    simp only [Bool.and_eq_true] at hh
    exact (deferP_sound mixed deferAt45 (Nat.le_of_ble_eq_true hh.1) hh.2).2 w0 μ w vs pv h1 h2 h3
  cases hg
end
end Go.AM
/- What functions of the program do, as terms: printed by a program. Conditions: none. -/
namespace Go.AM
open Go Go.Proofs
set_option linter.unusedVariables false
noncomputable section
noncomputable def F.ref01_Name.L0 : Code := partOf (codeOf Tryz.f69) [1, 1, 0, 1, 0, 0]
noncomputable def F.ref01_Name.L0k (K : Out → Heap → Bool) : AX → St → Bool := (blockK 0 (seqK false (evalS Tryz.prog (semCall Tryz.prog) (partOf (codeOf Tryz.f69) [1, 1, 1])) (leaveK Tryz.prog noD Tryz.f69.results.toList K)))
theorem F.ref01_Name.L0_eq {e : Env} {h : Heap} {K : AX → St → Bool} : evalS Tryz.prog (semCall Tryz.prog) F.ref01_Name.L0 ⟨e, 40, [], h⟩ K = (
bindO (lenS .str (e 0) h) fun x14 =>
bindO (binS .lss (e 3) x14) fun x15 =>
condB x15 (
bindO (strIdxS (e 0) (e 3)) fun x16 =>
semCall Tryz.prog 106 [x16] h (outK (fun x17 h18 =>
bindO (unS .not x17) fun x21 =>
condB x21 (
bindO (strIdxS (e 0) (e 3)) fun x22 =>
semCall Tryz.prog 108 [x22] h18 (outK (fun x23 h24 =>
bindO (unS .not x23) fun x27 =>
condB x27 (
K .ret ⟨(setV (setV (setV (setV (setV (setV (setV (setV (setV (setV (setV (setV (setV (setV (setV (setV (setV (setV (setV (setV (setV (setV e 22 (e 3)) 23 (e 0)) 24 x14) 25 x15) 28 (e 0)) 29 (e 3)) 30 x16) 31 x17) 32 x21) 33 x21) 33 (.bool true)) 34 (e 0)) 33 (.bool true)) 35 (e 3)) 33 (.bool true)) 36 x22) 33 (.bool true)) 37 x23) 33 (.bool true)) 38 x27) 39 x27) 2 (.bool false)), 40, [], h24⟩) (
bindO (binS .add (e 3) (.int .i64 1)) fun x28 =>
K .normal ⟨(setV (setV (setV (setV (setV (setV (setV (setV (setV (setV (setV (setV (setV (setV (setV (setV (setV (setV (setV (setV (setV (setV (setV (setV e 22 (e 3)) 23 (e 0)) 24 x14) 25 x15) 28 (e 0)) 29 (e 3)) 30 x16) 31 x17) 32 x21) 33 x21) 33 (.bool true)) 34 (e 0)) 33 (.bool true)) 35 (e 3)) 33 (.bool true)) 36 x22) 33 (.bool true)) 37 x23) 33 (.bool true)) 38 x27) 39 x27) 26 (e 3)) 27 x28) 3 x28), 40, [], h24⟩)) (fun v25 h26 => K (.panic v25) ⟨(setV (setV (setV (setV (setV (setV (setV (setV (setV (setV (setV (setV (setV (setV (setV (setV (setV e 22 (e 3)) 23 (e 0)) 24 x14) 25 x15) 28 (e 0)) 29 (e 3)) 30 x16) 31 x17) 32 x21) 33 x21) 33 (.bool true)) 34 (e 0)) 33 (.bool true)) 35 (e 3)) 33 (.bool true)) 36 x22) 33 (.bool true)), 40, [], h26⟩))) (
bindO (binS .add (e 3) (.int .i64 1)) fun x29 =>
K .normal ⟨(setV (setV (setV (setV (setV (setV (setV (setV (setV (setV (setV (setV (setV (setV (setV (setV (setV (setV (setV (setV (setV (setV (setV (setV e 22 (e 3)) 23 (e 0)) 24 x14) 25 x15) 28 (e 0)) 29 (e 3)) 30 x16) 31 x17) 32 x21) 33 x21) 33 (.bool false)) 34 noV) 33 (.bool false)) 35 noV) 33 (.bool false)) 36 noV) 33 (.bool false)) 37 noV) 33 (.bool false)) 38 noV) 39 (.bool false)) 26 (e 3)) 27 x29) 3 x29), 40, [], h18⟩)) (fun v19 h20 => K (.panic v19) ⟨(setV (setV (setV (setV (setV (setV (setV e 22 (e 3)) 23 (e 0)) 24 x14) 25 x15) 28 (e 0)) 29 (e 3)) 30 x16), 40, [], h20⟩))) (
K (.exit 0) ⟨(setV (setV (setV (setV e 22 (e 3)) 23 (e 0)) 24 x14) 25 x15), 40, [], h⟩)) := by kernel_rfl
theorem F.ref01_Name.L0_x0_eq {e : Env} {h : Heap} {K : Out → Heap → Bool} : F.ref01_Name.L0k K (.exit 0) ⟨e, 40, [], h⟩ = (
K (.ret (.bool true)) h) := by kernel_rfl
theorem F.ref01_Name.L0_r_eq {e : Env} {h : Heap} {K : Out → Heap → Bool} : F.ref01_Name.L0k K .ret ⟨e, 40, [], h⟩ = (
K (.ret (e 2)) h) := by kernel_rfl
theorem F.ref01_Name_eq {a0 : AV} {h : Heap} {K : Out → Heap → Bool} : evalS Tryz.prog (semCall Tryz.prog) (codeOf Tryz.f69) ⟨mkEnv [a0], 40, [], h⟩ (leaveK Tryz.prog noD Tryz.f69.results.toList K) = (
bindO (lenS .str a0 h) fun x0 =>
bindO (binS .lss x0 (.int .i64 1)) fun x1 =>
condB x1 (
K (.ret (.bool false)) h) (
bindO (lenS .str a0 h) fun x2 =>
bindO (binS .gtr x2 (.int .i64 12)) fun x3 =>
condB x3 (
K (.ret (.bool false)) h) (
bindO (strIdxS a0 (.int .i64 0)) fun x4 =>
semCall Tryz.prog 106 [x4] h (outK (fun x5 h6 =>
bindO (unS .not x5) fun x9 =>
condB x9 (
K (.ret (.bool false)) h6) (
semCall Tryz.prog 107 [a0] h6 (outK (fun x10 h11 =>
condB x10 (
K (.ret (.bool false)) h11) (
loopB (evalS Tryz.prog (semCall Tryz.prog) F.ref01_Name.L0) ⟨(setV (setV (setV (setV (setV (setV (setV (setV (setV (setV (setV (setV (setV (setV (setV (setV (setV (setV (setV (setV (setV (setV (setV (setV (setV (setV (setV (setV (setV (mkEnv [a0]) 2 (.bool false)) 4 a0) 5 x0) 6 x1) 7 x1) 7 (.bool false)) 8 a0) 7 (.bool false)) 9 x2) 7 (.bool false)) 10 x3) 11 x3) 12 x3) 12 (.bool false)) 13 a0) 12 (.bool false)) 14 x4) 12 (.bool false)) 15 x5) 12 (.bool false)) 16 x9) 17 x9) 18 x9) 18 (.bool false)) 19 a0) 18 (.bool false)) 20 x10) 21 x10) 3 (.int .i64 1)), 40, [], h11⟩ (F.ref01_Name.L0k K))) (fun v12 h13 => K (.panic v12) h13)))) (fun v7 h8 => K (.panic v7) h8))))) := by kernel_rfl
theorem F.ref01_Name_sem {a0 : AV} {h : Heap} {K : Out → Heap → Bool} (hh : (
bindO (lenS .str a0 h) fun x0 =>
bindO (binS .lss x0 (.int .i64 1)) fun x1 =>
condB x1 (
K (.ret (.bool false)) h) (
bindO (lenS .str a0 h) fun x2 =>
bindO (binS .gtr x2 (.int .i64 12)) fun x3 =>
condB x3 (
K (.ret (.bool false)) h) (
bindO (strIdxS a0 (.int .i64 0)) fun x4 =>
semCall Tryz.prog 106 [x4] h (outK (fun x5 h6 =>
bindO (unS .not x5) fun x9 =>
condB x9 (
K (.ret (.bool false)) h6) (
semCall Tryz.prog 107 [a0] h6 (outK (fun x10 h11 =>
condB x10 (
K (.ret (.bool false)) h11) (
loopB (evalS Tryz.prog (semCall Tryz.prog) F.ref01_Name.L0) ⟨(setV (setV (setV (setV (setV (setV (setV (setV (setV (setV (setV (setV (setV (setV (setV (setV (setV (setV (setV (setV (setV (setV (setV (setV (setV (setV (setV (setV (setV (mkEnv [a0]) 2 (.bool false)) 4 a0) 5 x0) 6 x1) 7 x1) 7 (.bool false)) 8 a0) 7 (.bool false)) 9 x2) 7 (.bool false)) 10 x3) 11 x3) 12 x3) 12 (.bool false)) 13 a0) 12 (.bool false)) 14 x4) 12 (.bool false)) 15 x5) 12 (.bool false)) 16 x9) 17 x9) 18 x9) 18 (.bool false)) 19 a0) 18 (.bool false)) 20 x10) 21 x10) 3 (.int .i64 1)), 40, [], h11⟩ (F.ref01_Name.L0k K))) (fun v12 h13 => K (.panic v12) h13)))) (fun v7 h8 => K (.panic v7) h8))))) = true) : Sem Tryz.prog 69 [a0] h K :=
  sem_body mixed (noD_sound _) Tryz.func69 (c := codeOf Tryz.f69) rfl (by decide) (of_decide_eq_true (by kernel_rfl)) (F.ref01_Name_eq.trans hh)
noncomputable def F.shape_Name.L0 : Code := partOf (codeOf Tryz.f98) [1, 1, 0, 1, 0, 0]
noncomputable def F.shape_Name.L0k (K : Out → Heap → Bool) : AX → St → Bool := (blockK 0 (seqK false (evalS Tryz.prog (semCall Tryz.prog) (partOf (codeOf Tryz.f98) [1, 1, 1])) (leaveK Tryz.prog noD Tryz.f98.results.toList K)))
theorem F.shape_Name.L0_eq {e : Env} {h : Heap} {K : AX → St → Bool} : evalS Tryz.prog (semCall Tryz.prog) F.shape_Name.L0 ⟨e, 39, [], h⟩ K = (
bindO (binS .lss (e 23) (e 22)) fun x14 =>
condB x14 (
bindO (strIdxS (e 0) (e 23)) fun x15 =>
semCall Tryz.prog 125 [x15] h (outK (fun x16 h17 =>
bindO (unS .not x16) fun x20 =>
condB x20 (
bindO (strIdxS (e 0) (e 23)) fun x21 =>
semCall Tryz.prog 127 [x21] h17 (outK (fun x22 h23 =>
bindO (unS .not x22) fun x26 =>
condB x26 (
K .ret ⟨(setV (setV (setV (setV (setV (setV (setV (setV (setV (setV (setV (setV (setV (setV (setV (setV (setV (setV (setV (setV (setV e 24 x14) 25 (e 23)) 3 (e 23)) 26 (e 0)) 27 (e 23)) 28 x15) 29 x16) 30 x20) 31 x20) 31 (.bool true)) 32 (e 0)) 31 (.bool true)) 33 (e 23)) 31 (.bool true)) 34 x21) 31 (.bool true)) 35 x22) 31 (.bool true)) 36 x26) 37 x26) 2 (.bool false)), 39, [], h23⟩) (
bindO (binS .add (e 23) (.int .i64 1)) fun x27 =>
K .normal ⟨(setV (setV (setV (setV (setV (setV (setV (setV (setV (setV (setV (setV (setV (setV (setV (setV (setV (setV (setV (setV (setV (setV e 24 x14) 25 (e 23)) 3 (e 23)) 26 (e 0)) 27 (e 23)) 28 x15) 29 x16) 30 x20) 31 x20) 31 (.bool true)) 32 (e 0)) 31 (.bool true)) 33 (e 23)) 31 (.bool true)) 34 x21) 31 (.bool true)) 35 x22) 31 (.bool true)) 36 x26) 37 x26) 38 x27) 23 x27), 39, [], h23⟩)) (fun v24 h25 => K (.panic v24) ⟨(setV (setV (setV (setV (setV (setV (setV (setV (setV (setV (setV (setV (setV (setV (setV (setV e 24 x14) 25 (e 23)) 3 (e 23)) 26 (e 0)) 27 (e 23)) 28 x15) 29 x16) 30 x20) 31 x20) 31 (.bool true)) 32 (e 0)) 31 (.bool true)) 33 (e 23)) 31 (.bool true)) 34 x21) 31 (.bool true)), 39, [], h25⟩))) (
bindO (binS .add (e 23) (.int .i64 1)) fun x28 =>
K .normal ⟨(setV (setV (setV (setV (setV (setV (setV (setV (setV (setV (setV (setV (setV (setV (setV (setV (setV (setV (setV (setV (setV (setV e 24 x14) 25 (e 23)) 3 (e 23)) 26 (e 0)) 27 (e 23)) 28 x15) 29 x16) 30 x20) 31 x20) 31 (.bool false)) 32 noV) 31 (.bool false)) 33 noV) 31 (.bool false)) 34 noV) 31 (.bool false)) 35 noV) 31 (.bool false)) 36 noV) 37 (.bool false)) 38 x28) 23 x28), 39, [], h17⟩)) (fun v18 h19 => K (.panic v18) ⟨(setV (setV (setV (setV (setV (setV e 24 x14) 25 (e 23)) 3 (e 23)) 26 (e 0)) 27 (e 23)) 28 x15), 39, [], h19⟩))) (
K (.exit 0) ⟨(setV e 24 x14), 39, [], h⟩)) := by kernel_rfl
theorem F.shape_Name.L0_x0_eq {e : Env} {h : Heap} {K : Out → Heap → Bool} : F.shape_Name.L0k K (.exit 0) ⟨e, 39, [], h⟩ = (
K (.ret (.bool true)) h) := by kernel_rfl
theorem F.shape_Name.L0_r_eq {e : Env} {h : Heap} {K : Out → Heap → Bool} : F.shape_Name.L0k K .ret ⟨e, 39, [], h⟩ = (
K (.ret (e 2)) h) := by kernel_rfl
theorem F.shape_Name_eq {a0 : AV} {h : Heap} {K : Out → Heap → Bool} : evalS Tryz.prog (semCall Tryz.prog) (codeOf Tryz.f98) ⟨mkEnv [a0], 39, [], h⟩ (leaveK Tryz.prog noD Tryz.f98.results.toList K) = (
bindO (eqV .string a0 (.str [])) fun x0 =>
condB x0 (
K (.ret (.bool false)) h) (
bindO (lenS .str a0 h) fun x1 =>
bindO (binS .gtr x1 (.int .i64 12)) fun x2 =>
condB x2 (
K (.ret (.bool false)) h) (
bindO (strIdxS a0 (.int .i64 0)) fun x3 =>
semCall Tryz.prog 125 [x3] h (outK (fun x4 h5 =>
bindO (unS .not x4) fun x8 =>
condB x8 (
K (.ret (.bool false)) h5) (
semCall Tryz.prog 126 [a0] h5 (outK (fun x9 h10 =>
condB x9 (
K (.ret (.bool false)) h10) (
bindO (lenS .str a0 h10) fun x13 =>
loopB (evalS Tryz.prog (semCall Tryz.prog) F.shape_Name.L0) ⟨(setV (setV (setV (setV (setV (setV (setV (setV (setV (setV (setV (setV (setV (setV (setV (setV (setV (setV (setV (setV (setV (setV (setV (setV (setV (setV (setV (setV (setV (setV (mkEnv [a0]) 2 (.bool false)) 4 a0) 5 x0) 6 x0) 6 (.bool false)) 7 a0) 6 (.bool false)) 8 x1) 6 (.bool false)) 9 x2) 10 x2) 11 x2) 11 (.bool false)) 12 a0) 11 (.bool false)) 13 x3) 11 (.bool false)) 14 x4) 11 (.bool false)) 15 x8) 16 x8) 17 x8) 17 (.bool false)) 18 a0) 17 (.bool false)) 19 x9) 20 x9) 21 a0) 22 x13) 23 (.int .i64 0)), 39, [], h10⟩ (F.shape_Name.L0k K))) (fun v11 h12 => K (.panic v11) h12)))) (fun v6 h7 => K (.panic v6) h7))))) := by kernel_rfl
theorem F.shape_Name_sem {a0 : AV} {h : Heap} {K : Out → Heap → Bool} (hh : (
bindO (eqV .string a0 (.str [])) fun x0 =>
condB x0 (
K (.ret (.bool false)) h) (
bindO (lenS .str a0 h) fun x1 =>
bindO (binS .gtr x1 (.int .i64 12)) fun x2 =>
condB x2 (
K (.ret (.bool false)) h) (
bindO (strIdxS a0 (.int .i64 0)) fun x3 =>
semCall Tryz.prog 125 [x3] h (outK (fun x4 h5 =>
bindO (unS .not x4) fun x8 =>
condB x8 (
K (.ret (.bool false)) h5) (
semCall Tryz.prog 126 [a0] h5 (outK (fun x9 h10 =>
condB x9 (
K (.ret (.bool false)) h10) (
bindO (lenS .str a0 h10) fun x13 =>
loopB (evalS Tryz.prog (semCall Tryz.prog) F.shape_Name.L0) ⟨(setV (setV (setV (setV (setV (setV (setV (setV (setV (setV (setV (setV (setV (setV (setV (setV (setV (setV (setV (setV (setV (setV (setV (setV (setV (setV (setV (setV (setV (setV (mkEnv [a0]) 2 (.bool false)) 4 a0) 5 x0) 6 x0) 6 (.bool false)) 7 a0) 6 (.bool false)) 8 x1) 6 (.bool false)) 9 x2) 10 x2) 11 x2) 11 (.bool false)) 12 a0) 11 (.bool false)) 13 x3) 11 (.bool false)) 14 x4) 11 (.bool false)) 15 x8) 16 x8) 17 x8) 17 (.bool false)) 18 a0) 17 (.bool false)) 19 x9) 20 x9) 21 a0) 22 x13) 23 (.int .i64 0)), 39, [], h10⟩ (F.shape_Name.L0k K))) (fun v11 h12 => K (.panic v11) h12)))) (fun v6 h7 => K (.panic v6) h7))))) = true) : Sem Tryz.prog 98 [a0] h K :=
  sem_body mixed (noD_sound _) Tryz.func98 (c := codeOf Tryz.f98) rfl (by decide) (of_decide_eq_true (by kernel_rfl)) (F.shape_Name_eq.trans hh)
theorem F.ref01_letter_eq {a0 : AV} {h : Heap} {K : Out → Heap → Bool} : evalS Tryz.prog (semCall Tryz.prog) (codeOf Tryz.f106) ⟨mkEnv [a0], 17, [], h⟩ (leaveK Tryz.prog noD Tryz.f106.results.toList K) = (
bindO (binS .geq a0 (.int .u8 97)) fun x0 =>
condB x0 (
bindO (binS .leq a0 (.int .u8 122)) fun x1 =>
condB x1 (
K (.ret (.bool true)) h) (
bindO (binS .geq a0 (.int .u8 65)) fun x2 =>
condB x2 (
bindO (binS .leq a0 (.int .u8 90)) fun x3 =>
K (.ret x3) h) (
K (.ret (.bool false)) h))) (
bindO (binS .geq a0 (.int .u8 65)) fun x4 =>
condB x4 (
bindO (binS .leq a0 (.int .u8 90)) fun x5 =>
K (.ret x5) h) (
K (.ret (.bool false)) h))) := by kernel_rfl
theorem F.ref01_letter_sem {a0 : AV} {h : Heap} {K : Out → Heap → Bool} (hh : (
bindO (binS .geq a0 (.int .u8 97)) fun x0 =>
condB x0 (
bindO (binS .leq a0 (.int .u8 122)) fun x1 =>
condB x1 (
K (.ret (.bool true)) h) (
bindO (binS .geq a0 (.int .u8 65)) fun x2 =>
condB x2 (
bindO (binS .leq a0 (.int .u8 90)) fun x3 =>
K (.ret x3) h) (
K (.ret (.bool false)) h))) (
bindO (binS .geq a0 (.int .u8 65)) fun x4 =>
condB x4 (
bindO (binS .leq a0 (.int .u8 90)) fun x5 =>
K (.ret x5) h) (
K (.ret (.bool false)) h))) = true) : Sem Tryz.prog 106 [a0] h K :=
  sem_body mixed (noD_sound _) Tryz.func106 (c := codeOf Tryz.f106) rfl (by decide) (of_decide_eq_true (by kernel_rfl)) (F.ref01_letter_eq.trans hh)
theorem F.ref01_Word_eq {a0 : AV} {h : Heap} {K : Out → Heap → Bool} : evalS Tryz.prog (semCall Tryz.prog) (codeOf Tryz.f107) ⟨mkEnv [a0], 16, [], h⟩ (leaveK Tryz.prog noD Tryz.f107.results.toList K) = (
bindO (eqV .string a0 (.str [97, 110, 100])) fun x0 =>
condB x0 (
condB x0 (
K (.ret (.bool true)) h) (
K (.ret (.bool false)) h)) (
bindO (eqV .string a0 (.str [111, 114])) fun x1 =>
condB x1 (
condB x1 (
K (.ret (.bool true)) h) (
K (.ret (.bool false)) h)) (
bindO (eqV .string a0 (.str [110, 111, 116])) fun x2 =>
condB x2 (
condB x2 (
K (.ret (.bool true)) h) (
K (.ret (.bool false)) h)) (
bindO (eqV .string a0 (.str [115, 111, 109, 101])) fun x3 =>
condB x3 (
condB x3 (
K (.ret (.bool true)) h) (
K (.ret (.bool false)) h)) (
bindO (eqV .string a0 (.str [97, 108, 108])) fun x4 =>
condB x4 (
condB x4 (
K (.ret (.bool true)) h) (
K (.ret (.bool false)) h)) (
bindO (eqV .string a0 (.str [108, 102, 112])) fun x5 =>
condB x5 (
condB x5 (
K (.ret (.bool true)) h) (
K (.ret (.bool false)) h)) (
bindO (eqV .string a0 (.str [112, 102, 112])) fun x6 =>
condB x6 (
condB x6 (
K (.ret (.bool true)) h) (
K (.ret (.bool false)) h)) (
bindO (eqV .string a0 (.str [116, 99])) fun x7 =>
condB x7 (
condB x7 (
K (.ret (.bool true)) h) (
K (.ret (.bool false)) h)) (
bindO (eqV .string a0 (.str [101, 120, 105, 115, 116, 115])) fun x8 =>
condB x8 (
condB x8 (
K (.ret (.bool true)) h) (
K (.ret (.bool false)) h)) (
bindO (eqV .string a0 (.str [116, 114, 117, 101])) fun x9 =>
condB x9 (
condB x9 (
K (.ret (.bool true)) h) (
K (.ret (.bool false)) h)) (
bindO (eqV .string a0 (.str [102, 97, 108, 115, 101])) fun x10 =>
condB x10 (
K (.ret (.bool true)) h) (
K (.ret (.bool false)) h)))))))))))) := by kernel_rfl
theorem F.ref01_Word_sem {a0 : AV} {h : Heap} {K : Out → Heap → Bool} (hh : (
bindO (eqV .string a0 (.str [97, 110, 100])) fun x0 =>
condB x0 (
condB x0 (
K (.ret (.bool true)) h) (
K (.ret (.bool false)) h)) (
bindO (eqV .string a0 (.str [111, 114])) fun x1 =>
condB x1 (
condB x1 (
K (.ret (.bool true)) h) (
K (.ret (.bool false)) h)) (
bindO (eqV .string a0 (.str [110, 111, 116])) fun x2 =>
condB x2 (
condB x2 (
K (.ret (.bool true)) h) (
K (.ret (.bool false)) h)) (
bindO (eqV .string a0 (.str [115, 111, 109, 101])) fun x3 =>
condB x3 (
condB x3 (
K (.ret (.bool true)) h) (
K (.ret (.bool false)) h)) (
bindO (eqV .string a0 (.str [97, 108, 108])) fun x4 =>
condB x4 (
condB x4 (
K (.ret (.bool true)) h) (
K (.ret (.bool false)) h)) (
bindO (eqV .string a0 (.str [108, 102, 112])) fun x5 =>
condB x5 (
condB x5 (
K (.ret (.bool true)) h) (
K (.ret (.bool false)) h)) (
bindO (eqV .string a0 (.str [112, 102, 112])) fun x6 =>
condB x6 (
condB x6 (
K (.ret (.bool true)) h) (
K (.ret (.bool false)) h)) (
bindO (eqV .string a0 (.str [116, 99])) fun x7 =>
condB x7 (
condB x7 (
K (.ret (.bool true)) h) (
K (.ret (.bool false)) h)) (
bindO (eqV .string a0 (.str [101, 120, 105, 115, 116, 115])) fun x8 =>
condB x8 (
condB x8 (
K (.ret (.bool true)) h) (
K (.ret (.bool false)) h)) (
bindO (eqV .string a0 (.str [116, 114, 117, 101])) fun x9 =>
condB x9 (
condB x9 (
K (.ret (.bool true)) h) (
K (.ret (.bool false)) h)) (
bindO (eqV .string a0 (.str [102, 97, 108, 115, 101])) fun x10 =>
condB x10 (
K (.ret (.bool true)) h) (
K (.ret (.bool false)) h)))))))))))) = true) : Sem Tryz.prog 107 [a0] h K :=
  sem_body mixed (noD_sound _) Tryz.func107 (c := codeOf Tryz.f107) rfl (by decide) (of_decide_eq_true (by kernel_rfl)) (F.ref01_Word_eq.trans hh)
theorem F.ref01_digit_eq {a0 : AV} {h : Heap} {K : Out → Heap → Bool} : evalS Tryz.prog (semCall Tryz.prog) (codeOf Tryz.f108) ⟨mkEnv [a0], 9, [], h⟩ (leaveK Tryz.prog noD Tryz.f108.results.toList K) = (
bindO (binS .geq a0 (.int .u8 48)) fun x0 =>
condB x0 (
bindO (binS .leq a0 (.int .u8 57)) fun x1 =>
K (.ret x1) h) (
K (.ret (.bool false)) h)) := by kernel_rfl
theorem F.ref01_digit_sem {a0 : AV} {h : Heap} {K : Out → Heap → Bool} (hh : (
bindO (binS .geq a0 (.int .u8 48)) fun x0 =>
condB x0 (
bindO (binS .leq a0 (.int .u8 57)) fun x1 =>
K (.ret x1) h) (
K (.ret (.bool false)) h)) = true) : Sem Tryz.prog 108 [a0] h K :=
  sem_body mixed (noD_sound _) Tryz.func108 (c := codeOf Tryz.f108) rfl (by decide) (of_decide_eq_true (by kernel_rfl)) (F.ref01_digit_eq.trans hh)
noncomputable def F.ref02_Among.L0 : Code := partOf (codeOf Tryz.f109) [1, 0, 1, 0, 0]
noncomputable def F.ref02_Among.L0k (K : Out → Heap → Bool) : AX → St → Bool := (blockK 0 (seqK false (evalS Tryz.prog (semCall Tryz.prog) (partOf (codeOf Tryz.f109) [1, 1])) (leaveK Tryz.prog noD Tryz.f109.results.toList K)))
theorem F.ref02_Among.L0_eq {e : Env} {h : Heap} {K : AX → St → Bool} : evalS Tryz.prog (semCall Tryz.prog) F.ref02_Among.L0 ⟨e, 18, [], h⟩ K = (
bindO (lenS .slice (e 0) h) fun x0 =>
bindO (binS .lss (e 5) x0) fun x1 =>
condB x1 (
bindO (iaS 1 (e 0) (e 5)) fun x2 =>
bindO (loadS none x2 h) fun x3 =>
bindO (eqV .string x3 (e 1)) fun x4 =>
condB x4 (
K .ret ⟨(setV (setV (setV (setV (setV (setV (setV (setV (setV (setV (setV e 6 (e 5)) 7 (e 0)) 8 x0) 9 x1) 12 (e 0)) 13 (e 5)) 14 x2) 15 x3) 16 (e 1)) 17 x4) 4 (.bool true)), 18, [], h⟩) (
bindO (binS .add (e 5) (.int .i64 1)) fun x5 =>
K .normal ⟨(setV (setV (setV (setV (setV (setV (setV (setV (setV (setV (setV (setV (setV e 6 (e 5)) 7 (e 0)) 8 x0) 9 x1) 12 (e 0)) 13 (e 5)) 14 x2) 15 x3) 16 (e 1)) 17 x4) 10 (e 5)) 11 x5) 5 x5), 18, [], h⟩)) (
K (.exit 0) ⟨(setV (setV (setV (setV e 6 (e 5)) 7 (e 0)) 8 x0) 9 x1), 18, [], h⟩)) := by kernel_rfl
theorem F.ref02_Among.L0_x0_eq {e : Env} {h : Heap} {K : Out → Heap → Bool} : F.ref02_Among.L0k K (.exit 0) ⟨e, 18, [], h⟩ = (
K (.ret (.bool false)) h) := by kernel_rfl
theorem F.ref02_Among.L0_r_eq {e : Env} {h : Heap} {K : Out → Heap → Bool} : F.ref02_Among.L0k K .ret ⟨e, 18, [], h⟩ = (
K (.ret (e 4)) h) := by kernel_rfl
theorem F.ref02_Among_eq {a0 a1 : AV} {h : Heap} {K : Out → Heap → Bool} : evalS Tryz.prog (semCall Tryz.prog) (codeOf Tryz.f109) ⟨mkEnv [a0, a1], 18, [], h⟩ (leaveK Tryz.prog noD Tryz.f109.results.toList K) = (
loopB (evalS Tryz.prog (semCall Tryz.prog) F.ref02_Among.L0) ⟨(setV (setV (mkEnv [a0, a1]) 4 (.bool false)) 5 (.int .i64 0)), 18, [], h⟩ (F.ref02_Among.L0k K)) := by kernel_rfl
theorem F.ref02_Among_sem {a0 a1 : AV} {h : Heap} {K : Out → Heap → Bool} (hh : (
loopB (evalS Tryz.prog (semCall Tryz.prog) F.ref02_Among.L0) ⟨(setV (setV (mkEnv [a0, a1]) 4 (.bool false)) 5 (.int .i64 0)), 18, [], h⟩ (F.ref02_Among.L0k K)) = true) : Sem Tryz.prog 109 [a0, a1] h K :=
  sem_body mixed (noD_sound _) Tryz.func109 (c := codeOf Tryz.f109) rfl (by decide) (of_decide_eq_true (by kernel_rfl)) (F.ref02_Among_eq.trans hh)
theorem F.shape_letter_eq {a0 : AV} {h : Heap} {K : Out → Heap → Bool} : evalS Tryz.prog (semCall Tryz.prog) (codeOf Tryz.f125) ⟨mkEnv [a0], 17, [], h⟩ (leaveK Tryz.prog noD Tryz.f125.results.toList K) = (
bindO (binS .geq a0 (.int .u8 97)) fun x0 =>
condB x0 (
bindO (binS .leq a0 (.int .u8 122)) fun x1 =>
condB x1 (
K (.ret (.bool true)) h) (
bindO (binS .geq a0 (.int .u8 65)) fun x2 =>
condB x2 (
bindO (binS .leq a0 (.int .u8 90)) fun x3 =>
K (.ret x3) h) (
K (.ret (.bool false)) h))) (
bindO (binS .geq a0 (.int .u8 65)) fun x4 =>
condB x4 (
bindO (binS .leq a0 (.int .u8 90)) fun x5 =>
K (.ret x5) h) (
K (.ret (.bool false)) h))) := by kernel_rfl
theorem F.shape_letter_sem {a0 : AV} {h : Heap} {K : Out → Heap → Bool} (hh : (
bindO (binS .geq a0 (.int .u8 97)) fun x0 =>
condB x0 (
bindO (binS .leq a0 (.int .u8 122)) fun x1 =>
condB x1 (
K (.ret (.bool true)) h) (
bindO (binS .geq a0 (.int .u8 65)) fun x2 =>
condB x2 (
bindO (binS .leq a0 (.int .u8 90)) fun x3 =>
K (.ret x3) h) (
K (.ret (.bool false)) h))) (
bindO (binS .geq a0 (.int .u8 65)) fun x4 =>
condB x4 (
bindO (binS .leq a0 (.int .u8 90)) fun x5 =>
K (.ret x5) h) (
K (.ret (.bool false)) h))) = true) : Sem Tryz.prog 125 [a0] h K :=
  sem_body mixed (noD_sound _) Tryz.func125 (c := codeOf Tryz.f125) rfl (by decide) (of_decide_eq_true (by kernel_rfl)) (F.shape_letter_eq.trans hh)
theorem F.shape_word_eq {a0 : AV} {h : Heap} {K : Out → Heap → Bool} : evalS Tryz.prog (semCall Tryz.prog) (codeOf Tryz.f126) ⟨mkEnv [a0], 16, [], h⟩ (leaveK Tryz.prog noD Tryz.f126.results.toList K) = (
bindO (eqV .string a0 (.str [97, 110, 100])) fun x0 =>
condB x0 (
condB x0 (
K (.ret (.bool true)) h) (
K (.ret (.bool false)) h)) (
bindO (eqV .string a0 (.str [111, 114])) fun x1 =>
condB x1 (
condB x1 (
K (.ret (.bool true)) h) (
K (.ret (.bool false)) h)) (
bindO (eqV .string a0 (.str [110, 111, 116])) fun x2 =>
condB x2 (
condB x2 (
K (.ret (.bool true)) h) (
K (.ret (.bool false)) h)) (
bindO (eqV .string a0 (.str [115, 111, 109, 101])) fun x3 =>
condB x3 (
condB x3 (
K (.ret (.bool true)) h) (
K (.ret (.bool false)) h)) (
bindO (eqV .string a0 (.str [97, 108, 108])) fun x4 =>
condB x4 (
condB x4 (
K (.ret (.bool true)) h) (
K (.ret (.bool false)) h)) (
bindO (eqV .string a0 (.str [108, 102, 112])) fun x5 =>
condB x5 (
condB x5 (
K (.ret (.bool true)) h) (
K (.ret (.bool false)) h)) (
bindO (eqV .string a0 (.str [112, 102, 112])) fun x6 =>
condB x6 (
condB x6 (
K (.ret (.bool true)) h) (
K (.ret (.bool false)) h)) (
bindO (eqV .string a0 (.str [116, 99])) fun x7 =>
condB x7 (
condB x7 (
K (.ret (.bool true)) h) (
K (.ret (.bool false)) h)) (
bindO (eqV .string a0 (.str [101, 120, 105, 115, 116, 115])) fun x8 =>
condB x8 (
condB x8 (
K (.ret (.bool true)) h) (
K (.ret (.bool false)) h)) (
bindO (eqV .string a0 (.str [116, 114, 117, 101])) fun x9 =>
condB x9 (
condB x9 (
K (.ret (.bool true)) h) (
K (.ret (.bool false)) h)) (
bindO (eqV .string a0 (.str [102, 97, 108, 115, 101])) fun x10 =>
condB x10 (
K (.ret (.bool true)) h) (
K (.ret (.bool false)) h)))))))))))) := by kernel_rfl
theorem F.shape_word_sem {a0 : AV} {h : Heap} {K : Out → Heap → Bool} (hh : (
bindO (eqV .string a0 (.str [97, 110, 100])) fun x0 =>
condB x0 (
condB x0 (
K (.ret (.bool true)) h) (
K (.ret (.bool false)) h)) (
bindO (eqV .string a0 (.str [111, 114])) fun x1 =>
condB x1 (
condB x1 (
K (.ret (.bool true)) h) (
K (.ret (.bool false)) h)) (
bindO (eqV .string a0 (.str [110, 111, 116])) fun x2 =>
condB x2 (
condB x2 (
K (.ret (.bool true)) h) (
K (.ret (.bool false)) h)) (
bindO (eqV .string a0 (.str [115, 111, 109, 101])) fun x3 =>
condB x3 (
condB x3 (
K (.ret (.bool true)) h) (
K (.ret (.bool false)) h)) (
bindO (eqV .string a0 (.str [97, 108, 108])) fun x4 =>
condB x4 (
condB x4 (
K (.ret (.bool true)) h) (
K (.ret (.bool false)) h)) (
bindO (eqV .string a0 (.str [108, 102, 112])) fun x5 =>
condB x5 (
condB x5 (
K (.ret (.bool true)) h) (
K (.ret (.bool false)) h)) (
bindO (eqV .string a0 (.str [112, 102, 112])) fun x6 =>
condB x6 (
condB x6 (
K (.ret (.bool true)) h) (
K (.ret (.bool false)) h)) (
bindO (eqV .string a0 (.str [116, 99])) fun x7 =>
condB x7 (
condB x7 (
K (.ret (.bool true)) h) (
K (.ret (.bool false)) h)) (
bindO (eqV .string a0 (.str [101, 120, 105, 115, 116, 115])) fun x8 =>
condB x8 (
condB x8 (
K (.ret (.bool true)) h) (
K (.ret (.bool false)) h)) (
bindO (eqV .string a0 (.str [116, 114, 117, 101])) fun x9 =>
condB x9 (
condB x9 (
K (.ret (.bool true)) h) (
K (.ret (.bool false)) h)) (
bindO (eqV .string a0 (.str [102, 97, 108, 115, 101])) fun x10 =>
condB x10 (
K (.ret (.bool true)) h) (
K (.ret (.bool false)) h)))))))))))) = true) : Sem Tryz.prog 126 [a0] h K :=
  sem_body mixed (noD_sound _) Tryz.func126 (c := codeOf Tryz.f126) rfl (by decide) (of_decide_eq_true (by kernel_rfl)) (F.shape_word_eq.trans hh)
theorem F.shape_digit_eq {a0 : AV} {h : Heap} {K : Out → Heap → Bool} : evalS Tryz.prog (semCall Tryz.prog) (codeOf Tryz.f127) ⟨mkEnv [a0], 9, [], h⟩ (leaveK Tryz.prog noD Tryz.f127.results.toList K) = (
bindO (binS .geq a0 (.int .u8 48)) fun x0 =>
condB x0 (
bindO (binS .leq a0 (.int .u8 57)) fun x1 =>
K (.ret x1) h) (
K (.ret (.bool false)) h)) := by kernel_rfl
theorem F.shape_digit_sem {a0 : AV} {h : Heap} {K : Out → Heap → Bool} (hh : (
bindO (binS .geq a0 (.int .u8 48)) fun x0 =>
condB x0 (
bindO (binS .leq a0 (.int .u8 57)) fun x1 =>
K (.ret x1) h) (
K (.ret (.bool false)) h)) = true) : Sem Tryz.prog 127 [a0] h K :=
  sem_body mixed (noD_sound _) Tryz.func127 (c := codeOf Tryz.f127) rfl (by decide) (of_decide_eq_true (by kernel_rfl)) (F.shape_digit_eq.trans hh)
noncomputable def F.ref01_Equal.L0 : Code := partOf (codeOf Tryz.f12) [1, 1, 0, 1, 0, 0]
noncomputable def F.ref01_Equal.L0k (K : Out → Heap → Bool) : AX → St → Bool := (blockK 0 (seqK false (evalS Tryz.prog (semCall Tryz.prog) (partOf (codeOf Tryz.f12) [1, 1, 1])) (leaveK Tryz.prog noD Tryz.f12.results.toList K)))
theorem F.ref01_Equal.L0_eq {e : Env} {h : Heap} {K : AX → St → Bool} : evalS Tryz.prog (semCall Tryz.prog) F.ref01_Equal.L0 ⟨e, 26, [], h⟩ K = (
bindO (lenS .slice (e 0) h) fun x3 =>
bindO (binS .lss (e 5) x3) fun x4 =>
condB x4 (
bindO (iaS 1 (e 0) (e 5)) fun x5 =>
bindO (loadS none x5 h) fun x6 =>
bindO (iaS 1 (e 1) (e 5)) fun x7 =>
bindO (loadS none x7 h) fun x8 =>
bindO (neV (.int .i64) x6 x8) fun x9 =>
condB x9 (
K .ret ⟨(setV (setV (setV (setV (setV (setV (setV (setV (setV (setV (setV (setV (setV (setV e 11 (e 5)) 12 (e 0)) 13 x3) 14 x4) 17 (e 0)) 18 (e 5)) 19 x5) 20 x6) 21 (e 1)) 22 (e 5)) 23 x7) 24 x8) 25 x9) 4 (.bool false)), 26, [], h⟩) (
bindO (binS .add (e 5) (.int .i64 1)) fun x10 =>
K .normal ⟨(setV (setV (setV (setV (setV (setV (setV (setV (setV (setV (setV (setV (setV (setV (setV (setV e 11 (e 5)) 12 (e 0)) 13 x3) 14 x4) 17 (e 0)) 18 (e 5)) 19 x5) 20 x6) 21 (e 1)) 22 (e 5)) 23 x7) 24 x8) 25 x9) 15 (e 5)) 16 x10) 5 x10), 26, [], h⟩)) (
K (.exit 0) ⟨(setV (setV (setV (setV e 11 (e 5)) 12 (e 0)) 13 x3) 14 x4), 26, [], h⟩)) := by kernel_rfl
theorem F.ref01_Equal.L0_x0_eq {e : Env} {h : Heap} {K : Out → Heap → Bool} : F.ref01_Equal.L0k K (.exit 0) ⟨e, 26, [], h⟩ = (
K (.ret (.bool true)) h) := by kernel_rfl
theorem F.ref01_Equal.L0_r_eq {e : Env} {h : Heap} {K : Out → Heap → Bool} : F.ref01_Equal.L0k K .ret ⟨e, 26, [], h⟩ = (
K (.ret (e 4)) h) := by kernel_rfl
theorem F.ref01_Equal_eq {a0 a1 : AV} {h : Heap} {K : Out → Heap → Bool} : evalS Tryz.prog (semCall Tryz.prog) (codeOf Tryz.f12) ⟨mkEnv [a0, a1], 26, [], h⟩ (leaveK Tryz.prog noD Tryz.f12.results.toList K) = (
bindO (lenS .slice a0 h) fun x0 =>
bindO (lenS .slice a1 h) fun x1 =>
bindO (neV (.int .i64) x0 x1) fun x2 =>
condB x2 (
K (.ret (.bool false)) h) (
loopB (evalS Tryz.prog (semCall Tryz.prog) F.ref01_Equal.L0) ⟨(setV (setV (setV (setV (setV (setV (setV (mkEnv [a0, a1]) 4 (.bool false)) 6 a0) 7 x0) 8 a1) 9 x1) 10 x2) 5 (.int .i64 0)), 26, [], h⟩ (F.ref01_Equal.L0k K))) := by kernel_rfl
theorem F.ref01_Equal_sem {a0 a1 : AV} {h : Heap} {K : Out → Heap → Bool} (hh : (
bindO (lenS .slice a0 h) fun x0 =>
bindO (lenS .slice a1 h) fun x1 =>
bindO (neV (.int .i64) x0 x1) fun x2 =>
condB x2 (
K (.ret (.bool false)) h) (
loopB (evalS Tryz.prog (semCall Tryz.prog) F.ref01_Equal.L0) ⟨(setV (setV (setV (setV (setV (setV (setV (mkEnv [a0, a1]) 4 (.bool false)) 6 a0) 7 x0) 8 a1) 9 x1) 10 x2) 5 (.int .i64 0)), 26, [], h⟩ (F.ref01_Equal.L0k K))) = true) : Sem Tryz.prog 12 [a0, a1] h K :=
  sem_body mixed (noD_sound _) Tryz.func12 (c := codeOf Tryz.f12) rfl (by decide) (of_decide_eq_true (by kernel_rfl)) (F.ref01_Equal_eq.trans hh)
noncomputable def F.ref07_rising.L0 : Code := partOf (codeOf Tryz.f31) [1, 1, 0, 0, 0]
noncomputable def F.ref07_rising.L0k (K : Out → Heap → Bool) : AX → St → Bool := (blockK 0 (seqK false (evalS Tryz.prog (semCall Tryz.prog) (partOf (codeOf Tryz.f31) [1, 1, 1])) (leaveK Tryz.prog noD Tryz.f31.results.toList K)))
theorem F.ref07_rising.L0_eq {e : Env} {h : Heap} {K : AX → St → Bool} : evalS Tryz.prog (semCall Tryz.prog) F.ref07_rising.L0 ⟨e, 45, [], h⟩ K = (
bindO (lenS .slice (e 0) h) fun x0 =>
bindO (binS .lss (e 5) x0) fun x1 =>
condB x1 (
bindO (iaS 1 (e 0) (e 5)) fun x2 =>
bindO (loadS none x2 h) fun x3 =>
bindO (binS .lss x3 (e 1)) fun x4 =>
condB x4 (
bindO (binS .add (e 5) (.int .i64 1)) fun x5 =>
K .normal ⟨(setV (setV (setV (setV (setV (setV (setV (setV (setV (setV (setV (setV (setV (setV (setV (setV (setV (setV (setV (setV (setV e 6 (e 5)) 7 (e 0)) 8 x0) 9 x1) 10 x1) 10 (.bool true)) 11 (e 0)) 10 (.bool true)) 12 (e 5)) 10 (.bool true)) 13 x2) 10 (.bool true)) 14 x3) 10 (.bool true)) 15 (e 1)) 10 (.bool true)) 16 x4) 17 x4) 18 (e 5)) 19 x5) 5 x5), 45, [], h⟩) (
K (.exit 0) ⟨(setV (setV (setV (setV (setV (setV (setV (setV (setV (setV (setV (setV (setV (setV (setV (setV (setV (setV e 6 (e 5)) 7 (e 0)) 8 x0) 9 x1) 10 x1) 10 (.bool true)) 11 (e 0)) 10 (.bool true)) 12 (e 5)) 10 (.bool true)) 13 x2) 10 (.bool true)) 14 x3) 10 (.bool true)) 15 (e 1)) 10 (.bool true)) 16 x4) 17 x4), 45, [], h⟩)) (
K (.exit 0) ⟨(setV (setV (setV (setV (setV (setV (setV (setV (setV (setV (setV (setV (setV (setV (setV (setV (setV (setV e 6 (e 5)) 7 (e 0)) 8 x0) 9 x1) 10 x1) 10 (.bool false)) 11 noV) 10 (.bool false)) 12 noV) 10 (.bool false)) 13 noV) 10 (.bool false)) 14 noV) 10 (.bool false)) 15 noV) 10 (.bool false)) 16 noV) 17 (.bool false)), 45, [], h⟩)) := by kernel_rfl
theorem F.ref07_rising.L0_x0_eq {e : Env} {h : Heap} {K : Out → Heap → Bool} : F.ref07_rising.L0k K (.exit 0) ⟨e, 45, [], h⟩ = (
bindO (lenS .slice (e 0) h) fun x6 =>
bindO (binS .lss (e 5) x6) fun x7 =>
condB x7 (
bindO (iaS 1 (e 0) (e 5)) fun x8 =>
bindO (loadS none x8 h) fun x9 =>
bindO (eqV .string x9 (e 1)) fun x10 =>
condB x10 (
K (.ret (e 0)) h) (
bindO (rowS [] [] []) fun c11 =>
bindO (sliceS (some 1) (e 0) none (some (e 5))) fun x12 =>
bindO (rowS [(.str [])] [(0, 1)] [(e 1)]) fun c13 =>
bindO (sliceS (some 1) (e 0) (some (e 5)) none) fun x14 =>
bindO2 (appendS 1 16 (.slice (Heap.next h) 0 0 1) x12 (Heap.alloc (Heap.alloc h (.cells c11)) (.cells c13))) fun x15 h16 =>
bindO2 (appendS 1 16 x15 (.slice (Heap.next (Heap.alloc h (.cells c11))) 0 1 1) h16) fun x17 h18 =>
bindO2 (appendS 1 16 x17 x14 h18) fun x19 h20 =>
K (.ret x19) h20)) (
bindO (rowS [] [] []) fun c21 =>
bindO (sliceS (some 1) (e 0) none (some (e 5))) fun x22 =>
bindO (rowS [(.str [])] [(0, 1)] [(e 1)]) fun c23 =>
bindO (sliceS (some 1) (e 0) (some (e 5)) none) fun x24 =>
bindO2 (appendS 1 16 (.slice (Heap.next h) 0 0 1) x22 (Heap.alloc (Heap.alloc h (.cells c21)) (.cells c23))) fun x25 h26 =>
bindO2 (appendS 1 16 x25 (.slice (Heap.next (Heap.alloc h (.cells c21))) 0 1 1) h26) fun x27 h28 =>
bindO2 (appendS 1 16 x27 x24 h28) fun x29 h30 =>
K (.ret x29) h30)) := by kernel_rfl
theorem F.ref07_rising_eq {a0 a1 : AV} {h : Heap} {K : Out → Heap → Bool} : evalS Tryz.prog (semCall Tryz.prog) (codeOf Tryz.f31) ⟨mkEnv [a0, a1], 45, [], h⟩ (leaveK Tryz.prog noD Tryz.f31.results.toList K) = (
loopB (evalS Tryz.prog (semCall Tryz.prog) F.ref07_rising.L0) ⟨(setV (setV (mkEnv [a0, a1]) 4 .nils) 5 (.int .i64 0)), 45, [], h⟩ (F.ref07_rising.L0k K)) := by kernel_rfl
theorem F.ref07_rising_sem {a0 a1 : AV} {h : Heap} {K : Out → Heap → Bool} (hh : (
loopB (evalS Tryz.prog (semCall Tryz.prog) F.ref07_rising.L0) ⟨(setV (setV (mkEnv [a0, a1]) 4 .nils) 5 (.int .i64 0)), 45, [], h⟩ (F.ref07_rising.L0k K)) = true) : Sem Tryz.prog 31 [a0, a1] h K :=
  sem_body mixed (noD_sound _) Tryz.func31 (c := codeOf Tryz.f31) rfl (by decide) (of_decide_eq_true (by kernel_rfl)) (F.ref07_rising_eq.trans hh)
noncomputable def F.ref07_Defined.L0 : Code := partOf (codeOf Tryz.f11) [1, 1, 0, 1, 0, 0]
noncomputable def F.ref07_Defined.L0k (K : Out → Heap → Bool) : AX → St → Bool := (blockK 0 (seqK false (evalS Tryz.prog (semCall Tryz.prog) (partOf (codeOf Tryz.f11) [1, 1, 1])) (leaveK Tryz.prog noD Tryz.f11.results.toList K)))
theorem F.ref07_Defined.L0_eq {e : Env} {h : Heap} {K : AX → St → Bool} : evalS Tryz.prog (semCall Tryz.prog) F.ref07_Defined.L0 ⟨e, 20, [], h⟩ K = (
bindO (lenS .slice (e 0) h) fun x0 =>
bindO (binS .lss (e 4) x0) fun x1 =>
condB x1 (
bindO (iaS 3 (e 0) (e 4)) fun x2 =>
bindO (faS 0 x2) fun x3 =>
bindO (faS 0 x3) fun x4 =>
bindO (loadS none x4 h) fun x5 =>
semCall Tryz.prog 31 [(e 3), x5] h (outK (fun x6 h7 =>
bindO (binS .add (e 4) (.int .i64 1)) fun x10 =>
K .normal ⟨(setV (setV (setV (setV (setV (setV (setV (setV (setV (setV (setV (setV (setV (setV (setV (setV e 5 (e 4)) 6 (e 0)) 7 x0) 8 x1) 11 (e 3)) 12 (e 0)) 13 (e 4)) 14 x2) 15 x3) 16 x4) 17 x5) 18 x6) 3 x6) 9 (e 4)) 10 x10) 4 x10), 20, [], h7⟩) (fun v8 h9 => K (.panic v8) ⟨(setV (setV (setV (setV (setV (setV (setV (setV (setV (setV (setV e 5 (e 4)) 6 (e 0)) 7 x0) 8 x1) 11 (e 3)) 12 (e 0)) 13 (e 4)) 14 x2) 15 x3) 16 x4) 17 x5), 20, [], h9⟩))) (
K (.exit 0) ⟨(setV (setV (setV (setV e 5 (e 4)) 6 (e 0)) 7 x0) 8 x1), 20, [], h⟩)) := by kernel_rfl
theorem F.ref07_Defined.L0_x0_eq {e : Env} {h : Heap} {K : Out → Heap → Bool} : F.ref07_Defined.L0k K (.exit 0) ⟨e, 20, [], h⟩ = (
K (.ret (e 3)) h) := by kernel_rfl
theorem F.ref07_Defined_eq {a0 : AV} {h : Heap} {K : Out → Heap → Bool} : evalS Tryz.prog (semCall Tryz.prog) (codeOf Tryz.f11) ⟨mkEnv [a0], 20, [], h⟩ (leaveK Tryz.prog noD Tryz.f11.results.toList K) = (
loopB (evalS Tryz.prog (semCall Tryz.prog) F.ref07_Defined.L0) ⟨(setV (setV (setV (mkEnv [a0]) 2 .nils) 3 .nils) 4 (.int .i64 0)), 20, [], h⟩ (F.ref07_Defined.L0k K)) := by kernel_rfl
theorem F.ref07_Defined_sem {a0 : AV} {h : Heap} {K : Out → Heap → Bool} (hh : (
loopB (evalS Tryz.prog (semCall Tryz.prog) F.ref07_Defined.L0) ⟨(setV (setV (setV (mkEnv [a0]) 2 .nils) 3 .nils) 4 (.int .i64 0)), 20, [], h⟩ (F.ref07_Defined.L0k K)) = true) : Sem Tryz.prog 11 [a0] h K :=
  sem_body mixed (noD_sound _) Tryz.func11 (c := codeOf Tryz.f11) rfl (by decide) (of_decide_eq_true (by kernel_rfl)) (F.ref07_Defined_eq.trans hh)
noncomputable def F.ref07_place.L0 : Code := partOf (codeOf Tryz.f30) [1, 0, 1, 0, 0]
noncomputable def F.ref07_place.L0k (K : Out → Heap → Bool) : AX → St → Bool := (blockK 0 (seqK false (evalS Tryz.prog (semCall Tryz.prog) (partOf (codeOf Tryz.f30) [1, 1])) (leaveK Tryz.prog noD Tryz.f30.results.toList K)))
theorem F.ref07_place.L0_eq {e : Env} {h : Heap} {K : AX → St → Bool} : evalS Tryz.prog (semCall Tryz.prog) F.ref07_place.L0 ⟨e, 19, [], h⟩ K = (
bindO (lenS .slice (e 0) h) fun x0 =>
bindO (binS .lss (e 5) x0) fun x1 =>
condB x1 (
bindO (iaS 1 (e 0) (e 5)) fun x2 =>
bindO (loadS none x2 h) fun x3 =>
bindO (eqV .string x3 (e 1)) fun x4 =>
condB x4 (
K .ret ⟨(setV (setV (setV (setV (setV (setV (setV (setV (setV (setV (setV (setV e 6 (e 5)) 7 (e 0)) 8 x0) 9 x1) 12 (e 0)) 13 (e 5)) 14 x2) 15 x3) 16 (e 1)) 17 x4) 18 (e 5)) 4 (e 5)), 19, [], h⟩) (
bindO (binS .add (e 5) (.int .i64 1)) fun x5 =>
K .normal ⟨(setV (setV (setV (setV (setV (setV (setV (setV (setV (setV (setV (setV (setV e 6 (e 5)) 7 (e 0)) 8 x0) 9 x1) 12 (e 0)) 13 (e 5)) 14 x2) 15 x3) 16 (e 1)) 17 x4) 10 (e 5)) 11 x5) 5 x5), 19, [], h⟩)) (
K (.exit 0) ⟨(setV (setV (setV (setV e 6 (e 5)) 7 (e 0)) 8 x0) 9 x1), 19, [], h⟩)) := by kernel_rfl
theorem F.ref07_place.L0_x0_eq {e : Env} {h : Heap} {K : Out → Heap → Bool} : F.ref07_place.L0k K (.exit 0) ⟨e, 19, [], h⟩ = (
K (.ret (.int .i64 (-1))) h) := by kernel_rfl
theorem F.ref07_place.L0_r_eq {e : Env} {h : Heap} {K : Out → Heap → Bool} : F.ref07_place.L0k K .ret ⟨e, 19, [], h⟩ = (
K (.ret (e 4)) h) := by kernel_rfl
theorem F.ref07_place_eq {a0 a1 : AV} {h : Heap} {K : Out → Heap → Bool} : evalS Tryz.prog (semCall Tryz.prog) (codeOf Tryz.f30) ⟨mkEnv [a0, a1], 19, [], h⟩ (leaveK Tryz.prog noD Tryz.f30.results.toList K) = (
loopB (evalS Tryz.prog (semCall Tryz.prog) F.ref07_place.L0) ⟨(setV (setV (mkEnv [a0, a1]) 4 (.int .i64 0)) 5 (.int .i64 0)), 19, [], h⟩ (F.ref07_place.L0k K)) := by kernel_rfl
theorem F.ref07_place_sem {a0 a1 : AV} {h : Heap} {K : Out → Heap → Bool} (hh : (
loopB (evalS Tryz.prog (semCall Tryz.prog) F.ref07_place.L0) ⟨(setV (setV (mkEnv [a0, a1]) 4 (.int .i64 0)) 5 (.int .i64 0)), 19, [], h⟩ (F.ref07_place.L0k K)) = true) : Sem Tryz.prog 30 [a0, a1] h K :=
  sem_body mixed (noD_sound _) Tryz.func30 (c := codeOf Tryz.f30) rfl (by decide) (of_decide_eq_true (by kernel_rfl)) (F.ref07_place_eq.trans hh)
noncomputable def F.ref07_atoms.L0 : Code := partOf (codeOf Tryz.f29) [1, 1, 0, 1, 0, 0]
noncomputable def F.ref07_atoms.L0k (K : Out → Heap → Bool) : AX → St → Bool := (blockK 0 (seqK false (evalS Tryz.prog (semCall Tryz.prog) (partOf (codeOf Tryz.f29) [1, 1, 1])) (leaveK Tryz.prog noD Tryz.f29.results.toList K)))
noncomputable def F.ref07_atoms.L1 : Code := partOf (codeOf Tryz.f29) [1, 1, 0, 1, 0, 0, 1, 0, 0, 1, 1, 0, 0]
noncomputable def F.ref07_atoms.L1k (K : AX → St → Bool) : AX → St → Bool := (blockK 2 (blockK 1 (seqK false (evalS Tryz.prog (semCall Tryz.prog) (partOf (codeOf Tryz.f29) [1, 1, 0, 1, 0, 0, 1, 1])) K)))
theorem F.ref07_atoms.L0_eq {e : Env} {h : Heap} {K : AX → St → Bool} : evalS Tryz.prog (semCall Tryz.prog) F.ref07_atoms.L0 ⟨e, 63, [], h⟩ K = (
bindO (lenS .slice (e 0) h) fun x0 =>
bindO (binS .lss (e 4) x0) fun x1 =>
condB x1 (
bindO (iaS 3 (e 0) (e 4)) fun x2 =>
bindO (faS 0 x2) fun x3 =>
bindO (faS 0 x3) fun x4 =>
bindO (loadS none x4 h) fun x5 =>
bindO (iaS 3 (e 0) (e 4)) fun x6 =>
bindO (faS 0 x6) fun x7 =>
bindO (faS 1 x7) fun x8 =>
bindO (loadS none x8 h) fun x9 =>
bindO (lenS .slice x9 h) fun x10 =>
bindO (aggS [(.str []), (.int .i64 0)] [(0, 1), (1, 1)] [x5, x10]) fun x11 =>
bindO (rowS [(.str []), (.int .i64 0)] [(0, 2)] [x11]) fun c12 =>
bindO2 (appendS 2 24 (e 3) (.slice (Heap.next h) 0 1 2) (Heap.alloc h (.cells c12))) fun x13 h14 =>
loopB (evalS Tryz.prog (semCall Tryz.prog) F.ref07_atoms.L1) ⟨(setV (setV (setV (setV (setV (setV (setV (setV (setV (setV (setV (setV (setV (setV (setV (setV (setV (setV (setV (setV (setV (setV (setV e 7 (e 4)) 8 (e 0)) 9 x0) 10 x1) 13 (e 3)) 14 (e 0)) 15 (e 4)) 16 x2) 17 x3) 18 x4) 19 x5) 20 (e 0)) 21 (e 4)) 22 x6) 23 x7) 24 x8) 25 x9) 26 x10) 27 x11) 28 (.slice (Heap.next h) 0 1 2)) 29 x13) 3 x13) 5 (.int .i64 0)), 63, [], h14⟩ (F.ref07_atoms.L1k K)) (
K (.exit 0) ⟨(setV (setV (setV (setV e 7 (e 4)) 8 (e 0)) 9 x0) 10 x1), 63, [], h⟩)) := by kernel_rfl
theorem F.ref07_atoms.L0_x0_eq {e : Env} {h : Heap} {K : Out → Heap → Bool} : F.ref07_atoms.L0k K (.exit 0) ⟨e, 63, [], h⟩ = (
K (.ret (e 3)) h) := by kernel_rfl
theorem F.ref07_atoms.L1_eq {e : Env} {h : Heap} {K : AX → St → Bool} : evalS Tryz.prog (semCall Tryz.prog) F.ref07_atoms.L1 ⟨e, 63, [], h⟩ K = (
bindO (iaS 3 (e 0) (e 4)) fun x15 =>
bindO (faS 2 x15) fun x16 =>
bindO (loadS none x16 h) fun x17 =>
bindO (lenS .slice x17 h) fun x18 =>
bindO (binS .lss (e 5) x18) fun x19 =>
condB x19 (
bindO (iaS 3 (e 0) (e 4)) fun x20 =>
bindO (faS 2 x20) fun x21 =>
bindO (loadS none x21 h) fun x22 =>
bindO (iaS 4 x22 (e 5)) fun x23 =>
bindO (loadS (some 4) x23 h) fun x24 =>
bindO (storeS 4 (.ptr (Heap.next h) 0) x24 (Heap.alloc h (.cells [(.int .i64 0), (.bool false), (.str []), .nils]))) fun h25 =>
bindO (faS 0 (.ptr (Heap.next h) 0)) fun x26 =>
bindO (loadS none x26 h25) fun x27 =>
bindO (eqV (.int .i64) x27 (.int .i64 0)) fun x28 =>
condB x28 (
bindO (faS 2 (.ptr (Heap.next h) 0)) fun x29 =>
bindO (faS 0 x29) fun x30 =>
bindO (loadS none x30 h25) fun x31 =>
bindO (faS 2 (.ptr (Heap.next h) 0)) fun x32 =>
bindO (faS 1 x32) fun x33 =>
bindO (loadS none x33 h25) fun x34 =>
bindO (lenS .slice x34 h25) fun x35 =>
bindO (aggS [(.str []), (.int .i64 0)] [(0, 1), (1, 1)] [x31, x35]) fun x36 =>
bindO (rowS [(.str []), (.int .i64 0)] [(0, 2)] [x36]) fun c37 =>
bindO2 (appendS 2 24 (e 3) (.slice (Heap.next h25) 0 1 2) (Heap.alloc h25 (.cells c37))) fun x38 h39 =>
bindO (binS .add (e 5) (.int .i64 1)) fun x40 =>
K .normal ⟨(setV (setV (setV (setV (setV (setV (setV (setV (setV (setV (setV (setV (setV (setV (setV (setV (setV (setV (setV (setV (setV (setV (setV (setV (setV (setV (setV (setV (setV (setV (setV (setV (setV (setV (setV e 30 (e 5)) 31 (e 0)) 32 (e 4)) 33 x15) 34 x16) 35 x17) 36 x18) 37 x19) 40 (e 0)) 41 (e 4)) 42 x20) 43 x21) 44 x22) 45 (e 5)) 46 x23) 47 x24) 6 (.ptr (Heap.next h) 0)) 48 x26) 49 x27) 50 x28) 51 (e 3)) 52 x29) 53 x30) 54 x31) 55 x32) 56 x33) 57 x34) 58 x35) 59 x36) 60 (.slice (Heap.next h25) 0 1 2)) 61 x38) 3 x38) 38 (e 5)) 39 x40) 5 x40), 63, [], h39⟩) (
bindO (binS .add (e 5) (.int .i64 1)) fun x41 =>
K .normal ⟨(setV (setV (setV (setV (setV (setV (setV (setV (setV (setV (setV (setV (setV (setV (setV (setV (setV (setV (setV (setV (setV (setV (setV e 30 (e 5)) 31 (e 0)) 32 (e 4)) 33 x15) 34 x16) 35 x17) 36 x18) 37 x19) 40 (e 0)) 41 (e 4)) 42 x20) 43 x21) 44 x22) 45 (e 5)) 46 x23) 47 x24) 6 (.ptr (Heap.next h) 0)) 48 x26) 49 x27) 50 x28) 38 (e 5)) 39 x41) 5 x41), 63, [], h25⟩)) (
K (.exit 2) ⟨(setV (setV (setV (setV (setV (setV (setV (setV e 30 (e 5)) 31 (e 0)) 32 (e 4)) 33 x15) 34 x16) 35 x17) 36 x18) 37 x19), 63, [], h⟩)) := by kernel_rfl
theorem F.ref07_atoms.L1_x2_eq {e : Env} {h : Heap} {K : AX → St → Bool} : F.ref07_atoms.L1k K (.exit 2) ⟨e, 63, [], h⟩ = (
bindO (binS .add (e 4) (.int .i64 1)) fun x42 =>
K .normal ⟨(setV (setV (setV e 11 (e 4)) 12 x42) 4 x42), 63, [], h⟩) := by kernel_rfl
theorem F.ref07_atoms_eq {a0 : AV} {h : Heap} {K : Out → Heap → Bool} : evalS Tryz.prog (semCall Tryz.prog) (codeOf Tryz.f29) ⟨mkEnv [a0], 63, [], h⟩ (leaveK Tryz.prog noD Tryz.f29.results.toList K) = (
loopB (evalS Tryz.prog (semCall Tryz.prog) F.ref07_atoms.L0) ⟨(setV (setV (setV (mkEnv [a0]) 2 .nils) 3 .nils) 4 (.int .i64 0)), 63, [], h⟩ (F.ref07_atoms.L0k K)) := by kernel_rfl
theorem F.ref07_atoms_sem {a0 : AV} {h : Heap} {K : Out → Heap → Bool} (hh : (
loopB (evalS Tryz.prog (semCall Tryz.prog) F.ref07_atoms.L0) ⟨(setV (setV (setV (mkEnv [a0]) 2 .nils) 3 .nils) 4 (.int .i64 0)), 63, [], h⟩ (F.ref07_atoms.L0k K)) = true) : Sem Tryz.prog 29 [a0] h K :=
  sem_body mixed (noD_sound _) Tryz.func29 (c := codeOf Tryz.f29) rfl (by decide) (of_decide_eq_true (by kernel_rfl)) (F.ref07_atoms_eq.trans hh)
noncomputable def F.ref07_Named.L0 : Code := partOf (codeOf Tryz.f70) [1, 0, 1, 0, 0]
noncomputable def F.ref07_Named.L0k (K : Out → Heap → Bool) : AX → St → Bool := (blockK 0 (seqK false (evalS Tryz.prog (semCall Tryz.prog) (partOf (codeOf Tryz.f70) [1, 1])) (leaveK Tryz.prog noD Tryz.f70.results.toList K)))
theorem F.ref07_Named.L0_eq {e : Env} {h : Heap} {K : AX → St → Bool} : evalS Tryz.prog (semCall Tryz.prog) F.ref07_Named.L0 ⟨e, 19, [], h⟩ K = (
bindO (lenS .slice (e 0) h) fun x0 =>
bindO (binS .lss (e 3) x0) fun x1 =>
condB x1 (
bindO (iaS 1 (e 0) (e 3)) fun x2 =>
bindO (loadS none x2 h) fun x3 =>
semCall Tryz.prog 69 [x3] h (outK (fun x4 h5 =>
bindO (unS .not x4) fun x8 =>
condB x8 (
K .ret ⟨(setV (setV (setV (setV (setV (setV (setV (setV (setV (setV (setV e 4 (e 3)) 5 (e 0)) 6 x0) 7 x1) 10 (e 0)) 11 (e 3)) 12 x2) 13 x3) 14 x4) 15 x8) 2 (.bool false)), 19, [], h5⟩) (
bindO (binS .add (e 3) (.int .i64 1)) fun x9 =>
K .normal ⟨(setV (setV (setV (setV (setV (setV (setV (setV (setV (setV (setV (setV (setV e 4 (e 3)) 5 (e 0)) 6 x0) 7 x1) 10 (e 0)) 11 (e 3)) 12 x2) 13 x3) 14 x4) 15 x8) 8 (e 3)) 9 x9) 3 x9), 19, [], h5⟩)) (fun v6 h7 => K (.panic v6) ⟨(setV (setV (setV (setV (setV (setV (setV (setV e 4 (e 3)) 5 (e 0)) 6 x0) 7 x1) 10 (e 0)) 11 (e 3)) 12 x2) 13 x3), 19, [], h7⟩))) (
K (.exit 0) ⟨(setV (setV (setV (setV e 4 (e 3)) 5 (e 0)) 6 x0) 7 x1), 19, [], h⟩)) := by kernel_rfl
theorem F.ref07_Named.L0_x0_eq {e : Env} {h : Heap} {K : Out → Heap → Bool} : F.ref07_Named.L0k K (.exit 0) ⟨e, 19, [], h⟩ = (
bindO (lenS .slice (e 0) h) fun x10 =>
bindO (binS .leq x10 (.int .i64 12)) fun x11 =>
K (.ret x11) h) := by kernel_rfl
theorem F.ref07_Named.L0_r_eq {e : Env} {h : Heap} {K : Out → Heap → Bool} : F.ref07_Named.L0k K .ret ⟨e, 19, [], h⟩ = (
K (.ret (e 2)) h) := by kernel_rfl
theorem F.ref07_Named_eq {a0 : AV} {h : Heap} {K : Out → Heap → Bool} : evalS Tryz.prog (semCall Tryz.prog) (codeOf Tryz.f70) ⟨mkEnv [a0], 19, [], h⟩ (leaveK Tryz.prog noD Tryz.f70.results.toList K) = (
loopB (evalS Tryz.prog (semCall Tryz.prog) F.ref07_Named.L0) ⟨(setV (setV (mkEnv [a0]) 2 (.bool false)) 3 (.int .i64 0)), 19, [], h⟩ (F.ref07_Named.L0k K)) := by kernel_rfl
theorem F.ref07_Named_sem {a0 : AV} {h : Heap} {K : Out → Heap → Bool} (hh : (
loopB (evalS Tryz.prog (semCall Tryz.prog) F.ref07_Named.L0) ⟨(setV (setV (mkEnv [a0]) 2 (.bool false)) 3 (.int .i64 0)), 19, [], h⟩ (F.ref07_Named.L0k K)) = true) : Sem Tryz.prog 70 [a0] h K :=
  sem_body mixed (noD_sound _) Tryz.func70 (c := codeOf Tryz.f70) rfl (by decide) (of_decide_eq_true (by kernel_rfl)) (F.ref07_Named_eq.trans hh)
theorem F.slices_ContainsFunc_S_string_string_eq {a0 a1 : AV} {h : Heap} {K : Out → Heap → Bool} : evalS Tryz.prog (semCall Tryz.prog) (codeOf Tryz.f99) ⟨mkEnv [a0, a1], 9, [], h⟩ (leaveK Tryz.prog noD Tryz.f99.results.toList K) = (
semCall Tryz.prog 128 [a0, a1] h (outK (fun x0 h1 =>
bindO (binS .geq x0 (.int .i64 0)) fun x4 =>
K (.ret x4) h1) (fun v2 h3 => K (.panic v2) h3))) := by kernel_rfl
theorem F.slices_ContainsFunc_S_string_string_sem {a0 a1 : AV} {h : Heap} {K : Out → Heap → Bool} (hh : (
semCall Tryz.prog 128 [a0, a1] h (outK (fun x0 h1 =>
bindO (binS .geq x0 (.int .i64 0)) fun x4 =>
K (.ret x4) h1) (fun v2 h3 => K (.panic v2) h3))) = true) : Sem Tryz.prog 99 [a0, a1] h K :=
  sem_body mixed (noD_sound _) Tryz.func99 (c := codeOf Tryz.f99) rfl (by decide) (of_decide_eq_true (by kernel_rfl)) (F.slices_ContainsFunc_S_string_string_eq.trans hh)
noncomputable def F.slices_IndexFunc_S_string_string.L0 : Code := partOf (codeOf Tryz.f128) [1, 0, 1, 0, 0]
noncomputable def F.slices_IndexFunc_S_string_string.L0k (K : Out → Heap → Bool) : AX → St → Bool := (blockK 0 (seqK false (evalS Tryz.prog (semCall Tryz.prog) (partOf (codeOf Tryz.f128) [1, 1])) (leaveK Tryz.prog noD Tryz.f128.results.toList K)))
theorem F.slices_IndexFunc_S_string_string.L0_eq {e : Env} {h : Heap} {K : AX → St → Bool} : evalS Tryz.prog (semCall Tryz.prog) F.slices_IndexFunc_S_string_string.L0 ⟨e, 19, [], h⟩ K = (
bindO (binS .lss (e 8) (e 7)) fun x1 =>
condB x1 (
bindO (iaS 1 (e 0) (e 8)) fun x2 =>
bindO (loadS none x2 h) fun x3 =>
callV (e 1) fun f9 a10 a11 => semCall Tryz.prog f9 (a10 ++ ([x3] ++ a11)) h (outK (fun x4 h5 =>
condB x4 (
K .ret ⟨(setV (setV (setV (setV (setV (setV (setV (setV (setV (setV (setV e 9 x1) 10 (e 8)) 5 (e 8)) 11 (e 1)) 12 (e 0)) 13 (e 8)) 14 x2) 15 x3) 16 x4) 17 (e 8)) 4 (e 8)), 19, [], h5⟩) (
bindO (binS .add (e 8) (.int .i64 1)) fun x8 =>
K .normal ⟨(setV (setV (setV (setV (setV (setV (setV (setV (setV (setV (setV e 9 x1) 10 (e 8)) 5 (e 8)) 11 (e 1)) 12 (e 0)) 13 (e 8)) 14 x2) 15 x3) 16 x4) 18 x8) 8 x8), 19, [], h5⟩)) (fun v6 h7 => K (.panic v6) ⟨(setV (setV (setV (setV (setV (setV (setV (setV e 9 x1) 10 (e 8)) 5 (e 8)) 11 (e 1)) 12 (e 0)) 13 (e 8)) 14 x2) 15 x3), 19, [], h7⟩))) (
K (.exit 0) ⟨(setV e 9 x1), 19, [], h⟩)) := by kernel_rfl
theorem F.slices_IndexFunc_S_string_string.L0_x0_eq {e : Env} {h : Heap} {K : Out → Heap → Bool} : F.slices_IndexFunc_S_string_string.L0k K (.exit 0) ⟨e, 19, [], h⟩ = (
K (.ret (.int .i64 (-1))) h) := by kernel_rfl
theorem F.slices_IndexFunc_S_string_string.L0_r_eq {e : Env} {h : Heap} {K : Out → Heap → Bool} : F.slices_IndexFunc_S_string_string.L0k K .ret ⟨e, 19, [], h⟩ = (
K (.ret (e 4)) h) := by kernel_rfl
theorem F.slices_IndexFunc_S_string_string_eq {a0 a1 : AV} {h : Heap} {K : Out → Heap → Bool} : evalS Tryz.prog (semCall Tryz.prog) (codeOf Tryz.f128) ⟨mkEnv [a0, a1], 19, [], h⟩ (leaveK Tryz.prog noD Tryz.f128.results.toList K) = (
bindO (lenS .slice a0 h) fun x0 =>
loopB (evalS Tryz.prog (semCall Tryz.prog) F.slices_IndexFunc_S_string_string.L0) ⟨(setV (setV (setV (setV (mkEnv [a0, a1]) 4 (.int .i64 0)) 6 a0) 7 x0) 8 (.int .i64 0)), 19, [], h⟩ (F.slices_IndexFunc_S_string_string.L0k K)) := by kernel_rfl
theorem F.slices_IndexFunc_S_string_string_sem {a0 a1 : AV} {h : Heap} {K : Out → Heap → Bool} (hh : (
bindO (lenS .slice a0 h) fun x0 =>
loopB (evalS Tryz.prog (semCall Tryz.prog) F.slices_IndexFunc_S_string_string.L0) ⟨(setV (setV (setV (setV (mkEnv [a0, a1]) 4 (.int .i64 0)) 6 a0) 7 x0) 8 (.int .i64 0)), 19, [], h⟩ (F.slices_IndexFunc_S_string_string.L0k K)) = true) : Sem Tryz.prog 128 [a0, a1] h K :=
  sem_body mixed (noD_sound _) Tryz.func128 (c := codeOf Tryz.f128) rfl (by decide) (of_decide_eq_true (by kernel_rfl)) (F.slices_IndexFunc_S_string_string_eq.trans hh)
theorem F.slices_Contains_S_string_string_eq {a0 a1 : AV} {h : Heap} {K : Out → Heap → Bool} : evalS Tryz.prog (semCall Tryz.prog) (codeOf Tryz.f102) ⟨mkEnv [a0, a1], 9, [], h⟩ (leaveK Tryz.prog noD Tryz.f102.results.toList K) = (
semCall Tryz.prog 121 [a0, a1] h (outK (fun x0 h1 =>
bindO (binS .geq x0 (.int .i64 0)) fun x4 =>
K (.ret x4) h1) (fun v2 h3 => K (.panic v2) h3))) := by kernel_rfl
theorem F.slices_Contains_S_string_string_sem {a0 a1 : AV} {h : Heap} {K : Out → Heap → Bool} (hh : (
semCall Tryz.prog 121 [a0, a1] h (outK (fun x0 h1 =>
bindO (binS .geq x0 (.int .i64 0)) fun x4 =>
K (.ret x4) h1) (fun v2 h3 => K (.panic v2) h3))) = true) : Sem Tryz.prog 102 [a0, a1] h K :=
  sem_body mixed (noD_sound _) Tryz.func102 (c := codeOf Tryz.f102) rfl (by decide) (of_decide_eq_true (by kernel_rfl)) (F.slices_Contains_S_string_string_eq.trans hh)
noncomputable def F.slices_Index_S_string_string.L0 : Code := partOf (codeOf Tryz.f121) [1, 0, 1, 0, 0]
noncomputable def F.slices_Index_S_string_string.L0k (K : Out → Heap → Bool) : AX → St → Bool := (blockK 0 (seqK false (evalS Tryz.prog (semCall Tryz.prog) (partOf (codeOf Tryz.f121) [1, 1])) (leaveK Tryz.prog noD Tryz.f121.results.toList K)))
theorem F.slices_Index_S_string_string.L0_eq {e : Env} {h : Heap} {K : AX → St → Bool} : evalS Tryz.prog (semCall Tryz.prog) F.slices_Index_S_string_string.L0 ⟨e, 19, [], h⟩ K = (
bindO (binS .lss (e 8) (e 7)) fun x1 =>
condB x1 (
bindO (iaS 1 (e 0) (e 8)) fun x2 =>
bindO (loadS none x2 h) fun x3 =>
bindO (eqV .string (e 1) x3) fun x4 =>
condB x4 (
K .ret ⟨(setV (setV (setV (setV (setV (setV (setV (setV (setV (setV (setV e 9 x1) 10 (e 8)) 5 (e 8)) 11 (e 1)) 12 (e 0)) 13 (e 8)) 14 x2) 15 x3) 16 x4) 17 (e 8)) 4 (e 8)), 19, [], h⟩) (
bindO (binS .add (e 8) (.int .i64 1)) fun x5 =>
K .normal ⟨(setV (setV (setV (setV (setV (setV (setV (setV (setV (setV (setV e 9 x1) 10 (e 8)) 5 (e 8)) 11 (e 1)) 12 (e 0)) 13 (e 8)) 14 x2) 15 x3) 16 x4) 18 x5) 8 x5), 19, [], h⟩)) (
K (.exit 0) ⟨(setV e 9 x1), 19, [], h⟩)) := by kernel_rfl
theorem F.slices_Index_S_string_string.L0_x0_eq {e : Env} {h : Heap} {K : Out → Heap → Bool} : F.slices_Index_S_string_string.L0k K (.exit 0) ⟨e, 19, [], h⟩ = (
K (.ret (.int .i64 (-1))) h) := by kernel_rfl
theorem F.slices_Index_S_string_string.L0_r_eq {e : Env} {h : Heap} {K : Out → Heap → Bool} : F.slices_Index_S_string_string.L0k K .ret ⟨e, 19, [], h⟩ = (
K (.ret (e 4)) h) := by kernel_rfl
theorem F.slices_Index_S_string_string_eq {a0 a1 : AV} {h : Heap} {K : Out → Heap → Bool} : evalS Tryz.prog (semCall Tryz.prog) (codeOf Tryz.f121) ⟨mkEnv [a0, a1], 19, [], h⟩ (leaveK Tryz.prog noD Tryz.f121.results.toList K) = (
bindO (lenS .slice a0 h) fun x0 =>
loopB (evalS Tryz.prog (semCall Tryz.prog) F.slices_Index_S_string_string.L0) ⟨(setV (setV (setV (setV (mkEnv [a0, a1]) 4 (.int .i64 0)) 6 a0) 7 x0) 8 (.int .i64 0)), 19, [], h⟩ (F.slices_Index_S_string_string.L0k K)) := by kernel_rfl
theorem F.slices_Index_S_string_string_sem {a0 a1 : AV} {h : Heap} {K : Out → Heap → Bool} (hh : (
bindO (lenS .slice a0 h) fun x0 =>
loopB (evalS Tryz.prog (semCall Tryz.prog) F.slices_Index_S_string_string.L0) ⟨(setV (setV (setV (setV (mkEnv [a0, a1]) 4 (.int .i64 0)) 6 a0) 7 x0) 8 (.int .i64 0)), 19, [], h⟩ (F.slices_Index_S_string_string.L0k K)) = true) : Sem Tryz.prog 121 [a0, a1] h K :=
  sem_body mixed (noD_sound _) Tryz.func121 (c := codeOf Tryz.f121) rfl (by decide) (of_decide_eq_true (by kernel_rfl)) (F.slices_Index_S_string_string_eq.trans hh)
theorem F.rules_atom_1_eq {a0 : AV} {h : Heap} {K : Out → Heap → Bool} : evalS Tryz.prog (semCall Tryz.prog) (codeOf Tryz.f100) ⟨mkEnv [a0], 6, [], h⟩ (leaveK Tryz.prog noD Tryz.f100.results.toList K) = (
semCall Tryz.prog 98 [a0] h (outK (fun x0 h1 =>
bindO (unS .not x0) fun x4 =>
K (.ret x4) h1) (fun v2 h3 => K (.panic v2) h3))) := by kernel_rfl
theorem F.rules_atom_1_sem {a0 : AV} {h : Heap} {K : Out → Heap → Bool} (hh : (
semCall Tryz.prog 98 [a0] h (outK (fun x0 h1 =>
bindO (unS .not x0) fun x4 =>
K (.ret x4) h1) (fun v2 h3 => K (.panic v2) h3))) = true) : Sem Tryz.prog 100 [a0] h K :=
  sem_body mixed (noD_sound _) Tryz.func100 (c := codeOf Tryz.f100) rfl (by decide) (of_decide_eq_true (by kernel_rfl)) (F.rules_atom_1_eq.trans hh)
noncomputable def F.rules_Variables_1.L0 : Code := partOf (codeOf Tryz.f101) [1, 0, 0]
noncomputable def F.rules_Variables_1.L0k (K : Out → Heap → Bool) : AX → St → Bool := (blockK 0 (leaveK Tryz.prog noD Tryz.f101.results.toList K))
theorem F.rules_Variables_1.L0_eq {e : Env} {h : Heap} {K : AX → St → Bool} : evalS Tryz.prog (semCall Tryz.prog) F.rules_Variables_1.L0 ⟨e, 20, [], h⟩ K = (
bindO (binS .lss (e 7) (e 6)) fun x1 =>
condB x1 (
bindO (iaS 1 (e 5) (e 7)) fun x2 =>
bindO (loadS none x2 h) fun x3 =>
bindO (loadS none (e 1) h) fun x4 =>
semCall Tryz.prog 102 [x4, x3] h (outK (fun x5 h6 =>
bindO (unS .not x5) fun x9 =>
condB x9 (
bindO (loadS none (e 1) h6) fun x10 =>
bindO (rowS [(.str [])] [(0, 1)] [x3]) fun c11 =>
bindO2 (appendS 1 16 x10 (.slice (Heap.next h6) 0 1 1) (Heap.alloc h6 (.cells c11))) fun x12 h13 =>
bindO (storeS 1 (e 1) x12 h13) fun h14 =>
bindO (binS .add (e 7) (.int .i64 1)) fun x15 =>
K .normal ⟨(setV (setV (setV (setV (setV (setV (setV (setV (setV (setV (setV (setV (setV (setV e 8 x1) 9 x2) 10 x3) 4 x3) 11 x4) 12 x3) 13 x5) 14 x9) 15 x10) 16 x3) 17 (.slice (Heap.next h6) 0 1 1)) 18 x12) 19 x15) 7 x15), 20, [], h14⟩) (
bindO (binS .add (e 7) (.int .i64 1)) fun x16 =>
K .normal ⟨(setV (setV (setV (setV (setV (setV (setV (setV (setV (setV e 8 x1) 9 x2) 10 x3) 4 x3) 11 x4) 12 x3) 13 x5) 14 x9) 19 x16) 7 x16), 20, [], h6⟩)) (fun v7 h8 => K (.panic v7) ⟨(setV (setV (setV (setV (setV (setV e 8 x1) 9 x2) 10 x3) 4 x3) 11 x4) 12 x3), 20, [], h8⟩))) (
K (.exit 0) ⟨(setV e 8 x1), 20, [], h⟩)) := by kernel_rfl
theorem F.rules_Variables_1.L0_x0_eq {e : Env} {h : Heap} {K : Out → Heap → Bool} : F.rules_Variables_1.L0k K (.exit 0) ⟨e, 20, [], h⟩ = (
K (.ret (.tuple [])) h) := by kernel_rfl
theorem F.rules_Variables_1_eq {a0 a1 : AV} {h : Heap} {K : Out → Heap → Bool} : evalS Tryz.prog (semCall Tryz.prog) (codeOf Tryz.f101) ⟨mkEnv [a0, a1], 20, [], h⟩ (leaveK Tryz.prog noD Tryz.f101.results.toList K) = (
bindO (lenS .slice a0 h) fun x0 =>
loopB (evalS Tryz.prog (semCall Tryz.prog) F.rules_Variables_1.L0) ⟨(setV (setV (setV (mkEnv [a0, a1]) 5 a0) 6 x0) 7 (.int .i64 0)), 20, [], h⟩ (F.rules_Variables_1.L0k K)) := by kernel_rfl
theorem F.rules_Variables_1_sem {a0 a1 : AV} {h : Heap} {K : Out → Heap → Bool} (hh : (
bindO (lenS .slice a0 h) fun x0 =>
loopB (evalS Tryz.prog (semCall Tryz.prog) F.rules_Variables_1.L0) ⟨(setV (setV (setV (mkEnv [a0, a1]) 5 a0) 6 x0) 7 (.int .i64 0)), 20, [], h⟩ (F.rules_Variables_1.L0k K)) = true) : Sem Tryz.prog 101 [a0, a1] h K :=
  sem_body mixed (noD_sound _) Tryz.func101 (c := codeOf Tryz.f101) rfl (by decide) (of_decide_eq_true (by kernel_rfl)) (F.rules_Variables_1_eq.trans hh)
theorem F.rules_atom_eq {a0 : AV} {h : Heap} {K : Out → Heap → Bool} : evalS Tryz.prog (semCall Tryz.prog) (codeOf Tryz.f61) ⟨mkEnv [a0], 18, [], h⟩ (leaveK Tryz.prog noD Tryz.f61.results.toList K) = (
bindO (boxS a0) fun c0 =>
bindO (faS 0 (.ptr (Heap.next h) 0)) fun x1 =>
bindO (loadS none x1 (Heap.alloc h (.cells c0))) fun x2 =>
semCall Tryz.prog 98 [x2] (Heap.alloc h (.cells c0)) (outK (fun x3 h4 =>
condB x3 (
bindO (faS 1 (.ptr (Heap.next h) 0)) fun x7 =>
bindO (loadS none x7 h4) fun x8 =>
bindO (lenS .slice x8 h4) fun x9 =>
bindO (binS .leq x9 (.int .i64 12)) fun x10 =>
condB x10 (
bindO (faS 1 (.ptr (Heap.next h) 0)) fun x11 =>
bindO (loadS none x11 h4) fun x12 =>
semCall Tryz.prog 99 [x12, (.func 100 [] [])] h4 (outK (fun x13 h14 =>
bindO (unS .not x13) fun x17 =>
K (.ret x17) h14) (fun v15 h16 => K (.panic v15) h16))) (
K (.ret (.bool false)) h4)) (
K (.ret (.bool false)) h4)) (fun v5 h6 => K (.panic v5) h6))) := by kernel_rfl
theorem F.rules_atom_sem {a0 : AV} {h : Heap} {K : Out → Heap → Bool} (hh : (
bindO (boxS a0) fun c0 =>
bindO (faS 0 (.ptr (Heap.next h) 0)) fun x1 =>
bindO (loadS none x1 (Heap.alloc h (.cells c0))) fun x2 =>
semCall Tryz.prog 98 [x2] (Heap.alloc h (.cells c0)) (outK (fun x3 h4 =>
condB x3 (
bindO (faS 1 (.ptr (Heap.next h) 0)) fun x7 =>
bindO (loadS none x7 h4) fun x8 =>
bindO (lenS .slice x8 h4) fun x9 =>
bindO (binS .leq x9 (.int .i64 12)) fun x10 =>
condB x10 (
bindO (faS 1 (.ptr (Heap.next h) 0)) fun x11 =>
bindO (loadS none x11 h4) fun x12 =>
semCall Tryz.prog 99 [x12, (.func 100 [] [])] h4 (outK (fun x13 h14 =>
bindO (unS .not x13) fun x17 =>
K (.ret x17) h14) (fun v15 h16 => K (.panic v15) h16))) (
K (.ret (.bool false)) h4)) (
K (.ret (.bool false)) h4)) (fun v5 h6 => K (.panic v5) h6))) = true) : Sem Tryz.prog 61 [a0] h K :=
  sem_body mixed (noD_sound _) Tryz.func61 (c := codeOf Tryz.f61) rfl (by decide) (of_decide_eq_true (by kernel_rfl)) (F.rules_atom_eq.trans hh)
theorem F.rules_program_arity_eq {a0 a1 : AV} {h : Heap} {K : Out → Heap → Bool} : evalS Tryz.prog (semCall Tryz.prog) (codeOf Tryz.f62) ⟨mkEnv [a0, a1], 35, [], h⟩ (leaveK Tryz.prog noD Tryz.f62.results.toList K) = (
bindO (boxS a1) fun c0 =>
bindO (nilCheckS a0) fun x1 =>
bindO (faS 1 x1) fun x2 =>
bindO (loadS none x2 (Heap.alloc h (.cells c0))) fun x3 =>
bindO (faS 0 (.ptr (Heap.next h) 0)) fun x4 =>
bindO (loadS none x4 (Heap.alloc h (.cells c0))) fun x5 =>
bindO (lookupS .string (.int .i64 0) true x3 x5 (Heap.alloc h (.cells c0))) fun x6 =>
bindO (extractS x6 0) fun x7 =>
bindO (extractS x6 1) fun x8 =>
bindO (nilCheckS a0) fun x9 =>
bindO (faS 1 x9) fun x10 =>
bindO (loadS none x10 (Heap.alloc h (.cells c0))) fun x11 =>
bindO (faS 0 (.ptr (Heap.next h) 0)) fun x12 =>
bindO (loadS none x12 (Heap.alloc h (.cells c0))) fun x13 =>
bindO (faS 1 (.ptr (Heap.next h) 0)) fun x14 =>
bindO (loadS none x14 (Heap.alloc h (.cells c0))) fun x15 =>
bindO (lenS .slice x15 (Heap.alloc h (.cells c0))) fun x16 =>
bindO (mapUpdateS .string x11 x13 x16 (Heap.alloc h (.cells c0))) fun h17 =>
bindO (unS .not x8) fun x18 =>
condB x18 (
K (.ret (.bool true)) h17) (
bindO (faS 1 (.ptr (Heap.next h) 0)) fun x19 =>
bindO (loadS none x19 h17) fun x20 =>
bindO (lenS .slice x20 h17) fun x21 =>
bindO (eqV (.int .i64) x7 x21) fun x22 =>
K (.ret x22) h17)) := by kernel_rfl
theorem F.rules_program_arity_sem {a0 a1 : AV} {h : Heap} {K : Out → Heap → Bool} (hh : (
bindO (boxS a1) fun c0 =>
bindO (nilCheckS a0) fun x1 =>
bindO (faS 1 x1) fun x2 =>
bindO (loadS none x2 (Heap.alloc h (.cells c0))) fun x3 =>
bindO (faS 0 (.ptr (Heap.next h) 0)) fun x4 =>
bindO (loadS none x4 (Heap.alloc h (.cells c0))) fun x5 =>
bindO (lookupS .string (.int .i64 0) true x3 x5 (Heap.alloc h (.cells c0))) fun x6 =>
bindO (extractS x6 0) fun x7 =>
bindO (extractS x6 1) fun x8 =>
bindO (nilCheckS a0) fun x9 =>
bindO (faS 1 x9) fun x10 =>
bindO (loadS none x10 (Heap.alloc h (.cells c0))) fun x11 =>
bindO (faS 0 (.ptr (Heap.next h) 0)) fun x12 =>
bindO (loadS none x12 (Heap.alloc h (.cells c0))) fun x13 =>
bindO (faS 1 (.ptr (Heap.next h) 0)) fun x14 =>
bindO (loadS none x14 (Heap.alloc h (.cells c0))) fun x15 =>
bindO (lenS .slice x15 (Heap.alloc h (.cells c0))) fun x16 =>
bindO (mapUpdateS .string x11 x13 x16 (Heap.alloc h (.cells c0))) fun h17 =>
bindO (unS .not x8) fun x18 =>
condB x18 (
K (.ret (.bool true)) h17) (
bindO (faS 1 (.ptr (Heap.next h) 0)) fun x19 =>
bindO (loadS none x19 h17) fun x20 =>
bindO (lenS .slice x20 h17) fun x21 =>
bindO (eqV (.int .i64) x7 x21) fun x22 =>
K (.ret x22) h17)) = true) : Sem Tryz.prog 62 [a0, a1] h K :=
  sem_body mixed (noD_sound _) Tryz.func62 (c := codeOf Tryz.f62) rfl (by decide) (of_decide_eq_true (by kernel_rfl)) (F.rules_program_arity_eq.trans hh)
noncomputable def F.rules_Variables.L0 : Code := partOf (codeOf Tryz.f63) [1, 1, 1, 1, 0, 1, 0, 0]
noncomputable def F.rules_Variables.L0k (K : Out → Heap → Bool) : AX → St → Bool := (blockK 0 (seqK false (evalS Tryz.prog (semCall Tryz.prog) (partOf (codeOf Tryz.f63) [1, 1, 1, 1, 1])) (leaveK Tryz.prog noD Tryz.f63.results.toList K)))
theorem F.rules_Variables.L0_eq {e : Env} {h : Heap} {K : AX → St → Bool} : evalS Tryz.prog (semCall Tryz.prog) F.rules_Variables.L0 ⟨e, 27, [], h⟩ K = (
bindO (binS .lss (e 16) (e 15)) fun x11 =>
condB x11 (
bindO (iaS 4 (e 14) (e 16)) fun x12 =>
bindO (loadS (some 4) x12 h) fun x13 =>
bindO (storeS 4 (.ptr (Heap.next h) 0) x13 (Heap.alloc h (.cells [(.int .i64 0), (.bool false), (.str []), .nils]))) fun h14 =>
bindO (faS 2 (.ptr (Heap.next h) 0)) fun x15 =>
bindO (faS 1 x15) fun x16 =>
bindO (loadS none x16 h14) fun x17 =>
callV (e 4) fun f23 a24 a25 => semCall Tryz.prog f23 (a24 ++ ([x17] ++ a25)) h14 (outK (fun x18 h19 =>
bindO (binS .add (e 16) (.int .i64 1)) fun x22 =>
K .normal ⟨(setV (setV (setV (setV (setV (setV (setV (setV (setV (setV (setV e 17 x11) 18 x12) 19 x13) 6 (.ptr (Heap.next h) 0)) 20 (e 4)) 21 x15) 22 x16) 23 x17) 24 x18) 25 x22) 16 x22), 27, [], h19⟩) (fun v20 h21 => K (.panic v20) ⟨(setV (setV (setV (setV (setV (setV (setV (setV e 17 x11) 18 x12) 19 x13) 6 (.ptr (Heap.next h) 0)) 20 (e 4)) 21 x15) 22 x16) 23 x17), 27, [], h21⟩))) (
K (.exit 0) ⟨(setV e 17 x11), 27, [], h⟩)) := by kernel_rfl
theorem F.rules_Variables.L0_x0_eq {e : Env} {h : Heap} {K : Out → Heap → Bool} : F.rules_Variables.L0k K (.exit 0) ⟨e, 27, [], h⟩ = (
bindO (loadS none (e 3) h) fun x26 =>
K (.ret x26) h) := by kernel_rfl
theorem F.rules_Variables_eq {a0 : AV} {h : Heap} {K : Out → Heap → Bool} : evalS Tryz.prog (semCall Tryz.prog) (codeOf Tryz.f63) ⟨mkEnv [a0], 27, [], h⟩ (leaveK Tryz.prog noD Tryz.f63.results.toList K) = (
bindO (boxS a0) fun c0 =>
bindO (faS 0 (.ptr (Heap.next h) 0)) fun x1 =>
bindO (faS 1 x1) fun x2 =>
bindO (loadS none x2 (Heap.alloc (Heap.alloc h (.cells c0)) (.cells [.nils]))) fun x3 =>
semCall Tryz.prog 101 [x3, (.ptr (Heap.next (Heap.alloc h (.cells c0))) 0)] (Heap.alloc (Heap.alloc h (.cells c0)) (.cells [.nils])) (outK (fun x4 h5 =>
bindO (faS 2 (.ptr (Heap.next h) 0)) fun x8 =>
bindO (loadS none x8 h5) fun x9 =>
bindO (lenS .slice x9 h5) fun x10 =>
loopB (evalS Tryz.prog (semCall Tryz.prog) F.rules_Variables.L0) ⟨(setV (setV (setV (setV (setV (setV (setV (setV (setV (setV (setV (setV (setV (setV (mkEnv [a0]) 1 (.ptr (Heap.next h) 0)) 2 .nils) 3 (.ptr (Heap.next (Heap.alloc h (.cells c0))) 0)) 7 (.func 101 [] [(.ptr (Heap.next (Heap.alloc h (.cells c0))) 0)])) 4 (.func 101 [] [(.ptr (Heap.next (Heap.alloc h (.cells c0))) 0)])) 8 (.func 101 [] [(.ptr (Heap.next (Heap.alloc h (.cells c0))) 0)])) 9 x1) 10 x2) 11 x3) 12 x4) 13 x8) 14 x9) 15 x10) 16 (.int .i64 0)), 27, [], h5⟩ (F.rules_Variables.L0k K)) (fun v6 h7 => K (.panic v6) h7))) := by kernel_rfl
theorem F.rules_Variables_sem {a0 : AV} {h : Heap} {K : Out → Heap → Bool} (hh : (
bindO (boxS a0) fun c0 =>
bindO (faS 0 (.ptr (Heap.next h) 0)) fun x1 =>
bindO (faS 1 x1) fun x2 =>
bindO (loadS none x2 (Heap.alloc (Heap.alloc h (.cells c0)) (.cells [.nils]))) fun x3 =>
semCall Tryz.prog 101 [x3, (.ptr (Heap.next (Heap.alloc h (.cells c0))) 0)] (Heap.alloc (Heap.alloc h (.cells c0)) (.cells [.nils])) (outK (fun x4 h5 =>
bindO (faS 2 (.ptr (Heap.next h) 0)) fun x8 =>
bindO (loadS none x8 h5) fun x9 =>
bindO (lenS .slice x9 h5) fun x10 =>
loopB (evalS Tryz.prog (semCall Tryz.prog) F.rules_Variables.L0) ⟨(setV (setV (setV (setV (setV (setV (setV (setV (setV (setV (setV (setV (setV (setV (mkEnv [a0]) 1 (.ptr (Heap.next h) 0)) 2 .nils) 3 (.ptr (Heap.next (Heap.alloc h (.cells c0))) 0)) 7 (.func 101 [] [(.ptr (Heap.next (Heap.alloc h (.cells c0))) 0)])) 4 (.func 101 [] [(.ptr (Heap.next (Heap.alloc h (.cells c0))) 0)])) 8 (.func 101 [] [(.ptr (Heap.next (Heap.alloc h (.cells c0))) 0)])) 9 x1) 10 x2) 11 x3) 12 x4) 13 x8) 14 x9) 15 x10) 16 (.int .i64 0)), 27, [], h5⟩ (F.rules_Variables.L0k K)) (fun v6 h7 => K (.panic v6) h7))) = true) : Sem Tryz.prog 63 [a0] h K :=
  sem_body mixed (noD_sound _) Tryz.func63 (c := codeOf Tryz.f63) rfl (by decide) (of_decide_eq_true (by kernel_rfl)) (F.rules_Variables_eq.trans hh)
noncomputable def F.rules_condition.J0 (K : Out → Heap → Bool) (s : St) : Bool := runB (evalS Tryz.prog (semCall Tryz.prog) (partOf (codeOf Tryz.f64) [1, 0, 1, 0, 1, 1, 1])) s (blockK 0 (seqK false (evalS Tryz.prog (semCall Tryz.prog) (partOf (codeOf Tryz.f64) [1, 1])) (leaveK Tryz.prog noD Tryz.f64.results.toList K)))
theorem F.rules_condition.J0_eq {e : Env} {h : Heap} {K : Out → Heap → Bool} : F.rules_condition.J0 K ⟨e, 40, [], h⟩ = (
condB (e 10) (
bindO (faS 2 (e 1)) fun x12 =>
bindO (faS 0 x12) fun x13 =>
bindO (loadS none x13 h) fun x14 =>
bindO (eqV .string x14 (.str [])) fun x15 =>
condB x15 (
bindO (faS 2 (e 1)) fun x16 =>
bindO (faS 1 x16) fun x17 =>
bindO (loadS none x17 h) fun x18 =>
bindO (lenS .slice x18 h) fun x19 =>
bindO (eqV (.int .i64) x19 (.int .i64 2)) fun x20 =>
condB x20 (
bindO (faS 2 (e 1)) fun x21 =>
bindO (faS 1 x21) fun x22 =>
bindO (loadS none x22 h) fun x23 =>
bindO (iaS 1 x23 (.int .i64 0)) fun x24 =>
bindO (loadS none x24 h) fun x25 =>
semCall Tryz.prog 98 [x25] h (outK (fun x26 h27 =>
condB x26 (
bindO (faS 2 (e 1)) fun x30 =>
bindO (faS 1 x30) fun x31 =>
bindO (loadS none x31 h27) fun x32 =>
bindO (iaS 1 x32 (.int .i64 1)) fun x33 =>
bindO (loadS none x33 h27) fun x34 =>
semCall Tryz.prog 98 [x34] h27 (outK (fun x35 h36 =>
K (.ret x35) h36) (fun v37 h38 => K (.panic v37) h38))) (
K (.ret (.bool false)) h27)) (fun v28 h29 => K (.panic v28) h29))) (
K (.ret (.bool false)) h)) (
K (.ret (.bool false)) h)) (
K (.ret (.bool false)) h)) := (runB_eq _ _ _).trans (by kernel_rfl)
theorem F.rules_condition_eq {a0 : AV} {h : Heap} {K : Out → Heap → Bool} : evalS Tryz.prog (semCall Tryz.prog) (codeOf Tryz.f64) ⟨mkEnv [a0], 40, [], h⟩ (leaveK Tryz.prog noD Tryz.f64.results.toList K) = (
bindO (boxS a0) fun c0 =>
bindO (faS 0 (.ptr (Heap.next h) 0)) fun x1 =>
bindO (loadS none x1 (Heap.alloc h (.cells c0))) fun x2 =>
bindO (eqV (.int .i64) x2 (.int .i64 0)) fun x3 =>
condB x3 (
bindO (faS 2 (.ptr (Heap.next h) 0)) fun x4 =>
bindO (loadS (some 2) x4 (Heap.alloc h (.cells c0))) fun x5 =>
semCall Tryz.prog 61 [x5] (Heap.alloc h (.cells c0)) (outK (fun x6 h7 =>
K (.ret x6) h7) (fun v8 h9 => K (.panic v8) h9))) (
bindO (eqV (.int .i64) x2 (.int .i64 1)) fun x10 =>
condB x10 (
F.rules_condition.J0 K ⟨(setV (setV (setV (setV (setV (setV (setV (setV (mkEnv [a0]) 1 (.ptr (Heap.next h) 0)) 2 (.bool false)) 3 x1) 4 x2) 6 x3) 5 x3) 11 x10) 10 x10), 40, [], (Heap.alloc h (.cells c0))⟩) (
bindO (eqV (.int .i64) x2 (.int .i64 2)) fun x11 =>
F.rules_condition.J0 K ⟨(setV (setV (setV (setV (setV (setV (setV (setV (setV (setV (mkEnv [a0]) 1 (.ptr (Heap.next h) 0)) 2 (.bool false)) 3 x1) 4 x2) 6 x3) 5 x3) 11 x10) 10 x10) 12 x11) 10 x11), 40, [], (Heap.alloc h (.cells c0))⟩))) := by kernel_rfl
theorem F.rules_condition_sem {a0 : AV} {h : Heap} {K : Out → Heap → Bool} (hh : (
bindO (boxS a0) fun c0 =>
bindO (faS 0 (.ptr (Heap.next h) 0)) fun x1 =>
bindO (loadS none x1 (Heap.alloc h (.cells c0))) fun x2 =>
bindO (eqV (.int .i64) x2 (.int .i64 0)) fun x3 =>
condB x3 (
bindO (faS 2 (.ptr (Heap.next h) 0)) fun x4 =>
bindO (loadS (some 2) x4 (Heap.alloc h (.cells c0))) fun x5 =>
semCall Tryz.prog 61 [x5] (Heap.alloc h (.cells c0)) (outK (fun x6 h7 =>
K (.ret x6) h7) (fun v8 h9 => K (.panic v8) h9))) (
bindO (eqV (.int .i64) x2 (.int .i64 1)) fun x10 =>
condB x10 (
F.rules_condition.J0 K ⟨(setV (setV (setV (setV (setV (setV (setV (setV (mkEnv [a0]) 1 (.ptr (Heap.next h) 0)) 2 (.bool false)) 3 x1) 4 x2) 6 x3) 5 x3) 11 x10) 10 x10), 40, [], (Heap.alloc h (.cells c0))⟩) (
bindO (eqV (.int .i64) x2 (.int .i64 2)) fun x11 =>
F.rules_condition.J0 K ⟨(setV (setV (setV (setV (setV (setV (setV (setV (setV (setV (mkEnv [a0]) 1 (.ptr (Heap.next h) 0)) 2 (.bool false)) 3 x1) 4 x2) 6 x3) 5 x3) 11 x10) 10 x10) 12 x11) 10 x11), 40, [], (Heap.alloc h (.cells c0))⟩))) = true) : Sem Tryz.prog 64 [a0] h K :=
  sem_body mixed (noD_sound _) Tryz.func64 (c := codeOf Tryz.f64) rfl (by decide) (of_decide_eq_true (by kernel_rfl)) (F.rules_condition_eq.trans hh)
noncomputable def F.ref02_SameNames.L0 : Code := partOf (codeOf Tryz.f10) [1, 1, 0, 1, 0, 0]
noncomputable def F.ref02_SameNames.L0k (K : Out → Heap → Bool) : AX → St → Bool := (blockK 0 (seqK false (evalS Tryz.prog (semCall Tryz.prog) (partOf (codeOf Tryz.f10) [1, 1, 1])) (leaveK Tryz.prog noD Tryz.f10.results.toList K)))
theorem F.ref02_SameNames.L0_eq {e : Env} {h : Heap} {K : AX → St → Bool} : evalS Tryz.prog (semCall Tryz.prog) F.ref02_SameNames.L0 ⟨e, 26, [], h⟩ K = (
bindO (lenS .slice (e 0) h) fun x3 =>
bindO (binS .lss (e 5) x3) fun x4 =>
condB x4 (
bindO (iaS 1 (e 0) (e 5)) fun x5 =>
bindO (loadS none x5 h) fun x6 =>
bindO (iaS 1 (e 1) (e 5)) fun x7 =>
bindO (loadS none x7 h) fun x8 =>
bindO (neV .string x6 x8) fun x9 =>
condB x9 (
K .ret ⟨(setV (setV (setV (setV (setV (setV (setV (setV (setV (setV (setV (setV (setV (setV e 11 (e 5)) 12 (e 0)) 13 x3) 14 x4) 17 (e 0)) 18 (e 5)) 19 x5) 20 x6) 21 (e 1)) 22 (e 5)) 23 x7) 24 x8) 25 x9) 4 (.bool false)), 26, [], h⟩) (
bindO (binS .add (e 5) (.int .i64 1)) fun x10 =>
K .normal ⟨(setV (setV (setV (setV (setV (setV (setV (setV (setV (setV (setV (setV (setV (setV (setV (setV e 11 (e 5)) 12 (e 0)) 13 x3) 14 x4) 17 (e 0)) 18 (e 5)) 19 x5) 20 x6) 21 (e 1)) 22 (e 5)) 23 x7) 24 x8) 25 x9) 15 (e 5)) 16 x10) 5 x10), 26, [], h⟩)) (
K (.exit 0) ⟨(setV (setV (setV (setV e 11 (e 5)) 12 (e 0)) 13 x3) 14 x4), 26, [], h⟩)) := by kernel_rfl
theorem F.ref02_SameNames.L0_x0_eq {e : Env} {h : Heap} {K : Out → Heap → Bool} : F.ref02_SameNames.L0k K (.exit 0) ⟨e, 26, [], h⟩ = (
K (.ret (.bool true)) h) := by kernel_rfl
theorem F.ref02_SameNames.L0_r_eq {e : Env} {h : Heap} {K : Out → Heap → Bool} : F.ref02_SameNames.L0k K .ret ⟨e, 26, [], h⟩ = (
K (.ret (e 4)) h) := by kernel_rfl
theorem F.ref02_SameNames_eq {a0 a1 : AV} {h : Heap} {K : Out → Heap → Bool} : evalS Tryz.prog (semCall Tryz.prog) (codeOf Tryz.f10) ⟨mkEnv [a0, a1], 26, [], h⟩ (leaveK Tryz.prog noD Tryz.f10.results.toList K) = (
bindO (lenS .slice a0 h) fun x0 =>
bindO (lenS .slice a1 h) fun x1 =>
bindO (neV (.int .i64) x0 x1) fun x2 =>
condB x2 (
K (.ret (.bool false)) h) (
loopB (evalS Tryz.prog (semCall Tryz.prog) F.ref02_SameNames.L0) ⟨(setV (setV (setV (setV (setV (setV (setV (mkEnv [a0, a1]) 4 (.bool false)) 6 a0) 7 x0) 8 a1) 9 x1) 10 x2) 5 (.int .i64 0)), 26, [], h⟩ (F.ref02_SameNames.L0k K))) := by kernel_rfl
theorem F.ref02_SameNames_sem {a0 a1 : AV} {h : Heap} {K : Out → Heap → Bool} (hh : (
bindO (lenS .slice a0 h) fun x0 =>
bindO (lenS .slice a1 h) fun x1 =>
bindO (neV (.int .i64) x0 x1) fun x2 =>
condB x2 (
K (.ret (.bool false)) h) (
loopB (evalS Tryz.prog (semCall Tryz.prog) F.ref02_SameNames.L0) ⟨(setV (setV (setV (setV (setV (setV (setV (mkEnv [a0, a1]) 4 (.bool false)) 6 a0) 7 x0) 8 a1) 9 x1) 10 x2) 5 (.int .i64 0)), 26, [], h⟩ (F.ref02_SameNames.L0k K))) = true) : Sem Tryz.prog 10 [a0, a1] h K :=
  sem_body mixed (noD_sound _) Tryz.func10 (c := codeOf Tryz.f10) rfl (by decide) (of_decide_eq_true (by kernel_rfl)) (F.ref02_SameNames_eq.trans hh)
noncomputable def F.ref07_Variables.L0 : Code := partOf (codeOf Tryz.f71) [1, 1, 0, 1, 0, 0]
noncomputable def F.ref07_Variables.L0k (K : Out → Heap → Bool) : AX → St → Bool := (blockK 0 (seqK false (evalS Tryz.prog (semCall Tryz.prog) (partOf (codeOf Tryz.f71) [1, 1, 1])) (leaveK Tryz.prog noD Tryz.f71.results.toList K)))
noncomputable def F.ref07_Variables.L1 : Code := partOf (codeOf Tryz.f71) [1, 1, 1, 1, 0, 1, 0, 0]
noncomputable def F.ref07_Variables.L1k (K : Out → Heap → Bool) : AX → St → Bool := (blockK 2 (seqK false (evalS Tryz.prog (semCall Tryz.prog) (partOf (codeOf Tryz.f71) [1, 1, 1, 1, 1])) (leaveK Tryz.prog noD Tryz.f71.results.toList K)))
theorem F.ref07_Variables.L0_eq {e : Env} {h : Heap} {K : AX → St → Bool} : evalS Tryz.prog (semCall Tryz.prog) F.ref07_Variables.L0 ⟨e, 49, [], h⟩ K = (
bindO (faS 2 (e 1)) fun x7 =>
bindO (loadS none x7 h) fun x8 =>
bindO (lenS .slice x8 h) fun x9 =>
bindO (binS .lss (e 4) x9) fun x10 =>
condB x10 (
bindO (faS 2 (e 1)) fun x11 =>
bindO (loadS none x11 h) fun x12 =>
bindO (iaS 4 x12 (e 4)) fun x13 =>
bindO (faS 2 x13) fun x14 =>
bindO (faS 1 x14) fun x15 =>
bindO (loadS none x15 h) fun x16 =>
bindO2 (appendS 1 16 (e 3) x16 h) fun x17 h18 =>
bindO (binS .add (e 4) (.int .i64 1)) fun x19 =>
K .normal ⟨(setV (setV (setV (setV (setV (setV (setV (setV (setV (setV (setV (setV (setV (setV (setV (setV (setV (setV e 12 (e 4)) 13 x7) 14 x8) 15 x9) 16 x10) 19 (e 3)) 20 x11) 21 x12) 22 (e 4)) 23 x13) 24 x14) 25 x15) 26 x16) 27 x17) 3 x17) 17 (e 4)) 18 x19) 4 x19), 49, [], h18⟩) (
K (.exit 0) ⟨(setV (setV (setV (setV (setV e 12 (e 4)) 13 x7) 14 x8) 15 x9) 16 x10), 49, [], h⟩)) := by kernel_rfl
theorem F.ref07_Variables.L0_x0_eq {e : Env} {h : Heap} {K : Out → Heap → Bool} : F.ref07_Variables.L0k K (.exit 0) ⟨e, 49, [], h⟩ = (
loopB (evalS Tryz.prog (semCall Tryz.prog) F.ref07_Variables.L1) ⟨(setV (setV e 5 .nils) 6 (.int .i64 0)), 49, [], h⟩ (F.ref07_Variables.L1k K)) := by kernel_rfl
theorem F.ref07_Variables.L1_eq {e : Env} {h : Heap} {K : AX → St → Bool} : evalS Tryz.prog (semCall Tryz.prog) F.ref07_Variables.L1 ⟨e, 49, [], h⟩ K = (
bindO (lenS .slice (e 3) h) fun x20 =>
bindO (binS .lss (e 6) x20) fun x21 =>
condB x21 (
bindO (iaS 1 (e 3) (e 6)) fun x22 =>
bindO (loadS none x22 h) fun x23 =>
semCall Tryz.prog 109 [(e 5), x23] h (outK (fun x24 h25 =>
bindO (unS .not x24) fun x28 =>
condB x28 (
bindO (iaS 1 (e 3) (e 6)) fun x29 =>
bindO (loadS none x29 h25) fun x30 =>
bindO (rowS [(.str [])] [(0, 1)] [x30]) fun c31 =>
bindO2 (appendS 1 16 (e 5) (.slice (Heap.next h25) 0 1 1) (Heap.alloc h25 (.cells c31))) fun x32 h33 =>
bindO (binS .add (e 6) (.int .i64 1)) fun x34 =>
K .normal ⟨(setV (setV (setV (setV (setV (setV (setV (setV (setV (setV (setV (setV (setV (setV (setV (setV (setV (setV (setV (setV (setV (setV e 28 (e 6)) 29 (e 3)) 30 x20) 31 x21) 34 (e 5)) 35 (e 3)) 36 (e 6)) 37 x22) 38 x23) 39 x24) 40 x28) 41 (e 5)) 42 (e 3)) 43 (e 6)) 44 x29) 45 x30) 46 (.slice (Heap.next h25) 0 1 1)) 47 x32) 5 x32) 32 (e 6)) 33 x34) 6 x34), 49, [], h33⟩) (
bindO (binS .add (e 6) (.int .i64 1)) fun x35 =>
K .normal ⟨(setV (setV (setV (setV (setV (setV (setV (setV (setV (setV (setV (setV (setV (setV e 28 (e 6)) 29 (e 3)) 30 x20) 31 x21) 34 (e 5)) 35 (e 3)) 36 (e 6)) 37 x22) 38 x23) 39 x24) 40 x28) 32 (e 6)) 33 x35) 6 x35), 49, [], h25⟩)) (fun v26 h27 => K (.panic v26) ⟨(setV (setV (setV (setV (setV (setV (setV (setV (setV e 28 (e 6)) 29 (e 3)) 30 x20) 31 x21) 34 (e 5)) 35 (e 3)) 36 (e 6)) 37 x22) 38 x23), 49, [], h27⟩))) (
K (.exit 2) ⟨(setV (setV (setV (setV e 28 (e 6)) 29 (e 3)) 30 x20) 31 x21), 49, [], h⟩)) := by kernel_rfl
theorem F.ref07_Variables.L1_x2_eq {e : Env} {h : Heap} {K : Out → Heap → Bool} : F.ref07_Variables.L1k K (.exit 2) ⟨e, 49, [], h⟩ = (
K (.ret (e 5)) h) := by kernel_rfl
theorem F.ref07_Variables_eq {a0 : AV} {h : Heap} {K : Out → Heap → Bool} : evalS Tryz.prog (semCall Tryz.prog) (codeOf Tryz.f71) ⟨mkEnv [a0], 49, [], h⟩ (leaveK Tryz.prog noD Tryz.f71.results.toList K) = (
bindO (boxS a0) fun c0 =>
bindO (rowS [] [] []) fun c1 =>
bindO (faS 0 (.ptr (Heap.next h) 0)) fun x2 =>
bindO (faS 1 x2) fun x3 =>
bindO (loadS none x3 (Heap.alloc (Heap.alloc h (.cells c0)) (.cells c1))) fun x4 =>
bindO2 (appendS 1 16 (.slice (Heap.next (Heap.alloc h (.cells c0))) 0 0 1) x4 (Heap.alloc (Heap.alloc h (.cells c0)) (.cells c1))) fun x5 h6 =>
loopB (evalS Tryz.prog (semCall Tryz.prog) F.ref07_Variables.L0) ⟨(setV (setV (setV (setV (setV (setV (setV (setV (setV (mkEnv [a0]) 1 (.ptr (Heap.next h) 0)) 2 .nils) 7 (.slice (Heap.next (Heap.alloc h (.cells c0))) 0 0 1)) 8 x2) 9 x3) 10 x4) 11 x5) 3 x5) 4 (.int .i64 0)), 49, [], h6⟩ (F.ref07_Variables.L0k K)) := by kernel_rfl
theorem F.ref07_Variables_sem {a0 : AV} {h : Heap} {K : Out → Heap → Bool} (hh : (
bindO (boxS a0) fun c0 =>
bindO (rowS [] [] []) fun c1 =>
bindO (faS 0 (.ptr (Heap.next h) 0)) fun x2 =>
bindO (faS 1 x2) fun x3 =>
bindO (loadS none x3 (Heap.alloc (Heap.alloc h (.cells c0)) (.cells c1))) fun x4 =>
bindO2 (appendS 1 16 (.slice (Heap.next (Heap.alloc h (.cells c0))) 0 0 1) x4 (Heap.alloc (Heap.alloc h (.cells c0)) (.cells c1))) fun x5 h6 =>
loopB (evalS Tryz.prog (semCall Tryz.prog) F.ref07_Variables.L0) ⟨(setV (setV (setV (setV (setV (setV (setV (setV (setV (mkEnv [a0]) 1 (.ptr (Heap.next h) 0)) 2 .nils) 7 (.slice (Heap.next (Heap.alloc h (.cells c0))) 0 0 1)) 8 x2) 9 x3) 10 x4) 11 x5) 3 x5) 4 (.int .i64 0)), 49, [], h6⟩ (F.ref07_Variables.L0k K)) = true) : Sem Tryz.prog 71 [a0] h K :=
  sem_body mixed (noD_sound _) Tryz.func71 (c := codeOf Tryz.f71) rfl (by decide) (of_decide_eq_true (by kernel_rfl)) (F.ref07_Variables_eq.trans hh)
noncomputable def F.ref07_rule.L0 : Code := partOf (codeOf Tryz.f28) [1, 1, 0, 1, 0, 0]
noncomputable def F.ref07_rule.L0k (K : Out → Heap → Bool) : AX → St → Bool := (blockK 0 (seqK false (evalS Tryz.prog (semCall Tryz.prog) (partOf (codeOf Tryz.f28) [1, 1, 1])) (leaveK Tryz.prog noD Tryz.f28.results.toList K)))
noncomputable def F.ref07_rule.J0 (K : AX → St → Bool) (s : St) : Bool := runB (evalS Tryz.prog (semCall Tryz.prog) (partOf (codeOf Tryz.f28) [1, 1, 0, 1, 0, 0, 1, 0, 0, 1, 0, 1, 0, 1, 1, 1])) s (blockK 2 (seqK false (evalS Tryz.prog (semCall Tryz.prog) (partOf (codeOf Tryz.f28) [1, 1, 0, 1, 0, 0, 1, 0, 0, 1, 1])) (blockK 1 (seqK false (evalS Tryz.prog (semCall Tryz.prog) (partOf (codeOf Tryz.f28) [1, 1, 0, 1, 0, 0, 1, 1])) K))))
theorem F.ref07_rule.L0_eq {e : Env} {h : Heap} {K : AX → St → Bool} : evalS Tryz.prog (semCall Tryz.prog) F.ref07_rule.L0 ⟨e, 67, [], h⟩ K = (
bindO (faS 2 (e 1)) fun x21 =>
bindO (loadS none x21 h) fun x22 =>
bindO (lenS .slice x22 h) fun x23 =>
bindO (binS .lss (e 3) x23) fun x24 =>
condB x24 (
bindO (faS 2 (e 1)) fun x25 =>
bindO (loadS none x25 h) fun x26 =>
bindO (iaS 4 x26 (e 3)) fun x27 =>
bindO (loadS (some 4) x27 h) fun x28 =>
bindO (storeS 4 (.ptr (Heap.next h) 0) x28 (Heap.alloc h (.cells [(.int .i64 0), (.bool false), (.str []), .nils]))) fun h29 =>
bindO (faS 0 (.ptr (Heap.next h) 0)) fun x30 =>
bindO (loadS none x30 h29) fun x31 =>
bindO (eqV (.int .i64) x31 (.int .i64 0)) fun x32 =>
condB x32 (
bindO (faS 2 (.ptr (Heap.next h) 0)) fun x33 =>
bindO (faS 0 x33) fun x34 =>
bindO (loadS none x34 h29) fun x35 =>
semCall Tryz.prog 69 [x35] h29 (outK (fun x36 h37 =>
bindO (unS .not x36) fun x40 =>
condB x40 (
K .ret ⟨(setV (setV (setV (setV (setV (setV (setV (setV (setV (setV (setV (setV (setV (setV (setV (setV (setV (setV (setV (setV (setV e 23 (e 3)) 24 x21) 25 x22) 26 x23) 27 x24) 30 x25) 31 x26) 32 (e 3)) 33 x27) 34 x28) 4 (.ptr (Heap.next h) 0)) 35 x30) 36 x31) 38 x32) 37 x32) 39 x33) 40 x34) 41 x35) 42 x36) 43 x40) 2 (.bool false)), 67, [], h37⟩) (
bindO (faS 2 (.ptr (Heap.next h) 0)) fun x41 =>
bindO (faS 1 x41) fun x42 =>
bindO (loadS none x42 h37) fun x43 =>
semCall Tryz.prog 70 [x43] h37 (outK (fun x44 h45 =>
bindO (unS .not x44) fun x48 =>
condB x48 (
K .ret ⟨(setV (setV (setV (setV (setV (setV (setV (setV (setV (setV (setV (setV (setV (setV (setV (setV (setV (setV (setV (setV (setV (setV (setV (setV (setV (setV e 23 (e 3)) 24 x21) 25 x22) 26 x23) 27 x24) 30 x25) 31 x26) 32 (e 3)) 33 x27) 34 x28) 4 (.ptr (Heap.next h) 0)) 35 x30) 36 x31) 38 x32) 37 x32) 39 x33) 40 x34) 41 x35) 42 x36) 43 x40) 58 x41) 59 x42) 60 x43) 61 x44) 62 x48) 2 (.bool false)), 67, [], h45⟩) (
bindO (binS .add (e 3) (.int .i64 1)) fun x49 =>
K .normal ⟨(setV (setV (setV (setV (setV (setV (setV (setV (setV (setV (setV (setV (setV (setV (setV (setV (setV (setV (setV (setV (setV (setV (setV (setV (setV (setV (setV (setV e 23 (e 3)) 24 x21) 25 x22) 26 x23) 27 x24) 30 x25) 31 x26) 32 (e 3)) 33 x27) 34 x28) 4 (.ptr (Heap.next h) 0)) 35 x30) 36 x31) 38 x32) 37 x32) 39 x33) 40 x34) 41 x35) 42 x36) 43 x40) 58 x41) 59 x42) 60 x43) 61 x44) 62 x48) 28 (e 3)) 29 x49) 3 x49), 67, [], h45⟩)) (fun v46 h47 => K (.panic v46) ⟨(setV (setV (setV (setV (setV (setV (setV (setV (setV (setV (setV (setV (setV (setV (setV (setV (setV (setV (setV (setV (setV (setV (setV e 23 (e 3)) 24 x21) 25 x22) 26 x23) 27 x24) 30 x25) 31 x26) 32 (e 3)) 33 x27) 34 x28) 4 (.ptr (Heap.next h) 0)) 35 x30) 36 x31) 38 x32) 37 x32) 39 x33) 40 x34) 41 x35) 42 x36) 43 x40) 58 x41) 59 x42) 60 x43), 67, [], h47⟩)))) (fun v38 h39 => K (.panic v38) ⟨(setV (setV (setV (setV (setV (setV (setV (setV (setV (setV (setV (setV (setV (setV (setV (setV (setV (setV e 23 (e 3)) 24 x21) 25 x22) 26 x23) 27 x24) 30 x25) 31 x26) 32 (e 3)) 33 x27) 34 x28) 4 (.ptr (Heap.next h) 0)) 35 x30) 36 x31) 38 x32) 37 x32) 39 x33) 40 x34) 41 x35), 67, [], h39⟩))) (
bindO (eqV (.int .i64) x31 (.int .i64 1)) fun x50 =>
condB x50 (
F.ref07_rule.J0 K ⟨(setV (setV (setV (setV (setV (setV (setV (setV (setV (setV (setV (setV (setV (setV (setV (setV (setV e 23 (e 3)) 24 x21) 25 x22) 26 x23) 27 x24) 30 x25) 31 x26) 32 (e 3)) 33 x27) 34 x28) 4 (.ptr (Heap.next h) 0)) 35 x30) 36 x31) 38 x32) 37 x32) 45 x50) 44 x50), 67, [], h29⟩) (
bindO (eqV (.int .i64) x31 (.int .i64 2)) fun x51 =>
F.ref07_rule.J0 K ⟨(setV (setV (setV (setV (setV (setV (setV (setV (setV (setV (setV (setV (setV (setV (setV (setV (setV (setV (setV e 23 (e 3)) 24 x21) 25 x22) 26 x23) 27 x24) 30 x25) 31 x26) 32 (e 3)) 33 x27) 34 x28) 4 (.ptr (Heap.next h) 0)) 35 x30) 36 x31) 38 x32) 37 x32) 45 x50) 44 x50) 46 x51) 44 x51), 67, [], h29⟩))) (
K (.exit 0) ⟨(setV (setV (setV (setV (setV e 23 (e 3)) 24 x21) 25 x22) 26 x23) 27 x24), 67, [], h⟩)) := by kernel_rfl
theorem F.ref07_rule.L0_x0_eq {e : Env} {h : Heap} {K : Out → Heap → Bool} : F.ref07_rule.L0k K (.exit 0) ⟨e, 67, [], h⟩ = (
bindO (loadS (some 3) (e 1) h) fun x52 =>
semCall Tryz.prog 71 [x52] h (outK (fun x53 h54 =>
bindO (lenS .slice x53 h54) fun x57 =>
bindO (binS .leq x57 (.int .i64 12)) fun x58 =>
K (.ret x58) h54) (fun v55 h56 => K (.panic v55) h56))) := by kernel_rfl
theorem F.ref07_rule.L0_r_eq {e : Env} {h : Heap} {K : Out → Heap → Bool} : F.ref07_rule.L0k K .ret ⟨e, 67, [], h⟩ = (
K (.ret (e 2)) h) := by kernel_rfl
theorem F.ref07_rule.J0_eq {e : Env} {h : Heap} {K : AX → St → Bool} : F.ref07_rule.J0 K ⟨e, 67, [], h⟩ = (
condB (e 44) (
bindO (faS 2 (e 4)) fun x59 =>
bindO (faS 0 x59) fun x60 =>
bindO (loadS none x60 h) fun x61 =>
bindO (neV .string x61 (.str [])) fun x62 =>
condB x62 (
K .ret ⟨(setV (setV (setV (setV (setV (setV (setV (setV (setV (setV (setV (setV (setV (setV (setV (setV (setV e 47 x59) 48 x60) 49 x61) 50 x62) 51 x62) 51 (.bool true)) 52 noV) 51 (.bool true)) 53 noV) 51 (.bool true)) 54 noV) 51 (.bool true)) 55 noV) 51 (.bool true)) 56 noV) 57 (.bool true)) 2 (.bool false)), 67, [], h⟩) (
bindO (faS 2 (e 4)) fun x63 =>
bindO (faS 1 x63) fun x64 =>
bindO (loadS none x64 h) fun x65 =>
bindO (lenS .slice x65 h) fun x66 =>
bindO (neV (.int .i64) x66 (.int .i64 2)) fun x67 =>
condB x67 (
K .ret ⟨(setV (setV (setV (setV (setV (setV (setV (setV (setV (setV (setV (setV (setV (setV (setV (setV (setV e 47 x59) 48 x60) 49 x61) 50 x62) 51 x62) 51 (.bool false)) 52 x63) 51 (.bool false)) 53 x64) 51 (.bool false)) 54 x65) 51 (.bool false)) 55 x66) 51 (.bool false)) 56 x67) 57 x67) 2 (.bool false)), 67, [], h⟩) (
bindO (faS 2 (e 4)) fun x68 =>
bindO (faS 1 x68) fun x69 =>
bindO (loadS none x69 h) fun x70 =>
semCall Tryz.prog 70 [x70] h (outK (fun x71 h72 =>
bindO (unS .not x71) fun x75 =>
condB x75 (
K .ret ⟨(setV (setV (setV (setV (setV (setV (setV (setV (setV (setV (setV (setV (setV (setV (setV (setV (setV (setV (setV (setV (setV (setV e 47 x59) 48 x60) 49 x61) 50 x62) 51 x62) 51 (.bool false)) 52 x63) 51 (.bool false)) 53 x64) 51 (.bool false)) 54 x65) 51 (.bool false)) 55 x66) 51 (.bool false)) 56 x67) 57 x67) 58 x68) 59 x69) 60 x70) 61 x71) 62 x75) 2 (.bool false)), 67, [], h72⟩) (
bindO (binS .add (e 3) (.int .i64 1)) fun x76 =>
K .normal ⟨(setV (setV (setV (setV (setV (setV (setV (setV (setV (setV (setV (setV (setV (setV (setV (setV (setV (setV (setV (setV (setV (setV (setV (setV e 47 x59) 48 x60) 49 x61) 50 x62) 51 x62) 51 (.bool false)) 52 x63) 51 (.bool false)) 53 x64) 51 (.bool false)) 54 x65) 51 (.bool false)) 55 x66) 51 (.bool false)) 56 x67) 57 x67) 58 x68) 59 x69) 60 x70) 61 x71) 62 x75) 28 (e 3)) 29 x76) 3 x76), 67, [], h72⟩)) (fun v73 h74 => K (.panic v73) ⟨(setV (setV (setV (setV (setV (setV (setV (setV (setV (setV (setV (setV (setV (setV (setV (setV (setV (setV (setV e 47 x59) 48 x60) 49 x61) 50 x62) 51 x62) 51 (.bool false)) 52 x63) 51 (.bool false)) 53 x64) 51 (.bool false)) 54 x65) 51 (.bool false)) 55 x66) 51 (.bool false)) 56 x67) 57 x67) 58 x68) 59 x69) 60 x70), 67, [], h74⟩))))) (
K .ret ⟨(setV e 2 (.bool false)), 67, [], h⟩)) := (runB_eq _ _ _).trans (by kernel_rfl)
theorem F.ref07_rule_eq {a0 : AV} {h : Heap} {K : Out → Heap → Bool} : evalS Tryz.prog (semCall Tryz.prog) (codeOf Tryz.f28) ⟨mkEnv [a0], 67, [], h⟩ (leaveK Tryz.prog noD Tryz.f28.results.toList K) = (
bindO (boxS a0) fun c0 =>
bindO (faS 0 (.ptr (Heap.next h) 0)) fun x1 =>
bindO (faS 0 x1) fun x2 =>
bindO (loadS none x2 (Heap.alloc h (.cells c0))) fun x3 =>
semCall Tryz.prog 69 [x3] (Heap.alloc h (.cells c0)) (outK (fun x4 h5 =>
bindO (unS .not x4) fun x8 =>
condB x8 (
K (.ret (.bool false)) h5) (
bindO (faS 0 (.ptr (Heap.next h) 0)) fun x9 =>
bindO (faS 1 x9) fun x10 =>
bindO (loadS none x10 h5) fun x11 =>
semCall Tryz.prog 70 [x11] h5 (outK (fun x12 h13 =>
bindO (unS .not x12) fun x16 =>
condB x16 (
K (.ret (.bool false)) h13) (
bindO (faS 2 (.ptr (Heap.next h) 0)) fun x17 =>
bindO (loadS none x17 h13) fun x18 =>
bindO (lenS .slice x18 h13) fun x19 =>
bindO (binS .gtr x19 (.int .i64 20)) fun x20 =>
condB x20 (
K (.ret (.bool false)) h13) (
loopB (evalS Tryz.prog (semCall Tryz.prog) F.ref07_rule.L0) ⟨(setV (setV (setV (setV (setV (setV (setV (setV (setV (setV (setV (setV (setV (setV (setV (setV (setV (setV (setV (setV (setV (setV (setV (setV (setV (setV (setV (setV (setV (setV (mkEnv [a0]) 1 (.ptr (Heap.next h) 0)) 2 (.bool false)) 5 x1) 6 x2) 7 x3) 8 x4) 9 x8) 10 x8) 10 (.bool false)) 11 x9) 10 (.bool false)) 12 x10) 10 (.bool false)) 13 x11) 10 (.bool false)) 14 x12) 10 (.bool false)) 15 x16) 16 x16) 17 x16) 17 (.bool false)) 18 x17) 17 (.bool false)) 19 x18) 17 (.bool false)) 20 x19) 17 (.bool false)) 21 x20) 22 x20) 3 (.int .i64 0)), 67, [], h13⟩ (F.ref07_rule.L0k K)))) (fun v14 h15 => K (.panic v14) h15)))) (fun v6 h7 => K (.panic v6) h7))) := by kernel_rfl
theorem F.ref07_rule_sem {a0 : AV} {h : Heap} {K : Out → Heap → Bool} (hh : (
bindO (boxS a0) fun c0 =>
bindO (faS 0 (.ptr (Heap.next h) 0)) fun x1 =>
bindO (faS 0 x1) fun x2 =>
bindO (loadS none x2 (Heap.alloc h (.cells c0))) fun x3 =>
semCall Tryz.prog 69 [x3] (Heap.alloc h (.cells c0)) (outK (fun x4 h5 =>
bindO (unS .not x4) fun x8 =>
condB x8 (
K (.ret (.bool false)) h5) (
bindO (faS 0 (.ptr (Heap.next h) 0)) fun x9 =>
bindO (faS 1 x9) fun x10 =>
bindO (loadS none x10 h5) fun x11 =>
semCall Tryz.prog 70 [x11] h5 (outK (fun x12 h13 =>
bindO (unS .not x12) fun x16 =>
condB x16 (
K (.ret (.bool false)) h13) (
bindO (faS 2 (.ptr (Heap.next h) 0)) fun x17 =>
bindO (loadS none x17 h13) fun x18 =>
bindO (lenS .slice x18 h13) fun x19 =>
bindO (binS .gtr x19 (.int .i64 20)) fun x20 =>
condB x20 (
K (.ret (.bool false)) h13) (
loopB (evalS Tryz.prog (semCall Tryz.prog) F.ref07_rule.L0) ⟨(setV (setV (setV (setV (setV (setV (setV (setV (setV (setV (setV (setV (setV (setV (setV (setV (setV (setV (setV (setV (setV (setV (setV (setV (setV (setV (setV (setV (setV (setV (mkEnv [a0]) 1 (.ptr (Heap.next h) 0)) 2 (.bool false)) 5 x1) 6 x2) 7 x3) 8 x4) 9 x8) 10 x8) 10 (.bool false)) 11 x9) 10 (.bool false)) 12 x10) 10 (.bool false)) 13 x11) 10 (.bool false)) 14 x12) 10 (.bool false)) 15 x16) 16 x16) 17 x16) 17 (.bool false)) 18 x17) 17 (.bool false)) 19 x18) 17 (.bool false)) 20 x19) 17 (.bool false)) 21 x20) 22 x20) 3 (.int .i64 0)), 67, [], h13⟩ (F.ref07_rule.L0k K)))) (fun v14 h15 => K (.panic v14) h15)))) (fun v6 h7 => K (.panic v6) h7))) = true) : Sem Tryz.prog 28 [a0] h K :=
  sem_body mixed (noD_sound _) Tryz.func28 (c := codeOf Tryz.f28) rfl (by decide) (of_decide_eq_true (by kernel_rfl)) (F.ref07_rule_eq.trans hh)
end
end Go.AM
/- What functions of the program do, as terms: printed by a program. Conditions: none. -/
namespace Go.AM
open Go Go.Proofs
set_option linter.unusedVariables false
noncomputable section
theorem F.law07_RulesLevels_eq {a0 : AV} {h : Heap} {K : Out → Heap → Bool} : evalS Tryz.prog (semCall Tryz.prog) (codeOf Tryz.f3) ⟨mkEnv [a0], 55, [], h⟩ (leaveK Tryz.prog noD Tryz.f3.results.toList K) = (
semCall Tryz.prog 5 [a0, (.int .i64 1500)] h (outK (fun x0 h1 =>
bindO (unS .not x0) fun x4 =>
condB x4 (
semCall Tryz.prog 6 [] h1 (outK (fun x5 h6 =>
K (.ret x5) h6) (fun v7 h8 => K (.panic v7) h8))) (
semCall Tryz.prog 7 [a0] h1 (outK (fun x9 h10 =>
bindO (extractS x9 0) fun x13 =>
bindO (extractS x9 1) fun x14 =>
bindO (extractS x9 2) fun x15 =>
semCall Tryz.prog 8 [a0] h10 (outK (fun x16 h17 =>
bindO (unS .not x16) fun x20 =>
condB x20 (
bindO (eqV (.int .i64) x15 (.int .i64 1)) fun x21 =>
condB x21 (
bindO (lenS .slice x13 h17) fun x22 =>
bindO (lenS .slice x14 h17) fun x23 =>
bindO (binS .add x22 x23) fun x24 =>
bindO (eqV (.int .i64) x24 (.int .i64 0)) fun x25 =>
condB x25 (
semCall Tryz.prog 6 [] h17 (outK (fun x26 h27 =>
K (.ret x26) h27) (fun v28 h29 => K (.panic v28) h29))) (
K (.ret (.bool false)) h17)) (
K (.ret (.bool false)) h17)) (
semCall Tryz.prog 9 [a0] h17 (outK (fun x30 h31 =>
bindO (extractS x30 0) fun x34 =>
bindO (extractS x30 1) fun x35 =>
bindO (eqV (.int .i64) x15 (.int .i64 0)) fun x36 =>
condB x36 (
semCall Tryz.prog 11 [a0] h31 (outK (fun x37 h38 =>
semCall Tryz.prog 10 [x13, x37] h38 (outK (fun x41 h42 =>
condB x41 (
semCall Tryz.prog 12 [x14, x34] h42 (outK (fun x45 h46 =>
condB x45 (
semCall Tryz.prog 6 [] h46 (outK (fun x49 h50 =>
K (.ret x49) h50) (fun v51 h52 => K (.panic v51) h52))) (
K (.ret (.bool false)) h46)) (fun v47 h48 => K (.panic v47) h48))) (
K (.ret (.bool false)) h42)) (fun v43 h44 => K (.panic v43) h44))) (fun v39 h40 => K (.panic v39) h40))) (
K (.ret (.bool false)) h31)) (fun v32 h33 => K (.panic v32) h33)))) (fun v18 h19 => K (.panic v18) h19))) (fun v11 h12 => K (.panic v11) h12)))) (fun v2 h3 => K (.panic v2) h3))) := by kernel_rfl
theorem F.law07_RulesLevels_sem {a0 : AV} {h : Heap} {K : Out → Heap → Bool} (hh : (
semCall Tryz.prog 5 [a0, (.int .i64 1500)] h (outK (fun x0 h1 =>
bindO (unS .not x0) fun x4 =>
condB x4 (
semCall Tryz.prog 6 [] h1 (outK (fun x5 h6 =>
K (.ret x5) h6) (fun v7 h8 => K (.panic v7) h8))) (
semCall Tryz.prog 7 [a0] h1 (outK (fun x9 h10 =>
bindO (extractS x9 0) fun x13 =>
bindO (extractS x9 1) fun x14 =>
bindO (extractS x9 2) fun x15 =>
semCall Tryz.prog 8 [a0] h10 (outK (fun x16 h17 =>
bindO (unS .not x16) fun x20 =>
condB x20 (
bindO (eqV (.int .i64) x15 (.int .i64 1)) fun x21 =>
condB x21 (
bindO (lenS .slice x13 h17) fun x22 =>
bindO (lenS .slice x14 h17) fun x23 =>
bindO (binS .add x22 x23) fun x24 =>
bindO (eqV (.int .i64) x24 (.int .i64 0)) fun x25 =>
condB x25 (
semCall Tryz.prog 6 [] h17 (outK (fun x26 h27 =>
K (.ret x26) h27) (fun v28 h29 => K (.panic v28) h29))) (
K (.ret (.bool false)) h17)) (
K (.ret (.bool false)) h17)) (
semCall Tryz.prog 9 [a0] h17 (outK (fun x30 h31 =>
bindO (extractS x30 0) fun x34 =>
bindO (extractS x30 1) fun x35 =>
bindO (eqV (.int .i64) x15 (.int .i64 0)) fun x36 =>
condB x36 (
semCall Tryz.prog 11 [a0] h31 (outK (fun x37 h38 =>
semCall Tryz.prog 10 [x13, x37] h38 (outK (fun x41 h42 =>
condB x41 (
semCall Tryz.prog 12 [x14, x34] h42 (outK (fun x45 h46 =>
condB x45 (
semCall Tryz.prog 6 [] h46 (outK (fun x49 h50 =>
K (.ret x49) h50) (fun v51 h52 => K (.panic v51) h52))) (
K (.ret (.bool false)) h46)) (fun v47 h48 => K (.panic v47) h48))) (
K (.ret (.bool false)) h42)) (fun v43 h44 => K (.panic v43) h44))) (fun v39 h40 => K (.panic v39) h40))) (
K (.ret (.bool false)) h31)) (fun v32 h33 => K (.panic v32) h33)))) (fun v18 h19 => K (.panic v18) h19))) (fun v11 h12 => K (.panic v11) h12)))) (fun v2 h3 => K (.panic v2) h3))) = true) : Sem Tryz.prog 3 [a0] h K :=
  sem_body mixed (noD_sound _) Tryz.func3 (c := codeOf Tryz.f3) rfl (by decide) (of_decide_eq_true (by kernel_rfl)) (F.law07_RulesLevels_eq.trans hh)
noncomputable def F.law07_Few.L0 : Code := partOf (codeOf Tryz.f5) [1, 1, 1, 0, 1, 0, 0]
noncomputable def F.law07_Few.L0k (K : Out → Heap → Bool) : AX → St → Bool := (blockK 0 (seqK false (evalS Tryz.prog (semCall Tryz.prog) (partOf (codeOf Tryz.f5) [1, 1, 1, 1])) (leaveK Tryz.prog noD Tryz.f5.results.toList K)))
noncomputable def F.law07_Few.L1 : Code := partOf (codeOf Tryz.f5) [1, 1, 1, 0, 1, 0, 0, 1, 0, 0, 1, 1, 0, 0]
noncomputable def F.law07_Few.L1k (K : AX → St → Bool) : AX → St → Bool := (blockK 2 (blockK 1 (seqK false (evalS Tryz.prog (semCall Tryz.prog) (partOf (codeOf Tryz.f5) [1, 1, 1, 0, 1, 0, 0, 1, 1])) K)))
theorem F.law07_Few.L0_eq {e : Env} {h : Heap} {K : AX → St → Bool} : evalS Tryz.prog (semCall Tryz.prog) F.law07_Few.L0 ⟨e, 62, [], h⟩ K = (
bindO (lenS .slice (e 0) h) fun x2 =>
bindO (binS .lss (e 6) x2) fun x3 =>
condB x3 (
bindO (binS .leq (e 5) (e 1)) fun x4 =>
condB x4 (
bindO (binS .add (e 5) (.int .i64 1)) fun x5 =>
bindO (iaS 3 (e 0) (e 6)) fun x6 =>
bindO (faS 0 x6) fun x7 =>
bindO (loadS (some 2) x7 h) fun x8 =>
semCall Tryz.prog 20 [x8] h (outK (fun x9 h10 =>
bindO (binS .add x5 x9) fun x13 =>
loopB (evalS Tryz.prog (semCall Tryz.prog) F.law07_Few.L1) ⟨(setV (setV (setV (setV (setV (setV (setV (setV (setV (setV (setV (setV (setV (setV (setV (setV (setV (setV (setV (setV (setV (setV (setV e 11 (e 6)) 12 (e 0)) 13 x2) 14 x3) 15 x3) 15 (.bool true)) 16 (e 5)) 15 (.bool true)) 17 (e 1)) 15 (.bool true)) 18 x4) 19 x4) 22 (e 5)) 23 x5) 24 (e 0)) 25 (e 6)) 26 x6) 27 x7) 28 x8) 29 x9) 30 x13) 5 x13) 7 (.int .i64 0)), 62, [], h10⟩ (F.law07_Few.L1k K)) (fun v11 h12 => K (.panic v11) ⟨(setV (setV (setV (setV (setV (setV (setV (setV (setV (setV (setV (setV (setV (setV (setV (setV (setV (setV (setV e 11 (e 6)) 12 (e 0)) 13 x2) 14 x3) 15 x3) 15 (.bool true)) 16 (e 5)) 15 (.bool true)) 17 (e 1)) 15 (.bool true)) 18 x4) 19 x4) 22 (e 5)) 23 x5) 24 (e 0)) 25 (e 6)) 26 x6) 27 x7) 28 x8), 62, [], h12⟩))) (
K (.exit 0) ⟨(setV (setV (setV (setV (setV (setV (setV (setV (setV (setV (setV (setV e 11 (e 6)) 12 (e 0)) 13 x2) 14 x3) 15 x3) 15 (.bool true)) 16 (e 5)) 15 (.bool true)) 17 (e 1)) 15 (.bool true)) 18 x4) 19 x4), 62, [], h⟩)) (
K (.exit 0) ⟨(setV (setV (setV (setV (setV (setV (setV (setV (setV (setV (setV (setV e 11 (e 6)) 12 (e 0)) 13 x2) 14 x3) 15 x3) 15 (.bool false)) 16 noV) 15 (.bool false)) 17 noV) 15 (.bool false)) 18 noV) 19 (.bool false)), 62, [], h⟩)) := by kernel_rfl
theorem F.law07_Few.L0_x0_eq {e : Env} {h : Heap} {K : Out → Heap → Bool} : F.law07_Few.L0k K (.exit 0) ⟨e, 62, [], h⟩ = (
bindO (binS .leq (e 5) (e 1)) fun x14 =>
K (.ret x14) h) := by kernel_rfl
theorem F.law07_Few.L1_eq {e : Env} {h : Heap} {K : AX → St → Bool} : evalS Tryz.prog (semCall Tryz.prog) F.law07_Few.L1 ⟨e, 62, [], h⟩ K = (
bindO (iaS 3 (e 0) (e 6)) fun x15 =>
bindO (faS 2 x15) fun x16 =>
bindO (loadS none x16 h) fun x17 =>
bindO (lenS .slice x17 h) fun x18 =>
bindO (binS .lss (e 7) x18) fun x19 =>
condB x19 (
bindO (binS .leq (e 5) (e 1)) fun x20 =>
condB x20 (
bindO (binS .add (e 5) (.int .i64 1)) fun x21 =>
bindO (iaS 3 (e 0) (e 6)) fun x22 =>
bindO (faS 2 x22) fun x23 =>
bindO (loadS none x23 h) fun x24 =>
bindO (iaS 4 x24 (e 7)) fun x25 =>
bindO (faS 2 x25) fun x26 =>
bindO (loadS (some 2) x26 h) fun x27 =>
semCall Tryz.prog 20 [x27] h (outK (fun x28 h29 =>
bindO (binS .add x21 x28) fun x32 =>
bindO (binS .add (e 7) (.int .i64 1)) fun x33 =>
K .normal ⟨(setV (setV (setV (setV (setV (setV (setV (setV (setV (setV (setV (setV (setV (setV (setV (setV (setV (setV (setV (setV (setV (setV (setV (setV (setV (setV (setV (setV (setV (setV (setV (setV (setV e 31 (e 7)) 32 (e 0)) 33 (e 6)) 34 x15) 35 x16) 36 x17) 37 x18) 38 x19) 39 x19) 39 (.bool true)) 40 (e 5)) 39 (.bool true)) 41 (e 1)) 39 (.bool true)) 42 x20) 43 x20) 46 (e 5)) 47 x21) 48 (e 0)) 49 (e 6)) 50 x22) 51 x23) 52 x24) 53 (e 7)) 54 x25) 55 x26) 56 x27) 57 x28) 58 x32) 5 x32) 44 (e 7)) 45 x33) 7 x33), 62, [], h29⟩) (fun v30 h31 => K (.panic v30) ⟨(setV (setV (setV (setV (setV (setV (setV (setV (setV (setV (setV (setV (setV (setV (setV (setV (setV (setV (setV (setV (setV (setV (setV (setV (setV (setV (setV e 31 (e 7)) 32 (e 0)) 33 (e 6)) 34 x15) 35 x16) 36 x17) 37 x18) 38 x19) 39 x19) 39 (.bool true)) 40 (e 5)) 39 (.bool true)) 41 (e 1)) 39 (.bool true)) 42 x20) 43 x20) 46 (e 5)) 47 x21) 48 (e 0)) 49 (e 6)) 50 x22) 51 x23) 52 x24) 53 (e 7)) 54 x25) 55 x26) 56 x27), 62, [], h31⟩))) (
K (.exit 2) ⟨(setV (setV (setV (setV (setV (setV (setV (setV (setV (setV (setV (setV (setV (setV (setV (setV e 31 (e 7)) 32 (e 0)) 33 (e 6)) 34 x15) 35 x16) 36 x17) 37 x18) 38 x19) 39 x19) 39 (.bool true)) 40 (e 5)) 39 (.bool true)) 41 (e 1)) 39 (.bool true)) 42 x20) 43 x20), 62, [], h⟩)) (
K (.exit 2) ⟨(setV (setV (setV (setV (setV (setV (setV (setV (setV (setV (setV (setV (setV (setV (setV (setV e 31 (e 7)) 32 (e 0)) 33 (e 6)) 34 x15) 35 x16) 36 x17) 37 x18) 38 x19) 39 x19) 39 (.bool false)) 40 noV) 39 (.bool false)) 41 noV) 39 (.bool false)) 42 noV) 43 (.bool false)), 62, [], h⟩)) := by kernel_rfl
theorem F.law07_Few.L1_x2_eq {e : Env} {h : Heap} {K : AX → St → Bool} : F.law07_Few.L1k K (.exit 2) ⟨e, 62, [], h⟩ = (
bindO (binS .add (e 6) (.int .i64 1)) fun x34 =>
K .normal ⟨(setV (setV (setV e 20 (e 6)) 21 x34) 6 x34), 62, [], h⟩) := by kernel_rfl
theorem F.law07_Few_eq {a0 a1 : AV} {h : Heap} {K : Out → Heap → Bool} : evalS Tryz.prog (semCall Tryz.prog) (codeOf Tryz.f5) ⟨mkEnv [a0, a1], 62, [], h⟩ (leaveK Tryz.prog noD Tryz.f5.results.toList K) = (
bindO (lenS .slice a0 h) fun x0 =>
bindO (binS .gtr x0 (.int .i64 70)) fun x1 =>
condB x1 (
K (.ret (.bool false)) h) (
loopB (evalS Tryz.prog (semCall Tryz.prog) F.law07_Few.L0) ⟨(setV (setV (setV (setV (setV (setV (mkEnv [a0, a1]) 4 (.bool false)) 8 a0) 9 x0) 10 x1) 5 (.int .i64 0)) 6 (.int .i64 0)), 62, [], h⟩ (F.law07_Few.L0k K))) := by kernel_rfl
theorem F.law07_Few_sem {a0 a1 : AV} {h : Heap} {K : Out → Heap → Bool} (hh : (
bindO (lenS .slice a0 h) fun x0 =>
bindO (binS .gtr x0 (.int .i64 70)) fun x1 =>
condB x1 (
K (.ret (.bool false)) h) (
loopB (evalS Tryz.prog (semCall Tryz.prog) F.law07_Few.L0) ⟨(setV (setV (setV (setV (setV (setV (mkEnv [a0, a1]) 4 (.bool false)) 8 a0) 9 x0) 10 x1) 5 (.int .i64 0)) 6 (.int .i64 0)), 62, [], h⟩ (F.law07_Few.L0k K))) = true) : Sem Tryz.prog 5 [a0, a1] h K :=
  sem_body mixed (noD_sound _) Tryz.func5 (c := codeOf Tryz.f5) rfl (by decide) (of_decide_eq_true (by kernel_rfl)) (F.law07_Few_eq.trans hh)
noncomputable def F.law07_atom.L0 : Code := partOf (codeOf Tryz.f20) [1, 1, 0, 1, 0, 0]
noncomputable def F.law07_atom.L0k (K : Out → Heap → Bool) : AX → St → Bool := (blockK 0 (seqK false (evalS Tryz.prog (semCall Tryz.prog) (partOf (codeOf Tryz.f20) [1, 1, 1])) (leaveK Tryz.prog noD Tryz.f20.results.toList K)))
theorem F.law07_atom.L0_eq {e : Env} {h : Heap} {K : AX → St → Bool} : evalS Tryz.prog (semCall Tryz.prog) F.law07_atom.L0 ⟨e, 34, [], h⟩ K = (
bindO (faS 1 (e 1)) fun x9 =>
bindO (loadS none x9 h) fun x10 =>
bindO (lenS .slice x10 h) fun x11 =>
bindO (binS .lss (e 4) x11) fun x12 =>
condB x12 (
bindO (binS .lss (e 3) (.int .i64 10000)) fun x13 =>
condB x13 (
bindO (faS 1 (e 1)) fun x14 =>
bindO (loadS none x14 h) fun x15 =>
bindO (iaS 1 x15 (e 4)) fun x16 =>
bindO (loadS none x16 h) fun x17 =>
bindO (lenS .str x17 h) fun x18 =>
bindO (binS .quo x18 (.int .i64 20)) fun x19 =>
bindO (binS .add (e 3) x19) fun x20 =>
bindO (binS .add (e 4) (.int .i64 1)) fun x21 =>
K .normal ⟨(setV (setV (setV (setV (setV (setV (setV (setV (setV (setV (setV (setV (setV (setV (setV (setV (setV (setV (setV (setV (setV (setV (setV (setV e 13 (e 4)) 14 x9) 15 x10) 16 x11) 17 x12) 18 x12) 18 (.bool true)) 19 (e 3)) 18 (.bool true)) 20 x13) 21 x13) 24 (e 3)) 25 x14) 26 x15) 27 (e 4)) 28 x16) 29 x17) 30 x18) 31 x19) 32 x20) 3 x20) 22 (e 4)) 23 x21) 4 x21), 34, [], h⟩) (
K (.exit 0) ⟨(setV (setV (setV (setV (setV (setV (setV (setV (setV (setV (setV e 13 (e 4)) 14 x9) 15 x10) 16 x11) 17 x12) 18 x12) 18 (.bool true)) 19 (e 3)) 18 (.bool true)) 20 x13) 21 x13), 34, [], h⟩)) (
K (.exit 0) ⟨(setV (setV (setV (setV (setV (setV (setV (setV (setV (setV (setV e 13 (e 4)) 14 x9) 15 x10) 16 x11) 17 x12) 18 x12) 18 (.bool false)) 19 noV) 18 (.bool false)) 20 noV) 21 (.bool false)), 34, [], h⟩)) := by kernel_rfl
theorem F.law07_atom.L0_x0_eq {e : Env} {h : Heap} {K : Out → Heap → Bool} : F.law07_atom.L0k K (.exit 0) ⟨e, 34, [], h⟩ = (
K (.ret (e 3)) h) := by kernel_rfl
theorem F.law07_atom_eq {a0 : AV} {h : Heap} {K : Out → Heap → Bool} : evalS Tryz.prog (semCall Tryz.prog) (codeOf Tryz.f20) ⟨mkEnv [a0], 34, [], h⟩ (leaveK Tryz.prog noD Tryz.f20.results.toList K) = (
bindO (boxS a0) fun c0 =>
bindO (faS 1 (.ptr (Heap.next h) 0)) fun x1 =>
bindO (loadS none x1 (Heap.alloc h (.cells c0))) fun x2 =>
bindO (lenS .slice x2 (Heap.alloc h (.cells c0))) fun x3 =>
bindO (faS 0 (.ptr (Heap.next h) 0)) fun x4 =>
bindO (loadS none x4 (Heap.alloc h (.cells c0))) fun x5 =>
bindO (lenS .str x5 (Heap.alloc h (.cells c0))) fun x6 =>
bindO (binS .quo x6 (.int .i64 20)) fun x7 =>
bindO (binS .add x3 x7) fun x8 =>
loopB (evalS Tryz.prog (semCall Tryz.prog) F.law07_atom.L0) ⟨(setV (setV (setV (setV (setV (setV (setV (setV (setV (setV (setV (setV (mkEnv [a0]) 1 (.ptr (Heap.next h) 0)) 2 (.int .i64 0)) 5 x1) 6 x2) 7 x3) 8 x4) 9 x5) 10 x6) 11 x7) 12 x8) 3 x8) 4 (.int .i64 0)), 34, [], (Heap.alloc h (.cells c0))⟩ (F.law07_atom.L0k K)) := by kernel_rfl
theorem F.law07_atom_sem {a0 : AV} {h : Heap} {K : Out → Heap → Bool} (hh : (
bindO (boxS a0) fun c0 =>
bindO (faS 1 (.ptr (Heap.next h) 0)) fun x1 =>
bindO (loadS none x1 (Heap.alloc h (.cells c0))) fun x2 =>
bindO (lenS .slice x2 (Heap.alloc h (.cells c0))) fun x3 =>
bindO (faS 0 (.ptr (Heap.next h) 0)) fun x4 =>
bindO (loadS none x4 (Heap.alloc h (.cells c0))) fun x5 =>
bindO (lenS .str x5 (Heap.alloc h (.cells c0))) fun x6 =>
bindO (binS .quo x6 (.int .i64 20)) fun x7 =>
bindO (binS .add x3 x7) fun x8 =>
loopB (evalS Tryz.prog (semCall Tryz.prog) F.law07_atom.L0) ⟨(setV (setV (setV (setV (setV (setV (setV (setV (setV (setV (setV (setV (mkEnv [a0]) 1 (.ptr (Heap.next h) 0)) 2 (.int .i64 0)) 5 x1) 6 x2) 7 x3) 8 x4) 9 x5) 10 x6) 11 x7) 12 x8) 3 x8) 4 (.int .i64 0)), 34, [], (Heap.alloc h (.cells c0))⟩ (F.law07_atom.L0k K)) = true) : Sem Tryz.prog 20 [a0] h K :=
  sem_body mixed (noD_sound _) Tryz.func20 (c := codeOf Tryz.f20) rfl (by decide) (of_decide_eq_true (by kernel_rfl)) (F.law07_atom_eq.trans hh)
noncomputable def F.rules_Levels.L0 : Code := partOf (codeOf Tryz.f7) [1, 1, 1, 1, 1, 0, 1, 0, 0]
noncomputable def F.rules_Levels.L0k (K : Out → Heap → Bool) : AX → St → Bool := (blockK 0 (seqK false (evalS Tryz.prog (semCall Tryz.prog) (partOf (codeOf Tryz.f7) [1, 1, 1, 1, 1, 1])) (leaveK Tryz.prog noD Tryz.f7.results.toList K)))
theorem F.rules_Levels.L0_eq {e : Env} {h : Heap} {K : AX → St → Bool} : evalS Tryz.prog (semCall Tryz.prog) F.rules_Levels.L0 ⟨e, 42, [], h⟩ K = (
bindO (binS .lss (e 26) (e 25)) fun x19 =>
condB x19 (
bindO (iaS 1 (e 24) (e 26)) fun x20 =>
bindO (loadS none x20 h) fun x21 =>
bindO (nilCheckS (e 5)) fun x22 =>
bindO (faS 2 x22) fun x23 =>
bindO (loadS none x23 h) fun x24 =>
bindO (lookupS .string (.int .i64 0) false x24 x21 h) fun x25 =>
bindO (rowS [(.int .i64 0)] [(0, 1)] [x25]) fun c26 =>
bindO2 (appendS 1 8 (e 8) (.slice (Heap.next h) 0 1 1) (Heap.alloc h (.cells c26))) fun x27 h28 =>
bindO (binS .add (e 26) (.int .i64 1)) fun x29 =>
K .normal ⟨(setV (setV (setV (setV (setV (setV (setV (setV (setV (setV (setV (setV (setV (setV (setV (setV e 27 x19) 28 x20) 29 x21) 10 x21) 30 (e 8)) 31 (e 5)) 32 x22) 33 x23) 34 x24) 35 x21) 36 x25) 37 (.slice (Heap.next h) 0 1 1)) 38 x27) 8 x27) 39 x29) 26 x29), 42, [], h28⟩) (
K (.exit 0) ⟨(setV e 27 x19), 42, [], h⟩)) := by kernel_rfl
theorem F.rules_Levels.L0_x0_eq {e : Env} {h : Heap} {K : Out → Heap → Bool} : F.rules_Levels.L0k K (.exit 0) ⟨e, 42, [], h⟩ = (
K (.ret (.tuple [(e 7), (e 8), (.int .i64 0)])) h) := by kernel_rfl
theorem F.rules_Levels_eq {a0 : AV} {h : Heap} {K : Out → Heap → Bool} : evalS Tryz.prog (semCall Tryz.prog) (codeOf Tryz.f7) ⟨mkEnv [a0], 42, [], h⟩ (leaveK Tryz.prog noD Tryz.f7.results.toList K) = (
semCall Tryz.prog 25 [a0] h (outK (fun x0 h1 =>
bindO (extractS x0 0) fun x4 =>
bindO (extractS x0 1) fun x5 =>
bindO (unS .not x5) fun x6 =>
condB x6 (
K (.ret (.tuple [.nils, .nils, (.int .i64 1)])) h1) (
bindO (nilCheckS x4) fun x7 =>
bindO (faS 2 x7) fun x8 =>
bindO (loadS none x8 h1) fun x9 =>
semCall Tryz.prog 27 [x9] h1 (outK (fun x10 h11 =>
semCall Tryz.prog 26 [x10] h11 (outK (fun x14 h15 =>
bindO (lenS .slice x14 h15) fun x18 =>
loopB (evalS Tryz.prog (semCall Tryz.prog) F.rules_Levels.L0) ⟨(setV (setV (setV (setV (setV (setV (setV (setV (setV (setV (setV (setV (setV (setV (setV (setV (setV (setV (setV (setV (setV (setV (setV (mkEnv [a0]) 2 .nils) 3 .nils) 4 (.int .i64 0)) 12 a0) 13 x0) 11 x0) 14 x4) 15 x5) 5 x4) 6 x5) 16 x5) 17 x6) 18 x4) 19 x7) 20 x8) 21 x9) 22 x10) 23 x14) 7 x14) 8 .nils) 24 x14) 25 x18) 26 (.int .i64 0)), 42, [], h15⟩ (F.rules_Levels.L0k K)) (fun v16 h17 => K (.panic v16) h17))) (fun v12 h13 => K (.panic v12) h13)))) (fun v2 h3 => K (.panic v2) h3))) := by kernel_rfl
theorem F.rules_Levels_sem {a0 : AV} {h : Heap} {K : Out → Heap → Bool} (hh : (
semCall Tryz.prog 25 [a0] h (outK (fun x0 h1 =>
bindO (extractS x0 0) fun x4 =>
bindO (extractS x0 1) fun x5 =>
bindO (unS .not x5) fun x6 =>
condB x6 (
K (.ret (.tuple [.nils, .nils, (.int .i64 1)])) h1) (
bindO (nilCheckS x4) fun x7 =>
bindO (faS 2 x7) fun x8 =>
bindO (loadS none x8 h1) fun x9 =>
semCall Tryz.prog 27 [x9] h1 (outK (fun x10 h11 =>
semCall Tryz.prog 26 [x10] h11 (outK (fun x14 h15 =>
bindO (lenS .slice x14 h15) fun x18 =>
loopB (evalS Tryz.prog (semCall Tryz.prog) F.rules_Levels.L0) ⟨(setV (setV (setV (setV (setV (setV (setV (setV (setV (setV (setV (setV (setV (setV (setV (setV (setV (setV (setV (setV (setV (setV (setV (mkEnv [a0]) 2 .nils) 3 .nils) 4 (.int .i64 0)) 12 a0) 13 x0) 11 x0) 14 x4) 15 x5) 5 x4) 6 x5) 16 x5) 17 x6) 18 x4) 19 x7) 20 x8) 21 x9) 22 x10) 23 x14) 7 x14) 8 .nils) 24 x14) 25 x18) 26 (.int .i64 0)), 42, [], h15⟩ (F.rules_Levels.L0k K)) (fun v16 h17 => K (.panic v16) h17))) (fun v12 h13 => K (.panic v12) h13)))) (fun v2 h3 => K (.panic v2) h3))) = true) : Sem Tryz.prog 7 [a0] h K :=
  sem_body mixed (noD_sound _) Tryz.func7 (c := codeOf Tryz.f7) rfl (by decide) (of_decide_eq_true (by kernel_rfl)) (F.rules_Levels_eq.trans hh)
noncomputable def F.rules_of.L0 : Code := partOf (codeOf Tryz.f25) [1, 1, 1, 0, 1, 0, 0]
noncomputable def F.rules_of.L0k (K : Out → Heap → Bool) : AX → St → Bool := (blockK 0 (seqK false (evalS Tryz.prog (semCall Tryz.prog) (partOf (codeOf Tryz.f25) [1, 1, 1, 1])) (leaveK Tryz.prog noD Tryz.f25.results.toList K)))
noncomputable def F.rules_of.L1 : Code := partOf (codeOf Tryz.f25) [1, 1, 1, 0, 1, 0, 0, 1, 1, 0, 0, 1, 1, 0, 1, 0, 0]
noncomputable def F.rules_of.L1k (K : AX → St → Bool) : AX → St → Bool := (blockK 2 (seqK false (evalS Tryz.prog (semCall Tryz.prog) (partOf (codeOf Tryz.f25) [1, 1, 1, 0, 1, 0, 0, 1, 1, 0, 0, 1, 1, 1])) (blockK 1 (seqK false (evalS Tryz.prog (semCall Tryz.prog) (partOf (codeOf Tryz.f25) [1, 1, 1, 0, 1, 0, 0, 1, 1, 1])) K))))
noncomputable def F.rules_of.L2 : Code := partOf (codeOf Tryz.f25) [1, 1, 1, 1, 0, 1, 0, 0]
noncomputable def F.rules_of.L2k (K : Out → Heap → Bool) : AX → St → Bool := (blockK 4 (seqK false (evalS Tryz.prog (semCall Tryz.prog) (partOf (codeOf Tryz.f25) [1, 1, 1, 1, 1])) (leaveK Tryz.prog noD Tryz.f25.results.toList K)))
theorem F.rules_of.L0_eq {e : Env} {h : Heap} {K : AX → St → Bool} : evalS Tryz.prog (semCall Tryz.prog) F.rules_of.L0 ⟨e, 90, [], h⟩ K = (
bindO (binS .lss (e 19) (e 18)) fun x5 =>
condB x5 (
bindO (iaS 3 (e 17) (e 19)) fun x6 =>
bindO (loadS (some 3) x6 h) fun x7 =>
bindO (storeS 3 (.ptr (Heap.next h) 0) x7 (Heap.alloc h (.cells [(.str []), .nils, .nils]))) fun h8 =>
bindO (faS 0 (.ptr (Heap.next h) 0)) fun x9 =>
bindO (loadS (some 2) x9 h8) fun x10 =>
semCall Tryz.prog 61 [x10] h8 (outK (fun x11 h12 =>
bindO (unS .not x11) fun x15 =>
condB x15 (
K .ret ⟨(setV (setV (setV (setV (setV (setV (setV (setV (setV (setV (setV (setV (setV (setV (setV (setV (setV (setV (setV (setV (setV (setV (setV (setV (setV (setV (setV (setV (setV (setV (setV (setV (setV (setV (setV (setV (setV (setV (setV (setV (setV (setV e 20 x5) 21 x6) 22 x7) 6 (.ptr (Heap.next h) 0)) 23 x9) 24 x10) 25 x11) 26 x15) 27 x15) 27 (.bool true)) 28 noV) 27 (.bool true)) 29 noV) 27 (.bool true)) 30 noV) 27 (.bool true)) 31 noV) 27 (.bool true)) 32 noV) 33 (.bool true)) 34 (.bool true)) 34 (.bool true)) 35 noV) 34 (.bool true)) 36 noV) 34 (.bool true)) 37 noV) 34 (.bool true)) 38 noV) 39 (.bool true)) 40 (.bool true)) 40 (.bool true)) 41 noV) 40 (.bool true)) 42 noV) 40 (.bool true)) 43 noV) 40 (.bool true)) 44 noV) 45 (.bool true)) 2 .nilp) 3 (.bool false)), 90, [], h12⟩) (
bindO (faS 0 (.ptr (Heap.next h) 0)) fun x16 =>
bindO (loadS (some 2) x16 h12) fun x17 =>
semCall Tryz.prog 62 [(e 4), x17] h12 (outK (fun x18 h19 =>
bindO (unS .not x18) fun x22 =>
condB x22 (
K .ret ⟨(setV (setV (setV (setV (setV (setV (setV (setV (setV (setV (setV (setV (setV (setV (setV (setV (setV (setV (setV (setV (setV (setV (setV (setV (setV (setV (setV (setV (setV (setV (setV (setV (setV (setV (setV (setV (setV (setV (setV (setV (setV (setV e 20 x5) 21 x6) 22 x7) 6 (.ptr (Heap.next h) 0)) 23 x9) 24 x10) 25 x11) 26 x15) 27 x15) 27 (.bool false)) 28 (e 4)) 27 (.bool false)) 29 x16) 27 (.bool false)) 30 x17) 27 (.bool false)) 31 x18) 27 (.bool false)) 32 x22) 33 x22) 34 x22) 34 (.bool true)) 35 noV) 34 (.bool true)) 36 noV) 34 (.bool true)) 37 noV) 34 (.bool true)) 38 noV) 39 (.bool true)) 40 (.bool true)) 40 (.bool true)) 41 noV) 40 (.bool true)) 42 noV) 40 (.bool true)) 43 noV) 40 (.bool true)) 44 noV) 45 (.bool true)) 2 .nilp) 3 (.bool false)), 90, [], h19⟩) (
bindO (faS 2 (.ptr (Heap.next h) 0)) fun x23 =>
bindO (loadS none x23 h19) fun x24 =>
bindO (lenS .slice x24 h19) fun x25 =>
bindO (binS .gtr x25 (.int .i64 20)) fun x26 =>
condB x26 (
K .ret ⟨(setV (setV (setV (setV (setV (setV (setV (setV (setV (setV (setV (setV (setV (setV (setV (setV (setV (setV (setV (setV (setV (setV (setV (setV (setV (setV (setV (setV (setV (setV (setV (setV (setV (setV (setV (setV (setV (setV (setV (setV (setV (setV e 20 x5) 21 x6) 22 x7) 6 (.ptr (Heap.next h) 0)) 23 x9) 24 x10) 25 x11) 26 x15) 27 x15) 27 (.bool false)) 28 (e 4)) 27 (.bool false)) 29 x16) 27 (.bool false)) 30 x17) 27 (.bool false)) 31 x18) 27 (.bool false)) 32 x22) 33 x22) 34 x22) 34 (.bool false)) 35 x23) 34 (.bool false)) 36 x24) 34 (.bool false)) 37 x25) 34 (.bool false)) 38 x26) 39 x26) 40 x26) 40 (.bool true)) 41 noV) 40 (.bool true)) 42 noV) 40 (.bool true)) 43 noV) 40 (.bool true)) 44 noV) 45 (.bool true)) 2 .nilp) 3 (.bool false)), 90, [], h19⟩) (
bindO (loadS (some 3) (.ptr (Heap.next h) 0) h19) fun x27 =>
semCall Tryz.prog 63 [x27] h19 (outK (fun x28 h29 =>
bindO (lenS .slice x28 h29) fun x32 =>
bindO (binS .gtr x32 (.int .i64 12)) fun x33 =>
condB x33 (
K .ret ⟨(setV (setV (setV (setV (setV (setV (setV (setV (setV (setV (setV (setV (setV (setV (setV (setV (setV (setV (setV (setV (setV (setV (setV (setV (setV (setV (setV (setV (setV (setV (setV (setV (setV (setV (setV (setV (setV (setV (setV (setV (setV (setV e 20 x5) 21 x6) 22 x7) 6 (.ptr (Heap.next h) 0)) 23 x9) 24 x10) 25 x11) 26 x15) 27 x15) 27 (.bool false)) 28 (e 4)) 27 (.bool false)) 29 x16) 27 (.bool false)) 30 x17) 27 (.bool false)) 31 x18) 27 (.bool false)) 32 x22) 33 x22) 34 x22) 34 (.bool false)) 35 x23) 34 (.bool false)) 36 x24) 34 (.bool false)) 37 x25) 34 (.bool false)) 38 x26) 39 x26) 40 x26) 40 (.bool false)) 41 x27) 40 (.bool false)) 42 x28) 40 (.bool false)) 43 x32) 40 (.bool false)) 44 x33) 45 x33) 2 .nilp) 3 (.bool false)), 90, [], h29⟩) (
bindO (faS 2 (.ptr (Heap.next h) 0)) fun x34 =>
bindO (loadS none x34 h29) fun x35 =>
bindO (lenS .slice x35 h29) fun x36 =>
loopB (evalS Tryz.prog (semCall Tryz.prog) F.rules_of.L1) ⟨(setV (setV (setV (setV (setV (setV (setV (setV (setV (setV (setV (setV (setV (setV (setV (setV (setV (setV (setV (setV (setV (setV (setV (setV (setV (setV (setV (setV (setV (setV (setV (setV (setV (setV (setV (setV (setV (setV (setV (setV (setV (setV (setV (setV e 20 x5) 21 x6) 22 x7) 6 (.ptr (Heap.next h) 0)) 23 x9) 24 x10) 25 x11) 26 x15) 27 x15) 27 (.bool false)) 28 (e 4)) 27 (.bool false)) 29 x16) 27 (.bool false)) 30 x17) 27 (.bool false)) 31 x18) 27 (.bool false)) 32 x22) 33 x22) 34 x22) 34 (.bool false)) 35 x23) 34 (.bool false)) 36 x24) 34 (.bool false)) 37 x25) 34 (.bool false)) 38 x26) 39 x26) 40 x26) 40 (.bool false)) 41 x27) 40 (.bool false)) 42 x28) 40 (.bool false)) 43 x32) 40 (.bool false)) 44 x33) 45 x33) 46 x34) 47 x35) 48 x36) 49 (.int .i64 0)), 90, [], h29⟩ (F.rules_of.L1k K))) (fun v30 h31 => K (.panic v30) ⟨(setV (setV (setV (setV (setV (setV (setV (setV (setV (setV (setV (setV (setV (setV (setV (setV (setV (setV (setV (setV (setV (setV (setV (setV (setV (setV (setV (setV (setV (setV (setV (setV (setV (setV e 20 x5) 21 x6) 22 x7) 6 (.ptr (Heap.next h) 0)) 23 x9) 24 x10) 25 x11) 26 x15) 27 x15) 27 (.bool false)) 28 (e 4)) 27 (.bool false)) 29 x16) 27 (.bool false)) 30 x17) 27 (.bool false)) 31 x18) 27 (.bool false)) 32 x22) 33 x22) 34 x22) 34 (.bool false)) 35 x23) 34 (.bool false)) 36 x24) 34 (.bool false)) 37 x25) 34 (.bool false)) 38 x26) 39 x26) 40 x26) 40 (.bool false)) 41 x27) 40 (.bool false)), 90, [], h31⟩))))) (fun v20 h21 => K (.panic v20) ⟨(setV (setV (setV (setV (setV (setV (setV (setV (setV (setV (setV (setV (setV (setV (setV (setV e 20 x5) 21 x6) 22 x7) 6 (.ptr (Heap.next h) 0)) 23 x9) 24 x10) 25 x11) 26 x15) 27 x15) 27 (.bool false)) 28 (e 4)) 27 (.bool false)) 29 x16) 27 (.bool false)) 30 x17) 27 (.bool false)), 90, [], h21⟩)))) (fun v13 h14 => K (.panic v13) ⟨(setV (setV (setV (setV (setV (setV e 20 x5) 21 x6) 22 x7) 6 (.ptr (Heap.next h) 0)) 23 x9) 24 x10), 90, [], h14⟩))) (
K (.exit 0) ⟨(setV e 20 x5), 90, [], h⟩)) := by kernel_rfl
theorem F.rules_of.L0_x0_eq {e : Env} {h : Heap} {K : Out → Heap → Bool} : F.rules_of.L0k K (.exit 0) ⟨e, 90, [], h⟩ = (
bindO (nilCheckS (e 4)) fun x37 =>
bindO (faS 2 x37) fun x38 =>
bindO (loadS none x38 h) fun x39 =>
bindO (lenS .map x39 h) fun x40 =>
bindO (binS .add x40 (.int .i64 1)) fun x41 =>
loopB (evalS Tryz.prog (semCall Tryz.prog) F.rules_of.L2) ⟨(setV (setV (setV (setV (setV (setV (setV e 77 (e 4)) 78 x37) 79 x38) 80 x39) 81 x40) 82 x41) 83 (.int .i64 0)), 90, [], h⟩ (F.rules_of.L2k K)) := by kernel_rfl
theorem F.rules_of.L0_r_eq {e : Env} {h : Heap} {K : Out → Heap → Bool} : F.rules_of.L0k K .ret ⟨e, 90, [], h⟩ = (
K (.ret (.tuple [(e 2), (e 3)])) h) := by kernel_rfl
theorem F.rules_of.L1_eq {e : Env} {h : Heap} {K : AX → St → Bool} : evalS Tryz.prog (semCall Tryz.prog) F.rules_of.L1 ⟨e, 90, [], h⟩ K = (
bindO (binS .lss (e 49) (e 48)) fun x42 =>
condB x42 (
bindO (iaS 4 (e 47) (e 49)) fun x43 =>
bindO (loadS (some 4) x43 h) fun x44 =>
bindO (storeS 4 (.ptr (Heap.next h) 0) x44 (Heap.alloc h (.cells [(.int .i64 0), (.bool false), (.str []), .nils]))) fun h45 =>
bindO (loadS (some 4) (.ptr (Heap.next h) 0) h45) fun x46 =>
semCall Tryz.prog 64 [x46] h45 (outK (fun x47 h48 =>
bindO (unS .not x47) fun x51 =>
condB x51 (
K .ret ⟨(setV (setV (setV (setV (setV (setV (setV (setV (setV (setV (setV (setV (setV (setV (setV (setV (setV (setV (setV (setV (setV (setV (setV (setV (setV (setV e 50 x42) 51 x43) 52 x44) 8 (.ptr (Heap.next h) 0)) 53 x46) 54 x47) 55 x51) 56 x51) 56 (.bool true)) 57 noV) 56 (.bool true)) 58 noV) 56 (.bool true)) 59 noV) 56 (.bool true)) 60 noV) 61 noV) 62 noV) 63 noV) 64 noV) 65 noV) 56 (.bool true)) 66 noV) 67 (.bool true)) 2 .nilp) 3 (.bool false)), 90, [], h48⟩) (
bindO (faS 0 (.ptr (Heap.next h) 0)) fun x52 =>
bindO (loadS none x52 h48) fun x53 =>
bindO (eqV (.int .i64) x53 (.int .i64 0)) fun x54 =>
condB x54 (
bindO (faS 2 (.ptr (Heap.next h) 0)) fun x55 =>
bindO (loadS (some 2) x55 h48) fun x56 =>
semCall Tryz.prog 62 [(e 4), x56] h48 (outK (fun x57 h58 =>
bindO (unS .not x57) fun x61 =>
condB x61 (
K .ret ⟨(setV (setV (setV (setV (setV (setV (setV (setV (setV (setV (setV (setV (setV (setV (setV (setV (setV (setV (setV (setV (setV (setV (setV (setV (setV (setV (setV (setV (setV (setV (setV e 50 x42) 51 x43) 52 x44) 8 (.ptr (Heap.next h) 0)) 53 x46) 54 x47) 55 x51) 56 x51) 56 (.bool false)) 57 x52) 56 (.bool false)) 58 x53) 56 (.bool false)) 59 x54) 56 (.bool false)) 60 x54) 60 (.bool true)) 61 (e 4)) 60 (.bool true)) 62 x55) 60 (.bool true)) 63 x56) 60 (.bool true)) 64 x57) 60 (.bool true)) 65 x61) 56 (.bool false)) 66 x61) 67 x61) 2 .nilp) 3 (.bool false)), 90, [], h58⟩) (
bindO (binS .add (e 49) (.int .i64 1)) fun x62 =>
K .normal ⟨(setV (setV (setV (setV (setV (setV (setV (setV (setV (setV (setV (setV (setV (setV (setV (setV (setV (setV (setV (setV (setV (setV (setV (setV (setV (setV (setV (setV (setV (setV (setV e 50 x42) 51 x43) 52 x44) 8 (.ptr (Heap.next h) 0)) 53 x46) 54 x47) 55 x51) 56 x51) 56 (.bool false)) 57 x52) 56 (.bool false)) 58 x53) 56 (.bool false)) 59 x54) 56 (.bool false)) 60 x54) 60 (.bool true)) 61 (e 4)) 60 (.bool true)) 62 x55) 60 (.bool true)) 63 x56) 60 (.bool true)) 64 x57) 60 (.bool true)) 65 x61) 56 (.bool false)) 66 x61) 67 x61) 68 x62) 49 x62), 90, [], h58⟩)) (fun v59 h60 => K (.panic v59) ⟨(setV (setV (setV (setV (setV (setV (setV (setV (setV (setV (setV (setV (setV (setV (setV (setV (setV (setV (setV (setV (setV (setV (setV e 50 x42) 51 x43) 52 x44) 8 (.ptr (Heap.next h) 0)) 53 x46) 54 x47) 55 x51) 56 x51) 56 (.bool false)) 57 x52) 56 (.bool false)) 58 x53) 56 (.bool false)) 59 x54) 56 (.bool false)) 60 x54) 60 (.bool true)) 61 (e 4)) 60 (.bool true)) 62 x55) 60 (.bool true)) 63 x56) 60 (.bool true)), 90, [], h60⟩))) (
bindO (binS .add (e 49) (.int .i64 1)) fun x63 =>
K .normal ⟨(setV (setV (setV (setV (setV (setV (setV (setV (setV (setV (setV (setV (setV (setV (setV (setV (setV (setV (setV (setV (setV (setV (setV (setV (setV (setV (setV (setV (setV (setV (setV e 50 x42) 51 x43) 52 x44) 8 (.ptr (Heap.next h) 0)) 53 x46) 54 x47) 55 x51) 56 x51) 56 (.bool false)) 57 x52) 56 (.bool false)) 58 x53) 56 (.bool false)) 59 x54) 56 (.bool false)) 60 x54) 60 (.bool false)) 61 noV) 60 (.bool false)) 62 noV) 60 (.bool false)) 63 noV) 60 (.bool false)) 64 noV) 60 (.bool false)) 65 noV) 56 (.bool false)) 66 (.bool false)) 67 (.bool false)) 68 x63) 49 x63), 90, [], h48⟩))) (fun v49 h50 => K (.panic v49) ⟨(setV (setV (setV (setV (setV e 50 x42) 51 x43) 52 x44) 8 (.ptr (Heap.next h) 0)) 53 x46), 90, [], h50⟩))) (
K (.exit 2) ⟨(setV e 50 x42), 90, [], h⟩)) := by kernel_rfl
theorem F.rules_of.L1_x2_eq {e : Env} {h : Heap} {K : AX → St → Bool} : F.rules_of.L1k K (.exit 2) ⟨e, 90, [], h⟩ = (
bindO (nilCheckS (e 4)) fun x64 =>
bindO (faS 2 x64) fun x65 =>
bindO (loadS none x65 h) fun x66 =>
bindO (faS 0 (e 6)) fun x67 =>
bindO (faS 0 x67) fun x68 =>
bindO (loadS none x68 h) fun x69 =>
bindO (mapUpdateS .string x66 x69 (.int .i64 0) h) fun h70 =>
bindO (binS .add (e 19) (.int .i64 1)) fun x71 =>
K .normal ⟨(setV (setV (setV (setV (setV (setV (setV (setV (setV e 69 (e 4)) 70 x64) 71 x65) 72 x66) 73 x67) 74 x68) 75 x69) 76 x71) 19 x71), 90, [], h70⟩) := by kernel_rfl
theorem F.rules_of.L1_r_eq {e : Env} {h : Heap} {K : AX → St → Bool} : F.rules_of.L1k K .ret ⟨e, 90, [], h⟩ = (
K .ret ⟨e, 90, [], h⟩) := by kernel_rfl
theorem F.rules_of.L2_eq {e : Env} {h : Heap} {K : AX → St → Bool} : evalS Tryz.prog (semCall Tryz.prog) F.rules_of.L2 ⟨e, 90, [], h⟩ K = (
bindO (binS .lss (e 83) (e 82)) fun x72 =>
condB x72 (
semCall Tryz.prog 65 [(e 4)] h (outK (fun x73 h74 =>
bindO (unS .not x73) fun x77 =>
condB x77 (
K .ret ⟨(setV (setV (setV (setV (setV (setV (setV e 84 x72) 85 (e 4)) 86 x73) 87 x77) 88 (e 4)) 2 (e 4)) 3 (.bool true)), 90, [], h74⟩) (
bindO (binS .add (e 83) (.int .i64 1)) fun x78 =>
K .normal ⟨(setV (setV (setV (setV (setV (setV e 84 x72) 85 (e 4)) 86 x73) 87 x77) 89 x78) 83 x78), 90, [], h74⟩)) (fun v75 h76 => K (.panic v75) ⟨(setV (setV e 84 x72) 85 (e 4)), 90, [], h76⟩))) (
K (.exit 4) ⟨(setV e 84 x72), 90, [], h⟩)) := by kernel_rfl
theorem F.rules_of.L2_x4_eq {e : Env} {h : Heap} {K : Out → Heap → Bool} : F.rules_of.L2k K (.exit 4) ⟨e, 90, [], h⟩ = (
K (.ret (.tuple [.nilp, (.bool false)])) h) := by kernel_rfl
theorem F.rules_of.L2_r_eq {e : Env} {h : Heap} {K : Out → Heap → Bool} : F.rules_of.L2k K .ret ⟨e, 90, [], h⟩ = (
K (.ret (.tuple [(e 2), (e 3)])) h) := by kernel_rfl
theorem F.rules_of_eq {a0 : AV} {h : Heap} {K : Out → Heap → Bool} : evalS Tryz.prog (semCall Tryz.prog) (codeOf Tryz.f25) ⟨mkEnv [a0], 90, [], h⟩ (leaveK Tryz.prog noD Tryz.f25.results.toList K) = (
bindO (aggS [.nils, .nilm, .nilm] [(0, 1), (1, 1), (2, 1)] [a0, (.map (Heap.next h)), (.map (Heap.next (Heap.alloc h (.map [] 0))))]) fun x0 =>
bindO (boxS x0) fun c1 =>
bindO (lenS .slice a0 (Heap.alloc (Heap.alloc (Heap.alloc h (.map [] 0)) (.map [] 0)) (.cells c1))) fun x2 =>
bindO (binS .gtr x2 (.int .i64 60)) fun x3 =>
condB x3 (
K (.ret (.tuple [.nilp, (.bool false)])) (Heap.alloc (Heap.alloc (Heap.alloc h (.map [] 0)) (.map [] 0)) (.cells c1))) (
bindO (lenS .slice a0 (Heap.alloc (Heap.alloc (Heap.alloc h (.map [] 0)) (.map [] 0)) (.cells c1))) fun x4 =>
loopB (evalS Tryz.prog (semCall Tryz.prog) F.rules_of.L0) ⟨(setV (setV (setV (setV (setV (setV (setV (setV (setV (setV (setV (setV (setV (setV (mkEnv [a0]) 2 .nilp) 3 (.bool false)) 9 a0) 10 (.map (Heap.next h))) 11 (.map (Heap.next (Heap.alloc h (.map [] 0))))) 12 x0) 13 (.ptr (Heap.next (Heap.alloc (Heap.alloc h (.map [] 0)) (.map [] 0))) 0)) 4 (.ptr (Heap.next (Heap.alloc (Heap.alloc h (.map [] 0)) (.map [] 0))) 0)) 14 a0) 15 x2) 16 x3) 17 a0) 18 x4) 19 (.int .i64 0)), 90, [], (Heap.alloc (Heap.alloc (Heap.alloc h (.map [] 0)) (.map [] 0)) (.cells c1))⟩ (F.rules_of.L0k K))) := by kernel_rfl
theorem F.rules_of_sem {a0 : AV} {h : Heap} {K : Out → Heap → Bool} (hh : (
bindO (aggS [.nils, .nilm, .nilm] [(0, 1), (1, 1), (2, 1)] [a0, (.map (Heap.next h)), (.map (Heap.next (Heap.alloc h (.map [] 0))))]) fun x0 =>
bindO (boxS x0) fun c1 =>
bindO (lenS .slice a0 (Heap.alloc (Heap.alloc (Heap.alloc h (.map [] 0)) (.map [] 0)) (.cells c1))) fun x2 =>
bindO (binS .gtr x2 (.int .i64 60)) fun x3 =>
condB x3 (
K (.ret (.tuple [.nilp, (.bool false)])) (Heap.alloc (Heap.alloc (Heap.alloc h (.map [] 0)) (.map [] 0)) (.cells c1))) (
bindO (lenS .slice a0 (Heap.alloc (Heap.alloc (Heap.alloc h (.map [] 0)) (.map [] 0)) (.cells c1))) fun x4 =>
loopB (evalS Tryz.prog (semCall Tryz.prog) F.rules_of.L0) ⟨(setV (setV (setV (setV (setV (setV (setV (setV (setV (setV (setV (setV (setV (setV (mkEnv [a0]) 2 .nilp) 3 (.bool false)) 9 a0) 10 (.map (Heap.next h))) 11 (.map (Heap.next (Heap.alloc h (.map [] 0))))) 12 x0) 13 (.ptr (Heap.next (Heap.alloc (Heap.alloc h (.map [] 0)) (.map [] 0))) 0)) 4 (.ptr (Heap.next (Heap.alloc (Heap.alloc h (.map [] 0)) (.map [] 0))) 0)) 14 a0) 15 x2) 16 x3) 17 a0) 18 x4) 19 (.int .i64 0)), 90, [], (Heap.alloc (Heap.alloc (Heap.alloc h (.map [] 0)) (.map [] 0)) (.cells c1))⟩ (F.rules_of.L0k K))) = true) : Sem Tryz.prog 25 [a0] h K :=
  sem_body mixed (noD_sound _) Tryz.func25 (c := codeOf Tryz.f25) rfl (by decide) (of_decide_eq_true (by kernel_rfl)) (F.rules_of_eq.trans hh)
noncomputable def F.rules_program_rise.L0 : Code := partOf (codeOf Tryz.f65) [1, 1, 0, 1, 0, 0]
noncomputable def F.rules_program_rise.L0k (K : Out → Heap → Bool) : AX → St → Bool := (blockK 0 (seqK false (evalS Tryz.prog (semCall Tryz.prog) (partOf (codeOf Tryz.f65) [1, 1, 1])) (leaveK Tryz.prog noD Tryz.f65.results.toList K)))
noncomputable def F.rules_program_rise.L1 : Code := partOf (codeOf Tryz.f65) [1, 1, 0, 1, 0, 0, 1, 1, 0, 0, 1, 1, 0, 0]
noncomputable def F.rules_program_rise.L1k (K : AX → St → Bool) : AX → St → Bool := (blockK 2 (blockK 1 (seqK false (evalS Tryz.prog (semCall Tryz.prog) (partOf (codeOf Tryz.f65) [1, 1, 0, 1, 0, 0, 1, 1, 1])) K)))
noncomputable def F.rules_program_rise.J0 (K : AX → St → Bool) (s : St) : Bool := runB (evalS Tryz.prog (semCall Tryz.prog) (partOf (codeOf Tryz.f65) [1, 1, 0, 1, 0, 0, 1, 1, 0, 0, 1, 1, 0, 0, 1, 1, 0, 0, 1, 1, 1, 1])) s (blockK 3 (seqK false (evalS Tryz.prog (semCall Tryz.prog) (partOf (codeOf Tryz.f65) [1, 1, 0, 1, 0, 0, 1, 1, 0, 0, 1, 1, 0, 0, 1, 1, 1])) K))
theorem F.rules_program_rise.L0_eq {e : Env} {h : Heap} {K : AX → St → Bool} : evalS Tryz.prog (semCall Tryz.prog) F.rules_program_rise.L0 ⟨e, 71, [], h⟩ K = (
bindO (binS .lss (e 15) (e 14)) fun x4 =>
condB x4 (
bindO (iaS 3 (e 13) (e 15)) fun x5 =>
bindO (loadS (some 3) x5 h) fun x6 =>
bindO (storeS 3 (.ptr (Heap.next h) 0) x6 (Heap.alloc h (.cells [(.str []), .nils, .nils]))) fun h7 =>
bindO (faS 2 (.ptr (Heap.next h) 0)) fun x8 =>
bindO (loadS none x8 h7) fun x9 =>
bindO (lenS .slice x9 h7) fun x10 =>
loopB (evalS Tryz.prog (semCall Tryz.prog) F.rules_program_rise.L1) ⟨(setV (setV (setV (setV (setV (setV (setV (setV e 16 x4) 17 x5) 18 x6) 5 (.ptr (Heap.next h) 0)) 19 x8) 20 x9) 21 x10) 22 (.int .i64 0)), 71, [], h7⟩ (F.rules_program_rise.L1k K)) (
K (.exit 0) ⟨(setV e 16 x4), 71, [], h⟩)) := by kernel_rfl
theorem F.rules_program_rise.L0_x0_eq {e : Env} {h : Heap} {K : Out → Heap → Bool} : F.rules_program_rise.L0k K (.exit 0) ⟨e, 71, [], h⟩ = (
K (.ret (e 3)) h) := by kernel_rfl
theorem F.rules_program_rise.L1_eq {e : Env} {h : Heap} {K : AX → St → Bool} : evalS Tryz.prog (semCall Tryz.prog) F.rules_program_rise.L1 ⟨e, 71, [], h⟩ K = (
bindO (binS .lss (e 22) (e 21)) fun x11 =>
condB x11 (
bindO (iaS 4 (e 20) (e 22)) fun x12 =>
bindO (loadS (some 4) x12 h) fun x13 =>
bindO (storeS 4 (.ptr (Heap.next h) 0) x13 (Heap.alloc h (.cells [(.int .i64 0), (.bool false), (.str []), .nils]))) fun h14 =>
bindO (nilCheckS (e 0)) fun x15 =>
bindO (faS 2 x15) fun x16 =>
bindO (loadS none x16 h14) fun x17 =>
bindO (faS 2 (.ptr (Heap.next h) 0)) fun x18 =>
bindO (faS 0 x18) fun x19 =>
bindO (loadS none x19 h14) fun x20 =>
bindO (lookupS .string (.int .i64 0) true x17 x20 h14) fun x21 =>
bindO (extractS x21 0) fun x22 =>
bindO (extractS x21 1) fun x23 =>
bindO (faS 0 (.ptr (Heap.next h) 0)) fun x24 =>
bindO (loadS none x24 h14) fun x25 =>
bindO (neV (.int .i64) x25 (.int .i64 0)) fun x26 =>
condB x26 (
bindO (binS .add (e 22) (.int .i64 1)) fun x27 =>
K .normal ⟨(setV (setV (setV (setV (setV (setV (setV (setV (setV (setV (setV (setV (setV (setV (setV (setV (setV (setV (setV (setV (setV (setV (setV (setV (setV (setV (setV (setV e 23 x11) 24 x12) 25 x13) 7 (.ptr (Heap.next h) 0)) 27 (e 0)) 28 x15) 29 x16) 30 x17) 31 x18) 32 x19) 33 x20) 34 x21) 26 x21) 35 x22) 36 x23) 8 x22) 9 x23) 37 x24) 38 x25) 39 x26) 40 x26) 40 (.bool true)) 41 noV) 40 (.bool true)) 42 noV) 43 (.bool true)) 68 x27) 22 x27), 71, [], h14⟩) (
bindO (unS .not x23) fun x28 =>
condB x28 (
bindO (binS .add (e 22) (.int .i64 1)) fun x29 =>
K .normal ⟨(setV (setV (setV (setV (setV (setV (setV (setV (setV (setV (setV (setV (setV (setV (setV (setV (setV (setV (setV (setV (setV (setV (setV (setV (setV (setV (setV (setV e 23 x11) 24 x12) 25 x13) 7 (.ptr (Heap.next h) 0)) 27 (e 0)) 28 x15) 29 x16) 30 x17) 31 x18) 32 x19) 33 x20) 34 x21) 26 x21) 35 x22) 36 x23) 8 x22) 9 x23) 37 x24) 38 x25) 39 x26) 40 x26) 40 (.bool false)) 41 x23) 40 (.bool false)) 42 x28) 43 x28) 68 x29) 22 x29), 71, [], h14⟩) (
bindO (faS 1 (.ptr (Heap.next h) 0)) fun x30 =>
bindO (loadS none x30 h14) fun x31 =>
condB x31 (
bindO (binS .add x22 (.int .i64 1)) fun x32 =>
F.rules_program_rise.J0 K ⟨(setV (setV (setV (setV (setV (setV (setV (setV (setV (setV (setV (setV (setV (setV (setV (setV (setV (setV (setV (setV (setV (setV (setV (setV (setV (setV (setV (setV (setV (setV (setV e 23 x11) 24 x12) 25 x13) 7 (.ptr (Heap.next h) 0)) 27 (e 0)) 28 x15) 29 x16) 30 x17) 31 x18) 32 x19) 33 x20) 34 x21) 26 x21) 35 x22) 36 x23) 8 x22) 9 x23) 37 x24) 38 x25) 39 x26) 40 x26) 40 (.bool false)) 41 x23) 40 (.bool false)) 42 x28) 43 x28) 44 x30) 45 x31) 46 x22) 47 x32) 8 x32), 71, [], h14⟩) (
F.rules_program_rise.J0 K ⟨(setV (setV (setV (setV (setV (setV (setV (setV (setV (setV (setV (setV (setV (setV (setV (setV (setV (setV (setV (setV (setV (setV (setV (setV (setV (setV (setV (setV e 23 x11) 24 x12) 25 x13) 7 (.ptr (Heap.next h) 0)) 27 (e 0)) 28 x15) 29 x16) 30 x17) 31 x18) 32 x19) 33 x20) 34 x21) 26 x21) 35 x22) 36 x23) 8 x22) 9 x23) 37 x24) 38 x25) 39 x26) 40 x26) 40 (.bool false)) 41 x23) 40 (.bool false)) 42 x28) 43 x28) 44 x30) 45 x31), 71, [], h14⟩)))) (
K (.exit 2) ⟨(setV e 23 x11), 71, [], h⟩)) := by kernel_rfl
theorem F.rules_program_rise.L1_x2_eq {e : Env} {h : Heap} {K : AX → St → Bool} : F.rules_program_rise.L1k K (.exit 2) ⟨e, 71, [], h⟩ = (
bindO (binS .add (e 15) (.int .i64 1)) fun x33 =>
K .normal ⟨(setV (setV e 69 x33) 15 x33), 71, [], h⟩) := by kernel_rfl
theorem F.rules_program_rise.J0_eq {e : Env} {h : Heap} {K : AX → St → Bool} : F.rules_program_rise.J0 K ⟨e, 71, [], h⟩ = (
bindO (nilCheckS (e 0)) fun x34 =>
bindO (faS 2 x34) fun x35 =>
bindO (loadS none x35 h) fun x36 =>
bindO (faS 0 (e 5)) fun x37 =>
bindO (faS 0 x37) fun x38 =>
bindO (loadS none x38 h) fun x39 =>
bindO (lookupS .string (.int .i64 0) false x36 x39 h) fun x40 =>
bindO (binS .gtr (e 8) x40) fun x41 =>
condB x41 (
bindO (nilCheckS (e 0)) fun x42 =>
bindO (faS 2 x42) fun x43 =>
bindO (loadS none x43 h) fun x44 =>
bindO (faS 0 (e 5)) fun x45 =>
bindO (faS 0 x45) fun x46 =>
bindO (loadS none x46 h) fun x47 =>
bindO2 (mapEntryS .string (.int .i64 0) x44 x47 h) fun x48 h49 =>
bindO (extractS x48 1) fun x50 =>
bindO (entryStoreS x44 x50 (e 8) h49) fun h51 =>
bindO (binS .add (e 22) (.int .i64 1)) fun x52 =>
K .normal ⟨(setV (setV (setV (setV (setV (setV (setV (setV (setV (setV (setV (setV (setV (setV (setV (setV (setV (setV (setV (setV (setV (setV (setV e 48 (e 8)) 49 (e 0)) 50 x34) 51 x35) 52 x36) 53 x37) 54 x38) 55 x39) 56 x40) 57 x41) 58 (e 0)) 59 x42) 60 x43) 61 x44) 62 x45) 63 x46) 64 x47) 65 (e 8)) 66 x48) 67 x50) 3 (.bool true)) 68 x52) 22 x52), 71, [], h51⟩) (
bindO (binS .add (e 22) (.int .i64 1)) fun x53 =>
K .normal ⟨(setV (setV (setV (setV (setV (setV (setV (setV (setV (setV (setV (setV e 48 (e 8)) 49 (e 0)) 50 x34) 51 x35) 52 x36) 53 x37) 54 x38) 55 x39) 56 x40) 57 x41) 68 x53) 22 x53), 71, [], h⟩)) := (runB_eq _ _ _).trans (by kernel_rfl)
theorem F.rules_program_rise_eq {a0 : AV} {h : Heap} {K : Out → Heap → Bool} : evalS Tryz.prog (semCall Tryz.prog) (codeOf Tryz.f65) ⟨mkEnv [a0], 71, [], h⟩ (leaveK Tryz.prog noD Tryz.f65.results.toList K) = (
bindO (nilCheckS a0) fun x0 =>
bindO (faS 0 x0) fun x1 =>
bindO (loadS none x1 h) fun x2 =>
bindO (lenS .slice x2 h) fun x3 =>
loopB (evalS Tryz.prog (semCall Tryz.prog) F.rules_program_rise.L0) ⟨(setV (setV (setV (setV (setV (setV (setV (setV (mkEnv [a0]) 2 (.bool false)) 3 (.bool false)) 10 a0) 11 x0) 12 x1) 13 x2) 14 x3) 15 (.int .i64 0)), 71, [], h⟩ (F.rules_program_rise.L0k K)) := by kernel_rfl
theorem F.rules_program_rise_sem {a0 : AV} {h : Heap} {K : Out → Heap → Bool} (hh : (
bindO (nilCheckS a0) fun x0 =>
bindO (faS 0 x0) fun x1 =>
bindO (loadS none x1 h) fun x2 =>
bindO (lenS .slice x2 h) fun x3 =>
loopB (evalS Tryz.prog (semCall Tryz.prog) F.rules_program_rise.L0) ⟨(setV (setV (setV (setV (setV (setV (setV (setV (mkEnv [a0]) 2 (.bool false)) 3 (.bool false)) 10 a0) 11 x0) 12 x1) 13 x2) 14 x3) 15 (.int .i64 0)), 71, [], h⟩ (F.rules_program_rise.L0k K)) = true) : Sem Tryz.prog 65 [a0] h K :=
  sem_body mixed (noD_sound _) Tryz.func65 (c := codeOf Tryz.f65) rfl (by decide) (of_decide_eq_true (by kernel_rfl)) (F.rules_program_rise_eq.trans hh)
noncomputable def F.ref07_Valid.L0 : Code := partOf (codeOf Tryz.f8) [1, 1, 0, 1, 0, 0]
noncomputable def F.ref07_Valid.L0k (K : Out → Heap → Bool) : AX → St → Bool := (blockK 0 (seqK false (evalS Tryz.prog (semCall Tryz.prog) (partOf (codeOf Tryz.f8) [1, 1, 1])) (leaveK Tryz.prog noD Tryz.f8.results.toList K)))
noncomputable def F.ref07_Valid.L1 : Code := partOf (codeOf Tryz.f8) [1, 1, 1, 1, 0, 1, 0, 0]
noncomputable def F.ref07_Valid.L1k (K : Out → Heap → Bool) : AX → St → Bool := (blockK 2 (seqK false (evalS Tryz.prog (semCall Tryz.prog) (partOf (codeOf Tryz.f8) [1, 1, 1, 1, 1])) (leaveK Tryz.prog noD Tryz.f8.results.toList K)))
noncomputable def F.ref07_Valid.L2 : Code := partOf (codeOf Tryz.f8) [1, 1, 1, 1, 0, 1, 0, 0, 1, 0, 0, 1, 0, 0]
noncomputable def F.ref07_Valid.L2k (K : AX → St → Bool) : AX → St → Bool := (blockK 4 (blockK 3 (seqK false (evalS Tryz.prog (semCall Tryz.prog) (partOf (codeOf Tryz.f8) [1, 1, 1, 1, 0, 1, 0, 0, 1, 1])) K)))
theorem F.ref07_Valid.L0_eq {e : Env} {h : Heap} {K : AX → St → Bool} : evalS Tryz.prog (semCall Tryz.prog) F.ref07_Valid.L0 ⟨e, 67, [], h⟩ K = (
bindO (lenS .slice (e 0) h) fun x2 =>
bindO (binS .lss (e 3) x2) fun x3 =>
condB x3 (
bindO (iaS 3 (e 0) (e 3)) fun x4 =>
bindO (loadS (some 3) x4 h) fun x5 =>
semCall Tryz.prog 28 [x5] h (outK (fun x6 h7 =>
bindO (unS .not x6) fun x10 =>
condB x10 (
K .ret ⟨(setV (setV (setV (setV (setV (setV (setV (setV (setV (setV (setV e 12 (e 3)) 13 (e 0)) 14 x2) 15 x3) 18 (e 0)) 19 (e 3)) 20 x4) 21 x5) 22 x6) 23 x10) 2 (.bool false)), 67, [], h7⟩) (
bindO (binS .add (e 3) (.int .i64 1)) fun x11 =>
K .normal ⟨(setV (setV (setV (setV (setV (setV (setV (setV (setV (setV (setV (setV (setV e 12 (e 3)) 13 (e 0)) 14 x2) 15 x3) 18 (e 0)) 19 (e 3)) 20 x4) 21 x5) 22 x6) 23 x10) 16 (e 3)) 17 x11) 3 x11), 67, [], h7⟩)) (fun v8 h9 => K (.panic v8) ⟨(setV (setV (setV (setV (setV (setV (setV (setV e 12 (e 3)) 13 (e 0)) 14 x2) 15 x3) 18 (e 0)) 19 (e 3)) 20 x4) 21 x5), 67, [], h9⟩))) (
K (.exit 0) ⟨(setV (setV (setV (setV e 12 (e 3)) 13 (e 0)) 14 x2) 15 x3), 67, [], h⟩)) := by kernel_rfl
theorem F.ref07_Valid.L0_x0_eq {e : Env} {h : Heap} {K : Out → Heap → Bool} : F.ref07_Valid.L0k K (.exit 0) ⟨e, 67, [], h⟩ = (
semCall Tryz.prog 29 [(e 0)] h (outK (fun x12 h13 =>
loopB (evalS Tryz.prog (semCall Tryz.prog) F.ref07_Valid.L1) ⟨(setV (setV (setV (setV e 24 (e 0)) 25 x12) 4 x12) 5 (.int .i64 0)), 67, [], h13⟩ (F.ref07_Valid.L1k K)) (fun v14 h15 => K (.panic v14) h15))) := by kernel_rfl
theorem F.ref07_Valid.L0_r_eq {e : Env} {h : Heap} {K : Out → Heap → Bool} : F.ref07_Valid.L0k K .ret ⟨e, 67, [], h⟩ = (
K (.ret (e 2)) h) := by kernel_rfl
theorem F.ref07_Valid.L1_eq {e : Env} {h : Heap} {K : AX → St → Bool} : evalS Tryz.prog (semCall Tryz.prog) F.ref07_Valid.L1 ⟨e, 67, [], h⟩ K = (
bindO (lenS .slice (e 4) h) fun x16 =>
bindO (binS .lss (e 5) x16) fun x17 =>
condB x17 (
loopB (evalS Tryz.prog (semCall Tryz.prog) F.ref07_Valid.L2) ⟨(setV (setV (setV (setV (setV e 26 (e 5)) 27 (e 4)) 28 x16) 29 x17) 6 (.int .i64 0)), 67, [], h⟩ (F.ref07_Valid.L2k K)) (
K (.exit 2) ⟨(setV (setV (setV (setV e 26 (e 5)) 27 (e 4)) 28 x16) 29 x17), 67, [], h⟩)) := by kernel_rfl
theorem F.ref07_Valid.L1_x2_eq {e : Env} {h : Heap} {K : Out → Heap → Bool} : F.ref07_Valid.L1k K (.exit 2) ⟨e, 67, [], h⟩ = (
semCall Tryz.prog 9 [(e 0)] h (outK (fun x18 h19 =>
bindO (extractS x18 0) fun x22 =>
bindO (extractS x18 1) fun x23 =>
K (.ret x23) h19) (fun v20 h21 => K (.panic v20) h21))) := by kernel_rfl
theorem F.ref07_Valid.L1_r_eq {e : Env} {h : Heap} {K : Out → Heap → Bool} : F.ref07_Valid.L1k K .ret ⟨e, 67, [], h⟩ = (
K (.ret (e 2)) h) := by kernel_rfl
theorem F.ref07_Valid.L2_eq {e : Env} {h : Heap} {K : AX → St → Bool} : evalS Tryz.prog (semCall Tryz.prog) F.ref07_Valid.L2 ⟨e, 67, [], h⟩ K = (
bindO (binS .lss (e 6) (e 5)) fun x24 =>
condB x24 (
bindO (iaS 2 (e 4) (e 6)) fun x25 =>
bindO (faS 0 x25) fun x26 =>
bindO (loadS none x26 h) fun x27 =>
bindO (iaS 2 (e 4) (e 5)) fun x28 =>
bindO (faS 0 x28) fun x29 =>
bindO (loadS none x29 h) fun x30 =>
bindO (eqV .string x27 x30) fun x31 =>
condB x31 (
bindO (iaS 2 (e 4) (e 6)) fun x32 =>
bindO (faS 1 x32) fun x33 =>
bindO (loadS none x33 h) fun x34 =>
bindO (iaS 2 (e 4) (e 5)) fun x35 =>
bindO (faS 1 x35) fun x36 =>
bindO (loadS none x36 h) fun x37 =>
bindO (neV (.int .i64) x34 x37) fun x38 =>
condB x38 (
K .ret ⟨(setV (setV (setV (setV (setV (setV (setV (setV (setV (setV (setV (setV (setV (setV (setV (setV (setV (setV (setV (setV (setV (setV (setV (setV (setV (setV (setV (setV (setV (setV (setV (setV (setV (setV (setV (setV (setV (setV (setV e 32 (e 6)) 33 (e 5)) 34 x24) 37 (e 4)) 38 (e 6)) 39 x25) 40 x26) 41 x27) 42 (e 4)) 43 (e 5)) 44 x28) 45 x29) 46 x30) 47 x31) 48 x31) 48 (.bool true)) 49 (e 4)) 48 (.bool true)) 50 (e 6)) 48 (.bool true)) 51 x32) 48 (.bool true)) 52 x33) 48 (.bool true)) 53 x34) 48 (.bool true)) 54 (e 4)) 48 (.bool true)) 55 (e 5)) 48 (.bool true)) 56 x35) 48 (.bool true)) 57 x36) 48 (.bool true)) 58 x37) 48 (.bool true)) 59 x38) 60 x38) 2 (.bool false)), 67, [], h⟩) (
bindO (binS .add (e 6) (.int .i64 1)) fun x39 =>
K .normal ⟨(setV (setV (setV (setV (setV (setV (setV (setV (setV (setV (setV (setV (setV (setV (setV (setV (setV (setV (setV (setV (setV (setV (setV (setV (setV (setV (setV (setV (setV (setV (setV (setV (setV (setV (setV (setV (setV (setV (setV (setV (setV e 32 (e 6)) 33 (e 5)) 34 x24) 37 (e 4)) 38 (e 6)) 39 x25) 40 x26) 41 x27) 42 (e 4)) 43 (e 5)) 44 x28) 45 x29) 46 x30) 47 x31) 48 x31) 48 (.bool true)) 49 (e 4)) 48 (.bool true)) 50 (e 6)) 48 (.bool true)) 51 x32) 48 (.bool true)) 52 x33) 48 (.bool true)) 53 x34) 48 (.bool true)) 54 (e 4)) 48 (.bool true)) 55 (e 5)) 48 (.bool true)) 56 x35) 48 (.bool true)) 57 x36) 48 (.bool true)) 58 x37) 48 (.bool true)) 59 x38) 60 x38) 35 (e 6)) 36 x39) 6 x39), 67, [], h⟩)) (
bindO (binS .add (e 6) (.int .i64 1)) fun x40 =>
K .normal ⟨(setV (setV (setV (setV (setV (setV (setV (setV (setV (setV (setV (setV (setV (setV (setV (setV (setV (setV (setV (setV (setV (setV (setV (setV (setV (setV (setV (setV (setV (setV (setV (setV (setV (setV (setV (setV (setV (setV (setV (setV (setV e 32 (e 6)) 33 (e 5)) 34 x24) 37 (e 4)) 38 (e 6)) 39 x25) 40 x26) 41 x27) 42 (e 4)) 43 (e 5)) 44 x28) 45 x29) 46 x30) 47 x31) 48 x31) 48 (.bool false)) 49 noV) 48 (.bool false)) 50 noV) 48 (.bool false)) 51 noV) 48 (.bool false)) 52 noV) 48 (.bool false)) 53 noV) 48 (.bool false)) 54 noV) 48 (.bool false)) 55 noV) 48 (.bool false)) 56 noV) 48 (.bool false)) 57 noV) 48 (.bool false)) 58 noV) 48 (.bool false)) 59 noV) 60 (.bool false)) 35 (e 6)) 36 x40) 6 x40), 67, [], h⟩)) (
K (.exit 4) ⟨(setV (setV (setV e 32 (e 6)) 33 (e 5)) 34 x24), 67, [], h⟩)) := by kernel_rfl
theorem F.ref07_Valid.L2_x4_eq {e : Env} {h : Heap} {K : AX → St → Bool} : F.ref07_Valid.L2k K (.exit 4) ⟨e, 67, [], h⟩ = (
bindO (binS .add (e 5) (.int .i64 1)) fun x41 =>
K .normal ⟨(setV (setV (setV e 30 (e 5)) 31 x41) 5 x41), 67, [], h⟩) := by kernel_rfl
theorem F.ref07_Valid.L2_r_eq {e : Env} {h : Heap} {K : AX → St → Bool} : F.ref07_Valid.L2k K .ret ⟨e, 67, [], h⟩ = (
K .ret ⟨e, 67, [], h⟩) := by kernel_rfl
theorem F.ref07_Valid_eq {a0 : AV} {h : Heap} {K : Out → Heap → Bool} : evalS Tryz.prog (semCall Tryz.prog) (codeOf Tryz.f8) ⟨mkEnv [a0], 67, [], h⟩ (leaveK Tryz.prog noD Tryz.f8.results.toList K) = (
bindO (lenS .slice a0 h) fun x0 =>
bindO (binS .gtr x0 (.int .i64 60)) fun x1 =>
condB x1 (
K (.ret (.bool false)) h) (
loopB (evalS Tryz.prog (semCall Tryz.prog) F.ref07_Valid.L0) ⟨(setV (setV (setV (setV (setV (mkEnv [a0]) 2 (.bool false)) 9 a0) 10 x0) 11 x1) 3 (.int .i64 0)), 67, [], h⟩ (F.ref07_Valid.L0k K))) := by kernel_rfl
theorem F.ref07_Valid_sem {a0 : AV} {h : Heap} {K : Out → Heap → Bool} (hh : (
bindO (lenS .slice a0 h) fun x0 =>
bindO (binS .gtr x0 (.int .i64 60)) fun x1 =>
condB x1 (
K (.ret (.bool false)) h) (
loopB (evalS Tryz.prog (semCall Tryz.prog) F.ref07_Valid.L0) ⟨(setV (setV (setV (setV (setV (mkEnv [a0]) 2 (.bool false)) 9 a0) 10 x0) 11 x1) 3 (.int .i64 0)), 67, [], h⟩ (F.ref07_Valid.L0k K))) = true) : Sem Tryz.prog 8 [a0] h K :=
  sem_body mixed (noD_sound _) Tryz.func8 (c := codeOf Tryz.f8) rfl (by decide) (of_decide_eq_true (by kernel_rfl)) (F.ref07_Valid_eq.trans hh)
noncomputable def F.ref07_Levels.L0 : Code := partOf (codeOf Tryz.f9) [1, 1, 1, 0, 1, 0, 0]
noncomputable def F.ref07_Levels.L0k (K : Out → Heap → Bool) : AX → St → Bool := (blockK 0 (seqK false (evalS Tryz.prog (semCall Tryz.prog) (partOf (codeOf Tryz.f9) [1, 1, 1, 1])) (leaveK Tryz.prog noD Tryz.f9.results.toList K)))
noncomputable def F.ref07_Levels.L1 : Code := partOf (codeOf Tryz.f9) [1, 1, 1, 0, 1, 0, 0, 1, 0, 1, 1, 0, 0]
noncomputable def F.ref07_Levels.L1k (K : AX → St → Bool) : AX → St → Bool := (blockK 2 (blockK 1 K))
noncomputable def F.ref07_Levels.L2 : Code := partOf (codeOf Tryz.f9) [1, 1, 1, 0, 1, 0, 0, 1, 0, 1, 1, 0, 0, 1, 0, 0, 1, 0, 1, 0, 0]
noncomputable def F.ref07_Levels.L2k (K : AX → St → Bool) : AX → St → Bool := (blockK 4 (seqK false (evalS Tryz.prog (semCall Tryz.prog) (partOf (codeOf Tryz.f9) [1, 1, 1, 0, 1, 0, 0, 1, 0, 1, 1, 0, 0, 1, 0, 0, 1, 1])) (blockK 3 (seqK false (evalS Tryz.prog (semCall Tryz.prog) (partOf (codeOf Tryz.f9) [1, 1, 1, 0, 1, 0, 0, 1, 0, 1, 1, 0, 0, 1, 1])) K))))
noncomputable def F.ref07_Levels.J0 (K : AX → St → Bool) (s : St) : Bool := runB (evalS Tryz.prog (semCall Tryz.prog) (partOf (codeOf Tryz.f9) [1, 1, 1, 0, 1, 0, 0, 1, 0, 1, 1, 0, 0, 1, 0, 0, 1, 0, 1, 0, 0, 1, 0, 0, 1, 1, 1, 0, 1, 1])) s (blockK 5 (seqK false (evalS Tryz.prog (semCall Tryz.prog) (partOf (codeOf Tryz.f9) [1, 1, 1, 0, 1, 0, 0, 1, 0, 1, 1, 0, 0, 1, 0, 0, 1, 0, 1, 0, 0, 1, 1])) K))
theorem F.ref07_Levels.L0_eq {e : Env} {h : Heap} {K : AX → St → Bool} : evalS Tryz.prog (semCall Tryz.prog) F.ref07_Levels.L0 ⟨e, 89, [], h⟩ K = (
condB (e 6) (
loopB (evalS Tryz.prog (semCall Tryz.prog) F.ref07_Levels.L1) ⟨(setV (setV (setV e 18 (e 6)) 6 (.bool false)) 7 (.int .i64 0)), 89, [], h⟩ (F.ref07_Levels.L1k K)) (
K (.exit 0) ⟨(setV e 18 (e 6)), 89, [], h⟩)) := by kernel_rfl
theorem F.ref07_Levels.L0_x0_eq {e : Env} {h : Heap} {K : Out → Heap → Bool} : F.ref07_Levels.L0k K (.exit 0) ⟨e, 89, [], h⟩ = (
K (.ret (.tuple [(e 5), (.bool true)])) h) := by kernel_rfl
theorem F.ref07_Levels.L0_r_eq {e : Env} {h : Heap} {K : Out → Heap → Bool} : F.ref07_Levels.L0k K .ret ⟨e, 89, [], h⟩ = (
K (.ret (.tuple [(e 2), (e 3)])) h) := by kernel_rfl
theorem F.ref07_Levels.L1_eq {e : Env} {h : Heap} {K : AX → St → Bool} : evalS Tryz.prog (semCall Tryz.prog) F.ref07_Levels.L1 ⟨e, 89, [], h⟩ K = (
bindO (lenS .slice (e 0) h) fun x7 =>
bindO (binS .lss (e 7) x7) fun x8 =>
condB x8 (
bindO (iaS 3 (e 0) (e 7)) fun x9 =>
bindO (faS 0 x9) fun x10 =>
bindO (faS 0 x10) fun x11 =>
bindO (loadS none x11 h) fun x12 =>
semCall Tryz.prog 30 [(e 4), x12] h (outK (fun x13 h14 =>
loopB (evalS Tryz.prog (semCall Tryz.prog) F.ref07_Levels.L2) ⟨(setV (setV (setV (setV (setV (setV (setV (setV (setV (setV (setV (setV (setV (setV e 19 (e 7)) 20 (e 0)) 21 x7) 22 x8) 25 (e 4)) 26 (e 0)) 27 (e 7)) 28 x9) 29 x10) 30 x11) 31 x12) 32 x13) 8 x13) 9 (.int .i64 0)), 89, [], h14⟩ (F.ref07_Levels.L2k K)) (fun v15 h16 => K (.panic v15) ⟨(setV (setV (setV (setV (setV (setV (setV (setV (setV (setV (setV e 19 (e 7)) 20 (e 0)) 21 x7) 22 x8) 25 (e 4)) 26 (e 0)) 27 (e 7)) 28 x9) 29 x10) 30 x11) 31 x12), 89, [], h16⟩))) (
K (.exit 2) ⟨(setV (setV (setV (setV e 19 (e 7)) 20 (e 0)) 21 x7) 22 x8), 89, [], h⟩)) := by kernel_rfl
theorem F.ref07_Levels.L1_x2_eq {e : Env} {h : Heap} {K : AX → St → Bool} : F.ref07_Levels.L1k K (.exit 2) ⟨e, 89, [], h⟩ = (
K .normal ⟨e, 89, [], h⟩) := by kernel_rfl
theorem F.ref07_Levels.L1_r_eq {e : Env} {h : Heap} {K : AX → St → Bool} : F.ref07_Levels.L1k K .ret ⟨e, 89, [], h⟩ = (
K .ret ⟨e, 89, [], h⟩) := by kernel_rfl
theorem F.ref07_Levels.L2_eq {e : Env} {h : Heap} {K : AX → St → Bool} : evalS Tryz.prog (semCall Tryz.prog) F.ref07_Levels.L2 ⟨e, 89, [], h⟩ K = (
bindO (iaS 3 (e 0) (e 7)) fun x17 =>
bindO (faS 2 x17) fun x18 =>
bindO (loadS none x18 h) fun x19 =>
bindO (lenS .slice x19 h) fun x20 =>
bindO (binS .lss (e 9) x20) fun x21 =>
condB x21 (
bindO (iaS 3 (e 0) (e 7)) fun x22 =>
bindO (faS 2 x22) fun x23 =>
bindO (loadS none x23 h) fun x24 =>
bindO (iaS 4 x24 (e 9)) fun x25 =>
bindO (loadS (some 4) x25 h) fun x26 =>
bindO (storeS 4 (.ptr (Heap.next h) 0) x26 (Heap.alloc h (.cells [(.int .i64 0), (.bool false), (.str []), .nils]))) fun h27 =>
bindO (faS 2 (.ptr (Heap.next h) 0)) fun x28 =>
bindO (faS 0 x28) fun x29 =>
bindO (loadS none x29 h27) fun x30 =>
semCall Tryz.prog 30 [(e 4), x30] h27 (outK (fun x31 h32 =>
bindO (faS 0 (.ptr (Heap.next h) 0)) fun x35 =>
bindO (loadS none x35 h32) fun x36 =>
bindO (eqV (.int .i64) x36 (.int .i64 0)) fun x37 =>
condB x37 (
bindO (binS .geq x31 (.int .i64 0)) fun x38 =>
condB x38 (
bindO (iaS 1 (e 5) x31) fun x39 =>
bindO (loadS none x39 h32) fun x40 =>
bindO (faS 1 (.ptr (Heap.next h) 0)) fun x41 =>
bindO (loadS none x41 h32) fun x42 =>
condB x42 (
bindO (binS .add x40 (.int .i64 1)) fun x43 =>
F.ref07_Levels.J0 K ⟨(setV (setV (setV (setV (setV (setV (setV (setV (setV (setV (setV (setV (setV (setV (setV (setV (setV (setV (setV (setV (setV (setV (setV (setV (setV (setV (setV (setV (setV (setV (setV (setV (setV (setV (setV (setV (setV (setV (setV (setV (setV (setV e 33 (e 9)) 34 (e 0)) 35 (e 7)) 36 x17) 37 x18) 38 x19) 39 x20) 40 x21) 43 (e 0)) 44 (e 7)) 45 x22) 46 x23) 47 x24) 48 (e 9)) 49 x25) 50 x26) 10 (.ptr (Heap.next h) 0)) 51 (e 4)) 52 x28) 53 x29) 54 x30) 55 x31) 11 x31) 56 x35) 57 x36) 58 x37) 59 x37) 59 (.bool true)) 60 x31) 59 (.bool true)) 61 x38) 62 x38) 63 (e 5)) 64 x31) 65 x39) 66 x40) 12 x40) 67 x41) 68 x42) 69 x40) 70 x43) 12 x43), 89, [], h32⟩) (
F.ref07_Levels.J0 K ⟨(setV (setV (setV (setV (setV (setV (setV (setV (setV (setV (setV (setV (setV (setV (setV (setV (setV (setV (setV (setV (setV (setV (setV (setV (setV (setV (setV (setV (setV (setV (setV (setV (setV (setV (setV (setV (setV (setV (setV e 33 (e 9)) 34 (e 0)) 35 (e 7)) 36 x17) 37 x18) 38 x19) 39 x20) 40 x21) 43 (e 0)) 44 (e 7)) 45 x22) 46 x23) 47 x24) 48 (e 9)) 49 x25) 50 x26) 10 (.ptr (Heap.next h) 0)) 51 (e 4)) 52 x28) 53 x29) 54 x30) 55 x31) 11 x31) 56 x35) 57 x36) 58 x37) 59 x37) 59 (.bool true)) 60 x31) 59 (.bool true)) 61 x38) 62 x38) 63 (e 5)) 64 x31) 65 x39) 66 x40) 12 x40) 67 x41) 68 x42), 89, [], h32⟩)) (
bindO (binS .add (e 9) (.int .i64 1)) fun x44 =>
K .normal ⟨(setV (setV (setV (setV (setV (setV (setV (setV (setV (setV (setV (setV (setV (setV (setV (setV (setV (setV (setV (setV (setV (setV (setV (setV (setV (setV (setV (setV (setV (setV (setV (setV (setV (setV (setV e 33 (e 9)) 34 (e 0)) 35 (e 7)) 36 x17) 37 x18) 38 x19) 39 x20) 40 x21) 43 (e 0)) 44 (e 7)) 45 x22) 46 x23) 47 x24) 48 (e 9)) 49 x25) 50 x26) 10 (.ptr (Heap.next h) 0)) 51 (e 4)) 52 x28) 53 x29) 54 x30) 55 x31) 11 x31) 56 x35) 57 x36) 58 x37) 59 x37) 59 (.bool true)) 60 x31) 59 (.bool true)) 61 x38) 62 x38) 41 (e 9)) 42 x44) 9 x44), 89, [], h32⟩)) (
bindO (binS .add (e 9) (.int .i64 1)) fun x45 =>
K .normal ⟨(setV (setV (setV (setV (setV (setV (setV (setV (setV (setV (setV (setV (setV (setV (setV (setV (setV (setV (setV (setV (setV (setV (setV (setV (setV (setV (setV (setV (setV (setV (setV (setV (setV (setV (setV e 33 (e 9)) 34 (e 0)) 35 (e 7)) 36 x17) 37 x18) 38 x19) 39 x20) 40 x21) 43 (e 0)) 44 (e 7)) 45 x22) 46 x23) 47 x24) 48 (e 9)) 49 x25) 50 x26) 10 (.ptr (Heap.next h) 0)) 51 (e 4)) 52 x28) 53 x29) 54 x30) 55 x31) 11 x31) 56 x35) 57 x36) 58 x37) 59 x37) 59 (.bool false)) 60 noV) 59 (.bool false)) 61 noV) 62 (.bool false)) 41 (e 9)) 42 x45) 9 x45), 89, [], h32⟩)) (fun v33 h34 => K (.panic v33) ⟨(setV (setV (setV (setV (setV (setV (setV (setV (setV (setV (setV (setV (setV (setV (setV (setV (setV (setV (setV (setV (setV e 33 (e 9)) 34 (e 0)) 35 (e 7)) 36 x17) 37 x18) 38 x19) 39 x20) 40 x21) 43 (e 0)) 44 (e 7)) 45 x22) 46 x23) 47 x24) 48 (e 9)) 49 x25) 50 x26) 10 (.ptr (Heap.next h) 0)) 51 (e 4)) 52 x28) 53 x29) 54 x30), 89, [], h34⟩))) (
K (.exit 4) ⟨(setV (setV (setV (setV (setV (setV (setV (setV e 33 (e 9)) 34 (e 0)) 35 (e 7)) 36 x17) 37 x18) 38 x19) 39 x20) 40 x21), 89, [], h⟩)) := by kernel_rfl
theorem F.ref07_Levels.L2_x4_eq {e : Env} {h : Heap} {K : AX → St → Bool} : F.ref07_Levels.L2k K (.exit 4) ⟨e, 89, [], h⟩ = (
bindO (iaS 1 (e 5) (e 8)) fun x46 =>
bindO (loadS none x46 h) fun x47 =>
bindO (lenS .slice (e 4) h) fun x48 =>
bindO (binS .gtr x47 x48) fun x49 =>
condB x49 (
K .ret ⟨(setV (setV (setV (setV (setV (setV (setV (setV (setV e 81 (e 5)) 82 (e 8)) 83 x46) 84 x47) 85 (e 4)) 86 x48) 87 x49) 2 .nils) 3 (.bool false)), 89, [], h⟩) (
bindO (binS .add (e 7) (.int .i64 1)) fun x50 =>
K .normal ⟨(setV (setV (setV (setV (setV (setV (setV (setV (setV (setV e 81 (e 5)) 82 (e 8)) 83 x46) 84 x47) 85 (e 4)) 86 x48) 87 x49) 23 (e 7)) 24 x50) 7 x50), 89, [], h⟩)) := by kernel_rfl
theorem F.ref07_Levels.J0_eq {e : Env} {h : Heap} {K : AX → St → Bool} : F.ref07_Levels.J0 K ⟨e, 89, [], h⟩ = (
bindO (iaS 1 (e 5) (e 8)) fun x51 =>
bindO (loadS none x51 h) fun x52 =>
bindO (binS .gtr (e 12) x52) fun x53 =>
condB x53 (
bindO (iaS 1 (e 5) (e 8)) fun x54 =>
bindO (storeS 1 x54 (e 12) h) fun h55 =>
bindO (binS .add (e 9) (.int .i64 1)) fun x56 =>
K .normal ⟨(setV (setV (setV (setV (setV (setV (setV (setV (setV (setV (setV (setV (setV (setV e 71 (e 12)) 72 (e 5)) 73 (e 8)) 74 x51) 75 x52) 76 x53) 77 (e 5)) 78 (e 8)) 79 (e 12)) 80 x54) 6 (.bool true)) 41 (e 9)) 42 x56) 9 x56), 89, [], h55⟩) (
bindO (binS .add (e 9) (.int .i64 1)) fun x57 =>
K .normal ⟨(setV (setV (setV (setV (setV (setV (setV (setV (setV e 71 (e 12)) 72 (e 5)) 73 (e 8)) 74 x51) 75 x52) 76 x53) 41 (e 9)) 42 x57) 9 x57), 89, [], h⟩)) := (runB_eq _ _ _).trans (by kernel_rfl)
theorem F.ref07_Levels_eq {a0 : AV} {h : Heap} {K : Out → Heap → Bool} : evalS Tryz.prog (semCall Tryz.prog) (codeOf Tryz.f9) ⟨mkEnv [a0], 89, [], h⟩ (leaveK Tryz.prog noD Tryz.f9.results.toList K) = (
semCall Tryz.prog 11 [a0] h (outK (fun x0 h1 =>
bindO (lenS .slice x0 h1) fun x4 =>
bindO2 (makeSliceS 1 8 [(.int .i64 0)] x4 x4 h1) fun x5 h6 =>
loopB (evalS Tryz.prog (semCall Tryz.prog) F.ref07_Levels.L0) ⟨(setV (setV (setV (setV (setV (setV (setV (setV (setV (setV (mkEnv [a0]) 2 .nils) 3 (.bool false)) 13 a0) 14 x0) 4 x0) 15 x0) 16 x4) 17 x5) 5 x5) 6 (.bool true)), 89, [], h6⟩ (F.ref07_Levels.L0k K)) (fun v2 h3 => K (.panic v2) h3))) := by kernel_rfl
theorem F.ref07_Levels_sem {a0 : AV} {h : Heap} {K : Out → Heap → Bool} (hh : (
semCall Tryz.prog 11 [a0] h (outK (fun x0 h1 =>
bindO (lenS .slice x0 h1) fun x4 =>
bindO2 (makeSliceS 1 8 [(.int .i64 0)] x4 x4 h1) fun x5 h6 =>
loopB (evalS Tryz.prog (semCall Tryz.prog) F.ref07_Levels.L0) ⟨(setV (setV (setV (setV (setV (setV (setV (setV (setV (setV (mkEnv [a0]) 2 .nils) 3 (.bool false)) 13 a0) 14 x0) 4 x0) 15 x0) 16 x4) 17 x5) 5 x5) 6 (.bool true)), 89, [], h6⟩ (F.ref07_Levels.L0k K)) (fun v2 h3 => K (.panic v2) h3))) = true) : Sem Tryz.prog 9 [a0] h K :=
  sem_body mixed (noD_sound _) Tryz.func9 (c := codeOf Tryz.f9) rfl (by decide) (of_decide_eq_true (by kernel_rfl)) (F.ref07_Levels_eq.trans hh)
end
end Go.AM
/- A closed call of the program's function 86: what it answers. Conditions: none. -/
namespace Go.AM
open Go
noncomputable section
def sA0 : List AV := [(.int .u8 80)]
def sR0 : AV := (.bool true)
theorem stage0 : evalFn Proofs.Tryz.prog F0 D0 200 86 sA0 Heap.empty (pureK true 20 sR0) = true := by kernel_rfl
end
end Go.AM
/- A closed call of the program's function 86: what it answers. Conditions: none. -/
namespace Go.AM
open Go
noncomputable section
def sA1 : List AV := [(.int .u8 40)]
def sR1 : AV := (.bool false)
theorem stage1 : evalFn Proofs.Tryz.prog F0 D0 200 86 sA1 Heap.empty (pureK true 20 sR1) = true := by kernel_rfl
end
end Go.AM
/- A closed call of the program's function 86: what it answers. Conditions: none. -/
namespace Go.AM
open Go
noncomputable section
def sA2 : List AV := [(.int .u8 120)]
def sR2 : AV := (.bool true)
theorem stage2 : evalFn Proofs.Tryz.prog F0 D0 200 86 sA2 Heap.empty (pureK true 20 sR2) = true := by kernel_rfl
end
end Go.AM
/- A closed call of the program's function 86: what it answers. Conditions: none. -/
namespace Go.AM
open Go
noncomputable section
def sA3 : List AV := [(.int .u8 32)]
def sR3 : AV := (.bool false)
theorem stage3 : evalFn Proofs.Tryz.prog F0 D0 200 86 sA3 Heap.empty (pureK true 20 sR3) = true := by kernel_rfl
end
end Go.AM
/- A closed call of the program's function 86: what it answers. Conditions: none. -/
namespace Go.AM
open Go
noncomputable section
def sA4 : List AV := [(.int .u8 121)]
def sR4 : AV := (.bool true)
theorem stage4 : evalFn Proofs.Tryz.prog F0 D0 200 86 sA4 Heap.empty (pureK true 20 sR4) = true := by kernel_rfl
end
end Go.AM
/- A closed call of the program's function 86: what it answers. Conditions: none. -/
namespace Go.AM
open Go
noncomputable section
def sA5 : List AV := [(.int .u8 41)]
def sR5 : AV := (.bool false)
theorem stage5 : evalFn Proofs.Tryz.prog F0 D0 200 86 sA5 Heap.empty (pureK true 20 sR5) = true := by kernel_rfl
end
end Go.AM
/- A closed call of the program's function 86: what it answers. Conditions: none. -/
namespace Go.AM
open Go
noncomputable section
def sA6 : List AV := [(.int .u8 58)]
def sR6 : AV := (.bool false)
theorem stage6 : evalFn Proofs.Tryz.prog F0 D0 200 86 sA6 Heap.empty (pureK true 20 sR6) = true := by kernel_rfl
end
end Go.AM
/- A closed call of the program's function 86: what it answers. Conditions: none. -/
namespace Go.AM
open Go
noncomputable section
def sA7 : List AV := [(.int .u8 69)]
def sR7 : AV := (.bool true)
theorem stage7 : evalFn Proofs.Tryz.prog F0 D0 200 86 sA7 Heap.empty (pureK true 20 sR7) = true := by kernel_rfl
end
end Go.AM
/- A closed call of the program's function 86: what it answers. Conditions: none. -/
namespace Go.AM
open Go
noncomputable section
def sA8 : List AV := [(.int .u8 46)]
def sR8 : AV := (.bool false)
theorem stage8 : evalFn Proofs.Tryz.prog F0 D0 200 86 sA8 Heap.empty (pureK true 20 sR8) = true := by kernel_rfl
end
end Go.AM
/- A closed call of the program's function 86: what it answers. Conditions: none. -/
namespace Go.AM
open Go
noncomputable section
def sA9 : List AV := [(.int .u8 122)]
def sR9 : AV := (.bool true)
theorem stage9 : evalFn Proofs.Tryz.prog F0 D0 200 86 sA9 Heap.empty (pureK true 20 sR9) = true := by kernel_rfl
end
end Go.AM
/- A closed call of the program's function 86: what it answers. Conditions: none. -/
namespace Go.AM
open Go
noncomputable section
def sA10 : List AV := [(.int .u8 44)]
def sR10 : AV := (.bool false)
theorem stage10 : evalFn Proofs.Tryz.prog F0 D0 200 86 sA10 Heap.empty (pureK true 20 sR10) = true := by kernel_rfl
end
end Go.AM
/- A closed call of the program's function 74: what it answers. Conditions: none. -/
namespace Go.AM
open Go
noncomputable section
def sA25 : List AV := [(.agg [(.int .i64 3), (.islice [(.str [69]), (.int .i64 2), (.islice [(.islice [(.int .i64 0), (.int .i64 1)] 0 2 1), (.islice [(.int .i64 1), (.int .i64 2)] 0 2 1)] 0 2 1)] 0 1 3)]), (.str [69]), (.int .i64 2)]
def sR25 : AV := (.int .i64 0)
theorem stage25 : evalFn Proofs.Tryz.prog F0 D0 200 74 sA25 Heap.empty (pureK true 20 sR25) = true := by kernel_rfl
end
end Go.AM
/- A closed call of the program's function 80: what it answers. Conditions: none. -/
namespace Go.AM
open Go
noncomputable section
def sA26 : List AV := [(.int .i64 3), (.int .i64 2)]
def sR26 : AV := (.tuple [(.int .i64 9), (.int .i64 0)])
theorem stage26 : evalFn Proofs.Tryz.prog F0 D0 200 80 sA26 Heap.empty (pureK true 20 sR26) = true := by kernel_rfl
end
end Go.AM
/- A closed call of the program's function 85: what it answers. Conditions: none. -/
namespace Go.AM
open Go
noncomputable section
def sA29 : List AV := [(.islice [(.int .i64 0), (.int .i64 0)] 0 2 1), (.islice [(.int .i64 0), (.int .i64 1)] 0 2 1)]
def sR29 : AV := (.islice [(.int .i64 0), (.int .i64 0)] 0 2 1)
theorem stage29 : evalFn Proofs.Tryz.prog F0 D0 200 85 sA29 Heap.empty (pureK false 20 sR29) = true := by kernel_rfl
end
end Go.AM
/- A closed call of the program's function 85: what it answers. Conditions: none. -/
namespace Go.AM
open Go
noncomputable section
def sA30 : List AV := [(.islice [(.int .i64 0), (.int .i64 1)] 0 2 1), (.islice [(.int .i64 0), (.int .i64 1)] 0 2 1)]
def sR30 : AV := (.islice [(.int .i64 0), (.int .i64 1)] 0 2 1)
theorem stage30 : evalFn Proofs.Tryz.prog F0 D0 200 85 sA30 Heap.empty (pureK false 20 sR30) = true := by kernel_rfl
end
end Go.AM
/- A closed call of the program's function 85: what it answers. Conditions: none. -/
namespace Go.AM
open Go
noncomputable section
def sA31 : List AV := [(.islice [(.int .i64 0), (.int .i64 2)] 0 2 1), (.islice [(.int .i64 0), (.int .i64 1)] 0 2 1)]
def sR31 : AV := (.islice [(.int .i64 0), (.int .i64 2)] 0 2 1)
theorem stage31 : evalFn Proofs.Tryz.prog F0 D0 200 85 sA31 Heap.empty (pureK false 20 sR31) = true := by kernel_rfl
end
end Go.AM
/- A closed call of the program's function 85: what it answers. Conditions: none. -/
namespace Go.AM
open Go
noncomputable section
def sA32 : List AV := [(.islice [(.int .i64 1), (.int .i64 0)] 0 2 1), (.islice [(.int .i64 0), (.int .i64 1)] 0 2 1)]
def sR32 : AV := (.islice [(.int .i64 1), (.int .i64 0)] 0 2 1)
theorem stage32 : evalFn Proofs.Tryz.prog F0 D0 200 85 sA32 Heap.empty (pureK false 20 sR32) = true := by kernel_rfl
end
end Go.AM
/- A closed call of the program's function 85: what it answers. Conditions: none. -/
namespace Go.AM
open Go
noncomputable section
def sA33 : List AV := [(.islice [(.int .i64 1), (.int .i64 1)] 0 2 1), (.islice [(.int .i64 0), (.int .i64 1)] 0 2 1)]
def sR33 : AV := (.islice [(.int .i64 1), (.int .i64 1)] 0 2 1)
theorem stage33 : evalFn Proofs.Tryz.prog F0 D0 200 85 sA33 Heap.empty (pureK false 20 sR33) = true := by kernel_rfl
end
end Go.AM
/- A closed call of the program's function 85: what it answers. Conditions: none. -/
namespace Go.AM
open Go
noncomputable section
def sA34 : List AV := [(.islice [(.int .i64 1), (.int .i64 2)] 0 2 1), (.islice [(.int .i64 0), (.int .i64 1)] 0 2 1)]
def sR34 : AV := (.islice [(.int .i64 1), (.int .i64 2)] 0 2 1)
theorem stage34 : evalFn Proofs.Tryz.prog F0 D0 200 85 sA34 Heap.empty (pureK false 20 sR34) = true := by kernel_rfl
end
end Go.AM
/- A closed call of the program's function 85: what it answers. Conditions: none. -/
namespace Go.AM
open Go
noncomputable section
def sA35 : List AV := [(.islice [(.int .i64 2), (.int .i64 0)] 0 2 1), (.islice [(.int .i64 0), (.int .i64 1)] 0 2 1)]
def sR35 : AV := (.islice [(.int .i64 2), (.int .i64 0)] 0 2 1)
theorem stage35 : evalFn Proofs.Tryz.prog F0 D0 200 85 sA35 Heap.empty (pureK false 20 sR35) = true := by kernel_rfl
end
end Go.AM
/- A closed call of the program's function 85: what it answers. Conditions: none. -/
namespace Go.AM
open Go
noncomputable section
def sA36 : List AV := [(.islice [(.int .i64 2), (.int .i64 1)] 0 2 1), (.islice [(.int .i64 0), (.int .i64 1)] 0 2 1)]
def sR36 : AV := (.islice [(.int .i64 2), (.int .i64 1)] 0 2 1)
theorem stage36 : evalFn Proofs.Tryz.prog F0 D0 200 85 sA36 Heap.empty (pureK false 20 sR36) = true := by kernel_rfl
end
end Go.AM
/- A closed call of the program's function 85: what it answers. Conditions: none. -/
namespace Go.AM
open Go
noncomputable section
def sA37 : List AV := [(.islice [(.int .i64 2), (.int .i64 2)] 0 2 1), (.islice [(.int .i64 0), (.int .i64 1)] 0 2 1)]
def sR37 : AV := (.islice [(.int .i64 2), (.int .i64 2)] 0 2 1)
theorem stage37 : evalFn Proofs.Tryz.prog F0 D0 200 85 sA37 Heap.empty (pureK false 20 sR37) = true := by kernel_rfl
end
end Go.AM
/- A closed call of the program's function 85: what it answers. Conditions: none. -/
namespace Go.AM
open Go
noncomputable section
def sA38 : List AV := [(.islice [(.int .i64 0), (.int .i64 0), (.int .i64 0)] 0 3 1), (.islice [(.int .i64 0), (.int .i64 2)] 0 2 1)]
def sR38 : AV := (.islice [(.int .i64 0), (.int .i64 0)] 0 2 1)
theorem stage38 : evalFn Proofs.Tryz.prog F0 D0 200 85 sA38 Heap.empty (pureK false 20 sR38) = true := by kernel_rfl
end
end Go.AM
/- A closed call of the program's function 85: what it answers. Conditions: none. -/
namespace Go.AM
open Go
noncomputable section
def sA39 : List AV := [(.islice [(.int .i64 0), (.int .i64 0), (.int .i64 1)] 0 3 1), (.islice [(.int .i64 0), (.int .i64 2)] 0 2 1)]
def sR39 : AV := (.islice [(.int .i64 0), (.int .i64 1)] 0 2 1)
theorem stage39 : evalFn Proofs.Tryz.prog F0 D0 200 85 sA39 Heap.empty (pureK false 20 sR39) = true := by kernel_rfl
end
end Go.AM
/- A closed call of the program's function 85: what it answers. Conditions: none. -/
namespace Go.AM
open Go
noncomputable section
def sA40 : List AV := [(.islice [(.int .i64 0), (.int .i64 0), (.int .i64 1)] 0 3 1), (.islice [(.int .i64 2), (.int .i64 1)] 0 2 1)]
def sR40 : AV := (.islice [(.int .i64 1), (.int .i64 0)] 0 2 1)
theorem stage40 : evalFn Proofs.Tryz.prog F0 D0 200 85 sA40 Heap.empty (pureK false 20 sR40) = true := by kernel_rfl
end
end Go.AM
/- A closed call of the program's function 85: what it answers. Conditions: none. -/
namespace Go.AM
open Go
noncomputable section
def sA41 : List AV := [(.islice [(.int .i64 0), (.int .i64 0), (.int .i64 2)] 0 3 1), (.islice [(.int .i64 0), (.int .i64 2)] 0 2 1)]
def sR41 : AV := (.islice [(.int .i64 0), (.int .i64 2)] 0 2 1)
theorem stage41 : evalFn Proofs.Tryz.prog F0 D0 200 85 sA41 Heap.empty (pureK false 20 sR41) = true := by kernel_rfl
end
end Go.AM
/- A closed call of the program's function 85: what it answers. Conditions: none. -/
namespace Go.AM
open Go
noncomputable section
def sA42 : List AV := [(.islice [(.int .i64 0), (.int .i64 1), (.int .i64 0)] 0 3 1), (.islice [(.int .i64 0), (.int .i64 2)] 0 2 1)]
def sR42 : AV := (.islice [(.int .i64 0), (.int .i64 0)] 0 2 1)
theorem stage42 : evalFn Proofs.Tryz.prog F0 D0 200 85 sA42 Heap.empty (pureK false 20 sR42) = true := by kernel_rfl
end
end Go.AM
/- A closed call of the program's function 85: what it answers. Conditions: none. -/
namespace Go.AM
open Go
noncomputable section
def sA43 : List AV := [(.islice [(.int .i64 0), (.int .i64 1), (.int .i64 1)] 0 3 1), (.islice [(.int .i64 0), (.int .i64 2)] 0 2 1)]
def sR43 : AV := (.islice [(.int .i64 0), (.int .i64 1)] 0 2 1)
theorem stage43 : evalFn Proofs.Tryz.prog F0 D0 200 85 sA43 Heap.empty (pureK false 20 sR43) = true := by kernel_rfl
end
end Go.AM
/- A closed call of the program's function 85: what it answers. Conditions: none. -/
namespace Go.AM
open Go
noncomputable section
def sA44 : List AV := [(.islice [(.int .i64 0), (.int .i64 1), (.int .i64 1)] 0 3 1), (.islice [(.int .i64 2), (.int .i64 1)] 0 2 1)]
def sR44 : AV := (.islice [(.int .i64 1), (.int .i64 1)] 0 2 1)
theorem stage44 : evalFn Proofs.Tryz.prog F0 D0 200 85 sA44 Heap.empty (pureK false 20 sR44) = true := by kernel_rfl
end
end Go.AM
/- A closed call of the program's function 85: what it answers. Conditions: none. -/
namespace Go.AM
open Go
noncomputable section
def sA45 : List AV := [(.islice [(.int .i64 0), (.int .i64 1), (.int .i64 2)] 0 3 1), (.islice [(.int .i64 0), (.int .i64 2)] 0 2 1)]
def sR45 : AV := (.islice [(.int .i64 0), (.int .i64 2)] 0 2 1)
theorem stage45 : evalFn Proofs.Tryz.prog F0 D0 200 85 sA45 Heap.empty (pureK false 20 sR45) = true := by kernel_rfl
end
end Go.AM
/- A closed call of the program's function 85: what it answers. Conditions: none. -/
namespace Go.AM
open Go
noncomputable section
def sA46 : List AV := [(.islice [(.int .i64 0), (.int .i64 2), (.int .i64 0)] 0 3 1), (.islice [(.int .i64 0), (.int .i64 2)] 0 2 1)]
def sR46 : AV := (.islice [(.int .i64 0), (.int .i64 0)] 0 2 1)
theorem stage46 : evalFn Proofs.Tryz.prog F0 D0 200 85 sA46 Heap.empty (pureK false 20 sR46) = true := by kernel_rfl
end
end Go.AM
/- A closed call of the program's function 85: what it answers. Conditions: none. -/
namespace Go.AM
open Go
noncomputable section
def sA47 : List AV := [(.islice [(.int .i64 0), (.int .i64 2), (.int .i64 1)] 0 3 1), (.islice [(.int .i64 0), (.int .i64 2)] 0 2 1)]
def sR47 : AV := (.islice [(.int .i64 0), (.int .i64 1)] 0 2 1)
theorem stage47 : evalFn Proofs.Tryz.prog F0 D0 200 85 sA47 Heap.empty (pureK false 20 sR47) = true := by kernel_rfl
end
end Go.AM
/- A closed call of the program's function 85: what it answers. Conditions: none. -/
namespace Go.AM
open Go
noncomputable section
def sA48 : List AV := [(.islice [(.int .i64 0), (.int .i64 2), (.int .i64 1)] 0 3 1), (.islice [(.int .i64 2), (.int .i64 1)] 0 2 1)]
def sR48 : AV := (.islice [(.int .i64 1), (.int .i64 2)] 0 2 1)
theorem stage48 : evalFn Proofs.Tryz.prog F0 D0 200 85 sA48 Heap.empty (pureK false 20 sR48) = true := by kernel_rfl
end
end Go.AM
/- A closed call of the program's function 85: what it answers. Conditions: none. -/
namespace Go.AM
open Go
noncomputable section
def sA49 : List AV := [(.islice [(.int .i64 0), (.int .i64 2), (.int .i64 1)] 0 3 1), (.islice [(.int .i64 0), (.int .i64 1)] 0 2 1)]
def sR49 : AV := (.islice [(.int .i64 0), (.int .i64 2)] 0 2 1)
theorem stage49 : evalFn Proofs.Tryz.prog F0 D0 200 85 sA49 Heap.empty (pureK false 20 sR49) = true := by kernel_rfl
end
end Go.AM
/- A closed call of the program's function 85: what it answers. Conditions: none. -/
namespace Go.AM
open Go
noncomputable section
def sA50 : List AV := [(.islice [(.int .i64 0), (.int .i64 2), (.int .i64 2)] 0 3 1), (.islice [(.int .i64 0), (.int .i64 2)] 0 2 1)]
def sR50 : AV := (.islice [(.int .i64 0), (.int .i64 2)] 0 2 1)
theorem stage50 : evalFn Proofs.Tryz.prog F0 D0 200 85 sA50 Heap.empty (pureK false 20 sR50) = true := by kernel_rfl
end
end Go.AM
/- A closed call of the program's function 85: what it answers. Conditions: none. -/
namespace Go.AM
open Go
noncomputable section
def sA51 : List AV := [(.islice [(.int .i64 1), (.int .i64 0), (.int .i64 0)] 0 3 1), (.islice [(.int .i64 0), (.int .i64 2)] 0 2 1)]
def sR51 : AV := (.islice [(.int .i64 1), (.int .i64 0)] 0 2 1)
theorem stage51 : evalFn Proofs.Tryz.prog F0 D0 200 85 sA51 Heap.empty (pureK false 20 sR51) = true := by kernel_rfl
end
end Go.AM
/- A closed call of the program's function 85: what it answers. Conditions: none. -/
namespace Go.AM
open Go
noncomputable section
def sA52 : List AV := [(.islice [(.int .i64 1), (.int .i64 0), (.int .i64 1)] 0 3 1), (.islice [(.int .i64 0), (.int .i64 2)] 0 2 1)]
def sR52 : AV := (.islice [(.int .i64 1), (.int .i64 1)] 0 2 1)
theorem stage52 : evalFn Proofs.Tryz.prog F0 D0 200 85 sA52 Heap.empty (pureK false 20 sR52) = true := by kernel_rfl
end
end Go.AM
/- A closed call of the program's function 85: what it answers. Conditions: none. -/
namespace Go.AM
open Go
noncomputable section
def sA53 : List AV := [(.islice [(.int .i64 1), (.int .i64 0), (.int .i64 2)] 0 3 1), (.islice [(.int .i64 0), (.int .i64 2)] 0 2 1)]
def sR53 : AV := (.islice [(.int .i64 1), (.int .i64 2)] 0 2 1)
theorem stage53 : evalFn Proofs.Tryz.prog F0 D0 200 85 sA53 Heap.empty (pureK false 20 sR53) = true := by kernel_rfl
end
end Go.AM
/- A closed call of the program's function 85: what it answers. Conditions: none. -/
namespace Go.AM
open Go
noncomputable section
def sA54 : List AV := [(.islice [(.int .i64 1), (.int .i64 0), (.int .i64 2)] 0 3 1), (.islice [(.int .i64 2), (.int .i64 1)] 0 2 1)]
def sR54 : AV := (.islice [(.int .i64 2), (.int .i64 0)] 0 2 1)
theorem stage54 : evalFn Proofs.Tryz.prog F0 D0 200 85 sA54 Heap.empty (pureK false 20 sR54) = true := by kernel_rfl
end
end Go.AM
/- A closed call of the program's function 85: what it answers. Conditions: none. -/
namespace Go.AM
open Go
noncomputable section
def sA55 : List AV := [(.islice [(.int .i64 1), (.int .i64 1), (.int .i64 0)] 0 3 1), (.islice [(.int .i64 0), (.int .i64 2)] 0 2 1)]
def sR55 : AV := (.islice [(.int .i64 1), (.int .i64 0)] 0 2 1)
theorem stage55 : evalFn Proofs.Tryz.prog F0 D0 200 85 sA55 Heap.empty (pureK false 20 sR55) = true := by kernel_rfl
end
end Go.AM
/- A closed call of the program's function 85: what it answers. Conditions: none. -/
namespace Go.AM
open Go
noncomputable section
def sA56 : List AV := [(.islice [(.int .i64 1), (.int .i64 1), (.int .i64 1)] 0 3 1), (.islice [(.int .i64 0), (.int .i64 2)] 0 2 1)]
def sR56 : AV := (.islice [(.int .i64 1), (.int .i64 1)] 0 2 1)
theorem stage56 : evalFn Proofs.Tryz.prog F0 D0 200 85 sA56 Heap.empty (pureK false 20 sR56) = true := by kernel_rfl
end
end Go.AM
/- A closed call of the program's function 85: what it answers. Conditions: none. -/
namespace Go.AM
open Go
noncomputable section
def sA57 : List AV := [(.islice [(.int .i64 1), (.int .i64 1), (.int .i64 2)] 0 3 1), (.islice [(.int .i64 0), (.int .i64 2)] 0 2 1)]
def sR57 : AV := (.islice [(.int .i64 1), (.int .i64 2)] 0 2 1)
theorem stage57 : evalFn Proofs.Tryz.prog F0 D0 200 85 sA57 Heap.empty (pureK false 20 sR57) = true := by kernel_rfl
end
end Go.AM
/- A closed call of the program's function 85: what it answers. Conditions: none. -/
namespace Go.AM
open Go
noncomputable section
def sA58 : List AV := [(.islice [(.int .i64 1), (.int .i64 1), (.int .i64 2)] 0 3 1), (.islice [(.int .i64 2), (.int .i64 1)] 0 2 1)]
def sR58 : AV := (.islice [(.int .i64 2), (.int .i64 1)] 0 2 1)
theorem stage58 : evalFn Proofs.Tryz.prog F0 D0 200 85 sA58 Heap.empty (pureK false 20 sR58) = true := by kernel_rfl
end
end Go.AM
/- A closed call of the program's function 85: what it answers. Conditions: none. -/
namespace Go.AM
open Go
noncomputable section
def sA59 : List AV := [(.islice [(.int .i64 1), (.int .i64 2), (.int .i64 0)] 0 3 1), (.islice [(.int .i64 0), (.int .i64 2)] 0 2 1)]
def sR59 : AV := (.islice [(.int .i64 1), (.int .i64 0)] 0 2 1)
theorem stage59 : evalFn Proofs.Tryz.prog F0 D0 200 85 sA59 Heap.empty (pureK false 20 sR59) = true := by kernel_rfl
end
end Go.AM
/- A closed call of the program's function 85: what it answers. Conditions: none. -/
namespace Go.AM
open Go
noncomputable section
def sA60 : List AV := [(.islice [(.int .i64 1), (.int .i64 2), (.int .i64 1)] 0 3 1), (.islice [(.int .i64 0), (.int .i64 2)] 0 2 1)]
def sR60 : AV := (.islice [(.int .i64 1), (.int .i64 1)] 0 2 1)
theorem stage60 : evalFn Proofs.Tryz.prog F0 D0 200 85 sA60 Heap.empty (pureK false 20 sR60) = true := by kernel_rfl
end
end Go.AM
/- A closed call of the program's function 85: what it answers. Conditions: none. -/
namespace Go.AM
open Go
noncomputable section
def sA61 : List AV := [(.islice [(.int .i64 1), (.int .i64 2), (.int .i64 2)] 0 3 1), (.islice [(.int .i64 0), (.int .i64 2)] 0 2 1)]
def sR61 : AV := (.islice [(.int .i64 1), (.int .i64 2)] 0 2 1)
theorem stage61 : evalFn Proofs.Tryz.prog F0 D0 200 85 sA61 Heap.empty (pureK false 20 sR61) = true := by kernel_rfl
end
end Go.AM
/- A closed call of the program's function 85: what it answers. Conditions: none. -/
namespace Go.AM
open Go
noncomputable section
def sA62 : List AV := [(.islice [(.int .i64 1), (.int .i64 2), (.int .i64 2)] 0 3 1), (.islice [(.int .i64 2), (.int .i64 1)] 0 2 1)]
def sR62 : AV := (.islice [(.int .i64 2), (.int .i64 2)] 0 2 1)
theorem stage62 : evalFn Proofs.Tryz.prog F0 D0 200 85 sA62 Heap.empty (pureK false 20 sR62) = true := by kernel_rfl
end
end Go.AM
/- A closed call of the program's function 85: what it answers. Conditions: none. -/
namespace Go.AM
open Go
noncomputable section
def sA63 : List AV := [(.islice [(.int .i64 2), (.int .i64 0), (.int .i64 0)] 0 3 1), (.islice [(.int .i64 0), (.int .i64 2)] 0 2 1)]
def sR63 : AV := (.islice [(.int .i64 2), (.int .i64 0)] 0 2 1)
theorem stage63 : evalFn Proofs.Tryz.prog F0 D0 200 85 sA63 Heap.empty (pureK false 20 sR63) = true := by kernel_rfl
end
end Go.AM
/- A closed call of the program's function 85: what it answers. Conditions: none. -/
namespace Go.AM
open Go
noncomputable section
def sA64 : List AV := [(.islice [(.int .i64 2), (.int .i64 0), (.int .i64 1)] 0 3 1), (.islice [(.int .i64 0), (.int .i64 2)] 0 2 1)]
def sR64 : AV := (.islice [(.int .i64 2), (.int .i64 1)] 0 2 1)
theorem stage64 : evalFn Proofs.Tryz.prog F0 D0 200 85 sA64 Heap.empty (pureK false 20 sR64) = true := by kernel_rfl
end
end Go.AM
/- A closed call of the program's function 85: what it answers. Conditions: none. -/
namespace Go.AM
open Go
noncomputable section
def sA65 : List AV := [(.islice [(.int .i64 2), (.int .i64 0), (.int .i64 2)] 0 3 1), (.islice [(.int .i64 0), (.int .i64 2)] 0 2 1)]
def sR65 : AV := (.islice [(.int .i64 2), (.int .i64 2)] 0 2 1)
theorem stage65 : evalFn Proofs.Tryz.prog F0 D0 200 85 sA65 Heap.empty (pureK false 20 sR65) = true := by kernel_rfl
end
end Go.AM
/- A closed call of the program's function 85: what it answers. Conditions: none. -/
namespace Go.AM
open Go
noncomputable section
def sA66 : List AV := [(.islice [(.int .i64 2), (.int .i64 1), (.int .i64 0)] 0 3 1), (.islice [(.int .i64 0), (.int .i64 2)] 0 2 1)]
def sR66 : AV := (.islice [(.int .i64 2), (.int .i64 0)] 0 2 1)
theorem stage66 : evalFn Proofs.Tryz.prog F0 D0 200 85 sA66 Heap.empty (pureK false 20 sR66) = true := by kernel_rfl
end
end Go.AM
/- A closed call of the program's function 85: what it answers. Conditions: none. -/
namespace Go.AM
open Go
noncomputable section
def sA67 : List AV := [(.islice [(.int .i64 2), (.int .i64 1), (.int .i64 1)] 0 3 1), (.islice [(.int .i64 0), (.int .i64 2)] 0 2 1)]
def sR67 : AV := (.islice [(.int .i64 2), (.int .i64 1)] 0 2 1)
theorem stage67 : evalFn Proofs.Tryz.prog F0 D0 200 85 sA67 Heap.empty (pureK false 20 sR67) = true := by kernel_rfl
end
end Go.AM
/- A closed call of the program's function 85: what it answers. Conditions: none. -/
namespace Go.AM
open Go
noncomputable section
def sA68 : List AV := [(.islice [(.int .i64 2), (.int .i64 1), (.int .i64 2)] 0 3 1), (.islice [(.int .i64 0), (.int .i64 2)] 0 2 1)]
def sR68 : AV := (.islice [(.int .i64 2), (.int .i64 2)] 0 2 1)
theorem stage68 : evalFn Proofs.Tryz.prog F0 D0 200 85 sA68 Heap.empty (pureK false 20 sR68) = true := by kernel_rfl
end
end Go.AM
/- A closed call of the program's function 85: what it answers. Conditions: none. -/
namespace Go.AM
open Go
noncomputable section
def sA69 : List AV := [(.islice [(.int .i64 2), (.int .i64 2), (.int .i64 0)] 0 3 1), (.islice [(.int .i64 0), (.int .i64 2)] 0 2 1)]
def sR69 : AV := (.islice [(.int .i64 2), (.int .i64 0)] 0 2 1)
theorem stage69 : evalFn Proofs.Tryz.prog F0 D0 200 85 sA69 Heap.empty (pureK false 20 sR69) = true := by kernel_rfl
end
end Go.AM
/- A closed call of the program's function 85: what it answers. Conditions: none. -/
namespace Go.AM
open Go
noncomputable section
def sA70 : List AV := [(.islice [(.int .i64 2), (.int .i64 2), (.int .i64 1)] 0 3 1), (.islice [(.int .i64 0), (.int .i64 2)] 0 2 1)]
def sR70 : AV := (.islice [(.int .i64 2), (.int .i64 1)] 0 2 1)
theorem stage70 : evalFn Proofs.Tryz.prog F0 D0 200 85 sA70 Heap.empty (pureK false 20 sR70) = true := by kernel_rfl
end
end Go.AM
/- A closed call of the program's function 85: what it answers. Conditions: none. -/
namespace Go.AM
open Go
noncomputable section
def sA71 : List AV := [(.islice [(.int .i64 2), (.int .i64 2), (.int .i64 2)] 0 3 1), (.islice [(.int .i64 0), (.int .i64 2)] 0 2 1)]
def sR71 : AV := (.islice [(.int .i64 2), (.int .i64 2)] 0 2 1)
theorem stage71 : evalFn Proofs.Tryz.prog F0 D0 200 85 sA71 Heap.empty (pureK false 20 sR71) = true := by kernel_rfl
end
end Go.AM
/- A closed call of the program's function 57: what it answers. Conditions: none. -/
namespace Go.AM
open Go
noncomputable section
def sA73 : List AV := [(.str [80]), (.islice [(.int .i64 0), (.int .i64 1)] 0 2 1)]
def sR73 : AV := (.str [80, 47, 0, 1])
theorem stage73 : evalFn Proofs.Tryz.prog F0 D0 200 57 sA73 Heap.empty (pureK true 20 sR73) = true := by kernel_rfl
end
end Go.AM
/- A closed call of the program's function 57: what it answers. Conditions: none. -/
namespace Go.AM
open Go
noncomputable section
def sA74 : List AV := [(.str [80]), (.islice [(.int .i64 1), (.int .i64 2)] 0 2 1)]
def sR74 : AV := (.str [80, 47, 1, 2])
theorem stage74 : evalFn Proofs.Tryz.prog F0 D0 200 57 sA74 Heap.empty (pureK true 20 sR74) = true := by kernel_rfl
end
end Go.AM
/- A closed call of the program's function 57: what it answers. Conditions: none. -/
namespace Go.AM
open Go
noncomputable section
def sA75 : List AV := [(.str [80]), (.islice [(.int .i64 0), (.int .i64 2)] 0 2 1)]
def sR75 : AV := (.str [80, 47, 0, 2])
theorem stage75 : evalFn Proofs.Tryz.prog F0 D0 200 57 sA75 Heap.empty (pureK true 20 sR75) = true := by kernel_rfl
end
end Go.AM
/- A closed call of the program's function 85: what it answers. Conditions: none. -/
namespace Go.AM
open Go
noncomputable section
def sA77 : List AV := [(.islice [(.int .i64 0), (.int .i64 2), (.int .i64 1)] 0 3 1), (.islice [(.int .i64 0), (.int .i64 1)] 0 2 1)]
def sR77 : AV := (.islice [(.int .i64 0), (.int .i64 2)] 0 2 1)
theorem stage77 : evalFn Proofs.Tryz.prog F0 D0 200 85 sA77 Heap.empty (pureK true 20 sR77) = true := by kernel_rfl
end
end Go.AM
/- A closed call of the program's function 85: what it answers. Conditions: none. -/
namespace Go.AM
open Go
noncomputable section
def sA78 : List AV := [(.islice [(.int .i64 0), (.int .i64 2), (.int .i64 1)] 0 3 1), (.islice [(.int .i64 0), (.int .i64 2)] 0 2 1)]
def sR78 : AV := (.islice [(.int .i64 0), (.int .i64 1)] 0 2 1)
theorem stage78 : evalFn Proofs.Tryz.prog F0 D0 200 85 sA78 Heap.empty (pureK true 20 sR78) = true := by kernel_rfl
end
end Go.AM
/- A closed call of the program's function 85: what it answers. Conditions: none. -/
namespace Go.AM
open Go
noncomputable section
def sA79 : List AV := [(.islice [(.int .i64 0), (.int .i64 2), (.int .i64 1)] 0 3 1), (.islice [(.int .i64 2), (.int .i64 1)] 0 2 1)]
def sR79 : AV := (.islice [(.int .i64 1), (.int .i64 2)] 0 2 1)
theorem stage79 : evalFn Proofs.Tryz.prog F0 D0 200 85 sA79 Heap.empty (pureK true 20 sR79) = true := by kernel_rfl
end
end Go.AM
/- A closed call of the program's function 85: what it answers. Conditions: none. -/
namespace Go.AM
open Go
noncomputable section
def sA80 : List AV := [(.islice [(.int .i64 1), (.int .i64 2)] 0 2 1), (.islice [(.int .i64 0), (.int .i64 1)] 0 2 1)]
def sR80 : AV := (.islice [(.int .i64 1), (.int .i64 2)] 0 2 1)
theorem stage80 : evalFn Proofs.Tryz.prog F0 D0 200 85 sA80 Heap.empty (pureK true 20 sR80) = true := by kernel_rfl
end
end Go.AM
/- The closed calls of a level, gathered. Conditions: none. -/
namespace Go.AM
open Go
noncomputable section
def F1 : Prims := fun x => if x = 86 then some (orP (pureP sA0 sR0) (orP (pureP sA1 sR1) (orP (pureP sA2 sR2) (orP (pureP sA3 sR3) (orP (pureP sA4 sR4) (orP (pureP sA5 sR5) (orP (pureP sA6 sR6) (orP (pureP sA7 sR7) (orP (pureP sA8 sR8) (orP (pureP sA9 sR9) (pureP sA10 sR10))))))))))) else if x = 74 then some (pureP sA25 sR25) else if x = 80 then some (pureP sA26 sR26) else if x = 85 then some (orP (lentP 20 sA29 sR29) (orP (lentP 20 sA30 sR30) (orP (lentP 20 sA31 sR31) (orP (lentP 20 sA32 sR32) (orP (lentP 20 sA33 sR33) (orP (lentP 20 sA34 sR34) (orP (lentP 20 sA35 sR35) (orP (lentP 20 sA36 sR36) (orP (lentP 20 sA37 sR37) (orP (lentP 20 sA38 sR38) (orP (lentP 20 sA39 sR39) (orP (lentP 20 sA40 sR40) (orP (lentP 20 sA41 sR41) (orP (lentP 20 sA42 sR42) (orP (lentP 20 sA43 sR43) (orP (lentP 20 sA44 sR44) (orP (lentP 20 sA45 sR45) (orP (lentP 20 sA46 sR46) (orP (lentP 20 sA47 sR47) (orP (lentP 20 sA48 sR48) (orP (lentP 20 sA49 sR49) (orP (lentP 20 sA50 sR50) (orP (lentP 20 sA51 sR51) (orP (lentP 20 sA52 sR52) (orP (lentP 20 sA53 sR53) (orP (lentP 20 sA54 sR54) (orP (lentP 20 sA55 sR55) (orP (lentP 20 sA56 sR56) (orP (lentP 20 sA57 sR57) (orP (lentP 20 sA58 sR58) (orP (lentP 20 sA59 sR59) (orP (lentP 20 sA60 sR60) (orP (lentP 20 sA61 sR61) (orP (lentP 20 sA62 sR62) (orP (lentP 20 sA63 sR63) (orP (lentP 20 sA64 sR64) (orP (lentP 20 sA65 sR65) (orP (lentP 20 sA66 sR66) (orP (lentP 20 sA67 sR67) (orP (lentP 20 sA68 sR68) (orP (lentP 20 sA69 sR69) (orP (lentP 20 sA70 sR70) (orP (lentP 20 sA71 sR71) (orP (pureP sA77 sR77) (orP (pureP sA78 sR78) (orP (pureP sA79 sR79) (pureP sA80 sR80))))))))))))))))))))))))))))))))))))))))))))))) else if x = 57 then some (orP (pureP sA73 sR73) (orP (pureP sA74 sR74) (pureP sA75 sR75))) else F0 x
theorem F1_sound : PrimsSound Proofs.Tryz.prog F1 := by
  have hs := evalFn_sound mixed F0_sound D0_sound 200
  intro f g hg args h K hK
  unfold F1 at hg
  split at hg
  · rename_i e
    subst e
    cases hg
    rcases orP_eq hK with hK | hK
    · exact pureP_sound hs (by kernel_rfl) stage0 args h K hK
    rcases orP_eq hK with hK | hK
    · exact pureP_sound hs (by kernel_rfl) stage1 args h K hK
    rcases orP_eq hK with hK | hK
    · exact pureP_sound hs (by kernel_rfl) stage2 args h K hK
    rcases orP_eq hK with hK | hK
    · exact pureP_sound hs (by kernel_rfl) stage3 args h K hK
    rcases orP_eq hK with hK | hK
    · exact pureP_sound hs (by kernel_rfl) stage4 args h K hK
    rcases orP_eq hK with hK | hK
    · exact pureP_sound hs (by kernel_rfl) stage5 args h K hK
    rcases orP_eq hK with hK | hK
    · exact pureP_sound hs (by kernel_rfl) stage6 args h K hK
    rcases orP_eq hK with hK | hK
    · exact pureP_sound hs (by kernel_rfl) stage7 args h K hK
    rcases orP_eq hK with hK | hK
    · exact pureP_sound hs (by kernel_rfl) stage8 args h K hK
    rcases orP_eq hK with hK | hK
    · exact pureP_sound hs (by kernel_rfl) stage9 args h K hK
    exact pureP_sound hs (by kernel_rfl) stage10 args h K hK
  split at hg
  · rename_i e
    subst e
    cases hg
    exact pureP_sound hs (by kernel_rfl) stage25 args h K hK
  split at hg
  · rename_i e
    subst e
    cases hg
    exact pureP_sound hs (by kernel_rfl) stage26 args h K hK
  split at hg
  · rename_i e
    subst e
    cases hg
    rcases orP_eq hK with hK | hK
    · exact lentP_sound hs stage29 args h K hK
    rcases orP_eq hK with hK | hK
    · exact lentP_sound hs stage30 args h K hK
    rcases orP_eq hK with hK | hK
    · exact lentP_sound hs stage31 args h K hK
    rcases orP_eq hK with hK | hK
    · exact lentP_sound hs stage32 args h K hK
    rcases orP_eq hK with hK | hK
    · exact lentP_sound hs stage33 args h K hK
    rcases orP_eq hK with hK | hK
    · exact lentP_sound hs stage34 args h K hK
    rcases orP_eq hK with hK | hK
    · exact lentP_sound hs stage35 args h K hK
    rcases orP_eq hK with hK | hK
    · exact lentP_sound hs stage36 args h K hK
    rcases orP_eq hK with hK | hK
    · exact lentP_sound hs stage37 args h K hK
    rcases orP_eq hK with hK | hK
    · exact lentP_sound hs stage38 args h K hK
    rcases orP_eq hK with hK | hK
    · exact lentP_sound hs stage39 args h K hK
    rcases orP_eq hK with hK | hK
    · exact lentP_sound hs stage40 args h K hK
    rcases orP_eq hK with hK | hK
    · exact lentP_sound hs stage41 args h K hK
    rcases orP_eq hK with hK | hK
    · exact lentP_sound hs stage42 args h K hK
    rcases orP_eq hK with hK | hK
    · exact lentP_sound hs stage43 args h K hK
    rcases orP_eq hK with hK | hK
    · exact lentP_sound hs stage44 args h K hK
    rcases orP_eq hK with hK | hK
    · exact lentP_sound hs stage45 args h K hK
    rcases orP_eq hK with hK | hK
    · exact lentP_sound hs stage46 args h K hK
    rcases orP_eq hK with hK | hK
    · exact lentP_sound hs stage47 args h K hK
    rcases orP_eq hK with hK | hK
    · exact lentP_sound hs stage48 args h K hK
    rcases orP_eq hK with hK | hK
    · exact lentP_sound hs stage49 args h K hK
    rcases orP_eq hK with hK | hK
    · exact lentP_sound hs stage50 args h K hK
    rcases orP_eq hK with hK | hK
    · exact lentP_sound hs stage51 args h K hK
    rcases orP_eq hK with hK | hK
    · exact lentP_sound hs stage52 args h K hK
    rcases orP_eq hK with hK | hK
    · exact lentP_sound hs stage53 args h K hK
    rcases orP_eq hK with hK | hK
    · exact lentP_sound hs stage54 args h K hK
    rcases orP_eq hK with hK | hK
    · exact lentP_sound hs stage55 args h K hK
    rcases orP_eq hK with hK | hK
    · exact lentP_sound hs stage56 args h K hK
    rcases orP_eq hK with hK | hK
    · exact lentP_sound hs stage57 args h K hK
    rcases orP_eq hK with hK | hK
    · exact lentP_sound hs stage58 args h K hK
    rcases orP_eq hK with hK | hK
    · exact lentP_sound hs stage59 args h K hK
    rcases orP_eq hK with hK | hK
    · exact lentP_sound hs stage60 args h K hK
    rcases orP_eq hK with hK | hK
    · exact lentP_sound hs stage61 args h K hK
    rcases orP_eq hK with hK | hK
    · exact lentP_sound hs stage62 args h K hK
    rcases orP_eq hK with hK | hK
    · exact lentP_sound hs stage63 args h K hK
    rcases orP_eq hK with hK | hK
    · exact lentP_sound hs stage64 args h K hK
    rcases orP_eq hK with hK | hK
    · exact lentP_sound hs stage65 args h K hK
    rcases orP_eq hK with hK | hK
    · exact lentP_sound hs stage66 args h K hK
    rcases orP_eq hK with hK | hK
    · exact lentP_sound hs stage67 args h K hK
    rcases orP_eq hK with hK | hK
    · exact lentP_sound hs stage68 args h K hK
    rcases orP_eq hK with hK | hK
    · exact lentP_sound hs stage69 args h K hK
    rcases orP_eq hK with hK | hK
    · exact lentP_sound hs stage70 args h K hK
    rcases orP_eq hK with hK | hK
    · exact lentP_sound hs stage71 args h K hK
    rcases orP_eq hK with hK | hK
    · exact pureP_sound hs (by kernel_rfl) stage77 args h K hK
    rcases orP_eq hK with hK | hK
    · exact pureP_sound hs (by kernel_rfl) stage78 args h K hK
    rcases orP_eq hK with hK | hK
    · exact pureP_sound hs (by kernel_rfl) stage79 args h K hK
    exact pureP_sound hs (by kernel_rfl) stage80 args h K hK
  split at hg
  · rename_i e
    subst e
    cases hg
    rcases orP_eq hK with hK | hK
    · exact pureP_sound hs (by kernel_rfl) stage73 args h K hK
    rcases orP_eq hK with hK | hK
    · exact pureP_sound hs (by kernel_rfl) stage74 args h K hK
    exact pureP_sound hs (by kernel_rfl) stage75 args h K hK
  exact F0_sound f g hg args h K hK
end
end Go.AM
/- A closed call of the program's function 61: what it answers. Conditions: none. -/
namespace Go.AM
open Go
noncomputable section
def sA11 : List AV := [(.agg [(.str [80]), (.islice [(.str [120]), (.str [121])] 0 2 1)])]
def sR11 : AV := (.bool true)
theorem stage11 : evalFn Proofs.Tryz.prog F1 D0 200 61 sA11 Heap.empty (pureK false 20 sR11) = true := by kernel_rfl
end
end Go.AM
/- A closed call of the program's function 63: what it answers. Conditions: none. -/
namespace Go.AM
open Go
noncomputable section
def sA12 : List AV := [(.agg [(.str [80]), (.islice [(.str [120]), (.str [121])] 0 2 1), (.islice [(.int .i64 0), (.bool false), (.str [69]), (.islice [(.str [120]), (.str [121])] 0 2 1)] 0 1 4)])]
def sR12 : AV := (.islice [(.str [120]), (.str [121])] 0 2 1)
theorem stage12 : evalFn Proofs.Tryz.prog F1 D0 200 63 sA12 Heap.empty (pureK false 20 sR12) = true := by kernel_rfl
end
end Go.AM
/- A closed call of the program's function 64: what it answers. Conditions: none. -/
namespace Go.AM
open Go
noncomputable section
def sA13 : List AV := [(.agg [(.int .i64 0), (.bool false), (.str [69]), (.islice [(.str [120]), (.str [121])] 0 2 1)])]
def sR13 : AV := (.bool true)
theorem stage13 : evalFn Proofs.Tryz.prog F1 D0 200 64 sA13 Heap.empty (pureK false 20 sR13) = true := by kernel_rfl
end
end Go.AM
/- A closed call of the program's function 63: what it answers. Conditions: none. -/
namespace Go.AM
open Go
noncomputable section
def sA14 : List AV := [(.agg [(.str [80]), (.islice [(.str [120]), (.str [121])] 0 2 1), (.islice [(.int .i64 0), (.bool false), (.str [69]), (.islice [(.str [120]), (.str [122])] 0 2 1), (.int .i64 0), (.bool false), (.str [80]), (.islice [(.str [122]), (.str [121])] 0 2 1)] 0 2 4)])]
def sR14 : AV := (.islice [(.str [120]), (.str [121]), (.str [122])] 0 3 1)
theorem stage14 : evalFn Proofs.Tryz.prog F1 D0 200 63 sA14 Heap.empty (pureK false 20 sR14) = true := by kernel_rfl
end
end Go.AM
/- A closed call of the program's function 64: what it answers. Conditions: none. -/
namespace Go.AM
open Go
noncomputable section
def sA15 : List AV := [(.agg [(.int .i64 0), (.bool false), (.str [69]), (.islice [(.str [120]), (.str [122])] 0 2 1)])]
def sR15 : AV := (.bool true)
theorem stage15 : evalFn Proofs.Tryz.prog F1 D0 200 64 sA15 Heap.empty (pureK false 20 sR15) = true := by kernel_rfl
end
end Go.AM
/- A closed call of the program's function 64: what it answers. Conditions: none. -/
namespace Go.AM
open Go
noncomputable section
def sA16 : List AV := [(.agg [(.int .i64 0), (.bool false), (.str [80]), (.islice [(.str [122]), (.str [121])] 0 2 1)])]
def sR16 : AV := (.bool true)
theorem stage16 : evalFn Proofs.Tryz.prog F1 D0 200 64 sA16 Heap.empty (pureK false 20 sR16) = true := by kernel_rfl
end
end Go.AM
/- A closed call of the program's function 61: what it answers. Conditions: none. -/
namespace Go.AM
open Go
noncomputable section
def sA18 : List AV := [(.agg [(.str [80]), (.islice [(.str [120]), (.str [121])] 0 2 1)])]
def sR18 : AV := (.bool true)
theorem stage18 : evalFn Proofs.Tryz.prog F1 D0 200 61 sA18 Heap.empty (pureK true 20 sR18) = true := by kernel_rfl
end
end Go.AM
/- A closed call of the program's function 63: what it answers. Conditions: none. -/
namespace Go.AM
open Go
noncomputable section
def sA19 : List AV := [(.agg [(.str [80]), (.islice [(.str [120]), (.str [121])] 0 2 1), (.islice [(.int .i64 0), (.bool false), (.str [69]), (.islice [(.str [120]), (.str [121])] 0 2 1)] 0 1 4)])]
def sR19 : AV := (.islice [(.str [120]), (.str [121])] 0 2 1)
theorem stage19 : evalFn Proofs.Tryz.prog F1 D0 200 63 sA19 Heap.empty (pureK true 20 sR19) = true := by kernel_rfl
end
end Go.AM
/- A closed call of the program's function 64: what it answers. Conditions: none. -/
namespace Go.AM
open Go
noncomputable section
def sA20 : List AV := [(.agg [(.int .i64 0), (.bool false), (.str [69]), (.islice [(.str [120]), (.str [121])] 0 2 1)])]
def sR20 : AV := (.bool true)
theorem stage20 : evalFn Proofs.Tryz.prog F1 D0 200 64 sA20 Heap.empty (pureK true 20 sR20) = true := by kernel_rfl
end
end Go.AM
/- A closed call of the program's function 63: what it answers. Conditions: none. -/
namespace Go.AM
open Go
noncomputable section
def sA21 : List AV := [(.agg [(.str [80]), (.islice [(.str [120]), (.str [121])] 0 2 1), (.islice [(.int .i64 0), (.bool false), (.str [69]), (.islice [(.str [120]), (.str [122])] 0 2 1), (.int .i64 0), (.bool false), (.str [80]), (.islice [(.str [122]), (.str [121])] 0 2 1)] 0 2 4)])]
def sR21 : AV := (.islice [(.str [120]), (.str [121]), (.str [122])] 0 3 1)
theorem stage21 : evalFn Proofs.Tryz.prog F1 D0 200 63 sA21 Heap.empty (pureK true 20 sR21) = true := by kernel_rfl
end
end Go.AM
/- A closed call of the program's function 64: what it answers. Conditions: none. -/
namespace Go.AM
open Go
noncomputable section
def sA22 : List AV := [(.agg [(.int .i64 0), (.bool false), (.str [69]), (.islice [(.str [120]), (.str [122])] 0 2 1)])]
def sR22 : AV := (.bool true)
theorem stage22 : evalFn Proofs.Tryz.prog F1 D0 200 64 sA22 Heap.empty (pureK true 20 sR22) = true := by kernel_rfl
end
end Go.AM
/- A closed call of the program's function 64: what it answers. Conditions: none. -/
namespace Go.AM
open Go
noncomputable section
def sA23 : List AV := [(.agg [(.int .i64 0), (.bool false), (.str [80]), (.islice [(.str [122]), (.str [121])] 0 2 1)])]
def sR23 : AV := (.bool true)
theorem stage23 : evalFn Proofs.Tryz.prog F1 D0 200 64 sA23 Heap.empty (pureK true 20 sR23) = true := by kernel_rfl
end
end Go.AM
/- A closed call of the program's function 73: what it answers. Conditions: none. -/
namespace Go.AM
open Go
noncomputable section
def sA24 : List AV := [(.agg [(.int .i64 3), (.islice [(.str [69]), (.int .i64 2), (.islice [(.islice [(.int .i64 0), (.int .i64 1)] 0 2 1), (.islice [(.int .i64 1), (.int .i64 2)] 0 2 1)] 0 2 1)] 0 1 3)])]
def sR24 : AV := (.bool true)
theorem stage24 : evalFn Proofs.Tryz.prog F1 D0 200 73 sA24 Heap.empty (pureK true 20 sR24) = true := by kernel_rfl
end
end Go.AM
/- A closed call of the program's function 81: what it answers. Conditions: none. -/
namespace Go.AM
open Go
noncomputable section
def sA27 : List AV := [(.int .i64 0), (.agg [(.str [80]), (.islice [(.str [120]), (.str [121])] 0 2 1), (.islice [(.int .i64 0), (.bool false), (.str [69]), (.islice [(.str [120]), (.str [121])] 0 2 1)] 0 1 4)])]
def sR27 : AV := (.agg [(.int .i64 0), (.str [80]), (.islice [(.str [120]), (.str [121])] 0 2 1), (.islice [(.int .i64 0), (.bool false), (.str [69]), (.islice [(.str [120]), (.str [121])] 0 2 1)] 0 1 4), (.int .i64 2), (.islice [(.int .i64 0), (.int .i64 1)] 0 2 1), (.islice [(.islice [(.int .i64 0), (.int .i64 1)] 0 2 1)] 0 1 1), (.islice [(.int .i64 1)] 0 1 1)])
theorem stage27 : evalFn Proofs.Tryz.prog F1 D0 200 81 sA27 Heap.empty (pureK true 20 sR27) = true := by kernel_rfl
end
end Go.AM
/- A closed call of the program's function 81: what it answers. Conditions: none. -/
namespace Go.AM
open Go
noncomputable section
def sA28 : List AV := [(.int .i64 1), (.agg [(.str [80]), (.islice [(.str [120]), (.str [121])] 0 2 1), (.islice [(.int .i64 0), (.bool false), (.str [69]), (.islice [(.str [120]), (.str [122])] 0 2 1), (.int .i64 0), (.bool false), (.str [80]), (.islice [(.str [122]), (.str [121])] 0 2 1)] 0 2 4)])]
def sR28 : AV := (.agg [(.int .i64 1), (.str [80]), (.islice [(.str [120]), (.str [121])] 0 2 1), (.islice [(.int .i64 0), (.bool false), (.str [69]), (.islice [(.str [120]), (.str [122])] 0 2 1), (.int .i64 0), (.bool false), (.str [80]), (.islice [(.str [122]), (.str [121])] 0 2 1)] 0 2 4), (.int .i64 3), (.islice [(.int .i64 0), (.int .i64 1)] 0 2 1), (.islice [(.islice [(.int .i64 0), (.int .i64 2)] 0 2 1), (.islice [(.int .i64 2), (.int .i64 1)] 0 2 1)] 0 2 1), (.islice [(.int .i64 2), (.int .i64 2)] 0 2 1)])
theorem stage28 : evalFn Proofs.Tryz.prog F1 D0 200 81 sA28 Heap.empty (pureK true 20 sR28) = true := by kernel_rfl
end
end Go.AM
/- The closed calls of a level, gathered. Conditions: none. -/
namespace Go.AM
open Go
noncomputable section
def F2 : Prims := fun x => if x = 61 then some (orP (lentP 20 sA11 sR11) (pureP sA18 sR18)) else if x = 63 then some (orP (lentP 20 sA12 sR12) (orP (lentP 20 sA14 sR14) (orP (pureP sA19 sR19) (pureP sA21 sR21)))) else if x = 64 then some (orP (lentP 20 sA13 sR13) (orP (lentP 20 sA15 sR15) (orP (lentP 20 sA16 sR16) (orP (pureP sA20 sR20) (orP (pureP sA22 sR22) (pureP sA23 sR23)))))) else if x = 73 then some (pureP sA24 sR24) else if x = 81 then some (orP (pureP sA27 sR27) (pureP sA28 sR28)) else F1 x
theorem F2_sound : PrimsSound Proofs.Tryz.prog F2 := by
  have hs := evalFn_sound mixed F1_sound D0_sound 200
  intro f g hg args h K hK
  unfold F2 at hg
  split at hg
  · rename_i e
    subst e
    cases hg
    rcases orP_eq hK with hK | hK
    · exact lentP_sound hs stage11 args h K hK
    exact pureP_sound hs (by kernel_rfl) stage18 args h K hK
  split at hg
  · rename_i e
    subst e
    cases hg
    rcases orP_eq hK with hK | hK
    · exact lentP_sound hs stage12 args h K hK
    rcases orP_eq hK with hK | hK
    · exact lentP_sound hs stage14 args h K hK
    rcases orP_eq hK with hK | hK
    · exact pureP_sound hs (by kernel_rfl) stage19 args h K hK
    exact pureP_sound hs (by kernel_rfl) stage21 args h K hK
  split at hg
  · rename_i e
    subst e
    cases hg
    rcases orP_eq hK with hK | hK
    · exact lentP_sound hs stage13 args h K hK
    rcases orP_eq hK with hK | hK
    · exact lentP_sound hs stage15 args h K hK
    rcases orP_eq hK with hK | hK
    · exact lentP_sound hs stage16 args h K hK
    rcases orP_eq hK with hK | hK
    · exact pureP_sound hs (by kernel_rfl) stage20 args h K hK
    rcases orP_eq hK with hK | hK
    · exact pureP_sound hs (by kernel_rfl) stage22 args h K hK
    exact pureP_sound hs (by kernel_rfl) stage23 args h K hK
  split at hg
  · rename_i e
    subst e
    cases hg
    exact pureP_sound hs (by kernel_rfl) stage24 args h K hK
  split at hg
  · rename_i e
    subst e
    cases hg
    rcases orP_eq hK with hK | hK
    · exact pureP_sound hs (by kernel_rfl) stage27 args h K hK
    exact pureP_sound hs (by kernel_rfl) stage28 args h K hK
  exact F1_sound f g hg args h K hK
end
end Go.AM
/- A closed call of the program's function 21: what it answers. Conditions: none. -/
namespace Go.AM
open Go
noncomputable section
def sA17 : List AV := [(.str [80, 40, 120, 32, 121, 41, 32, 58, 45, 32, 69, 40, 120, 32, 121, 41, 46, 10, 80, 40, 120, 32, 121, 41, 32, 58, 45, 32, 69, 40, 120, 32, 122, 41, 44, 32, 80, 40, 122, 32, 121, 41, 46, 10])]
def sR17 : AV := (.tuple [(.islice [(.str [80]), (.islice [(.str [120]), (.str [121])] 0 2 1), (.islice [(.int .i64 0), (.bool false), (.str [69]), (.islice [(.str [120]), (.str [121])] 0 2 1)] 0 1 4), (.str [80]), (.islice [(.str [120]), (.str [121])] 0 2 1), (.islice [(.int .i64 0), (.bool false), (.str [69]), (.islice [(.str [120]), (.str [122])] 0 2 1), (.int .i64 0), (.bool false), (.str [80]), (.islice [(.str [122]), (.str [121])] 0 2 1)] 0 2 4)] 0 2 3), (.int .i64 0)])
theorem stage17 : evalFn Proofs.Tryz.prog F2 D0 200 21 sA17 Heap.empty (pureK true 20 sR17) = true := by kernel_rfl
end
end Go.AM
/- The closed calls of a level, gathered. Conditions: none. -/
namespace Go.AM
open Go
noncomputable section
def F3 : Prims := fun x => if x = 21 then some (pureP sA17 sR17) else F2 x
theorem F3_sound : PrimsSound Proofs.Tryz.prog F3 := by
  have hs := evalFn_sound mixed F2_sound D0_sound 200
  intro f g hg args h K hK
  unfold F3 at hg
  split at hg
  · rename_i e
    subst e
    cases hg
    exact pureP_sound hs (by kernel_rfl) stage17 args h K hK
  exact F2_sound f g hg args h K hK
end
end Go.AM
