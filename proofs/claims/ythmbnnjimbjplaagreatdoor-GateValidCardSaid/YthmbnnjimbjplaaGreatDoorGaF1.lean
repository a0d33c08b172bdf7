/- What functions of the program do, as terms: printed by a program. Conditions: none. -/
import Derived.Test.YthmbnnjimbjplaaGreatDoorAmBase
namespace Go.AM
open Go Go.Proofs
set_option linter.unusedVariables false
noncomputable section
theorem F.ref01_letter_eq {a0 : AV} {h : Heap} {K : Out → Heap → Bool} : evalS Tryz.prog (semCall Tryz.prog) (codeOf Tryz.f163) ⟨mkEnv [a0], 17, [], h⟩ (leaveK Tryz.prog noD Tryz.f163.results.toList K) = (
bindO (binS .geq a0 (.int .u8 97)) fun x0 =>
condB x0 (
bindO (binS .leq a0 (.int .u8 122)) fun x1 =>
condB x1 (
K (.ret (.bool true)) h) (
bindO (binS .geq a0 (.int .u8 65)) fun x2 =>
condB x2 (
bindO (binS .leq a0 (.int .u8 90)) fun x3 =>
K (.ret x3) h) (
K (.ret (.bool false)) h))) (
bindO (binS .geq a0 (.int .u8 65)) fun x4 =>
condB x4 (
bindO (binS .leq a0 (.int .u8 90)) fun x5 =>
K (.ret x5) h) (
K (.ret (.bool false)) h))) := by kernel_rfl
theorem F.ref01_letter_sem {a0 : AV} {h : Heap} {K : Out → Heap → Bool} (hh : (
bindO (binS .geq a0 (.int .u8 97)) fun x0 =>
condB x0 (
bindO (binS .leq a0 (.int .u8 122)) fun x1 =>
condB x1 (
K (.ret (.bool true)) h) (
bindO (binS .geq a0 (.int .u8 65)) fun x2 =>
condB x2 (
bindO (binS .leq a0 (.int .u8 90)) fun x3 =>
K (.ret x3) h) (
K (.ret (.bool false)) h))) (
bindO (binS .geq a0 (.int .u8 65)) fun x4 =>
condB x4 (
bindO (binS .leq a0 (.int .u8 90)) fun x5 =>
K (.ret x5) h) (
K (.ret (.bool false)) h))) = true) : Sem Tryz.prog 163 [a0] h K :=
  sem_body mixed (noD_sound _) Tryz.func163 (c := codeOf Tryz.f163) rfl (by decide) (of_decide_eq_true (by kernel_rfl)) (F.ref01_letter_eq.trans hh)
theorem F.ref01_Word_eq {a0 : AV} {h : Heap} {K : Out → Heap → Bool} : evalS Tryz.prog (semCall Tryz.prog) (codeOf Tryz.f164) ⟨mkEnv [a0], 16, [], h⟩ (leaveK Tryz.prog noD Tryz.f164.results.toList K) = (
bindO (eqV .string a0 (.str [97, 110, 100])) fun x0 =>
condB x0 (
condB x0 (
K (.ret (.bool true)) h) (
K (.ret (.bool false)) h)) (
bindO (eqV .string a0 (.str [111, 114])) fun x1 =>
condB x1 (
condB x1 (
K (.ret (.bool true)) h) (
K (.ret (.bool false)) h)) (
bindO (eqV .string a0 (.str [110, 111, 116])) fun x2 =>
condB x2 (
condB x2 (
K (.ret (.bool true)) h) (
K (.ret (.bool false)) h)) (
bindO (eqV .string a0 (.str [115, 111, 109, 101])) fun x3 =>
condB x3 (
condB x3 (
K (.ret (.bool true)) h) (
K (.ret (.bool false)) h)) (
bindO (eqV .string a0 (.str [97, 108, 108])) fun x4 =>
condB x4 (
condB x4 (
K (.ret (.bool true)) h) (
K (.ret (.bool false)) h)) (
bindO (eqV .string a0 (.str [108, 102, 112])) fun x5 =>
condB x5 (
condB x5 (
K (.ret (.bool true)) h) (
K (.ret (.bool false)) h)) (
bindO (eqV .string a0 (.str [112, 102, 112])) fun x6 =>
condB x6 (
condB x6 (
K (.ret (.bool true)) h) (
K (.ret (.bool false)) h)) (
bindO (eqV .string a0 (.str [116, 99])) fun x7 =>
condB x7 (
condB x7 (
K (.ret (.bool true)) h) (
K (.ret (.bool false)) h)) (
bindO (eqV .string a0 (.str [101, 120, 105, 115, 116, 115])) fun x8 =>
condB x8 (
condB x8 (
K (.ret (.bool true)) h) (
K (.ret (.bool false)) h)) (
bindO (eqV .string a0 (.str [116, 114, 117, 101])) fun x9 =>
condB x9 (
condB x9 (
K (.ret (.bool true)) h) (
K (.ret (.bool false)) h)) (
bindO (eqV .string a0 (.str [102, 97, 108, 115, 101])) fun x10 =>
condB x10 (
K (.ret (.bool true)) h) (
K (.ret (.bool false)) h)))))))))))) := by kernel_rfl
theorem F.ref01_Word_sem {a0 : AV} {h : Heap} {K : Out → Heap → Bool} (hh : (
bindO (eqV .string a0 (.str [97, 110, 100])) fun x0 =>
condB x0 (
condB x0 (
K (.ret (.bool true)) h) (
K (.ret (.bool false)) h)) (
bindO (eqV .string a0 (.str [111, 114])) fun x1 =>
condB x1 (
condB x1 (
K (.ret (.bool true)) h) (
K (.ret (.bool false)) h)) (
bindO (eqV .string a0 (.str [110, 111, 116])) fun x2 =>
condB x2 (
condB x2 (
K (.ret (.bool true)) h) (
K (.ret (.bool false)) h)) (
bindO (eqV .string a0 (.str [115, 111, 109, 101])) fun x3 =>
condB x3 (
condB x3 (
K (.ret (.bool true)) h) (
K (.ret (.bool false)) h)) (
bindO (eqV .string a0 (.str [97, 108, 108])) fun x4 =>
condB x4 (
condB x4 (
K (.ret (.bool true)) h) (
K (.ret (.bool false)) h)) (
bindO (eqV .string a0 (.str [108, 102, 112])) fun x5 =>
condB x5 (
condB x5 (
K (.ret (.bool true)) h) (
K (.ret (.bool false)) h)) (
bindO (eqV .string a0 (.str [112, 102, 112])) fun x6 =>
condB x6 (
condB x6 (
K (.ret (.bool true)) h) (
K (.ret (.bool false)) h)) (
bindO (eqV .string a0 (.str [116, 99])) fun x7 =>
condB x7 (
condB x7 (
K (.ret (.bool true)) h) (
K (.ret (.bool false)) h)) (
bindO (eqV .string a0 (.str [101, 120, 105, 115, 116, 115])) fun x8 =>
condB x8 (
condB x8 (
K (.ret (.bool true)) h) (
K (.ret (.bool false)) h)) (
bindO (eqV .string a0 (.str [116, 114, 117, 101])) fun x9 =>
condB x9 (
condB x9 (
K (.ret (.bool true)) h) (
K (.ret (.bool false)) h)) (
bindO (eqV .string a0 (.str [102, 97, 108, 115, 101])) fun x10 =>
condB x10 (
K (.ret (.bool true)) h) (
K (.ret (.bool false)) h)))))))))))) = true) : Sem Tryz.prog 164 [a0] h K :=
  sem_body mixed (noD_sound _) Tryz.func164 (c := codeOf Tryz.f164) rfl (by decide) (of_decide_eq_true (by kernel_rfl)) (F.ref01_Word_eq.trans hh)
theorem F.ref01_digit_eq {a0 : AV} {h : Heap} {K : Out → Heap → Bool} : evalS Tryz.prog (semCall Tryz.prog) (codeOf Tryz.f165) ⟨mkEnv [a0], 9, [], h⟩ (leaveK Tryz.prog noD Tryz.f165.results.toList K) = (
bindO (binS .geq a0 (.int .u8 48)) fun x0 =>
condB x0 (
bindO (binS .leq a0 (.int .u8 57)) fun x1 =>
K (.ret x1) h) (
K (.ret (.bool false)) h)) := by kernel_rfl
theorem F.ref01_digit_sem {a0 : AV} {h : Heap} {K : Out → Heap → Bool} (hh : (
bindO (binS .geq a0 (.int .u8 48)) fun x0 =>
condB x0 (
bindO (binS .leq a0 (.int .u8 57)) fun x1 =>
K (.ret x1) h) (
K (.ret (.bool false)) h)) = true) : Sem Tryz.prog 165 [a0] h K :=
  sem_body mixed (noD_sound _) Tryz.func165 (c := codeOf Tryz.f165) rfl (by decide) (of_decide_eq_true (by kernel_rfl)) (F.ref01_digit_eq.trans hh)
noncomputable def F.ref01_Name.L0 : Code := partOf (codeOf Tryz.f107) [1, 1, 0, 1, 0, 0]
noncomputable def F.ref01_Name.L0k (K : Out → Heap → Bool) : AX → St → Bool := (blockK 0 (seqK false (evalS Tryz.prog (semCall Tryz.prog) (partOf (codeOf Tryz.f107) [1, 1, 1])) (leaveK Tryz.prog noD Tryz.f107.results.toList K)))
theorem F.ref01_Name.L0_eq {e : Env} {h : Heap} {K : AX → St → Bool} : evalS Tryz.prog (semCall Tryz.prog) F.ref01_Name.L0 ⟨e, 40, [], h⟩ K = (
bindO (lenS .str (e 0) h) fun x14 =>
bindO (binS .lss (e 3) x14) fun x15 =>
condB x15 (
bindO (strIdxS (e 0) (e 3)) fun x16 =>
semCall Tryz.prog 163 [x16] h (outK (fun x17 h18 =>
bindO (unS .not x17) fun x21 =>
condB x21 (
bindO (strIdxS (e 0) (e 3)) fun x22 =>
semCall Tryz.prog 165 [x22] h18 (outK (fun x23 h24 =>
bindO (unS .not x23) fun x27 =>
condB x27 (
K .ret ⟨(setV (setV (setV (setV (setV (setV (setV (setV (setV (setV (setV (setV (setV (setV (setV (setV (setV (setV (setV (setV (setV (setV e 22 (e 3)) 23 (e 0)) 24 x14) 25 x15) 28 (e 0)) 29 (e 3)) 30 x16) 31 x17) 32 x21) 33 x21) 33 (.bool true)) 34 (e 0)) 33 (.bool true)) 35 (e 3)) 33 (.bool true)) 36 x22) 33 (.bool true)) 37 x23) 33 (.bool true)) 38 x27) 39 x27) 2 (.bool false)), 40, [], h24⟩) (
bindO (binS .add (e 3) (.int .i64 1)) fun x28 =>
K .normal ⟨(setV (setV (setV (setV (setV (setV (setV (setV (setV (setV (setV (setV (setV (setV (setV (setV (setV (setV (setV (setV (setV (setV (setV (setV e 22 (e 3)) 23 (e 0)) 24 x14) 25 x15) 28 (e 0)) 29 (e 3)) 30 x16) 31 x17) 32 x21) 33 x21) 33 (.bool true)) 34 (e 0)) 33 (.bool true)) 35 (e 3)) 33 (.bool true)) 36 x22) 33 (.bool true)) 37 x23) 33 (.bool true)) 38 x27) 39 x27) 26 (e 3)) 27 x28) 3 x28), 40, [], h24⟩)) (fun v25 h26 => K (.panic v25) ⟨(setV (setV (setV (setV (setV (setV (setV (setV (setV (setV (setV (setV (setV (setV (setV (setV (setV e 22 (e 3)) 23 (e 0)) 24 x14) 25 x15) 28 (e 0)) 29 (e 3)) 30 x16) 31 x17) 32 x21) 33 x21) 33 (.bool true)) 34 (e 0)) 33 (.bool true)) 35 (e 3)) 33 (.bool true)) 36 x22) 33 (.bool true)), 40, [], h26⟩))) (
bindO (binS .add (e 3) (.int .i64 1)) fun x29 =>
K .normal ⟨(setV (setV (setV (setV (setV (setV (setV (setV (setV (setV (setV (setV (setV (setV (setV (setV (setV (setV (setV (setV (setV (setV (setV (setV e 22 (e 3)) 23 (e 0)) 24 x14) 25 x15) 28 (e 0)) 29 (e 3)) 30 x16) 31 x17) 32 x21) 33 x21) 33 (.bool false)) 34 noV) 33 (.bool false)) 35 noV) 33 (.bool false)) 36 noV) 33 (.bool false)) 37 noV) 33 (.bool false)) 38 noV) 39 (.bool false)) 26 (e 3)) 27 x29) 3 x29), 40, [], h18⟩)) (fun v19 h20 => K (.panic v19) ⟨(setV (setV (setV (setV (setV (setV (setV e 22 (e 3)) 23 (e 0)) 24 x14) 25 x15) 28 (e 0)) 29 (e 3)) 30 x16), 40, [], h20⟩))) (
K (.exit 0) ⟨(setV (setV (setV (setV e 22 (e 3)) 23 (e 0)) 24 x14) 25 x15), 40, [], h⟩)) := by kernel_rfl
theorem F.ref01_Name.L0_x0_eq {e : Env} {h : Heap} {K : Out → Heap → Bool} : F.ref01_Name.L0k K (.exit 0) ⟨e, 40, [], h⟩ = (
K (.ret (.bool true)) h) := by kernel_rfl
theorem F.ref01_Name.L0_r_eq {e : Env} {h : Heap} {K : Out → Heap → Bool} : F.ref01_Name.L0k K .ret ⟨e, 40, [], h⟩ = (
K (.ret (e 2)) h) := by kernel_rfl
theorem F.ref01_Name_eq {a0 : AV} {h : Heap} {K : Out → Heap → Bool} : evalS Tryz.prog (semCall Tryz.prog) (codeOf Tryz.f107) ⟨mkEnv [a0], 40, [], h⟩ (leaveK Tryz.prog noD Tryz.f107.results.toList K) = (
bindO (lenS .str a0 h) fun x0 =>
bindO (binS .lss x0 (.int .i64 1)) fun x1 =>
condB x1 (
K (.ret (.bool false)) h) (
bindO (lenS .str a0 h) fun x2 =>
bindO (binS .gtr x2 (.int .i64 12)) fun x3 =>
condB x3 (
K (.ret (.bool false)) h) (
bindO (strIdxS a0 (.int .i64 0)) fun x4 =>
semCall Tryz.prog 163 [x4] h (outK (fun x5 h6 =>
bindO (unS .not x5) fun x9 =>
condB x9 (
K (.ret (.bool false)) h6) (
semCall Tryz.prog 164 [a0] h6 (outK (fun x10 h11 =>
condB x10 (
K (.ret (.bool false)) h11) (
loopB (evalS Tryz.prog (semCall Tryz.prog) F.ref01_Name.L0) ⟨(setV (setV (setV (setV (setV (setV (setV (setV (setV (setV (setV (setV (setV (setV (setV (setV (setV (setV (setV (setV (setV (setV (setV (setV (setV (setV (setV (setV (setV (mkEnv [a0]) 2 (.bool false)) 4 a0) 5 x0) 6 x1) 7 x1) 7 (.bool false)) 8 a0) 7 (.bool false)) 9 x2) 7 (.bool false)) 10 x3) 11 x3) 12 x3) 12 (.bool false)) 13 a0) 12 (.bool false)) 14 x4) 12 (.bool false)) 15 x5) 12 (.bool false)) 16 x9) 17 x9) 18 x9) 18 (.bool false)) 19 a0) 18 (.bool false)) 20 x10) 21 x10) 3 (.int .i64 1)), 40, [], h11⟩ (F.ref01_Name.L0k K))) (fun v12 h13 => K (.panic v12) h13)))) (fun v7 h8 => K (.panic v7) h8))))) := by kernel_rfl
theorem F.ref01_Name_sem {a0 : AV} {h : Heap} {K : Out → Heap → Bool} (hh : (
bindO (lenS .str a0 h) fun x0 =>
bindO (binS .lss x0 (.int .i64 1)) fun x1 =>
condB x1 (
K (.ret (.bool false)) h) (
bindO (lenS .str a0 h) fun x2 =>
bindO (binS .gtr x2 (.int .i64 12)) fun x3 =>
condB x3 (
K (.ret (.bool false)) h) (
bindO (strIdxS a0 (.int .i64 0)) fun x4 =>
semCall Tryz.prog 163 [x4] h (outK (fun x5 h6 =>
bindO (unS .not x5) fun x9 =>
condB x9 (
K (.ret (.bool false)) h6) (
semCall Tryz.prog 164 [a0] h6 (outK (fun x10 h11 =>
condB x10 (
K (.ret (.bool false)) h11) (
loopB (evalS Tryz.prog (semCall Tryz.prog) F.ref01_Name.L0) ⟨(setV (setV (setV (setV (setV (setV (setV (setV (setV (setV (setV (setV (setV (setV (setV (setV (setV (setV (setV (setV (setV (setV (setV (setV (setV (setV (setV (setV (setV (mkEnv [a0]) 2 (.bool false)) 4 a0) 5 x0) 6 x1) 7 x1) 7 (.bool false)) 8 a0) 7 (.bool false)) 9 x2) 7 (.bool false)) 10 x3) 11 x3) 12 x3) 12 (.bool false)) 13 a0) 12 (.bool false)) 14 x4) 12 (.bool false)) 15 x5) 12 (.bool false)) 16 x9) 17 x9) 18 x9) 18 (.bool false)) 19 a0) 18 (.bool false)) 20 x10) 21 x10) 3 (.int .i64 1)), 40, [], h11⟩ (F.ref01_Name.L0k K))) (fun v12 h13 => K (.panic v12) h13)))) (fun v7 h8 => K (.panic v7) h8))))) = true) : Sem Tryz.prog 107 [a0] h K :=
  sem_body mixed (noD_sound _) Tryz.func107 (c := codeOf Tryz.f107) rfl (by decide) (of_decide_eq_true (by kernel_rfl)) (F.ref01_Name_eq.trans hh)
noncomputable def F.ref01_In.L0 : Code := partOf (codeOf Tryz.f108) [1, 0, 1, 0, 0]
noncomputable def F.ref01_In.L0k (K : Out → Heap → Bool) : AX → St → Bool := (blockK 0 (seqK false (evalS Tryz.prog (semCall Tryz.prog) (partOf (codeOf Tryz.f108) [1, 1])) (leaveK Tryz.prog noD Tryz.f108.results.toList K)))
theorem F.ref01_In.L0_eq {e : Env} {h : Heap} {K : AX → St → Bool} : evalS Tryz.prog (semCall Tryz.prog) F.ref01_In.L0 ⟨e, 25, [], h⟩ K = (
bindO (lenS .slice (e 1) h) fun x0 =>
bindO (binS .lss (e 5) x0) fun x1 =>
condB x1 (
bindO (iaS 1 (e 1) (e 5)) fun x2 =>
bindO (loadS none x2 h) fun x3 =>
bindO (binS .lss x3 (.int .i64 0)) fun x4 =>
condB x4 (
K .ret ⟨(setV (setV (setV (setV (setV (setV (setV (setV (setV (setV (setV (setV (setV (setV (setV (setV (setV (setV (setV (setV (setV (setV (setV (setV e 6 (e 5)) 7 (e 1)) 8 x0) 9 x1) 12 (e 1)) 13 (e 5)) 14 x2) 15 x3) 16 x4) 17 x4) 17 (.bool true)) 18 noV) 17 (.bool true)) 19 noV) 17 (.bool true)) 20 noV) 17 (.bool true)) 21 noV) 17 (.bool true)) 22 noV) 17 (.bool true)) 23 noV) 24 (.bool true)) 4 (.bool false)), 25, [], h⟩) (
bindO (iaS 1 (e 1) (e 5)) fun x5 =>
bindO (loadS none x5 h) fun x6 =>
bindO (binS .geq x6 (e 0)) fun x7 =>
condB x7 (
K .ret ⟨(setV (setV (setV (setV (setV (setV (setV (setV (setV (setV (setV (setV (setV (setV (setV (setV (setV (setV (setV (setV (setV (setV (setV (setV e 6 (e 5)) 7 (e 1)) 8 x0) 9 x1) 12 (e 1)) 13 (e 5)) 14 x2) 15 x3) 16 x4) 17 x4) 17 (.bool false)) 18 (e 1)) 17 (.bool false)) 19 (e 5)) 17 (.bool false)) 20 x5) 17 (.bool false)) 21 x6) 17 (.bool false)) 22 (e 0)) 17 (.bool false)) 23 x7) 24 x7) 4 (.bool false)), 25, [], h⟩) (
bindO (binS .add (e 5) (.int .i64 1)) fun x8 =>
K .normal ⟨(setV (setV (setV (setV (setV (setV (setV (setV (setV (setV (setV (setV (setV (setV (setV (setV (setV (setV (setV (setV (setV (setV (setV (setV (setV (setV e 6 (e 5)) 7 (e 1)) 8 x0) 9 x1) 12 (e 1)) 13 (e 5)) 14 x2) 15 x3) 16 x4) 17 x4) 17 (.bool false)) 18 (e 1)) 17 (.bool false)) 19 (e 5)) 17 (.bool false)) 20 x5) 17 (.bool false)) 21 x6) 17 (.bool false)) 22 (e 0)) 17 (.bool false)) 23 x7) 24 x7) 10 (e 5)) 11 x8) 5 x8), 25, [], h⟩))) (
K (.exit 0) ⟨(setV (setV (setV (setV e 6 (e 5)) 7 (e 1)) 8 x0) 9 x1), 25, [], h⟩)) := by kernel_rfl
theorem F.ref01_In.L0_x0_eq {e : Env} {h : Heap} {K : Out → Heap → Bool} : F.ref01_In.L0k K (.exit 0) ⟨e, 25, [], h⟩ = (
K (.ret (.bool true)) h) := by kernel_rfl
theorem F.ref01_In.L0_r_eq {e : Env} {h : Heap} {K : Out → Heap → Bool} : F.ref01_In.L0k K .ret ⟨e, 25, [], h⟩ = (
K (.ret (e 4)) h) := by kernel_rfl
theorem F.ref01_In_eq {a0 a1 : AV} {h : Heap} {K : Out → Heap → Bool} : evalS Tryz.prog (semCall Tryz.prog) (codeOf Tryz.f108) ⟨mkEnv [a0, a1], 25, [], h⟩ (leaveK Tryz.prog noD Tryz.f108.results.toList K) = (
loopB (evalS Tryz.prog (semCall Tryz.prog) F.ref01_In.L0) ⟨(setV (setV (mkEnv [a0, a1]) 4 (.bool false)) 5 (.int .i64 0)), 25, [], h⟩ (F.ref01_In.L0k K)) := by kernel_rfl
theorem F.ref01_In_sem {a0 a1 : AV} {h : Heap} {K : Out → Heap → Bool} (hh : (
loopB (evalS Tryz.prog (semCall Tryz.prog) F.ref01_In.L0) ⟨(setV (setV (mkEnv [a0, a1]) 4 (.bool false)) 5 (.int .i64 0)), 25, [], h⟩ (F.ref01_In.L0k K)) = true) : Sem Tryz.prog 108 [a0, a1] h K :=
  sem_body mixed (noD_sound _) Tryz.func108 (c := codeOf Tryz.f108) rfl (by decide) (of_decide_eq_true (by kernel_rfl)) (F.ref01_In_eq.trans hh)
theorem F.shape_letter_eq {a0 : AV} {h : Heap} {K : Out → Heap → Bool} : evalS Tryz.prog (semCall Tryz.prog) (codeOf Tryz.f191) ⟨mkEnv [a0], 17, [], h⟩ (leaveK Tryz.prog noD Tryz.f191.results.toList K) = (
bindO (binS .geq a0 (.int .u8 97)) fun x0 =>
condB x0 (
bindO (binS .leq a0 (.int .u8 122)) fun x1 =>
condB x1 (
K (.ret (.bool true)) h) (
bindO (binS .geq a0 (.int .u8 65)) fun x2 =>
condB x2 (
bindO (binS .leq a0 (.int .u8 90)) fun x3 =>
K (.ret x3) h) (
K (.ret (.bool false)) h))) (
bindO (binS .geq a0 (.int .u8 65)) fun x4 =>
condB x4 (
bindO (binS .leq a0 (.int .u8 90)) fun x5 =>
K (.ret x5) h) (
K (.ret (.bool false)) h))) := by kernel_rfl
theorem F.shape_letter_sem {a0 : AV} {h : Heap} {K : Out → Heap → Bool} (hh : (
bindO (binS .geq a0 (.int .u8 97)) fun x0 =>
condB x0 (
bindO (binS .leq a0 (.int .u8 122)) fun x1 =>
condB x1 (
K (.ret (.bool true)) h) (
bindO (binS .geq a0 (.int .u8 65)) fun x2 =>
condB x2 (
bindO (binS .leq a0 (.int .u8 90)) fun x3 =>
K (.ret x3) h) (
K (.ret (.bool false)) h))) (
bindO (binS .geq a0 (.int .u8 65)) fun x4 =>
condB x4 (
bindO (binS .leq a0 (.int .u8 90)) fun x5 =>
K (.ret x5) h) (
K (.ret (.bool false)) h))) = true) : Sem Tryz.prog 191 [a0] h K :=
  sem_body mixed (noD_sound _) Tryz.func191 (c := codeOf Tryz.f191) rfl (by decide) (of_decide_eq_true (by kernel_rfl)) (F.shape_letter_eq.trans hh)
theorem F.shape_word_eq {a0 : AV} {h : Heap} {K : Out → Heap → Bool} : evalS Tryz.prog (semCall Tryz.prog) (codeOf Tryz.f192) ⟨mkEnv [a0], 16, [], h⟩ (leaveK Tryz.prog noD Tryz.f192.results.toList K) = (
bindO (eqV .string a0 (.str [97, 110, 100])) fun x0 =>
condB x0 (
condB x0 (
K (.ret (.bool true)) h) (
K (.ret (.bool false)) h)) (
bindO (eqV .string a0 (.str [111, 114])) fun x1 =>
condB x1 (
condB x1 (
K (.ret (.bool true)) h) (
K (.ret (.bool false)) h)) (
bindO (eqV .string a0 (.str [110, 111, 116])) fun x2 =>
condB x2 (
condB x2 (
K (.ret (.bool true)) h) (
K (.ret (.bool false)) h)) (
bindO (eqV .string a0 (.str [115, 111, 109, 101])) fun x3 =>
condB x3 (
condB x3 (
K (.ret (.bool true)) h) (
K (.ret (.bool false)) h)) (
bindO (eqV .string a0 (.str [97, 108, 108])) fun x4 =>
condB x4 (
condB x4 (
K (.ret (.bool true)) h) (
K (.ret (.bool false)) h)) (
bindO (eqV .string a0 (.str [108, 102, 112])) fun x5 =>
condB x5 (
condB x5 (
K (.ret (.bool true)) h) (
K (.ret (.bool false)) h)) (
bindO (eqV .string a0 (.str [112, 102, 112])) fun x6 =>
condB x6 (
condB x6 (
K (.ret (.bool true)) h) (
K (.ret (.bool false)) h)) (
bindO (eqV .string a0 (.str [116, 99])) fun x7 =>
condB x7 (
condB x7 (
K (.ret (.bool true)) h) (
K (.ret (.bool false)) h)) (
bindO (eqV .string a0 (.str [101, 120, 105, 115, 116, 115])) fun x8 =>
condB x8 (
condB x8 (
K (.ret (.bool true)) h) (
K (.ret (.bool false)) h)) (
bindO (eqV .string a0 (.str [116, 114, 117, 101])) fun x9 =>
condB x9 (
condB x9 (
K (.ret (.bool true)) h) (
K (.ret (.bool false)) h)) (
bindO (eqV .string a0 (.str [102, 97, 108, 115, 101])) fun x10 =>
condB x10 (
K (.ret (.bool true)) h) (
K (.ret (.bool false)) h)))))))))))) := by kernel_rfl
theorem F.shape_word_sem {a0 : AV} {h : Heap} {K : Out → Heap → Bool} (hh : (
bindO (eqV .string a0 (.str [97, 110, 100])) fun x0 =>
condB x0 (
condB x0 (
K (.ret (.bool true)) h) (
K (.ret (.bool false)) h)) (
bindO (eqV .string a0 (.str [111, 114])) fun x1 =>
condB x1 (
condB x1 (
K (.ret (.bool true)) h) (
K (.ret (.bool false)) h)) (
bindO (eqV .string a0 (.str [110, 111, 116])) fun x2 =>
condB x2 (
condB x2 (
K (.ret (.bool true)) h) (
K (.ret (.bool false)) h)) (
bindO (eqV .string a0 (.str [115, 111, 109, 101])) fun x3 =>
condB x3 (
condB x3 (
K (.ret (.bool true)) h) (
K (.ret (.bool false)) h)) (
bindO (eqV .string a0 (.str [97, 108, 108])) fun x4 =>
condB x4 (
condB x4 (
K (.ret (.bool true)) h) (
K (.ret (.bool false)) h)) (
bindO (eqV .string a0 (.str [108, 102, 112])) fun x5 =>
condB x5 (
condB x5 (
K (.ret (.bool true)) h) (
K (.ret (.bool false)) h)) (
bindO (eqV .string a0 (.str [112, 102, 112])) fun x6 =>
condB x6 (
condB x6 (
K (.ret (.bool true)) h) (
K (.ret (.bool false)) h)) (
bindO (eqV .string a0 (.str [116, 99])) fun x7 =>
condB x7 (
condB x7 (
K (.ret (.bool true)) h) (
K (.ret (.bool false)) h)) (
bindO (eqV .string a0 (.str [101, 120, 105, 115, 116, 115])) fun x8 =>
condB x8 (
condB x8 (
K (.ret (.bool true)) h) (
K (.ret (.bool false)) h)) (
bindO (eqV .string a0 (.str [116, 114, 117, 101])) fun x9 =>
condB x9 (
condB x9 (
K (.ret (.bool true)) h) (
K (.ret (.bool false)) h)) (
bindO (eqV .string a0 (.str [102, 97, 108, 115, 101])) fun x10 =>
condB x10 (
K (.ret (.bool true)) h) (
K (.ret (.bool false)) h)))))))))))) = true) : Sem Tryz.prog 192 [a0] h K :=
  sem_body mixed (noD_sound _) Tryz.func192 (c := codeOf Tryz.f192) rfl (by decide) (of_decide_eq_true (by kernel_rfl)) (F.shape_word_eq.trans hh)
theorem F.shape_digit_eq {a0 : AV} {h : Heap} {K : Out → Heap → Bool} : evalS Tryz.prog (semCall Tryz.prog) (codeOf Tryz.f193) ⟨mkEnv [a0], 9, [], h⟩ (leaveK Tryz.prog noD Tryz.f193.results.toList K) = (
bindO (binS .geq a0 (.int .u8 48)) fun x0 =>
condB x0 (
bindO (binS .leq a0 (.int .u8 57)) fun x1 =>
K (.ret x1) h) (
K (.ret (.bool false)) h)) := by kernel_rfl
theorem F.shape_digit_sem {a0 : AV} {h : Heap} {K : Out → Heap → Bool} (hh : (
bindO (binS .geq a0 (.int .u8 48)) fun x0 =>
condB x0 (
bindO (binS .leq a0 (.int .u8 57)) fun x1 =>
K (.ret x1) h) (
K (.ret (.bool false)) h)) = true) : Sem Tryz.prog 193 [a0] h K :=
  sem_body mixed (noD_sound _) Tryz.func193 (c := codeOf Tryz.f193) rfl (by decide) (of_decide_eq_true (by kernel_rfl)) (F.shape_digit_eq.trans hh)
noncomputable def F.shape_Name.L0 : Code := partOf (codeOf Tryz.f152) [1, 1, 0, 1, 0, 0]
noncomputable def F.shape_Name.L0k (K : Out → Heap → Bool) : AX → St → Bool := (blockK 0 (seqK false (evalS Tryz.prog (semCall Tryz.prog) (partOf (codeOf Tryz.f152) [1, 1, 1])) (leaveK Tryz.prog noD Tryz.f152.results.toList K)))
theorem F.shape_Name.L0_eq {e : Env} {h : Heap} {K : AX → St → Bool} : evalS Tryz.prog (semCall Tryz.prog) F.shape_Name.L0 ⟨e, 39, [], h⟩ K = (
bindO (binS .lss (e 23) (e 22)) fun x14 =>
condB x14 (
bindO (strIdxS (e 0) (e 23)) fun x15 =>
semCall Tryz.prog 191 [x15] h (outK (fun x16 h17 =>
bindO (unS .not x16) fun x20 =>
condB x20 (
bindO (strIdxS (e 0) (e 23)) fun x21 =>
semCall Tryz.prog 193 [x21] h17 (outK (fun x22 h23 =>
bindO (unS .not x22) fun x26 =>
condB x26 (
K .ret ⟨(setV (setV (setV (setV (setV (setV (setV (setV (setV (setV (setV (setV (setV (setV (setV (setV (setV (setV (setV (setV (setV e 24 x14) 25 (e 23)) 3 (e 23)) 26 (e 0)) 27 (e 23)) 28 x15) 29 x16) 30 x20) 31 x20) 31 (.bool true)) 32 (e 0)) 31 (.bool true)) 33 (e 23)) 31 (.bool true)) 34 x21) 31 (.bool true)) 35 x22) 31 (.bool true)) 36 x26) 37 x26) 2 (.bool false)), 39, [], h23⟩) (
bindO (binS .add (e 23) (.int .i64 1)) fun x27 =>
K .normal ⟨(setV (setV (setV (setV (setV (setV (setV (setV (setV (setV (setV (setV (setV (setV (setV (setV (setV (setV (setV (setV (setV (setV e 24 x14) 25 (e 23)) 3 (e 23)) 26 (e 0)) 27 (e 23)) 28 x15) 29 x16) 30 x20) 31 x20) 31 (.bool true)) 32 (e 0)) 31 (.bool true)) 33 (e 23)) 31 (.bool true)) 34 x21) 31 (.bool true)) 35 x22) 31 (.bool true)) 36 x26) 37 x26) 38 x27) 23 x27), 39, [], h23⟩)) (fun v24 h25 => K (.panic v24) ⟨(setV (setV (setV (setV (setV (setV (setV (setV (setV (setV (setV (setV (setV (setV (setV (setV e 24 x14) 25 (e 23)) 3 (e 23)) 26 (e 0)) 27 (e 23)) 28 x15) 29 x16) 30 x20) 31 x20) 31 (.bool true)) 32 (e 0)) 31 (.bool true)) 33 (e 23)) 31 (.bool true)) 34 x21) 31 (.bool true)), 39, [], h25⟩))) (
bindO (binS .add (e 23) (.int .i64 1)) fun x28 =>
K .normal ⟨(setV (setV (setV (setV (setV (setV (setV (setV (setV (setV (setV (setV (setV (setV (setV (setV (setV (setV (setV (setV (setV (setV e 24 x14) 25 (e 23)) 3 (e 23)) 26 (e 0)) 27 (e 23)) 28 x15) 29 x16) 30 x20) 31 x20) 31 (.bool false)) 32 noV) 31 (.bool false)) 33 noV) 31 (.bool false)) 34 noV) 31 (.bool false)) 35 noV) 31 (.bool false)) 36 noV) 37 (.bool false)) 38 x28) 23 x28), 39, [], h17⟩)) (fun v18 h19 => K (.panic v18) ⟨(setV (setV (setV (setV (setV (setV e 24 x14) 25 (e 23)) 3 (e 23)) 26 (e 0)) 27 (e 23)) 28 x15), 39, [], h19⟩))) (
K (.exit 0) ⟨(setV e 24 x14), 39, [], h⟩)) := by kernel_rfl
theorem F.shape_Name.L0_x0_eq {e : Env} {h : Heap} {K : Out → Heap → Bool} : F.shape_Name.L0k K (.exit 0) ⟨e, 39, [], h⟩ = (
K (.ret (.bool true)) h) := by kernel_rfl
theorem F.shape_Name.L0_r_eq {e : Env} {h : Heap} {K : Out → Heap → Bool} : F.shape_Name.L0k K .ret ⟨e, 39, [], h⟩ = (
K (.ret (e 2)) h) := by kernel_rfl
theorem F.shape_Name_eq {a0 : AV} {h : Heap} {K : Out → Heap → Bool} : evalS Tryz.prog (semCall Tryz.prog) (codeOf Tryz.f152) ⟨mkEnv [a0], 39, [], h⟩ (leaveK Tryz.prog noD Tryz.f152.results.toList K) = (
bindO (eqV .string a0 (.str [])) fun x0 =>
condB x0 (
K (.ret (.bool false)) h) (
bindO (lenS .str a0 h) fun x1 =>
bindO (binS .gtr x1 (.int .i64 12)) fun x2 =>
condB x2 (
K (.ret (.bool false)) h) (
bindO (strIdxS a0 (.int .i64 0)) fun x3 =>
semCall Tryz.prog 191 [x3] h (outK (fun x4 h5 =>
bindO (unS .not x4) fun x8 =>
condB x8 (
K (.ret (.bool false)) h5) (
semCall Tryz.prog 192 [a0] h5 (outK (fun x9 h10 =>
condB x9 (
K (.ret (.bool false)) h10) (
bindO (lenS .str a0 h10) fun x13 =>
loopB (evalS Tryz.prog (semCall Tryz.prog) F.shape_Name.L0) ⟨(setV (setV (setV (setV (setV (setV (setV (setV (setV (setV (setV (setV (setV (setV (setV (setV (setV (setV (setV (setV (setV (setV (setV (setV (setV (setV (setV (setV (setV (setV (mkEnv [a0]) 2 (.bool false)) 4 a0) 5 x0) 6 x0) 6 (.bool false)) 7 a0) 6 (.bool false)) 8 x1) 6 (.bool false)) 9 x2) 10 x2) 11 x2) 11 (.bool false)) 12 a0) 11 (.bool false)) 13 x3) 11 (.bool false)) 14 x4) 11 (.bool false)) 15 x8) 16 x8) 17 x8) 17 (.bool false)) 18 a0) 17 (.bool false)) 19 x9) 20 x9) 21 a0) 22 x13) 23 (.int .i64 0)), 39, [], h10⟩ (F.shape_Name.L0k K))) (fun v11 h12 => K (.panic v11) h12)))) (fun v6 h7 => K (.panic v6) h7))))) := by kernel_rfl
theorem F.shape_Name_sem {a0 : AV} {h : Heap} {K : Out → Heap → Bool} (hh : (
bindO (eqV .string a0 (.str [])) fun x0 =>
condB x0 (
K (.ret (.bool false)) h) (
bindO (lenS .str a0 h) fun x1 =>
bindO (binS .gtr x1 (.int .i64 12)) fun x2 =>
condB x2 (
K (.ret (.bool false)) h) (
bindO (strIdxS a0 (.int .i64 0)) fun x3 =>
semCall Tryz.prog 191 [x3] h (outK (fun x4 h5 =>
bindO (unS .not x4) fun x8 =>
condB x8 (
K (.ret (.bool false)) h5) (
semCall Tryz.prog 192 [a0] h5 (outK (fun x9 h10 =>
condB x9 (
K (.ret (.bool false)) h10) (
bindO (lenS .str a0 h10) fun x13 =>
loopB (evalS Tryz.prog (semCall Tryz.prog) F.shape_Name.L0) ⟨(setV (setV (setV (setV (setV (setV (setV (setV (setV (setV (setV (setV (setV (setV (setV (setV (setV (setV (setV (setV (setV (setV (setV (setV (setV (setV (setV (setV (setV (setV (mkEnv [a0]) 2 (.bool false)) 4 a0) 5 x0) 6 x0) 6 (.bool false)) 7 a0) 6 (.bool false)) 8 x1) 6 (.bool false)) 9 x2) 10 x2) 11 x2) 11 (.bool false)) 12 a0) 11 (.bool false)) 13 x3) 11 (.bool false)) 14 x4) 11 (.bool false)) 15 x8) 16 x8) 17 x8) 17 (.bool false)) 18 a0) 17 (.bool false)) 19 x9) 20 x9) 21 a0) 22 x13) 23 (.int .i64 0)), 39, [], h10⟩ (F.shape_Name.L0k K))) (fun v11 h12 => K (.panic v11) h12)))) (fun v6 h7 => K (.panic v6) h7))))) = true) : Sem Tryz.prog 152 [a0] h K :=
  sem_body mixed (noD_sound _) Tryz.func152 (c := codeOf Tryz.f152) rfl (by decide) (of_decide_eq_true (by kernel_rfl)) (F.shape_Name_eq.trans hh)
noncomputable def F.slices_IndexFunc_S_int_int.L0 : Code := partOf (codeOf Tryz.f168) [1, 0, 1, 0, 0]
noncomputable def F.slices_IndexFunc_S_int_int.L0k (K : Out → Heap → Bool) : AX → St → Bool := (blockK 0 (seqK false (evalS Tryz.prog (semCall Tryz.prog) (partOf (codeOf Tryz.f168) [1, 1])) (leaveK Tryz.prog noD Tryz.f168.results.toList K)))
theorem F.slices_IndexFunc_S_int_int.L0_eq {e : Env} {h : Heap} {K : AX → St → Bool} : evalS Tryz.prog (semCall Tryz.prog) F.slices_IndexFunc_S_int_int.L0 ⟨e, 19, [], h⟩ K = (
bindO (binS .lss (e 8) (e 7)) fun x1 =>
condB x1 (
bindO (iaS 1 (e 0) (e 8)) fun x2 =>
bindO (loadS none x2 h) fun x3 =>
callV (e 1) fun f9 a10 a11 => semCall Tryz.prog f9 (a10 ++ ([x3] ++ a11)) h (outK (fun x4 h5 =>
condB x4 (
K .ret ⟨(setV (setV (setV (setV (setV (setV (setV (setV (setV (setV (setV e 9 x1) 10 (e 8)) 5 (e 8)) 11 (e 1)) 12 (e 0)) 13 (e 8)) 14 x2) 15 x3) 16 x4) 17 (e 8)) 4 (e 8)), 19, [], h5⟩) (
bindO (binS .add (e 8) (.int .i64 1)) fun x8 =>
K .normal ⟨(setV (setV (setV (setV (setV (setV (setV (setV (setV (setV (setV e 9 x1) 10 (e 8)) 5 (e 8)) 11 (e 1)) 12 (e 0)) 13 (e 8)) 14 x2) 15 x3) 16 x4) 18 x8) 8 x8), 19, [], h5⟩)) (fun v6 h7 => K (.panic v6) ⟨(setV (setV (setV (setV (setV (setV (setV (setV e 9 x1) 10 (e 8)) 5 (e 8)) 11 (e 1)) 12 (e 0)) 13 (e 8)) 14 x2) 15 x3), 19, [], h7⟩))) (
K (.exit 0) ⟨(setV e 9 x1), 19, [], h⟩)) := by kernel_rfl
theorem F.slices_IndexFunc_S_int_int.L0_x0_eq {e : Env} {h : Heap} {K : Out → Heap → Bool} : F.slices_IndexFunc_S_int_int.L0k K (.exit 0) ⟨e, 19, [], h⟩ = (
K (.ret (.int .i64 (-1))) h) := by kernel_rfl
theorem F.slices_IndexFunc_S_int_int.L0_r_eq {e : Env} {h : Heap} {K : Out → Heap → Bool} : F.slices_IndexFunc_S_int_int.L0k K .ret ⟨e, 19, [], h⟩ = (
K (.ret (e 4)) h) := by kernel_rfl
theorem F.slices_IndexFunc_S_int_int_eq {a0 a1 : AV} {h : Heap} {K : Out → Heap → Bool} : evalS Tryz.prog (semCall Tryz.prog) (codeOf Tryz.f168) ⟨mkEnv [a0, a1], 19, [], h⟩ (leaveK Tryz.prog noD Tryz.f168.results.toList K) = (
bindO (lenS .slice a0 h) fun x0 =>
loopB (evalS Tryz.prog (semCall Tryz.prog) F.slices_IndexFunc_S_int_int.L0) ⟨(setV (setV (setV (setV (mkEnv [a0, a1]) 4 (.int .i64 0)) 6 a0) 7 x0) 8 (.int .i64 0)), 19, [], h⟩ (F.slices_IndexFunc_S_int_int.L0k K)) := by kernel_rfl
theorem F.slices_IndexFunc_S_int_int_sem {a0 a1 : AV} {h : Heap} {K : Out → Heap → Bool} (hh : (
bindO (lenS .slice a0 h) fun x0 =>
loopB (evalS Tryz.prog (semCall Tryz.prog) F.slices_IndexFunc_S_int_int.L0) ⟨(setV (setV (setV (setV (mkEnv [a0, a1]) 4 (.int .i64 0)) 6 a0) 7 x0) 8 (.int .i64 0)), 19, [], h⟩ (F.slices_IndexFunc_S_int_int.L0k K)) = true) : Sem Tryz.prog 168 [a0, a1] h K :=
  sem_body mixed (noD_sound _) Tryz.func168 (c := codeOf Tryz.f168) rfl (by decide) (of_decide_eq_true (by kernel_rfl)) (F.slices_IndexFunc_S_int_int_eq.trans hh)
theorem F.slices_ContainsFunc_S_int_int_eq {a0 a1 : AV} {h : Heap} {K : Out → Heap → Bool} : evalS Tryz.prog (semCall Tryz.prog) (codeOf Tryz.f112) ⟨mkEnv [a0, a1], 9, [], h⟩ (leaveK Tryz.prog noD Tryz.f112.results.toList K) = (
semCall Tryz.prog 168 [a0, a1] h (outK (fun x0 h1 =>
bindO (binS .geq x0 (.int .i64 0)) fun x4 =>
K (.ret x4) h1) (fun v2 h3 => K (.panic v2) h3))) := by kernel_rfl
theorem F.slices_ContainsFunc_S_int_int_sem {a0 a1 : AV} {h : Heap} {K : Out → Heap → Bool} (hh : (
semCall Tryz.prog 168 [a0, a1] h (outK (fun x0 h1 =>
bindO (binS .geq x0 (.int .i64 0)) fun x4 =>
K (.ret x4) h1) (fun v2 h3 => K (.panic v2) h3))) = true) : Sem Tryz.prog 112 [a0, a1] h K :=
  sem_body mixed (noD_sound _) Tryz.func112 (c := codeOf Tryz.f112) rfl (by decide) (of_decide_eq_true (by kernel_rfl)) (F.slices_ContainsFunc_S_int_int_eq.trans hh)
theorem F.gate_fitting_1_eq {a0 a1 : AV} {h : Heap} {K : Out → Heap → Bool} : evalS Tryz.prog (semCall Tryz.prog) (codeOf Tryz.f166) ⟨mkEnv [a0, a1], 11, [], h⟩ (leaveK Tryz.prog noD Tryz.f166.results.toList K) = (
bindO (binS .lss a0 (.int .i64 0)) fun x0 =>
condB x0 (
K (.ret (.bool true)) h) (
bindO (loadS none a1 h) fun x1 =>
bindO (binS .geq a0 x1) fun x2 =>
K (.ret x2) h)) := by kernel_rfl
theorem F.gate_fitting_1_sem {a0 a1 : AV} {h : Heap} {K : Out → Heap → Bool} (hh : (
bindO (binS .lss a0 (.int .i64 0)) fun x0 =>
condB x0 (
K (.ret (.bool true)) h) (
bindO (loadS none a1 h) fun x1 =>
bindO (binS .geq a0 x1) fun x2 =>
K (.ret x2) h)) = true) : Sem Tryz.prog 166 [a0, a1] h K :=
  sem_body mixed (noD_sound _) Tryz.func166 (c := codeOf Tryz.f166) rfl (by decide) (of_decide_eq_true (by kernel_rfl)) (F.gate_fitting_1_eq.trans hh)
theorem F.gate_fitting_2_eq {a0 a1 : AV} {h : Heap} {K : Out → Heap → Bool} : evalS Tryz.prog (semCall Tryz.prog) (codeOf Tryz.f167) ⟨mkEnv [a0, a1], 11, [], h⟩ (leaveK Tryz.prog noD Tryz.f167.results.toList K) = (
bindO (binS .lss a0 (.int .i64 0)) fun x0 =>
condB x0 (
K (.ret (.bool true)) h) (
bindO (loadS none a1 h) fun x1 =>
bindO (binS .geq a0 x1) fun x2 =>
K (.ret x2) h)) := by kernel_rfl
theorem F.gate_fitting_2_sem {a0 a1 : AV} {h : Heap} {K : Out → Heap → Bool} (hh : (
bindO (binS .lss a0 (.int .i64 0)) fun x0 =>
condB x0 (
K (.ret (.bool true)) h) (
bindO (loadS none a1 h) fun x1 =>
bindO (binS .geq a0 x1) fun x2 =>
K (.ret x2) h)) = true) : Sem Tryz.prog 167 [a0, a1] h K :=
  sem_body mixed (noD_sound _) Tryz.func167 (c := codeOf Tryz.f167) rfl (by decide) (of_decide_eq_true (by kernel_rfl)) (F.gate_fitting_2_eq.trans hh)
theorem F.gate_fitting_eq {a0 a1 a2 : AV} {h : Heap} {K : Out → Heap → Bool} : evalS Tryz.prog (semCall Tryz.prog) (codeOf Tryz.f109) ⟨mkEnv [a0, a1, a2], 77, [], h⟩ (leaveK Tryz.prog noD Tryz.f109.results.toList K) = (
bindO (boxS a0) fun c0 =>
bindO (boxS a1) fun c1 =>
bindO (boxS a2) fun c2 =>
bindO (faS 0 (.ptr (Heap.next h) 0)) fun x3 =>
bindO (loadS none x3 (Heap.alloc (Heap.alloc (Heap.alloc h (.cells c0)) (.cells c1)) (.cells c2))) fun x4 =>
bindO (binS .lss x4 (.int .i64 0)) fun x5 =>
condB x5 (
K (.ret (.bool false)) (Heap.alloc (Heap.alloc (Heap.alloc h (.cells c0)) (.cells c1)) (.cells c2))) (
bindO (faS 0 (.ptr (Heap.next h) 0)) fun x6 =>
bindO (loadS none x6 (Heap.alloc (Heap.alloc (Heap.alloc h (.cells c0)) (.cells c1)) (.cells c2))) fun x7 =>
bindO (binS .geq x7 (.int .i64 5)) fun x8 =>
condB x8 (
K (.ret (.bool false)) (Heap.alloc (Heap.alloc (Heap.alloc h (.cells c0)) (.cells c1)) (.cells c2))) (
bindO (faS 3 (.ptr (Heap.next h) 0)) fun x9 =>
bindO (loadS none x9 (Heap.alloc (Heap.alloc (Heap.alloc h (.cells c0)) (.cells c1)) (.cells c2))) fun x10 =>
semCall Tryz.prog 112 [x10, (.func 166 [] [(.ptr (Heap.next (Heap.alloc h (.cells c0))) 0)])] (Heap.alloc (Heap.alloc (Heap.alloc h (.cells c0)) (.cells c1)) (.cells c2)) (outK (fun x11 h12 =>
condB x11 (
K (.ret (.bool false)) h12) (
bindO (faS 0 (.ptr (Heap.next h) 0)) fun x15 =>
bindO (loadS none x15 h12) fun x16 =>
bindO (eqV (.int .i64) x16 (.int .i64 1)) fun x17 =>
condB x17 (
bindO (faS 1 (.ptr (Heap.next h) 0)) fun x18 =>
bindO (loadS none x18 h12) fun x19 =>
semCall Tryz.prog 152 [x19] h12 (outK (fun x20 h21 =>
condB x20 (
bindO (faS 2 (.ptr (Heap.next h) 0)) fun x24 =>
bindO (loadS none x24 h21) fun x25 =>
bindO (lenS .slice x25 h21) fun x26 =>
bindO (binS .leq x26 (.int .i64 12)) fun x27 =>
condB x27 (
bindO (faS 3 (.ptr (Heap.next h) 0)) fun x28 =>
bindO (loadS none x28 h21) fun x29 =>
bindO (lenS .slice x29 h21) fun x30 =>
bindO (eqV (.int .i64) x30 (.int .i64 0)) fun x31 =>
condB x31 (
bindO (faS 2 (.ptr (Heap.next h) 0)) fun x32 =>
bindO (loadS none x32 h21) fun x33 =>
semCall Tryz.prog 112 [x33, (.func 167 [] [(.ptr (Heap.next (Heap.alloc (Heap.alloc h (.cells c0)) (.cells c1))) 0)])] h21 (outK (fun x34 h35 =>
bindO (unS .not x34) fun x38 =>
K (.ret x38) h35) (fun v36 h37 => K (.panic v36) h37))) (
K (.ret (.bool false)) h21)) (
K (.ret (.bool false)) h21)) (
K (.ret (.bool false)) h21)) (fun v22 h23 => K (.panic v22) h23))) (
bindO (faS 1 (.ptr (Heap.next h) 0)) fun x39 =>
bindO (loadS none x39 h12) fun x40 =>
bindO (eqV .string x40 (.str [])) fun x41 =>
condB x41 (
bindO (faS 2 (.ptr (Heap.next h) 0)) fun x42 =>
bindO (loadS none x42 h12) fun x43 =>
bindO (lenS .slice x43 h12) fun x44 =>
bindO (eqV (.int .i64) x44 (.int .i64 0)) fun x45 =>
condB x45 (
bindO (faS 0 (.ptr (Heap.next h) 0)) fun x46 =>
bindO (loadS none x46 h12) fun x47 =>
bindO (neV (.int .i64) x47 (.int .i64 0)) fun x48 =>
condB x48 (
bindO (faS 0 (.ptr (Heap.next h) 0)) fun x49 =>
bindO (loadS none x49 h12) fun x50 =>
bindO (neV (.int .i64) x50 (.int .i64 2)) fun x51 =>
condB x51 (
K (.ret (.bool true)) h12) (
bindO (faS 3 (.ptr (Heap.next h) 0)) fun x52 =>
bindO (loadS none x52 h12) fun x53 =>
bindO (lenS .slice x53 h12) fun x54 =>
bindO (eqV (.int .i64) x54 (.int .i64 1)) fun x55 =>
K (.ret x55) h12)) (
bindO (faS 3 (.ptr (Heap.next h) 0)) fun x56 =>
bindO (loadS none x56 h12) fun x57 =>
bindO (lenS .slice x57 h12) fun x58 =>
bindO (eqV (.int .i64) x58 (.int .i64 0)) fun x59 =>
condB x59 (
bindO (faS 0 (.ptr (Heap.next h) 0)) fun x60 =>
bindO (loadS none x60 h12) fun x61 =>
bindO (neV (.int .i64) x61 (.int .i64 2)) fun x62 =>
condB x62 (
K (.ret (.bool true)) h12) (
bindO (faS 3 (.ptr (Heap.next h) 0)) fun x63 =>
bindO (loadS none x63 h12) fun x64 =>
bindO (lenS .slice x64 h12) fun x65 =>
bindO (eqV (.int .i64) x65 (.int .i64 1)) fun x66 =>
K (.ret x66) h12)) (
K (.ret (.bool false)) h12))) (
K (.ret (.bool false)) h12)) (
K (.ret (.bool false)) h12)))) (fun v13 h14 => K (.panic v13) h14))))) := by kernel_rfl
theorem F.gate_fitting_sem {a0 a1 a2 : AV} {h : Heap} {K : Out → Heap → Bool} (hh : (
bindO (boxS a0) fun c0 =>
bindO (boxS a1) fun c1 =>
bindO (boxS a2) fun c2 =>
bindO (faS 0 (.ptr (Heap.next h) 0)) fun x3 =>
bindO (loadS none x3 (Heap.alloc (Heap.alloc (Heap.alloc h (.cells c0)) (.cells c1)) (.cells c2))) fun x4 =>
bindO (binS .lss x4 (.int .i64 0)) fun x5 =>
condB x5 (
K (.ret (.bool false)) (Heap.alloc (Heap.alloc (Heap.alloc h (.cells c0)) (.cells c1)) (.cells c2))) (
bindO (faS 0 (.ptr (Heap.next h) 0)) fun x6 =>
bindO (loadS none x6 (Heap.alloc (Heap.alloc (Heap.alloc h (.cells c0)) (.cells c1)) (.cells c2))) fun x7 =>
bindO (binS .geq x7 (.int .i64 5)) fun x8 =>
condB x8 (
K (.ret (.bool false)) (Heap.alloc (Heap.alloc (Heap.alloc h (.cells c0)) (.cells c1)) (.cells c2))) (
bindO (faS 3 (.ptr (Heap.next h) 0)) fun x9 =>
bindO (loadS none x9 (Heap.alloc (Heap.alloc (Heap.alloc h (.cells c0)) (.cells c1)) (.cells c2))) fun x10 =>
semCall Tryz.prog 112 [x10, (.func 166 [] [(.ptr (Heap.next (Heap.alloc h (.cells c0))) 0)])] (Heap.alloc (Heap.alloc (Heap.alloc h (.cells c0)) (.cells c1)) (.cells c2)) (outK (fun x11 h12 =>
condB x11 (
K (.ret (.bool false)) h12) (
bindO (faS 0 (.ptr (Heap.next h) 0)) fun x15 =>
bindO (loadS none x15 h12) fun x16 =>
bindO (eqV (.int .i64) x16 (.int .i64 1)) fun x17 =>
condB x17 (
bindO (faS 1 (.ptr (Heap.next h) 0)) fun x18 =>
bindO (loadS none x18 h12) fun x19 =>
semCall Tryz.prog 152 [x19] h12 (outK (fun x20 h21 =>
condB x20 (
bindO (faS 2 (.ptr (Heap.next h) 0)) fun x24 =>
bindO (loadS none x24 h21) fun x25 =>
bindO (lenS .slice x25 h21) fun x26 =>
bindO (binS .leq x26 (.int .i64 12)) fun x27 =>
condB x27 (
bindO (faS 3 (.ptr (Heap.next h) 0)) fun x28 =>
bindO (loadS none x28 h21) fun x29 =>
bindO (lenS .slice x29 h21) fun x30 =>
bindO (eqV (.int .i64) x30 (.int .i64 0)) fun x31 =>
condB x31 (
bindO (faS 2 (.ptr (Heap.next h) 0)) fun x32 =>
bindO (loadS none x32 h21) fun x33 =>
semCall Tryz.prog 112 [x33, (.func 167 [] [(.ptr (Heap.next (Heap.alloc (Heap.alloc h (.cells c0)) (.cells c1))) 0)])] h21 (outK (fun x34 h35 =>
bindO (unS .not x34) fun x38 =>
K (.ret x38) h35) (fun v36 h37 => K (.panic v36) h37))) (
K (.ret (.bool false)) h21)) (
K (.ret (.bool false)) h21)) (
K (.ret (.bool false)) h21)) (fun v22 h23 => K (.panic v22) h23))) (
bindO (faS 1 (.ptr (Heap.next h) 0)) fun x39 =>
bindO (loadS none x39 h12) fun x40 =>
bindO (eqV .string x40 (.str [])) fun x41 =>
condB x41 (
bindO (faS 2 (.ptr (Heap.next h) 0)) fun x42 =>
bindO (loadS none x42 h12) fun x43 =>
bindO (lenS .slice x43 h12) fun x44 =>
bindO (eqV (.int .i64) x44 (.int .i64 0)) fun x45 =>
condB x45 (
bindO (faS 0 (.ptr (Heap.next h) 0)) fun x46 =>
bindO (loadS none x46 h12) fun x47 =>
bindO (neV (.int .i64) x47 (.int .i64 0)) fun x48 =>
condB x48 (
bindO (faS 0 (.ptr (Heap.next h) 0)) fun x49 =>
bindO (loadS none x49 h12) fun x50 =>
bindO (neV (.int .i64) x50 (.int .i64 2)) fun x51 =>
condB x51 (
K (.ret (.bool true)) h12) (
bindO (faS 3 (.ptr (Heap.next h) 0)) fun x52 =>
bindO (loadS none x52 h12) fun x53 =>
bindO (lenS .slice x53 h12) fun x54 =>
bindO (eqV (.int .i64) x54 (.int .i64 1)) fun x55 =>
K (.ret x55) h12)) (
bindO (faS 3 (.ptr (Heap.next h) 0)) fun x56 =>
bindO (loadS none x56 h12) fun x57 =>
bindO (lenS .slice x57 h12) fun x58 =>
bindO (eqV (.int .i64) x58 (.int .i64 0)) fun x59 =>
condB x59 (
bindO (faS 0 (.ptr (Heap.next h) 0)) fun x60 =>
bindO (loadS none x60 h12) fun x61 =>
bindO (neV (.int .i64) x61 (.int .i64 2)) fun x62 =>
condB x62 (
K (.ret (.bool true)) h12) (
bindO (faS 3 (.ptr (Heap.next h) 0)) fun x63 =>
bindO (loadS none x63 h12) fun x64 =>
bindO (lenS .slice x64 h12) fun x65 =>
bindO (eqV (.int .i64) x65 (.int .i64 1)) fun x66 =>
K (.ret x66) h12)) (
K (.ret (.bool false)) h12))) (
K (.ret (.bool false)) h12)) (
K (.ret (.bool false)) h12)))) (fun v13 h14 => K (.panic v13) h14))))) = true) : Sem Tryz.prog 109 [a0, a1, a2] h K :=
  sem_body mixed (noD_sound _) Tryz.func109 (c := codeOf Tryz.f109) rfl (by decide) (of_decide_eq_true (by kernel_rfl)) (F.gate_fitting_eq.trans hh)
noncomputable def F.gate_symbols.L0 : Code := partOf (codeOf Tryz.f54) [1, 1, 1, 0, 1, 0, 0]
noncomputable def F.gate_symbols.L0k (K : Out → Heap → Bool) : AX → St → Bool := (blockK 0 (seqK false (evalS Tryz.prog (semCall Tryz.prog) (partOf (codeOf Tryz.f54) [1, 1, 1, 1])) (leaveK Tryz.prog noD Tryz.f54.results.toList K)))
theorem F.gate_symbols.L0_eq {e : Env} {h : Heap} {K : AX → St → Bool} : evalS Tryz.prog (semCall Tryz.prog) F.gate_symbols.L0 ⟨e, 70, [], h⟩ K = (
bindO (binS .lss (e 33) (e 32)) fun x18 =>
condB x18 (
bindO (iaS 4 (e 31) (e 33)) fun x19 =>
bindO (loadS (some 4) x19 h) fun x20 =>
bindO (storeS 4 (.ptr (Heap.next h) 0) x20 (Heap.alloc h (.cells [(.int .i64 0), (.str []), .nils, .nils]))) fun h21 =>
bindO (loadS (some 4) (.ptr (Heap.next h) 0) h21) fun x22 =>
bindO (faS 0 (e 1)) fun x23 =>
bindO (loadS none x23 h21) fun x24 =>
semCall Tryz.prog 109 [x22, (e 33), x24] h21 (outK (fun x25 h26 =>
bindO (unS .not x25) fun x29 =>
condB x29 (
K .ret ⟨(setV (setV (setV (setV (setV (setV (setV (setV (setV (setV (setV (setV (setV (setV e 34 x18) 35 (e 33)) 36 x19) 37 x20) 6 (.ptr (Heap.next h) 0)) 5 (e 33)) 38 x22) 39 (e 33)) 40 x23) 41 x24) 42 x25) 43 x29) 2 .nilm) 3 (.bool false)), 70, [], h26⟩) (
bindO (faS 0 (.ptr (Heap.next h) 0)) fun x30 =>
bindO (loadS none x30 h26) fun x31 =>
bindO (neV (.int .i64) x31 (.int .i64 1)) fun x32 =>
condB x32 (
bindO (binS .add (e 33) (.int .i64 1)) fun x33 =>
K .normal ⟨(setV (setV (setV (setV (setV (setV (setV (setV (setV (setV (setV (setV (setV (setV (setV (setV (setV e 34 x18) 35 (e 33)) 36 x19) 37 x20) 6 (.ptr (Heap.next h) 0)) 5 (e 33)) 38 x22) 39 (e 33)) 40 x23) 41 x24) 42 x25) 43 x29) 44 x30) 45 x31) 46 x32) 68 x33) 33 x33), 70, [], h26⟩) (
bindO (faS 1 (.ptr (Heap.next h) 0)) fun x34 =>
bindO (loadS none x34 h26) fun x35 =>
bindO (lookupS .string (.int .i64 0) true (e 4) x35 h26) fun x36 =>
bindO (extractS x36 0) fun x37 =>
bindO (extractS x36 1) fun x38 =>
condB x38 (
bindO (faS 2 (.ptr (Heap.next h) 0)) fun x39 =>
bindO (loadS none x39 h26) fun x40 =>
bindO (lenS .slice x40 h26) fun x41 =>
bindO (neV (.int .i64) x37 x41) fun x42 =>
condB x42 (
K .ret ⟨(setV (setV (setV (setV (setV (setV (setV (setV (setV (setV (setV (setV (setV (setV (setV (setV (setV (setV (setV (setV (setV (setV (setV (setV (setV (setV (setV (setV (setV (setV (setV (setV (setV (setV (setV (setV (setV (setV (setV e 34 x18) 35 (e 33)) 36 x19) 37 x20) 6 (.ptr (Heap.next h) 0)) 5 (e 33)) 38 x22) 39 (e 33)) 40 x23) 41 x24) 42 x25) 43 x29) 44 x30) 45 x31) 46 x32) 48 (e 4)) 49 x34) 50 x35) 51 x36) 47 x36) 52 x37) 53 x38) 7 x37) 8 x38) 54 x38) 55 x38) 55 (.bool true)) 56 x37) 55 (.bool true)) 57 x39) 55 (.bool true)) 58 x40) 55 (.bool true)) 59 x41) 55 (.bool true)) 60 x42) 61 x42) 2 .nilm) 3 (.bool false)), 70, [], h26⟩) (
bindO (faS 1 (.ptr (Heap.next h) 0)) fun x43 =>
bindO (loadS none x43 h26) fun x44 =>
bindO (faS 2 (.ptr (Heap.next h) 0)) fun x45 =>
bindO (loadS none x45 h26) fun x46 =>
bindO (lenS .slice x46 h26) fun x47 =>
bindO (mapUpdateS .string (e 4) x44 x47 h26) fun h48 =>
bindO (binS .add (e 33) (.int .i64 1)) fun x49 =>
K .normal ⟨(setV (setV (setV (setV (setV (setV (setV (setV (setV (setV (setV (setV (setV (setV (setV (setV (setV (setV (setV (setV (setV (setV (setV (setV (setV (setV (setV (setV (setV (setV (setV (setV (setV (setV (setV (setV (setV (setV (setV (setV (setV (setV (setV (setV (setV e 34 x18) 35 (e 33)) 36 x19) 37 x20) 6 (.ptr (Heap.next h) 0)) 5 (e 33)) 38 x22) 39 (e 33)) 40 x23) 41 x24) 42 x25) 43 x29) 44 x30) 45 x31) 46 x32) 48 (e 4)) 49 x34) 50 x35) 51 x36) 47 x36) 52 x37) 53 x38) 7 x37) 8 x38) 54 x38) 55 x38) 55 (.bool true)) 56 x37) 55 (.bool true)) 57 x39) 55 (.bool true)) 58 x40) 55 (.bool true)) 59 x41) 55 (.bool true)) 60 x42) 61 x42) 62 (e 4)) 63 x43) 64 x44) 65 x45) 66 x46) 67 x47) 68 x49) 33 x49), 70, [], h48⟩)) (
bindO (faS 1 (.ptr (Heap.next h) 0)) fun x50 =>
bindO (loadS none x50 h26) fun x51 =>
bindO (faS 2 (.ptr (Heap.next h) 0)) fun x52 =>
bindO (loadS none x52 h26) fun x53 =>
bindO (lenS .slice x53 h26) fun x54 =>
bindO (mapUpdateS .string (e 4) x51 x54 h26) fun h55 =>
bindO (binS .add (e 33) (.int .i64 1)) fun x56 =>
K .normal ⟨(setV (setV (setV (setV (setV (setV (setV (setV (setV (setV (setV (setV (setV (setV (setV (setV (setV (setV (setV (setV (setV (setV (setV (setV (setV (setV (setV (setV (setV (setV (setV (setV (setV (setV (setV (setV (setV (setV (setV (setV (setV (setV (setV (setV (setV e 34 x18) 35 (e 33)) 36 x19) 37 x20) 6 (.ptr (Heap.next h) 0)) 5 (e 33)) 38 x22) 39 (e 33)) 40 x23) 41 x24) 42 x25) 43 x29) 44 x30) 45 x31) 46 x32) 48 (e 4)) 49 x34) 50 x35) 51 x36) 47 x36) 52 x37) 53 x38) 7 x37) 8 x38) 54 x38) 55 x38) 55 (.bool false)) 56 noV) 55 (.bool false)) 57 noV) 55 (.bool false)) 58 noV) 55 (.bool false)) 59 noV) 55 (.bool false)) 60 noV) 61 (.bool false)) 62 (e 4)) 63 x50) 64 x51) 65 x52) 66 x53) 67 x54) 68 x56) 33 x56), 70, [], h55⟩)))) (fun v27 h28 => K (.panic v27) ⟨(setV (setV (setV (setV (setV (setV (setV (setV (setV (setV e 34 x18) 35 (e 33)) 36 x19) 37 x20) 6 (.ptr (Heap.next h) 0)) 5 (e 33)) 38 x22) 39 (e 33)) 40 x23) 41 x24), 70, [], h28⟩))) (
K (.exit 0) ⟨(setV e 34 x18), 70, [], h⟩)) := by kernel_rfl
theorem F.gate_symbols.L0_x0_eq {e : Env} {h : Heap} {K : Out → Heap → Bool} : F.gate_symbols.L0k K (.exit 0) ⟨e, 70, [], h⟩ = (
K (.ret (.tuple [(e 4), (.bool true)])) h) := by kernel_rfl
theorem F.gate_symbols.L0_r_eq {e : Env} {h : Heap} {K : Out → Heap → Bool} : F.gate_symbols.L0k K .ret ⟨e, 70, [], h⟩ = (
K (.ret (.tuple [(e 2), (e 3)])) h) := by kernel_rfl
theorem F.gate_symbols_eq {a0 : AV} {h : Heap} {K : Out → Heap → Bool} : evalS Tryz.prog (semCall Tryz.prog) (codeOf Tryz.f54) ⟨mkEnv [a0], 70, [], h⟩ (leaveK Tryz.prog noD Tryz.f54.results.toList K) = (
bindO (boxS a0) fun c0 =>
bindO (faS 0 (.ptr (Heap.next h) 0)) fun x1 =>
bindO (loadS none x1 (Heap.alloc (Heap.alloc h (.cells c0)) (.map [] 0))) fun x2 =>
bindO (binS .lss x2 (.int .i64 1)) fun x3 =>
condB x3 (
K (.ret (.tuple [.nilm, (.bool false)])) (Heap.alloc (Heap.alloc h (.cells c0)) (.map [] 0))) (
bindO (faS 0 (.ptr (Heap.next h) 0)) fun x4 =>
bindO (loadS none x4 (Heap.alloc (Heap.alloc h (.cells c0)) (.map [] 0))) fun x5 =>
bindO (binS .gtr x5 (.int .i64 64)) fun x6 =>
condB x6 (
K (.ret (.tuple [.nilm, (.bool false)])) (Heap.alloc (Heap.alloc h (.cells c0)) (.map [] 0))) (
bindO (faS 1 (.ptr (Heap.next h) 0)) fun x7 =>
bindO (loadS none x7 (Heap.alloc (Heap.alloc h (.cells c0)) (.map [] 0))) fun x8 =>
bindO (lenS .slice x8 (Heap.alloc (Heap.alloc h (.cells c0)) (.map [] 0))) fun x9 =>
bindO (binS .lss x9 (.int .i64 1)) fun x10 =>
condB x10 (
K (.ret (.tuple [.nilm, (.bool false)])) (Heap.alloc (Heap.alloc h (.cells c0)) (.map [] 0))) (
bindO (faS 1 (.ptr (Heap.next h) 0)) fun x11 =>
bindO (loadS none x11 (Heap.alloc (Heap.alloc h (.cells c0)) (.map [] 0))) fun x12 =>
bindO (lenS .slice x12 (Heap.alloc (Heap.alloc h (.cells c0)) (.map [] 0))) fun x13 =>
bindO (binS .gtr x13 (.int .i64 20000)) fun x14 =>
condB x14 (
K (.ret (.tuple [.nilm, (.bool false)])) (Heap.alloc (Heap.alloc h (.cells c0)) (.map [] 0))) (
bindO (faS 1 (.ptr (Heap.next h) 0)) fun x15 =>
bindO (loadS none x15 (Heap.alloc (Heap.alloc h (.cells c0)) (.map [] 0))) fun x16 =>
bindO (lenS .slice x16 (Heap.alloc (Heap.alloc h (.cells c0)) (.map [] 0))) fun x17 =>
loopB (evalS Tryz.prog (semCall Tryz.prog) F.gate_symbols.L0) ⟨(setV (setV (setV (setV (setV (setV (setV (setV (setV (setV (setV (setV (setV (setV (setV (setV (setV (setV (setV (setV (setV (setV (setV (setV (setV (setV (setV (setV (setV (setV (setV (setV (setV (setV (setV (setV (setV (setV (setV (setV (mkEnv [a0]) 1 (.ptr (Heap.next h) 0)) 2 .nilm) 3 (.bool false)) 9 (.map (Heap.next (Heap.alloc h (.cells c0))))) 4 (.map (Heap.next (Heap.alloc h (.cells c0))))) 10 x1) 11 x2) 12 x3) 13 x3) 13 (.bool false)) 14 x4) 13 (.bool false)) 15 x5) 13 (.bool false)) 16 x6) 17 x6) 18 x6) 18 (.bool false)) 19 x7) 18 (.bool false)) 20 x8) 18 (.bool false)) 21 x9) 18 (.bool false)) 22 x10) 23 x10) 24 x10) 24 (.bool false)) 25 x11) 24 (.bool false)) 26 x12) 24 (.bool false)) 27 x13) 24 (.bool false)) 28 x14) 29 x14) 30 x15) 31 x16) 32 x17) 33 (.int .i64 0)), 70, [], (Heap.alloc (Heap.alloc h (.cells c0)) (.map [] 0))⟩ (F.gate_symbols.L0k K)))))) := by kernel_rfl
theorem F.gate_symbols_sem {a0 : AV} {h : Heap} {K : Out → Heap → Bool} (hh : (
bindO (boxS a0) fun c0 =>
bindO (faS 0 (.ptr (Heap.next h) 0)) fun x1 =>
bindO (loadS none x1 (Heap.alloc (Heap.alloc h (.cells c0)) (.map [] 0))) fun x2 =>
bindO (binS .lss x2 (.int .i64 1)) fun x3 =>
condB x3 (
K (.ret (.tuple [.nilm, (.bool false)])) (Heap.alloc (Heap.alloc h (.cells c0)) (.map [] 0))) (
bindO (faS 0 (.ptr (Heap.next h) 0)) fun x4 =>
bindO (loadS none x4 (Heap.alloc (Heap.alloc h (.cells c0)) (.map [] 0))) fun x5 =>
bindO (binS .gtr x5 (.int .i64 64)) fun x6 =>
condB x6 (
K (.ret (.tuple [.nilm, (.bool false)])) (Heap.alloc (Heap.alloc h (.cells c0)) (.map [] 0))) (
bindO (faS 1 (.ptr (Heap.next h) 0)) fun x7 =>
bindO (loadS none x7 (Heap.alloc (Heap.alloc h (.cells c0)) (.map [] 0))) fun x8 =>
bindO (lenS .slice x8 (Heap.alloc (Heap.alloc h (.cells c0)) (.map [] 0))) fun x9 =>
bindO (binS .lss x9 (.int .i64 1)) fun x10 =>
condB x10 (
K (.ret (.tuple [.nilm, (.bool false)])) (Heap.alloc (Heap.alloc h (.cells c0)) (.map [] 0))) (
bindO (faS 1 (.ptr (Heap.next h) 0)) fun x11 =>
bindO (loadS none x11 (Heap.alloc (Heap.alloc h (.cells c0)) (.map [] 0))) fun x12 =>
bindO (lenS .slice x12 (Heap.alloc (Heap.alloc h (.cells c0)) (.map [] 0))) fun x13 =>
bindO (binS .gtr x13 (.int .i64 20000)) fun x14 =>
condB x14 (
K (.ret (.tuple [.nilm, (.bool false)])) (Heap.alloc (Heap.alloc h (.cells c0)) (.map [] 0))) (
bindO (faS 1 (.ptr (Heap.next h) 0)) fun x15 =>
bindO (loadS none x15 (Heap.alloc (Heap.alloc h (.cells c0)) (.map [] 0))) fun x16 =>
bindO (lenS .slice x16 (Heap.alloc (Heap.alloc h (.cells c0)) (.map [] 0))) fun x17 =>
loopB (evalS Tryz.prog (semCall Tryz.prog) F.gate_symbols.L0) ⟨(setV (setV (setV (setV (setV (setV (setV (setV (setV (setV (setV (setV (setV (setV (setV (setV (setV (setV (setV (setV (setV (setV (setV (setV (setV (setV (setV (setV (setV (setV (setV (setV (setV (setV (setV (setV (setV (setV (setV (setV (mkEnv [a0]) 1 (.ptr (Heap.next h) 0)) 2 .nilm) 3 (.bool false)) 9 (.map (Heap.next (Heap.alloc h (.cells c0))))) 4 (.map (Heap.next (Heap.alloc h (.cells c0))))) 10 x1) 11 x2) 12 x3) 13 x3) 13 (.bool false)) 14 x4) 13 (.bool false)) 15 x5) 13 (.bool false)) 16 x6) 17 x6) 18 x6) 18 (.bool false)) 19 x7) 18 (.bool false)) 20 x8) 18 (.bool false)) 21 x9) 18 (.bool false)) 22 x10) 23 x10) 24 x10) 24 (.bool false)) 25 x11) 24 (.bool false)) 26 x12) 24 (.bool false)) 27 x13) 24 (.bool false)) 28 x14) 29 x14) 30 x15) 31 x16) 32 x17) 33 (.int .i64 0)), 70, [], (Heap.alloc (Heap.alloc h (.cells c0)) (.map [] 0))⟩ (F.gate_symbols.L0k K)))))) = true) : Sem Tryz.prog 54 [a0] h K :=
  sem_body mixed (noD_sound _) Tryz.func54 (c := codeOf Tryz.f54) rfl (by decide) (of_decide_eq_true (by kernel_rfl)) (F.gate_symbols_eq.trans hh)
theorem F.gate_Valid_eq {a0 : AV} {h : Heap} {K : Out → Heap → Bool} : evalS Tryz.prog (semCall Tryz.prog) (codeOf Tryz.f15) ⟨mkEnv [a0], 11, [], h⟩ (leaveK Tryz.prog noD Tryz.f15.results.toList K) = (
bindO (boxS a0) fun c0 =>
bindO (loadS (some 2) (.ptr (Heap.next h) 0) (Heap.alloc h (.cells c0))) fun x1 =>
semCall Tryz.prog 54 [x1] (Heap.alloc h (.cells c0)) (outK (fun x2 h3 =>
bindO (extractS x2 0) fun x6 =>
bindO (extractS x2 1) fun x7 =>
K (.ret x7) h3) (fun v4 h5 => K (.panic v4) h5))) := by kernel_rfl
theorem F.gate_Valid_sem {a0 : AV} {h : Heap} {K : Out → Heap → Bool} (hh : (
bindO (boxS a0) fun c0 =>
bindO (loadS (some 2) (.ptr (Heap.next h) 0) (Heap.alloc h (.cells c0))) fun x1 =>
semCall Tryz.prog 54 [x1] (Heap.alloc h (.cells c0)) (outK (fun x2 h3 =>
bindO (extractS x2 0) fun x6 =>
bindO (extractS x2 1) fun x7 =>
K (.ret x7) h3) (fun v4 h5 => K (.panic v4) h5))) = true) : Sem Tryz.prog 15 [a0] h K :=
  sem_body mixed (noD_sound _) Tryz.func15 (c := codeOf Tryz.f15) rfl (by decide) (of_decide_eq_true (by kernel_rfl)) (F.gate_Valid_eq.trans hh)
noncomputable def F.gate_depths.L0 : Code := partOf (codeOf Tryz.f55) [1, 1, 0, 1, 0, 0]
noncomputable def F.gate_depths.L0k (K : Out → Heap → Bool) : AX → St → Bool := (blockK 0 (seqK false (evalS Tryz.prog (semCall Tryz.prog) (partOf (codeOf Tryz.f55) [1, 1, 1])) (leaveK Tryz.prog noD Tryz.f55.results.toList K)))
noncomputable def F.gate_depths.L1 : Code := partOf (codeOf Tryz.f55) [1, 1, 0, 1, 0, 0, 1, 1, 0, 0, 1, 1, 0, 1, 0, 0]
noncomputable def F.gate_depths.L1k (K : AX → St → Bool) : AX → St → Bool := (blockK 2 (seqK false (evalS Tryz.prog (semCall Tryz.prog) (partOf (codeOf Tryz.f55) [1, 1, 0, 1, 0, 0, 1, 1, 0, 0, 1, 1, 1])) (blockK 1 (seqK false (evalS Tryz.prog (semCall Tryz.prog) (partOf (codeOf Tryz.f55) [1, 1, 0, 1, 0, 0, 1, 1, 1])) K))))
theorem F.gate_depths.L0_eq {e : Env} {h : Heap} {K : AX → St → Bool} : evalS Tryz.prog (semCall Tryz.prog) F.gate_depths.L0 ⟨e, 54, [], h⟩ K = (
bindO (binS .lss (e 13) (e 12)) fun x4 =>
condB x4 (
bindO (iaS 4 (e 11) (e 13)) fun x5 =>
bindO (loadS (some 4) x5 h) fun x6 =>
bindO (storeS 4 (.ptr (Heap.next h) 0) x6 (Heap.alloc h (.cells [(.int .i64 0), (.str []), .nils, .nils]))) fun h7 =>
bindO (faS 0 (.ptr (Heap.next h) 0)) fun x8 =>
bindO (loadS none x8 h7) fun x9 =>
bindO (eqV (.int .i64) x9 (.int .i64 0)) fun x10 =>
condB x10 (
bindO (binS .add (e 13) (.int .i64 1)) fun x11 =>
K .normal ⟨(setV (setV (setV (setV (setV (setV (setV (setV (setV (setV (setV (setV (setV (setV (setV (setV (setV (setV (setV e 14 x4) 15 (e 13)) 16 x5) 17 x6) 5 (.ptr (Heap.next h) 0)) 4 (e 13)) 18 x8) 19 x9) 20 x10) 21 x10) 21 (.bool true)) 22 noV) 21 (.bool true)) 23 noV) 21 (.bool true)) 24 noV) 25 (.bool true)) 52 x11) 13 x11), 54, [], h7⟩) (
bindO (faS 0 (.ptr (Heap.next h) 0)) fun x12 =>
bindO (loadS none x12 h7) fun x13 =>
bindO (eqV (.int .i64) x13 (.int .i64 1)) fun x14 =>
condB x14 (
bindO (binS .add (e 13) (.int .i64 1)) fun x15 =>
K .normal ⟨(setV (setV (setV (setV (setV (setV (setV (setV (setV (setV (setV (setV (setV (setV (setV (setV (setV (setV (setV e 14 x4) 15 (e 13)) 16 x5) 17 x6) 5 (.ptr (Heap.next h) 0)) 4 (e 13)) 18 x8) 19 x9) 20 x10) 21 x10) 21 (.bool false)) 22 x12) 21 (.bool false)) 23 x13) 21 (.bool false)) 24 x14) 25 x14) 52 x15) 13 x15), 54, [], h7⟩) (
bindO (faS 3 (.ptr (Heap.next h) 0)) fun x16 =>
bindO (loadS none x16 h7) fun x17 =>
bindO (lenS .slice x17 h7) fun x18 =>
loopB (evalS Tryz.prog (semCall Tryz.prog) F.gate_depths.L1) ⟨(setV (setV (setV (setV (setV (setV (setV (setV (setV (setV (setV (setV (setV (setV (setV (setV (setV (setV (setV (setV (setV e 14 x4) 15 (e 13)) 16 x5) 17 x6) 5 (.ptr (Heap.next h) 0)) 4 (e 13)) 18 x8) 19 x9) 20 x10) 21 x10) 21 (.bool false)) 22 x12) 21 (.bool false)) 23 x13) 21 (.bool false)) 24 x14) 25 x14) 26 x16) 27 x17) 28 x18) 29 (.int .i64 0)), 54, [], h7⟩ (F.gate_depths.L1k K)))) (
K (.exit 0) ⟨(setV e 14 x4), 54, [], h⟩)) := by kernel_rfl
theorem F.gate_depths.L0_x0_eq {e : Env} {h : Heap} {K : Out → Heap → Bool} : F.gate_depths.L0k K (.exit 0) ⟨e, 54, [], h⟩ = (
K (.ret (e 3)) h) := by kernel_rfl
theorem F.gate_depths.L1_eq {e : Env} {h : Heap} {K : AX → St → Bool} : evalS Tryz.prog (semCall Tryz.prog) F.gate_depths.L1 ⟨e, 54, [], h⟩ K = (
bindO (binS .lss (e 29) (e 28)) fun x19 =>
condB x19 (
bindO (iaS 1 (e 27) (e 29)) fun x20 =>
bindO (loadS none x20 h) fun x21 =>
bindO (iaS 1 (e 3) (e 4)) fun x22 =>
bindO (loadS none x22 h) fun x23 =>
bindO (iaS 1 (e 3) x21) fun x24 =>
bindO (loadS none x24 h) fun x25 =>
bindO (foldS true x23 [x25]) fun x26 =>
bindO (iaS 1 (e 3) (e 4)) fun x27 =>
bindO (storeS 1 x27 x26 h) fun h28 =>
bindO (binS .add (e 29) (.int .i64 1)) fun x29 =>
K .normal ⟨(setV (setV (setV (setV (setV (setV (setV (setV (setV (setV (setV (setV (setV (setV (setV (setV (setV (setV e 30 x19) 31 x20) 32 x21) 7 x21) 33 (e 3)) 34 (e 4)) 35 (e 3)) 36 (e 4)) 37 x22) 38 x23) 39 (e 3)) 40 x21) 41 x24) 42 x25) 43 x26) 44 x27) 45 x29) 29 x29), 54, [], h28⟩) (
K (.exit 2) ⟨(setV e 30 x19), 54, [], h⟩)) := by kernel_rfl
theorem F.gate_depths.L1_x2_eq {e : Env} {h : Heap} {K : AX → St → Bool} : F.gate_depths.L1k K (.exit 2) ⟨e, 54, [], h⟩ = (
bindO (iaS 1 (e 3) (e 4)) fun x30 =>
bindO (loadS none x30 h) fun x31 =>
bindO (binS .add x31 (.int .i64 1)) fun x32 =>
bindO (iaS 1 (e 3) (e 4)) fun x33 =>
bindO (storeS 1 x33 x32 h) fun h34 =>
bindO (binS .add (e 13) (.int .i64 1)) fun x35 =>
K .normal ⟨(setV (setV (setV (setV (setV (setV (setV (setV e 46 (e 3)) 47 (e 4)) 48 x30) 49 x31) 50 x32) 51 x33) 52 x35) 13 x35), 54, [], h34⟩) := by kernel_rfl
theorem F.gate_depths_eq {a0 : AV} {h : Heap} {K : Out → Heap → Bool} : evalS Tryz.prog (semCall Tryz.prog) (codeOf Tryz.f55) ⟨mkEnv [a0], 54, [], h⟩ (leaveK Tryz.prog noD Tryz.f55.results.toList K) = (
bindO (lenS .slice a0 h) fun x0 =>
bindO2 (makeSliceS 1 8 [(.int .i64 0)] x0 x0 h) fun x1 h2 =>
bindO (lenS .slice a0 h2) fun x3 =>
loopB (evalS Tryz.prog (semCall Tryz.prog) F.gate_depths.L0) ⟨(setV (setV (setV (setV (setV (setV (setV (setV (mkEnv [a0]) 2 .nils) 8 a0) 9 x0) 10 x1) 3 x1) 11 a0) 12 x3) 13 (.int .i64 0)), 54, [], h2⟩ (F.gate_depths.L0k K)) := by kernel_rfl
theorem F.gate_depths_sem {a0 : AV} {h : Heap} {K : Out → Heap → Bool} (hh : (
bindO (lenS .slice a0 h) fun x0 =>
bindO2 (makeSliceS 1 8 [(.int .i64 0)] x0 x0 h) fun x1 h2 =>
bindO (lenS .slice a0 h2) fun x3 =>
loopB (evalS Tryz.prog (semCall Tryz.prog) F.gate_depths.L0) ⟨(setV (setV (setV (setV (setV (setV (setV (setV (mkEnv [a0]) 2 .nils) 8 a0) 9 x0) 10 x1) 3 x1) 11 a0) 12 x3) 13 (.int .i64 0)), 54, [], h2⟩ (F.gate_depths.L0k K)) = true) : Sem Tryz.prog 55 [a0] h K :=
  sem_body mixed (noD_sound _) Tryz.func55 (c := codeOf Tryz.f55) rfl (by decide) (of_decide_eq_true (by kernel_rfl)) (F.gate_depths_eq.trans hh)
theorem F.gate_Depth_eq {a0 : AV} {h : Heap} {K : Out → Heap → Bool} : evalS Tryz.prog (semCall Tryz.prog) (codeOf Tryz.f16) ⟨mkEnv [a0], 16, [], h⟩ (leaveK Tryz.prog noD Tryz.f16.results.toList K) = (
bindO (boxS a0) fun c0 =>
bindO (loadS (some 2) (.ptr (Heap.next h) 0) (Heap.alloc h (.cells c0))) fun x1 =>
semCall Tryz.prog 15 [x1] (Heap.alloc h (.cells c0)) (outK (fun x2 h3 =>
bindO (unS .not x2) fun x6 =>
condB x6 (
K (.ret (.int .i64 (-1))) h3) (
bindO (faS 1 (.ptr (Heap.next h) 0)) fun x7 =>
bindO (loadS none x7 h3) fun x8 =>
semCall Tryz.prog 55 [x8] h3 (outK (fun x9 h10 =>
bindO (lenS .slice x9 h10) fun x13 =>
bindO (binS .sub x13 (.int .i64 1)) fun x14 =>
bindO (iaS 1 x9 x14) fun x15 =>
bindO (loadS none x15 h10) fun x16 =>
K (.ret x16) h10) (fun v11 h12 => K (.panic v11) h12)))) (fun v4 h5 => K (.panic v4) h5))) := by kernel_rfl
theorem F.gate_Depth_sem {a0 : AV} {h : Heap} {K : Out → Heap → Bool} (hh : (
bindO (boxS a0) fun c0 =>
bindO (loadS (some 2) (.ptr (Heap.next h) 0) (Heap.alloc h (.cells c0))) fun x1 =>
semCall Tryz.prog 15 [x1] (Heap.alloc h (.cells c0)) (outK (fun x2 h3 =>
bindO (unS .not x2) fun x6 =>
condB x6 (
K (.ret (.int .i64 (-1))) h3) (
bindO (faS 1 (.ptr (Heap.next h) 0)) fun x7 =>
bindO (loadS none x7 h3) fun x8 =>
semCall Tryz.prog 55 [x8] h3 (outK (fun x9 h10 =>
bindO (lenS .slice x9 h10) fun x13 =>
bindO (binS .sub x13 (.int .i64 1)) fun x14 =>
bindO (iaS 1 x9 x14) fun x15 =>
bindO (loadS none x15 h10) fun x16 =>
K (.ret x16) h10) (fun v11 h12 => K (.panic v11) h12)))) (fun v4 h5 => K (.panic v4) h5))) = true) : Sem Tryz.prog 16 [a0] h K :=
  sem_body mixed (noD_sound _) Tryz.func16 (c := codeOf Tryz.f16) rfl (by decide) (of_decide_eq_true (by kernel_rfl)) (F.gate_Depth_eq.trans hh)
noncomputable def F.ref11_gate.L0 : Code := partOf (codeOf Tryz.f53) [1, 1, 1, 0, 1, 0, 0]
noncomputable def F.ref11_gate.L0k (K : Out → Heap → Bool) : AX → St → Bool := (blockK 0 (seqK false (evalS Tryz.prog (semCall Tryz.prog) (partOf (codeOf Tryz.f53) [1, 1, 1, 1])) (leaveK Tryz.prog noD Tryz.f53.results.toList K)))
theorem F.ref11_gate.L0_eq {e : Env} {h : Heap} {K : AX → St → Bool} : evalS Tryz.prog (semCall Tryz.prog) F.ref11_gate.L0 ⟨e, 89, [], h⟩ K = (
bindO (faS 3 (e 5)) fun x16 =>
bindO (loadS none x16 h) fun x17 =>
bindO (lenS .slice x17 h) fun x18 =>
bindO (binS .lss (e 6) x18) fun x19 =>
condB x19 (
bindO (faS 3 (e 5)) fun x20 =>
bindO (loadS none x20 h) fun x21 =>
bindO (iaS 1 x21 (e 6)) fun x22 =>
bindO (loadS none x22 h) fun x23 =>
bindO (binS .lss x23 (.int .i64 0)) fun x24 =>
condB x24 (
K .ret ⟨(setV (setV (setV (setV (setV (setV (setV (setV (setV (setV (setV (setV (setV (setV (setV (setV (setV (setV (setV (setV (setV (setV (setV (setV (setV (setV (setV (setV e 26 (e 6)) 27 x16) 28 x17) 29 x18) 30 x19) 33 x20) 34 x21) 35 (e 6)) 36 x22) 37 x23) 38 x24) 39 x24) 39 (.bool true)) 40 noV) 39 (.bool true)) 41 noV) 39 (.bool true)) 42 noV) 39 (.bool true)) 43 noV) 39 (.bool true)) 44 noV) 39 (.bool true)) 45 noV) 39 (.bool true)) 46 noV) 47 (.bool true)) 4 (.bool false)), 89, [], h⟩) (
bindO (faS 3 (e 5)) fun x25 =>
bindO (loadS none x25 h) fun x26 =>
bindO (iaS 1 x26 (e 6)) fun x27 =>
bindO (loadS none x27 h) fun x28 =>
bindO (binS .geq x28 (e 1)) fun x29 =>
condB x29 (
K .ret ⟨(setV (setV (setV (setV (setV (setV (setV (setV (setV (setV (setV (setV (setV (setV (setV (setV (setV (setV (setV (setV (setV (setV (setV (setV (setV (setV (setV (setV e 26 (e 6)) 27 x16) 28 x17) 29 x18) 30 x19) 33 x20) 34 x21) 35 (e 6)) 36 x22) 37 x23) 38 x24) 39 x24) 39 (.bool false)) 40 x25) 39 (.bool false)) 41 x26) 39 (.bool false)) 42 (e 6)) 39 (.bool false)) 43 x27) 39 (.bool false)) 44 x28) 39 (.bool false)) 45 (e 1)) 39 (.bool false)) 46 x29) 47 x29) 4 (.bool false)), 89, [], h⟩) (
bindO (binS .add (e 6) (.int .i64 1)) fun x30 =>
K .normal ⟨(setV (setV (setV (setV (setV (setV (setV (setV (setV (setV (setV (setV (setV (setV (setV (setV (setV (setV (setV (setV (setV (setV (setV (setV (setV (setV (setV (setV (setV (setV e 26 (e 6)) 27 x16) 28 x17) 29 x18) 30 x19) 33 x20) 34 x21) 35 (e 6)) 36 x22) 37 x23) 38 x24) 39 x24) 39 (.bool false)) 40 x25) 39 (.bool false)) 41 x26) 39 (.bool false)) 42 (e 6)) 39 (.bool false)) 43 x27) 39 (.bool false)) 44 x28) 39 (.bool false)) 45 (e 1)) 39 (.bool false)) 46 x29) 47 x29) 31 (e 6)) 32 x30) 6 x30), 89, [], h⟩))) (
K (.exit 0) ⟨(setV (setV (setV (setV (setV e 26 (e 6)) 27 x16) 28 x17) 29 x18) 30 x19), 89, [], h⟩)) := by kernel_rfl
theorem F.ref11_gate.L0_x0_eq {e : Env} {h : Heap} {K : Out → Heap → Bool} : F.ref11_gate.L0k K (.exit 0) ⟨e, 89, [], h⟩ = (
bindO (faS 0 (e 5)) fun x31 =>
bindO (loadS none x31 h) fun x32 =>
bindO (eqV (.int .i64) x32 (.int .i64 0)) fun x33 =>
condB x33 (
bindO (faS 3 (e 5)) fun x34 =>
bindO (loadS none x34 h) fun x35 =>
bindO (lenS .slice x35 h) fun x36 =>
bindO (eqV (.int .i64) x36 (.int .i64 0)) fun x37 =>
K (.ret x37) h) (
bindO (eqV (.int .i64) x32 (.int .i64 1)) fun x38 =>
condB x38 (
bindO (faS 3 (e 5)) fun x39 =>
bindO (loadS none x39 h) fun x40 =>
bindO (lenS .slice x40 h) fun x41 =>
bindO (eqV (.int .i64) x41 (.int .i64 0)) fun x42 =>
condB x42 (
bindO (faS 1 (e 5)) fun x43 =>
bindO (loadS none x43 h) fun x44 =>
semCall Tryz.prog 107 [x44] h (outK (fun x45 h46 =>
condB x45 (
bindO (faS 2 (e 5)) fun x49 =>
bindO (loadS none x49 h46) fun x50 =>
bindO (lenS .slice x50 h46) fun x51 =>
bindO (binS .leq x51 (.int .i64 12)) fun x52 =>
condB x52 (
bindO (faS 0 (e 2)) fun x53 =>
bindO (loadS none x53 h46) fun x54 =>
bindO (faS 2 (e 5)) fun x55 =>
bindO (loadS none x55 h46) fun x56 =>
semCall Tryz.prog 108 [x54, x56] h46 (outK (fun x57 h58 =>
K (.ret x57) h58) (fun v59 h60 => K (.panic v59) h60))) (
K (.ret (.bool false)) h46)) (
K (.ret (.bool false)) h46)) (fun v47 h48 => K (.panic v47) h48))) (
K (.ret (.bool false)) h)) (
bindO (eqV (.int .i64) x32 (.int .i64 2)) fun x61 =>
condB x61 (
bindO (faS 3 (e 5)) fun x62 =>
bindO (loadS none x62 h) fun x63 =>
bindO (lenS .slice x63 h) fun x64 =>
bindO (eqV (.int .i64) x64 (.int .i64 1)) fun x65 =>
K (.ret x65) h) (
bindO (eqV (.int .i64) x32 (.int .i64 3)) fun x66 =>
condB x66 (
condB x66 (
K (.ret (.bool true)) h) (
K (.ret (.bool false)) h)) (
bindO (eqV (.int .i64) x32 (.int .i64 4)) fun x67 =>
condB x67 (
K (.ret (.bool true)) h) (
K (.ret (.bool false)) h)))))) := by kernel_rfl
theorem F.ref11_gate.L0_r_eq {e : Env} {h : Heap} {K : Out → Heap → Bool} : F.ref11_gate.L0k K .ret ⟨e, 89, [], h⟩ = (
K (.ret (e 4)) h) := by kernel_rfl
theorem F.ref11_gate_eq {a0 a1 : AV} {h : Heap} {K : Out → Heap → Bool} : evalS Tryz.prog (semCall Tryz.prog) (codeOf Tryz.f53) ⟨mkEnv [a0, a1], 89, [], h⟩ (leaveK Tryz.prog noD Tryz.f53.results.toList K) = (
bindO (boxS a0) fun c0 =>
bindO (faS 1 (.ptr (Heap.next h) 0)) fun x1 =>
bindO (loadS none x1 (Heap.alloc h (.cells c0))) fun x2 =>
bindO (iaS 4 x2 a1) fun x3 =>
bindO (loadS (some 4) x3 (Heap.alloc h (.cells c0))) fun x4 =>
bindO (storeS 4 (.ptr (Heap.next (Heap.alloc h (.cells c0))) 0) x4 (Heap.alloc (Heap.alloc h (.cells c0)) (.cells [(.int .i64 0), (.str []), .nils, .nils]))) fun h5 =>
bindO (faS 0 (.ptr (Heap.next (Heap.alloc h (.cells c0))) 0)) fun x6 =>
bindO (loadS none x6 h5) fun x7 =>
bindO (neV (.int .i64) x7 (.int .i64 1)) fun x8 =>
condB x8 (
bindO (faS 1 (.ptr (Heap.next (Heap.alloc h (.cells c0))) 0)) fun x9 =>
bindO (loadS none x9 h5) fun x10 =>
bindO (neV .string x10 (.str [])) fun x11 =>
condB x11 (
K (.ret (.bool false)) h5) (
bindO (faS 2 (.ptr (Heap.next (Heap.alloc h (.cells c0))) 0)) fun x12 =>
bindO (loadS none x12 h5) fun x13 =>
bindO (lenS .slice x13 h5) fun x14 =>
bindO (binS .gtr x14 (.int .i64 0)) fun x15 =>
condB x15 (
K (.ret (.bool false)) h5) (
loopB (evalS Tryz.prog (semCall Tryz.prog) F.ref11_gate.L0) ⟨(setV (setV (setV (setV (setV (setV (setV (setV (setV (setV (setV (setV (setV (setV (setV (setV (setV (setV (setV (setV (setV (setV (setV (setV (setV (setV (setV (setV (setV (setV (setV (setV (mkEnv [a0, a1]) 2 (.ptr (Heap.next h) 0)) 4 (.bool false)) 7 x1) 8 x2) 9 a1) 10 x3) 11 x4) 5 (.ptr (Heap.next (Heap.alloc h (.cells c0))) 0)) 12 x6) 13 x7) 14 x8) 15 x8) 15 (.bool true)) 16 x9) 15 (.bool true)) 17 x10) 15 (.bool true)) 18 x11) 15 (.bool true)) 19 x11) 19 (.bool false)) 20 x12) 19 (.bool false)) 21 x13) 19 (.bool false)) 22 x14) 19 (.bool false)) 23 x15) 15 (.bool true)) 24 x15) 25 x15) 6 (.int .i64 0)), 89, [], h5⟩ (F.ref11_gate.L0k K)))) (
loopB (evalS Tryz.prog (semCall Tryz.prog) F.ref11_gate.L0) ⟨(setV (setV (setV (setV (setV (setV (setV (setV (setV (setV (setV (setV (setV (setV (setV (setV (setV (setV (setV (setV (setV (setV (setV (setV (setV (setV (setV (setV (mkEnv [a0, a1]) 2 (.ptr (Heap.next h) 0)) 4 (.bool false)) 7 x1) 8 x2) 9 a1) 10 x3) 11 x4) 5 (.ptr (Heap.next (Heap.alloc h (.cells c0))) 0)) 12 x6) 13 x7) 14 x8) 15 x8) 15 (.bool false)) 16 noV) 15 (.bool false)) 17 noV) 15 (.bool false)) 18 noV) 15 (.bool false)) 19 noV) 20 noV) 21 noV) 22 noV) 23 noV) 15 (.bool false)) 24 noV) 25 (.bool false)) 6 (.int .i64 0)), 89, [], h5⟩ (F.ref11_gate.L0k K))) := by kernel_rfl
theorem F.ref11_gate_sem {a0 a1 : AV} {h : Heap} {K : Out → Heap → Bool} (hh : (
bindO (boxS a0) fun c0 =>
bindO (faS 1 (.ptr (Heap.next h) 0)) fun x1 =>
bindO (loadS none x1 (Heap.alloc h (.cells c0))) fun x2 =>
bindO (iaS 4 x2 a1) fun x3 =>
bindO (loadS (some 4) x3 (Heap.alloc h (.cells c0))) fun x4 =>
bindO (storeS 4 (.ptr (Heap.next (Heap.alloc h (.cells c0))) 0) x4 (Heap.alloc (Heap.alloc h (.cells c0)) (.cells [(.int .i64 0), (.str []), .nils, .nils]))) fun h5 =>
bindO (faS 0 (.ptr (Heap.next (Heap.alloc h (.cells c0))) 0)) fun x6 =>
bindO (loadS none x6 h5) fun x7 =>
bindO (neV (.int .i64) x7 (.int .i64 1)) fun x8 =>
condB x8 (
bindO (faS 1 (.ptr (Heap.next (Heap.alloc h (.cells c0))) 0)) fun x9 =>
bindO (loadS none x9 h5) fun x10 =>
bindO (neV .string x10 (.str [])) fun x11 =>
condB x11 (
K (.ret (.bool false)) h5) (
bindO (faS 2 (.ptr (Heap.next (Heap.alloc h (.cells c0))) 0)) fun x12 =>
bindO (loadS none x12 h5) fun x13 =>
bindO (lenS .slice x13 h5) fun x14 =>
bindO (binS .gtr x14 (.int .i64 0)) fun x15 =>
condB x15 (
K (.ret (.bool false)) h5) (
loopB (evalS Tryz.prog (semCall Tryz.prog) F.ref11_gate.L0) ⟨(setV (setV (setV (setV (setV (setV (setV (setV (setV (setV (setV (setV (setV (setV (setV (setV (setV (setV (setV (setV (setV (setV (setV (setV (setV (setV (setV (setV (setV (setV (setV (setV (mkEnv [a0, a1]) 2 (.ptr (Heap.next h) 0)) 4 (.bool false)) 7 x1) 8 x2) 9 a1) 10 x3) 11 x4) 5 (.ptr (Heap.next (Heap.alloc h (.cells c0))) 0)) 12 x6) 13 x7) 14 x8) 15 x8) 15 (.bool true)) 16 x9) 15 (.bool true)) 17 x10) 15 (.bool true)) 18 x11) 15 (.bool true)) 19 x11) 19 (.bool false)) 20 x12) 19 (.bool false)) 21 x13) 19 (.bool false)) 22 x14) 19 (.bool false)) 23 x15) 15 (.bool true)) 24 x15) 25 x15) 6 (.int .i64 0)), 89, [], h5⟩ (F.ref11_gate.L0k K)))) (
loopB (evalS Tryz.prog (semCall Tryz.prog) F.ref11_gate.L0) ⟨(setV (setV (setV (setV (setV (setV (setV (setV (setV (setV (setV (setV (setV (setV (setV (setV (setV (setV (setV (setV (setV (setV (setV (setV (setV (setV (setV (setV (mkEnv [a0, a1]) 2 (.ptr (Heap.next h) 0)) 4 (.bool false)) 7 x1) 8 x2) 9 a1) 10 x3) 11 x4) 5 (.ptr (Heap.next (Heap.alloc h (.cells c0))) 0)) 12 x6) 13 x7) 14 x8) 15 x8) 15 (.bool false)) 16 noV) 15 (.bool false)) 17 noV) 15 (.bool false)) 18 noV) 15 (.bool false)) 19 noV) 20 noV) 21 noV) 22 noV) 23 noV) 15 (.bool false)) 24 noV) 25 (.bool false)) 6 (.int .i64 0)), 89, [], h5⟩ (F.ref11_gate.L0k K))) = true) : Sem Tryz.prog 53 [a0, a1] h K :=
  sem_body mixed (noD_sound _) Tryz.func53 (c := codeOf Tryz.f53) rfl (by decide) (of_decide_eq_true (by kernel_rfl)) (F.ref11_gate_eq.trans hh)
noncomputable def F.ref11_Valid.L0 : Code := partOf (codeOf Tryz.f13) [1, 1, 1, 0, 1, 0, 0]
noncomputable def F.ref11_Valid.L0k (K : Out → Heap → Bool) : AX → St → Bool := (blockK 0 (seqK false (evalS Tryz.prog (semCall Tryz.prog) (partOf (codeOf Tryz.f13) [1, 1, 1, 1])) (leaveK Tryz.prog noD Tryz.f13.results.toList K)))
theorem F.ref11_Valid.L0_eq {e : Env} {h : Heap} {K : AX → St → Bool} : evalS Tryz.prog (semCall Tryz.prog) F.ref11_Valid.L0 ⟨e, 69, [], h⟩ K = (
bindO (faS 1 (e 1)) fun x15 =>
bindO (loadS none x15 h) fun x16 =>
bindO (lenS .slice x16 h) fun x17 =>
bindO (binS .lss (e 4) x17) fun x18 =>
condB x18 (
bindO (loadS (some 2) (e 1) h) fun x19 =>
semCall Tryz.prog 53 [x19, (e 4)] h (outK (fun x20 h21 =>
bindO (unS .not x20) fun x24 =>
condB x24 (
K .ret ⟨(setV (setV (setV (setV (setV (setV (setV (setV (setV (setV e 29 (e 4)) 30 x15) 31 x16) 32 x17) 33 x18) 36 x19) 37 (e 4)) 38 x20) 39 x24) 2 (.bool false)), 69, [], h21⟩) (
bindO (faS 1 (e 1)) fun x25 =>
bindO (loadS none x25 h21) fun x26 =>
bindO (iaS 4 x26 (e 4)) fun x27 =>
bindO (loadS (some 4) x27 h21) fun x28 =>
bindO (storeS 4 (.ptr (Heap.next h21) 0) x28 (Heap.alloc h21 (.cells [(.int .i64 0), (.str []), .nils, .nils]))) fun h29 =>
bindO (faS 0 (.ptr (Heap.next h21) 0)) fun x30 =>
bindO (loadS none x30 h29) fun x31 =>
bindO (eqV (.int .i64) x31 (.int .i64 1)) fun x32 =>
condB x32 (
bindO (faS 1 (.ptr (Heap.next h21) 0)) fun x33 =>
bindO (loadS none x33 h29) fun x34 =>
bindO (lookupS .string (.int .i64 0) true (e 3) x34 h29) fun x35 =>
bindO (extractS x35 0) fun x36 =>
bindO (extractS x35 1) fun x37 =>
condB x37 (
bindO (faS 2 (.ptr (Heap.next h21) 0)) fun x38 =>
bindO (loadS none x38 h29) fun x39 =>
bindO (lenS .slice x39 h29) fun x40 =>
bindO (neV (.int .i64) x36 x40) fun x41 =>
condB x41 (
K .ret ⟨(setV (setV (setV (setV (setV (setV (setV (setV (setV (setV (setV (setV (setV (setV (setV (setV (setV (setV (setV (setV (setV (setV (setV (setV (setV (setV (setV (setV (setV (setV (setV (setV (setV (setV (setV (setV (setV (setV (setV (setV (setV e 29 (e 4)) 30 x15) 31 x16) 32 x17) 33 x18) 36 x19) 37 (e 4)) 38 x20) 39 x24) 40 x25) 41 x26) 42 (e 4)) 43 x27) 44 x28) 5 (.ptr (Heap.next h21) 0)) 45 x30) 46 x31) 47 x32) 49 (e 3)) 50 x33) 51 x34) 52 x35) 48 x35) 53 x36) 54 x37) 6 x36) 7 x37) 55 x37) 56 x37) 56 (.bool true)) 57 x36) 56 (.bool true)) 58 x38) 56 (.bool true)) 59 x39) 56 (.bool true)) 60 x40) 56 (.bool true)) 61 x41) 62 x41) 2 (.bool false)), 69, [], h29⟩) (
bindO (faS 1 (.ptr (Heap.next h21) 0)) fun x42 =>
bindO (loadS none x42 h29) fun x43 =>
bindO (faS 2 (.ptr (Heap.next h21) 0)) fun x44 =>
bindO (loadS none x44 h29) fun x45 =>
bindO (lenS .slice x45 h29) fun x46 =>
bindO (mapUpdateS .string (e 3) x43 x46 h29) fun h47 =>
bindO (binS .add (e 4) (.int .i64 1)) fun x48 =>
K .normal ⟨(setV (setV (setV (setV (setV (setV (setV (setV (setV (setV (setV (setV (setV (setV (setV (setV (setV (setV (setV (setV (setV (setV (setV (setV (setV (setV (setV (setV (setV (setV (setV (setV (setV (setV (setV (setV (setV (setV (setV (setV (setV (setV (setV (setV (setV (setV (setV (setV (setV e 29 (e 4)) 30 x15) 31 x16) 32 x17) 33 x18) 36 x19) 37 (e 4)) 38 x20) 39 x24) 40 x25) 41 x26) 42 (e 4)) 43 x27) 44 x28) 5 (.ptr (Heap.next h21) 0)) 45 x30) 46 x31) 47 x32) 49 (e 3)) 50 x33) 51 x34) 52 x35) 48 x35) 53 x36) 54 x37) 6 x36) 7 x37) 55 x37) 56 x37) 56 (.bool true)) 57 x36) 56 (.bool true)) 58 x38) 56 (.bool true)) 59 x39) 56 (.bool true)) 60 x40) 56 (.bool true)) 61 x41) 62 x41) 63 (e 3)) 64 x42) 65 x43) 66 x44) 67 x45) 68 x46) 34 (e 4)) 35 x48) 4 x48), 69, [], h47⟩)) (
bindO (faS 1 (.ptr (Heap.next h21) 0)) fun x49 =>
bindO (loadS none x49 h29) fun x50 =>
bindO (faS 2 (.ptr (Heap.next h21) 0)) fun x51 =>
bindO (loadS none x51 h29) fun x52 =>
bindO (lenS .slice x52 h29) fun x53 =>
bindO (mapUpdateS .string (e 3) x50 x53 h29) fun h54 =>
bindO (binS .add (e 4) (.int .i64 1)) fun x55 =>
K .normal ⟨(setV (setV (setV (setV (setV (setV (setV (setV (setV (setV (setV (setV (setV (setV (setV (setV (setV (setV (setV (setV (setV (setV (setV (setV (setV (setV (setV (setV (setV (setV (setV (setV (setV (setV (setV (setV (setV (setV (setV (setV (setV (setV (setV (setV (setV (setV (setV (setV (setV e 29 (e 4)) 30 x15) 31 x16) 32 x17) 33 x18) 36 x19) 37 (e 4)) 38 x20) 39 x24) 40 x25) 41 x26) 42 (e 4)) 43 x27) 44 x28) 5 (.ptr (Heap.next h21) 0)) 45 x30) 46 x31) 47 x32) 49 (e 3)) 50 x33) 51 x34) 52 x35) 48 x35) 53 x36) 54 x37) 6 x36) 7 x37) 55 x37) 56 x37) 56 (.bool false)) 57 noV) 56 (.bool false)) 58 noV) 56 (.bool false)) 59 noV) 56 (.bool false)) 60 noV) 56 (.bool false)) 61 noV) 62 (.bool false)) 63 (e 3)) 64 x49) 65 x50) 66 x51) 67 x52) 68 x53) 34 (e 4)) 35 x55) 4 x55), 69, [], h54⟩)) (
bindO (binS .add (e 4) (.int .i64 1)) fun x56 =>
K .normal ⟨(setV (setV (setV (setV (setV (setV (setV (setV (setV (setV (setV (setV (setV (setV (setV (setV (setV (setV (setV (setV (setV e 29 (e 4)) 30 x15) 31 x16) 32 x17) 33 x18) 36 x19) 37 (e 4)) 38 x20) 39 x24) 40 x25) 41 x26) 42 (e 4)) 43 x27) 44 x28) 5 (.ptr (Heap.next h21) 0)) 45 x30) 46 x31) 47 x32) 34 (e 4)) 35 x56) 4 x56), 69, [], h29⟩))) (fun v22 h23 => K (.panic v22) ⟨(setV (setV (setV (setV (setV (setV (setV e 29 (e 4)) 30 x15) 31 x16) 32 x17) 33 x18) 36 x19) 37 (e 4)), 69, [], h23⟩))) (
K (.exit 0) ⟨(setV (setV (setV (setV (setV e 29 (e 4)) 30 x15) 31 x16) 32 x17) 33 x18), 69, [], h⟩)) := by kernel_rfl
theorem F.ref11_Valid.L0_x0_eq {e : Env} {h : Heap} {K : Out → Heap → Bool} : F.ref11_Valid.L0k K (.exit 0) ⟨e, 69, [], h⟩ = (
K (.ret (.bool true)) h) := by kernel_rfl
theorem F.ref11_Valid.L0_r_eq {e : Env} {h : Heap} {K : Out → Heap → Bool} : F.ref11_Valid.L0k K .ret ⟨e, 69, [], h⟩ = (
K (.ret (e 2)) h) := by kernel_rfl
theorem F.ref11_Valid_eq {a0 : AV} {h : Heap} {K : Out → Heap → Bool} : evalS Tryz.prog (semCall Tryz.prog) (codeOf Tryz.f13) ⟨mkEnv [a0], 69, [], h⟩ (leaveK Tryz.prog noD Tryz.f13.results.toList K) = (
bindO (boxS a0) fun c0 =>
bindO (faS 0 (.ptr (Heap.next h) 0)) fun x1 =>
bindO (loadS none x1 (Heap.alloc h (.cells c0))) fun x2 =>
bindO (binS .lss x2 (.int .i64 1)) fun x3 =>
condB x3 (
K (.ret (.bool false)) (Heap.alloc h (.cells c0))) (
bindO (faS 0 (.ptr (Heap.next h) 0)) fun x4 =>
bindO (loadS none x4 (Heap.alloc h (.cells c0))) fun x5 =>
bindO (binS .gtr x5 (.int .i64 64)) fun x6 =>
condB x6 (
K (.ret (.bool false)) (Heap.alloc h (.cells c0))) (
bindO (faS 1 (.ptr (Heap.next h) 0)) fun x7 =>
bindO (loadS none x7 (Heap.alloc h (.cells c0))) fun x8 =>
bindO (lenS .slice x8 (Heap.alloc h (.cells c0))) fun x9 =>
bindO (binS .lss x9 (.int .i64 1)) fun x10 =>
condB x10 (
K (.ret (.bool false)) (Heap.alloc h (.cells c0))) (
bindO (faS 1 (.ptr (Heap.next h) 0)) fun x11 =>
bindO (loadS none x11 (Heap.alloc h (.cells c0))) fun x12 =>
bindO (lenS .slice x12 (Heap.alloc h (.cells c0))) fun x13 =>
bindO (binS .gtr x13 (.int .i64 20000)) fun x14 =>
condB x14 (
K (.ret (.bool false)) (Heap.alloc h (.cells c0))) (
loopB (evalS Tryz.prog (semCall Tryz.prog) F.ref11_Valid.L0) ⟨(setV (setV (setV (setV (setV (setV (setV (setV (setV (setV (setV (setV (setV (setV (setV (setV (setV (setV (setV (setV (setV (setV (setV (setV (setV (setV (setV (setV (setV (setV (setV (setV (setV (setV (setV (setV (mkEnv [a0]) 1 (.ptr (Heap.next h) 0)) 2 (.bool false)) 8 x1) 9 x2) 10 x3) 11 x3) 11 (.bool false)) 12 x4) 11 (.bool false)) 13 x5) 11 (.bool false)) 14 x6) 15 x6) 16 x6) 16 (.bool false)) 17 x7) 16 (.bool false)) 18 x8) 16 (.bool false)) 19 x9) 16 (.bool false)) 20 x10) 21 x10) 22 x10) 22 (.bool false)) 23 x11) 22 (.bool false)) 24 x12) 22 (.bool false)) 25 x13) 22 (.bool false)) 26 x14) 27 x14) 28 (.map (Heap.next (Heap.alloc h (.cells c0))))) 3 (.map (Heap.next (Heap.alloc h (.cells c0))))) 4 (.int .i64 0)), 69, [], (Heap.alloc (Heap.alloc h (.cells c0)) (.map [] 0))⟩ (F.ref11_Valid.L0k K)))))) := by kernel_rfl
theorem F.ref11_Valid_sem {a0 : AV} {h : Heap} {K : Out → Heap → Bool} (hh : (
bindO (boxS a0) fun c0 =>
bindO (faS 0 (.ptr (Heap.next h) 0)) fun x1 =>
bindO (loadS none x1 (Heap.alloc h (.cells c0))) fun x2 =>
bindO (binS .lss x2 (.int .i64 1)) fun x3 =>
condB x3 (
K (.ret (.bool false)) (Heap.alloc h (.cells c0))) (
bindO (faS 0 (.ptr (Heap.next h) 0)) fun x4 =>
bindO (loadS none x4 (Heap.alloc h (.cells c0))) fun x5 =>
bindO (binS .gtr x5 (.int .i64 64)) fun x6 =>
condB x6 (
K (.ret (.bool false)) (Heap.alloc h (.cells c0))) (
bindO (faS 1 (.ptr (Heap.next h) 0)) fun x7 =>
bindO (loadS none x7 (Heap.alloc h (.cells c0))) fun x8 =>
bindO (lenS .slice x8 (Heap.alloc h (.cells c0))) fun x9 =>
bindO (binS .lss x9 (.int .i64 1)) fun x10 =>
condB x10 (
K (.ret (.bool false)) (Heap.alloc h (.cells c0))) (
bindO (faS 1 (.ptr (Heap.next h) 0)) fun x11 =>
bindO (loadS none x11 (Heap.alloc h (.cells c0))) fun x12 =>
bindO (lenS .slice x12 (Heap.alloc h (.cells c0))) fun x13 =>
bindO (binS .gtr x13 (.int .i64 20000)) fun x14 =>
condB x14 (
K (.ret (.bool false)) (Heap.alloc h (.cells c0))) (
loopB (evalS Tryz.prog (semCall Tryz.prog) F.ref11_Valid.L0) ⟨(setV (setV (setV (setV (setV (setV (setV (setV (setV (setV (setV (setV (setV (setV (setV (setV (setV (setV (setV (setV (setV (setV (setV (setV (setV (setV (setV (setV (setV (setV (setV (setV (setV (setV (setV (setV (mkEnv [a0]) 1 (.ptr (Heap.next h) 0)) 2 (.bool false)) 8 x1) 9 x2) 10 x3) 11 x3) 11 (.bool false)) 12 x4) 11 (.bool false)) 13 x5) 11 (.bool false)) 14 x6) 15 x6) 16 x6) 16 (.bool false)) 17 x7) 16 (.bool false)) 18 x8) 16 (.bool false)) 19 x9) 16 (.bool false)) 20 x10) 21 x10) 22 x10) 22 (.bool false)) 23 x11) 22 (.bool false)) 24 x12) 22 (.bool false)) 25 x13) 22 (.bool false)) 26 x14) 27 x14) 28 (.map (Heap.next (Heap.alloc h (.cells c0))))) 3 (.map (Heap.next (Heap.alloc h (.cells c0))))) 4 (.int .i64 0)), 69, [], (Heap.alloc (Heap.alloc h (.cells c0)) (.map [] 0))⟩ (F.ref11_Valid.L0k K)))))) = true) : Sem Tryz.prog 13 [a0] h K :=
  sem_body mixed (noD_sound _) Tryz.func13 (c := codeOf Tryz.f13) rfl (by decide) (of_decide_eq_true (by kernel_rfl)) (F.ref11_Valid_eq.trans hh)
noncomputable def F.ref11_Depth.L0 : Code := partOf (codeOf Tryz.f14) [1, 1, 0, 1, 0, 0]
noncomputable def F.ref11_Depth.L0k (K : Out → Heap → Bool) : AX → St → Bool := (blockK 0 (seqK false (evalS Tryz.prog (semCall Tryz.prog) (partOf (codeOf Tryz.f14) [1, 1, 1])) (leaveK Tryz.prog noD Tryz.f14.results.toList K)))
noncomputable def F.ref11_Depth.L1 : Code := partOf (codeOf Tryz.f14) [1, 1, 0, 1, 0, 0, 1, 0, 0, 1, 0, 1, 0, 0]
noncomputable def F.ref11_Depth.L1k (K : AX → St → Bool) : AX → St → Bool := (blockK 2 (seqK false (evalS Tryz.prog (semCall Tryz.prog) (partOf (codeOf Tryz.f14) [1, 1, 0, 1, 0, 0, 1, 0, 0, 1, 1])) (blockK 1 (seqK false (evalS Tryz.prog (semCall Tryz.prog) (partOf (codeOf Tryz.f14) [1, 1, 0, 1, 0, 0, 1, 1])) K))))
theorem F.ref11_Depth.L0_eq {e : Env} {h : Heap} {K : AX → St → Bool} : evalS Tryz.prog (semCall Tryz.prog) F.ref11_Depth.L0 ⟨e, 66, [], h⟩ K = (
bindO (faS 1 (e 1)) fun x6 =>
bindO (loadS none x6 h) fun x7 =>
bindO (lenS .slice x7 h) fun x8 =>
bindO (binS .lss (e 4) x8) fun x9 =>
condB x9 (
bindO (faS 1 (e 1)) fun x10 =>
bindO (loadS none x10 h) fun x11 =>
bindO (iaS 4 x11 (e 4)) fun x12 =>
bindO (loadS (some 4) x12 h) fun x13 =>
bindO (storeS 4 (.ptr (Heap.next h) 0) x13 (Heap.alloc h (.cells [(.int .i64 0), (.str []), .nils, .nils]))) fun h14 =>
loopB (evalS Tryz.prog (semCall Tryz.prog) F.ref11_Depth.L1) ⟨(setV (setV (setV (setV (setV (setV (setV (setV (setV (setV (setV (setV e 11 (e 4)) 12 x6) 13 x7) 14 x8) 15 x9) 18 x10) 19 x11) 20 (e 4)) 21 x12) 22 x13) 5 (.ptr (Heap.next h) 0)) 6 (.int .i64 0)), 66, [], h14⟩ (F.ref11_Depth.L1k K)) (
K (.exit 0) ⟨(setV (setV (setV (setV (setV e 11 (e 4)) 12 x6) 13 x7) 14 x8) 15 x9), 66, [], h⟩)) := by kernel_rfl
theorem F.ref11_Depth.L0_x0_eq {e : Env} {h : Heap} {K : Out → Heap → Bool} : F.ref11_Depth.L0k K (.exit 0) ⟨e, 66, [], h⟩ = (
bindO (lenS .slice (e 3) h) fun x15 =>
bindO (binS .sub x15 (.int .i64 1)) fun x16 =>
bindO (iaS 1 (e 3) x16) fun x17 =>
bindO (loadS none x17 h) fun x18 =>
K (.ret x18) h) := by kernel_rfl
theorem F.ref11_Depth.L1_eq {e : Env} {h : Heap} {K : AX → St → Bool} : evalS Tryz.prog (semCall Tryz.prog) F.ref11_Depth.L1 ⟨e, 66, [], h⟩ K = (
bindO (faS 3 (e 5)) fun x19 =>
bindO (loadS none x19 h) fun x20 =>
bindO (lenS .slice x20 h) fun x21 =>
bindO (binS .lss (e 6) x21) fun x22 =>
condB x22 (
bindO (iaS 1 (e 3) (e 4)) fun x23 =>
bindO (loadS none x23 h) fun x24 =>
bindO (faS 3 (e 5)) fun x25 =>
bindO (loadS none x25 h) fun x26 =>
bindO (iaS 1 x26 (e 6)) fun x27 =>
bindO (loadS none x27 h) fun x28 =>
bindO (iaS 1 (e 3) x28) fun x29 =>
bindO (loadS none x29 h) fun x30 =>
bindO (foldS true x24 [x30]) fun x31 =>
bindO (iaS 1 (e 3) (e 4)) fun x32 =>
bindO (storeS 1 x32 x31 h) fun h33 =>
bindO (binS .add (e 6) (.int .i64 1)) fun x34 =>
K .normal ⟨(setV (setV (setV (setV (setV (setV (setV (setV (setV (setV (setV (setV (setV (setV (setV (setV (setV (setV (setV (setV (setV (setV (setV (setV e 23 (e 6)) 24 x19) 25 x20) 26 x21) 27 x22) 30 (e 3)) 31 (e 4)) 32 (e 3)) 33 (e 4)) 34 x23) 35 x24) 36 (e 3)) 37 x25) 38 x26) 39 (e 6)) 40 x27) 41 x28) 42 x29) 43 x30) 44 x31) 45 x32) 28 (e 6)) 29 x34) 6 x34), 66, [], h33⟩) (
K (.exit 2) ⟨(setV (setV (setV (setV (setV e 23 (e 6)) 24 x19) 25 x20) 26 x21) 27 x22), 66, [], h⟩)) := by kernel_rfl
theorem F.ref11_Depth.L1_x2_eq {e : Env} {h : Heap} {K : AX → St → Bool} : F.ref11_Depth.L1k K (.exit 2) ⟨e, 66, [], h⟩ = (
bindO (faS 0 (e 5)) fun x35 =>
bindO (loadS none x35 h) fun x36 =>
bindO (neV (.int .i64) x36 (.int .i64 0)) fun x37 =>
condB x37 (
bindO (faS 0 (e 5)) fun x38 =>
bindO (loadS none x38 h) fun x39 =>
bindO (neV (.int .i64) x39 (.int .i64 1)) fun x40 =>
condB x40 (
bindO (iaS 1 (e 3) (e 4)) fun x41 =>
bindO (loadS none x41 h) fun x42 =>
bindO (binS .add x42 (.int .i64 1)) fun x43 =>
bindO (iaS 1 (e 3) (e 4)) fun x44 =>
bindO (storeS 1 x44 x43 h) fun h45 =>
bindO (binS .add (e 4) (.int .i64 1)) fun x46 =>
K .normal ⟨(setV (setV (setV (setV (setV (setV (setV (setV (setV (setV (setV (setV (setV (setV (setV (setV (setV (setV (setV (setV e 46 x35) 47 x36) 48 x37) 49 x37) 49 (.bool true)) 50 x38) 49 (.bool true)) 51 x39) 49 (.bool true)) 52 x40) 53 x40) 54 (e 3)) 55 (e 4)) 56 x41) 57 x42) 58 x43) 59 x44) 16 (e 4)) 17 x46) 4 x46), 66, [], h45⟩) (
bindO (binS .add (e 4) (.int .i64 1)) fun x47 =>
K .normal ⟨(setV (setV (setV (setV (setV (setV (setV (setV (setV (setV (setV (setV (setV (setV e 46 x35) 47 x36) 48 x37) 49 x37) 49 (.bool true)) 50 x38) 49 (.bool true)) 51 x39) 49 (.bool true)) 52 x40) 53 x40) 16 (e 4)) 17 x47) 4 x47), 66, [], h⟩)) (
bindO (binS .add (e 4) (.int .i64 1)) fun x48 =>
K .normal ⟨(setV (setV (setV (setV (setV (setV (setV (setV (setV (setV (setV (setV (setV (setV e 46 x35) 47 x36) 48 x37) 49 x37) 49 (.bool false)) 50 noV) 49 (.bool false)) 51 noV) 49 (.bool false)) 52 noV) 53 (.bool false)) 16 (e 4)) 17 x48) 4 x48), 66, [], h⟩)) := by kernel_rfl
theorem F.ref11_Depth_eq {a0 : AV} {h : Heap} {K : Out → Heap → Bool} : evalS Tryz.prog (semCall Tryz.prog) (codeOf Tryz.f14) ⟨mkEnv [a0], 66, [], h⟩ (leaveK Tryz.prog noD Tryz.f14.results.toList K) = (
bindO (boxS a0) fun c0 =>
bindO (faS 1 (.ptr (Heap.next h) 0)) fun x1 =>
bindO (loadS none x1 (Heap.alloc h (.cells c0))) fun x2 =>
bindO (lenS .slice x2 (Heap.alloc h (.cells c0))) fun x3 =>
bindO2 (makeSliceS 1 8 [(.int .i64 0)] x3 x3 (Heap.alloc h (.cells c0))) fun x4 h5 =>
loopB (evalS Tryz.prog (semCall Tryz.prog) F.ref11_Depth.L0) ⟨(setV (setV (setV (setV (setV (setV (setV (setV (mkEnv [a0]) 1 (.ptr (Heap.next h) 0)) 2 (.int .i64 0)) 7 x1) 8 x2) 9 x3) 10 x4) 3 x4) 4 (.int .i64 0)), 66, [], h5⟩ (F.ref11_Depth.L0k K)) := by kernel_rfl
theorem F.ref11_Depth_sem {a0 : AV} {h : Heap} {K : Out → Heap → Bool} (hh : (
bindO (boxS a0) fun c0 =>
bindO (faS 1 (.ptr (Heap.next h) 0)) fun x1 =>
bindO (loadS none x1 (Heap.alloc h (.cells c0))) fun x2 =>
bindO (lenS .slice x2 (Heap.alloc h (.cells c0))) fun x3 =>
bindO2 (makeSliceS 1 8 [(.int .i64 0)] x3 x3 (Heap.alloc h (.cells c0))) fun x4 h5 =>
loopB (evalS Tryz.prog (semCall Tryz.prog) F.ref11_Depth.L0) ⟨(setV (setV (setV (setV (setV (setV (setV (setV (mkEnv [a0]) 1 (.ptr (Heap.next h) 0)) 2 (.int .i64 0)) 7 x1) 8 x2) 9 x3) 10 x4) 3 x4) 4 (.int .i64 0)), 66, [], h5⟩ (F.ref11_Depth.L0k K)) = true) : Sem Tryz.prog 14 [a0] h K :=
  sem_body mixed (noD_sound _) Tryz.func14 (c := codeOf Tryz.f14) rfl (by decide) (of_decide_eq_true (by kernel_rfl)) (F.ref11_Depth_eq.trans hh)
noncomputable def F.law11_Few.L0 : Code := partOf (codeOf Tryz.f11) [1, 1, 0, 1, 0, 0]
noncomputable def F.law11_Few.L0k (K : Out → Heap → Bool) : AX → St → Bool := (blockK 0 (seqK false (evalS Tryz.prog (semCall Tryz.prog) (partOf (codeOf Tryz.f11) [1, 1, 1])) (leaveK Tryz.prog noD Tryz.f11.results.toList K)))
theorem F.law11_Few.L0_eq {e : Env} {h : Heap} {K : AX → St → Bool} : evalS Tryz.prog (semCall Tryz.prog) F.law11_Few.L0 ⟨e, 49, [], h⟩ K = (
bindO (faS 1 (e 2)) fun x1 =>
bindO (loadS none x1 h) fun x2 =>
bindO (lenS .slice x2 h) fun x3 =>
bindO (binS .lss (e 6) x3) fun x4 =>
condB x4 (
bindO (binS .leq (e 5) (e 1)) fun x5 =>
condB x5 (
bindO (binS .add (e 5) (.int .i64 1)) fun x6 =>
bindO (faS 1 (e 2)) fun x7 =>
bindO (loadS none x7 h) fun x8 =>
bindO (iaS 4 x8 (e 6)) fun x9 =>
bindO (faS 3 x9) fun x10 =>
bindO (loadS none x10 h) fun x11 =>
bindO (lenS .slice x11 h) fun x12 =>
bindO (binS .add x6 x12) fun x13 =>
bindO (faS 1 (e 2)) fun x14 =>
bindO (loadS none x14 h) fun x15 =>
bindO (iaS 4 x15 (e 6)) fun x16 =>
bindO (faS 2 x16) fun x17 =>
bindO (loadS none x17 h) fun x18 =>
bindO (lenS .slice x18 h) fun x19 =>
bindO (binS .add x13 x19) fun x20 =>
bindO (faS 1 (e 2)) fun x21 =>
bindO (loadS none x21 h) fun x22 =>
bindO (iaS 4 x22 (e 6)) fun x23 =>
bindO (faS 1 x23) fun x24 =>
bindO (loadS none x24 h) fun x25 =>
bindO (lenS .str x25 h) fun x26 =>
bindO (binS .quo x26 (.int .i64 20)) fun x27 =>
bindO (binS .add x20 x27) fun x28 =>
bindO (binS .add (e 6) (.int .i64 1)) fun x29 =>
K .normal ⟨(setV (setV (setV (setV (setV (setV (setV (setV (setV (setV (setV (setV (setV (setV (setV (setV (setV (setV (setV (setV (setV (setV (setV (setV (setV (setV (setV (setV (setV (setV (setV (setV (setV (setV (setV (setV (setV (setV (setV (setV (setV (setV (setV (setV e 7 (e 6)) 8 x1) 9 x2) 10 x3) 11 x4) 12 x4) 12 (.bool true)) 13 (e 5)) 12 (.bool true)) 14 (e 1)) 12 (.bool true)) 15 x5) 16 x5) 19 (e 5)) 20 x6) 21 x7) 22 x8) 23 (e 6)) 24 x9) 25 x10) 26 x11) 27 x12) 28 x13) 29 x14) 30 x15) 31 (e 6)) 32 x16) 33 x17) 34 x18) 35 x19) 36 x20) 37 x21) 38 x22) 39 (e 6)) 40 x23) 41 x24) 42 x25) 43 x26) 44 x27) 45 x28) 5 x28) 17 (e 6)) 18 x29) 6 x29), 49, [], h⟩) (
K (.exit 0) ⟨(setV (setV (setV (setV (setV (setV (setV (setV (setV (setV (setV (setV (setV e 7 (e 6)) 8 x1) 9 x2) 10 x3) 11 x4) 12 x4) 12 (.bool true)) 13 (e 5)) 12 (.bool true)) 14 (e 1)) 12 (.bool true)) 15 x5) 16 x5), 49, [], h⟩)) (
K (.exit 0) ⟨(setV (setV (setV (setV (setV (setV (setV (setV (setV (setV (setV (setV (setV e 7 (e 6)) 8 x1) 9 x2) 10 x3) 11 x4) 12 x4) 12 (.bool false)) 13 noV) 12 (.bool false)) 14 noV) 12 (.bool false)) 15 noV) 16 (.bool false)), 49, [], h⟩)) := by kernel_rfl
theorem F.law11_Few.L0_x0_eq {e : Env} {h : Heap} {K : Out → Heap → Bool} : F.law11_Few.L0k K (.exit 0) ⟨e, 49, [], h⟩ = (
bindO (binS .leq (e 5) (e 1)) fun x30 =>
K (.ret x30) h) := by kernel_rfl
theorem F.law11_Few_eq {a0 a1 : AV} {h : Heap} {K : Out → Heap → Bool} : evalS Tryz.prog (semCall Tryz.prog) (codeOf Tryz.f11) ⟨mkEnv [a0, a1], 49, [], h⟩ (leaveK Tryz.prog noD Tryz.f11.results.toList K) = (
bindO (boxS a0) fun c0 =>
loopB (evalS Tryz.prog (semCall Tryz.prog) F.law11_Few.L0) ⟨(setV (setV (setV (setV (mkEnv [a0, a1]) 2 (.ptr (Heap.next h) 0)) 4 (.bool false)) 5 (.int .i64 0)) 6 (.int .i64 0)), 49, [], (Heap.alloc h (.cells c0))⟩ (F.law11_Few.L0k K)) := by kernel_rfl
theorem F.law11_Few_sem {a0 a1 : AV} {h : Heap} {K : Out → Heap → Bool} (hh : (
bindO (boxS a0) fun c0 =>
loopB (evalS Tryz.prog (semCall Tryz.prog) F.law11_Few.L0) ⟨(setV (setV (setV (setV (mkEnv [a0, a1]) 2 (.ptr (Heap.next h) 0)) 4 (.bool false)) 5 (.int .i64 0)) 6 (.int .i64 0)), 49, [], (Heap.alloc h (.cells c0))⟩ (F.law11_Few.L0k K)) = true) : Sem Tryz.prog 11 [a0, a1] h K :=
  sem_body mixed (noD_sound _) Tryz.func11 (c := codeOf Tryz.f11) rfl (by decide) (of_decide_eq_true (by kernel_rfl)) (F.law11_Few_eq.trans hh)
noncomputable def F.law11_GateValid.J0 (K : Out → Heap → Bool) (s : St) : Bool := runB (evalS Tryz.prog (semCall Tryz.prog) (partOf (codeOf Tryz.f3) [1, 1, 1, 1, 1])) s (leaveK Tryz.prog noD Tryz.f3.results.toList K)
theorem F.law11_GateValid.J0_eq {e : Env} {h : Heap} {K : Out → Heap → Bool} : F.law11_GateValid.J0 K ⟨e, 27, [], h⟩ = (
bindO (loadS (some 2) (e 1) h) fun x21 =>
semCall Tryz.prog 15 [x21] h (outK (fun x22 h23 =>
bindO (eqV .bool x22 (e 4)) fun x26 =>
condB x26 (
bindO (loadS (some 2) (e 1) h23) fun x27 =>
semCall Tryz.prog 16 [x27] h23 (outK (fun x28 h29 =>
bindO (eqV (.int .i64) x28 (e 3)) fun x32 =>
condB x32 (
semCall Tryz.prog 12 [] h29 (outK (fun x33 h34 =>
K (.ret x33) h34) (fun v35 h36 => K (.panic v35) h36))) (
K (.ret (.bool false)) h29)) (fun v30 h31 => K (.panic v30) h31))) (
K (.ret (.bool false)) h23)) (fun v24 h25 => K (.panic v24) h25))) := (runB_eq _ _ _).trans (by kernel_rfl)
theorem F.law11_GateValid_eq {a0 : AV} {h : Heap} {K : Out → Heap → Bool} : evalS Tryz.prog (semCall Tryz.prog) (codeOf Tryz.f3) ⟨mkEnv [a0], 27, [], h⟩ (leaveK Tryz.prog noD Tryz.f3.results.toList K) = (
bindO (boxS a0) fun c0 =>
bindO (loadS (some 2) (.ptr (Heap.next h) 0) (Heap.alloc h (.cells c0))) fun x1 =>
semCall Tryz.prog 11 [x1, (.int .i64 60000)] (Heap.alloc h (.cells c0)) (outK (fun x2 h3 =>
bindO (unS .not x2) fun x6 =>
condB x6 (
semCall Tryz.prog 12 [] h3 (outK (fun x7 h8 =>
K (.ret x7) h8) (fun v9 h10 => K (.panic v9) h10))) (
bindO (loadS (some 2) (.ptr (Heap.next h) 0) h3) fun x11 =>
semCall Tryz.prog 13 [x11] h3 (outK (fun x12 h13 =>
condB x12 (
bindO (loadS (some 2) (.ptr (Heap.next h) 0) h13) fun x16 =>
semCall Tryz.prog 14 [x16] h13 (outK (fun x17 h18 =>
F.law11_GateValid.J0 K ⟨(setV (setV (setV (setV (setV (setV (setV (setV (setV (setV (setV (setV (setV (mkEnv [a0]) 1 (.ptr (Heap.next h) 0)) 2 (.bool false)) 5 x1) 6 x2) 7 x6) 3 (.int .i64 (-1))) 9 x11) 10 x12) 4 x12) 11 x12) 12 x16) 13 x17) 3 x17), 27, [], h18⟩) (fun v19 h20 => K (.panic v19) h20))) (
F.law11_GateValid.J0 K ⟨(setV (setV (setV (setV (setV (setV (setV (setV (setV (setV (mkEnv [a0]) 1 (.ptr (Heap.next h) 0)) 2 (.bool false)) 5 x1) 6 x2) 7 x6) 3 (.int .i64 (-1))) 9 x11) 10 x12) 4 x12) 11 x12), 27, [], h13⟩)) (fun v14 h15 => K (.panic v14) h15)))) (fun v4 h5 => K (.panic v4) h5))) := by kernel_rfl
theorem F.law11_GateValid_sem {a0 : AV} {h : Heap} {K : Out → Heap → Bool} (hh : (
bindO (boxS a0) fun c0 =>
bindO (loadS (some 2) (.ptr (Heap.next h) 0) (Heap.alloc h (.cells c0))) fun x1 =>
semCall Tryz.prog 11 [x1, (.int .i64 60000)] (Heap.alloc h (.cells c0)) (outK (fun x2 h3 =>
bindO (unS .not x2) fun x6 =>
condB x6 (
semCall Tryz.prog 12 [] h3 (outK (fun x7 h8 =>
K (.ret x7) h8) (fun v9 h10 => K (.panic v9) h10))) (
bindO (loadS (some 2) (.ptr (Heap.next h) 0) h3) fun x11 =>
semCall Tryz.prog 13 [x11] h3 (outK (fun x12 h13 =>
condB x12 (
bindO (loadS (some 2) (.ptr (Heap.next h) 0) h13) fun x16 =>
semCall Tryz.prog 14 [x16] h13 (outK (fun x17 h18 =>
F.law11_GateValid.J0 K ⟨(setV (setV (setV (setV (setV (setV (setV (setV (setV (setV (setV (setV (setV (mkEnv [a0]) 1 (.ptr (Heap.next h) 0)) 2 (.bool false)) 5 x1) 6 x2) 7 x6) 3 (.int .i64 (-1))) 9 x11) 10 x12) 4 x12) 11 x12) 12 x16) 13 x17) 3 x17), 27, [], h18⟩) (fun v19 h20 => K (.panic v19) h20))) (
F.law11_GateValid.J0 K ⟨(setV (setV (setV (setV (setV (setV (setV (setV (setV (setV (mkEnv [a0]) 1 (.ptr (Heap.next h) 0)) 2 (.bool false)) 5 x1) 6 x2) 7 x6) 3 (.int .i64 (-1))) 9 x11) 10 x12) 4 x12) 11 x12), 27, [], h13⟩)) (fun v14 h15 => K (.panic v14) h15)))) (fun v4 h5 => K (.panic v4) h5))) = true) : Sem Tryz.prog 3 [a0] h K :=
  sem_body mixed (noD_sound _) Tryz.func3 (c := codeOf Tryz.f3) rfl (by decide) (of_decide_eq_true (by kernel_rfl)) (F.law11_GateValid_eq.trans hh)
end
end Go.AM
