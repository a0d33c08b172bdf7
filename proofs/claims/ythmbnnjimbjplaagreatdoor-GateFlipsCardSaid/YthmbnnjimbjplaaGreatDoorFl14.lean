/- Parts of a proof, merged out of smaller texts: the abstract machine and what functions do. Conditions: none. -/
import Derived.Test.YthmbnnjimbjplaaGreatDoorFl13
/- What functions of the program do, as terms: printed by a program. Conditions: none. -/
namespace Go.AM
open Go Go.Proofs
set_option linter.unusedVariables false
noncomputable section
noncomputable def F.law01_Few.L0 : Code := partOf (codeOf Tryz.f17) [1, 1, 0, 1, 0, 0]
noncomputable def F.law01_Few.L0k (K : Out → Heap → Bool) : AX → St → Bool := (blockK 0 (seqK false (evalS Tryz.prog (semCall Tryz.prog) (partOf (codeOf Tryz.f17) [1, 1, 1])) (leaveK Tryz.prog noD Tryz.f17.results.toList K)))
noncomputable def F.law01_Few.L1 : Code := partOf (codeOf Tryz.f17) [1, 1, 0, 1, 0, 0, 1, 0, 0, 1, 1, 0, 0]
noncomputable def F.law01_Few.L1k (K : AX → St → Bool) : AX → St → Bool := (blockK 2 (blockK 1 (seqK false (evalS Tryz.prog (semCall Tryz.prog) (partOf (codeOf Tryz.f17) [1, 1, 0, 1, 0, 0, 1, 1])) K)))
noncomputable def F.law01_Few.L2 : Code := partOf (codeOf Tryz.f17) [1, 1, 0, 1, 0, 0, 1, 0, 0, 1, 1, 0, 0, 1, 0, 0, 1, 1, 1, 0, 0]
noncomputable def F.law01_Few.L2k (K : AX → St → Bool) : AX → St → Bool := (blockK 4 (blockK 3 (seqK false (evalS Tryz.prog (semCall Tryz.prog) (partOf (codeOf Tryz.f17) [1, 1, 0, 1, 0, 0, 1, 0, 0, 1, 1, 0, 0, 1, 1])) K)))
theorem F.law01_Few.L0_eq {e : Env} {h : Heap} {K : AX → St → Bool} : evalS Tryz.prog (semCall Tryz.prog) F.law01_Few.L0 ⟨e, 89, [], h⟩ K = (
bindO (lenS .slice (e 0) h) fun x0 =>
bindO (binS .lss (e 5) x0) fun x1 =>
condB x1 (
bindO (iaS 2 (e 0) (e 5)) fun x2 =>
bindO (faS 1 x2) fun x3 =>
bindO (loadS none x3 h) fun x4 =>
bindO (lenS .slice x4 h) fun x5 =>
bindO (binS .gtr x5 (.int .i64 12)) fun x6 =>
condB x6 (
K .ret ⟨(setV (setV (setV (setV (setV (setV (setV (setV (setV (setV (setV (setV e 8 (e 5)) 9 (e 0)) 10 x0) 11 x1) 14 (e 0)) 15 (e 5)) 16 x2) 17 x3) 18 x4) 19 x5) 20 x6) 2 (.bool false)), 89, [], h⟩) (
loopB (evalS Tryz.prog (semCall Tryz.prog) F.law01_Few.L1) ⟨(setV (setV (setV (setV (setV (setV (setV (setV (setV (setV (setV (setV e 8 (e 5)) 9 (e 0)) 10 x0) 11 x1) 14 (e 0)) 15 (e 5)) 16 x2) 17 x3) 18 x4) 19 x5) 20 x6) 6 (.int .i64 0)), 89, [], h⟩ (F.law01_Few.L1k K))) (
K (.exit 0) ⟨(setV (setV (setV (setV e 8 (e 5)) 9 (e 0)) 10 x0) 11 x1), 89, [], h⟩)) := by kernel_rfl
theorem F.law01_Few.L0_x0_eq {e : Env} {h : Heap} {K : Out → Heap → Bool} : F.law01_Few.L0k K (.exit 0) ⟨e, 89, [], h⟩ = (
bindO (binS .leq (e 4) (.int .i64 20000)) fun x7 =>
K (.ret x7) h) := by kernel_rfl
theorem F.law01_Few.L0_r_eq {e : Env} {h : Heap} {K : Out → Heap → Bool} : F.law01_Few.L0k K .ret ⟨e, 89, [], h⟩ = (
K (.ret (e 2)) h) := by kernel_rfl
theorem F.law01_Few.L1_eq {e : Env} {h : Heap} {K : AX → St → Bool} : evalS Tryz.prog (semCall Tryz.prog) F.law01_Few.L1 ⟨e, 89, [], h⟩ K = (
bindO (iaS 2 (e 0) (e 5)) fun x8 =>
bindO (faS 1 x8) fun x9 =>
bindO (loadS none x9 h) fun x10 =>
bindO (lenS .slice x10 h) fun x11 =>
bindO (binS .lss (e 6) x11) fun x12 =>
condB x12 (
bindO (iaS 2 (e 0) (e 5)) fun x13 =>
bindO (faS 1 x13) fun x14 =>
bindO (loadS none x14 h) fun x15 =>
bindO (iaS 3 x15 (e 6)) fun x16 =>
bindO (faS 2 x16) fun x17 =>
bindO (loadS none x17 h) fun x18 =>
bindO (lenS .slice x18 h) fun x19 =>
bindO (binS .add (e 3) x19) fun x20 =>
bindO (binS .gtr x20 (.int .i64 1500)) fun x21 =>
condB x21 (
K .ret ⟨(setV (setV (setV (setV (setV (setV (setV (setV (setV (setV (setV (setV (setV (setV (setV (setV (setV (setV (setV (setV (setV (setV (setV (setV (setV (setV (setV (setV (setV (setV (setV (setV (setV (setV (setV (setV (setV (setV (setV (setV (setV (setV (setV (setV (setV (setV (setV (setV e 21 (e 6)) 22 (e 0)) 23 (e 5)) 24 x8) 25 x9) 26 x10) 27 x11) 28 x12) 31 (e 3)) 32 (e 0)) 33 (e 5)) 34 x13) 35 x14) 36 x15) 37 (e 6)) 38 x16) 39 x17) 40 x18) 41 x19) 42 x20) 3 x20) 43 x20) 44 x21) 45 x21) 45 (.bool true)) 46 noV) 45 (.bool true)) 47 noV) 45 (.bool true)) 48 noV) 45 (.bool true)) 49 noV) 45 (.bool true)) 50 noV) 45 (.bool true)) 51 noV) 45 (.bool true)) 52 noV) 45 (.bool true)) 53 noV) 45 (.bool true)) 54 noV) 45 (.bool true)) 55 noV) 45 (.bool true)) 56 noV) 57 (.bool true)) 2 (.bool false)), 89, [], h⟩) (
bindO (iaS 2 (e 0) (e 5)) fun x22 =>
bindO (faS 1 x22) fun x23 =>
bindO (loadS none x23 h) fun x24 =>
bindO (iaS 3 x24 (e 6)) fun x25 =>
bindO (faS 0 x25) fun x26 =>
bindO (loadS none x26 h) fun x27 =>
bindO (lenS .str x27 h) fun x28 =>
bindO (binS .gtr x28 (.int .i64 1000)) fun x29 =>
condB x29 (
K .ret ⟨(setV (setV (setV (setV (setV (setV (setV (setV (setV (setV (setV (setV (setV (setV (setV (setV (setV (setV (setV (setV (setV (setV (setV (setV (setV (setV (setV (setV (setV (setV (setV (setV (setV (setV (setV (setV (setV (setV (setV (setV (setV (setV (setV (setV (setV (setV (setV (setV e 21 (e 6)) 22 (e 0)) 23 (e 5)) 24 x8) 25 x9) 26 x10) 27 x11) 28 x12) 31 (e 3)) 32 (e 0)) 33 (e 5)) 34 x13) 35 x14) 36 x15) 37 (e 6)) 38 x16) 39 x17) 40 x18) 41 x19) 42 x20) 3 x20) 43 x20) 44 x21) 45 x21) 45 (.bool false)) 46 (e 0)) 45 (.bool false)) 47 (e 5)) 45 (.bool false)) 48 x22) 45 (.bool false)) 49 x23) 45 (.bool false)) 50 x24) 45 (.bool false)) 51 (e 6)) 45 (.bool false)) 52 x25) 45 (.bool false)) 53 x26) 45 (.bool false)) 54 x27) 45 (.bool false)) 55 x28) 45 (.bool false)) 56 x29) 57 x29) 2 (.bool false)), 89, [], h⟩) (
loopB (evalS Tryz.prog (semCall Tryz.prog) F.law01_Few.L2) ⟨(setV (setV (setV (setV (setV (setV (setV (setV (setV (setV (setV (setV (setV (setV (setV (setV (setV (setV (setV (setV (setV (setV (setV (setV (setV (setV (setV (setV (setV (setV (setV (setV (setV (setV (setV (setV (setV (setV (setV (setV (setV (setV (setV (setV (setV (setV (setV (setV e 21 (e 6)) 22 (e 0)) 23 (e 5)) 24 x8) 25 x9) 26 x10) 27 x11) 28 x12) 31 (e 3)) 32 (e 0)) 33 (e 5)) 34 x13) 35 x14) 36 x15) 37 (e 6)) 38 x16) 39 x17) 40 x18) 41 x19) 42 x20) 3 x20) 43 x20) 44 x21) 45 x21) 45 (.bool false)) 46 (e 0)) 45 (.bool false)) 47 (e 5)) 45 (.bool false)) 48 x22) 45 (.bool false)) 49 x23) 45 (.bool false)) 50 x24) 45 (.bool false)) 51 (e 6)) 45 (.bool false)) 52 x25) 45 (.bool false)) 53 x26) 45 (.bool false)) 54 x27) 45 (.bool false)) 55 x28) 45 (.bool false)) 56 x29) 57 x29) 7 (.int .i64 0)), 89, [], h⟩ (F.law01_Few.L2k K)))) (
K (.exit 2) ⟨(setV (setV (setV (setV (setV (setV (setV (setV e 21 (e 6)) 22 (e 0)) 23 (e 5)) 24 x8) 25 x9) 26 x10) 27 x11) 28 x12), 89, [], h⟩)) := by kernel_rfl
theorem F.law01_Few.L1_x2_eq {e : Env} {h : Heap} {K : AX → St → Bool} : F.law01_Few.L1k K (.exit 2) ⟨e, 89, [], h⟩ = (
bindO (binS .add (e 5) (.int .i64 1)) fun x30 =>
K .normal ⟨(setV (setV (setV e 12 (e 5)) 13 x30) 5 x30), 89, [], h⟩) := by kernel_rfl
theorem F.law01_Few.L1_r_eq {e : Env} {h : Heap} {K : AX → St → Bool} : F.law01_Few.L1k K .ret ⟨e, 89, [], h⟩ = (
K .ret ⟨e, 89, [], h⟩) := by kernel_rfl
theorem F.law01_Few.L2_eq {e : Env} {h : Heap} {K : AX → St → Bool} : evalS Tryz.prog (semCall Tryz.prog) F.law01_Few.L2 ⟨e, 89, [], h⟩ K = (
bindO (iaS 2 (e 0) (e 5)) fun x31 =>
bindO (faS 1 x31) fun x32 =>
bindO (loadS none x32 h) fun x33 =>
bindO (iaS 3 x33 (e 6)) fun x34 =>
bindO (faS 2 x34) fun x35 =>
bindO (loadS none x35 h) fun x36 =>
bindO (lenS .slice x36 h) fun x37 =>
bindO (binS .lss (e 7) x37) fun x38 =>
condB x38 (
bindO (iaS 2 (e 0) (e 5)) fun x39 =>
bindO (faS 1 x39) fun x40 =>
bindO (loadS none x40 h) fun x41 =>
bindO (iaS 3 x41 (e 6)) fun x42 =>
bindO (faS 2 x42) fun x43 =>
bindO (loadS none x43 h) fun x44 =>
bindO (iaS 1 x44 (e 7)) fun x45 =>
bindO (loadS none x45 h) fun x46 =>
bindO (lenS .slice x46 h) fun x47 =>
bindO (binS .add (e 4) x47) fun x48 =>
bindO (binS .add (e 7) (.int .i64 1)) fun x49 =>
K .normal ⟨(setV (setV (setV (setV (setV (setV (setV (setV (setV (setV (setV (setV (setV (setV (setV (setV (setV (setV (setV (setV (setV (setV (setV (setV (setV (setV (setV (setV (setV (setV (setV e 58 (e 7)) 59 (e 0)) 60 (e 5)) 61 x31) 62 x32) 63 x33) 64 (e 6)) 65 x34) 66 x35) 67 x36) 68 x37) 69 x38) 72 (e 4)) 73 (e 0)) 74 (e 5)) 75 x39) 76 x40) 77 x41) 78 (e 6)) 79 x42) 80 x43) 81 x44) 82 (e 7)) 83 x45) 84 x46) 85 x47) 86 x48) 4 x48) 70 (e 7)) 71 x49) 7 x49), 89, [], h⟩) (
K (.exit 4) ⟨(setV (setV (setV (setV (setV (setV (setV (setV (setV (setV (setV (setV e 58 (e 7)) 59 (e 0)) 60 (e 5)) 61 x31) 62 x32) 63 x33) 64 (e 6)) 65 x34) 66 x35) 67 x36) 68 x37) 69 x38), 89, [], h⟩)) := by kernel_rfl
theorem F.law01_Few.L2_x4_eq {e : Env} {h : Heap} {K : AX → St → Bool} : F.law01_Few.L2k K (.exit 4) ⟨e, 89, [], h⟩ = (
bindO (binS .add (e 6) (.int .i64 1)) fun x50 =>
K .normal ⟨(setV (setV (setV e 29 (e 6)) 30 x50) 6 x50), 89, [], h⟩) := by kernel_rfl
theorem F.law01_Few_eq {a0 : AV} {h : Heap} {K : Out → Heap → Bool} : evalS Tryz.prog (semCall Tryz.prog) (codeOf Tryz.f17) ⟨mkEnv [a0], 89, [], h⟩ (leaveK Tryz.prog noD Tryz.f17.results.toList K) = (
loopB (evalS Tryz.prog (semCall Tryz.prog) F.law01_Few.L0) ⟨(setV (setV (setV (setV (mkEnv [a0]) 2 (.bool false)) 3 (.int .i64 0)) 4 (.int .i64 0)) 5 (.int .i64 0)), 89, [], h⟩ (F.law01_Few.L0k K)) := by kernel_rfl
theorem F.law01_Few_sem {a0 : AV} {h : Heap} {K : Out → Heap → Bool} (hh : (
loopB (evalS Tryz.prog (semCall Tryz.prog) F.law01_Few.L0) ⟨(setV (setV (setV (setV (mkEnv [a0]) 2 (.bool false)) 3 (.int .i64 0)) 4 (.int .i64 0)) 5 (.int .i64 0)), 89, [], h⟩ (F.law01_Few.L0k K)) = true) : Sem Tryz.prog 17 [a0] h K :=
  sem_body mixed (noD_sound _) Tryz.func17 (c := codeOf Tryz.f17) rfl (by decide) (of_decide_eq_true (by kernel_rfl)) (F.law01_Few_eq.trans hh)
theorem F.ref11_Check_eq {a0 a1 : AV} {h : Heap} {K : Out → Heap → Bool} : evalS Tryz.prog (semCall Tryz.prog) (codeOf Tryz.f19) ⟨mkEnv [a0, a1], 26, [], h⟩ (leaveK Tryz.prog noD Tryz.f19.results.toList K) = (
bindO (boxS a0) fun c0 =>
bindO (boxS a1) fun c1 =>
bindO (loadS (some 2) (.ptr (Heap.next h) 0) (Heap.alloc (Heap.alloc h (.cells c0)) (.cells c1))) fun x2 =>
semCall Tryz.prog 13 [x2] (Heap.alloc (Heap.alloc h (.cells c0)) (.cells c1)) (outK (fun x3 h4 =>
bindO (unS .not x3) fun x7 =>
condB x7 (
K (.ret (.int .i64 1)) h4) (
bindO (loadS (some 2) (.ptr (Heap.next (Heap.alloc h (.cells c0))) 0) h4) fun x8 =>
semCall Tryz.prog 58 [x8] h4 (outK (fun x9 h10 =>
bindO (unS .not x9) fun x13 =>
condB x13 (
K (.ret (.int .i64 1)) h10) (
bindO (faS 0 (.ptr (Heap.next h) 0)) fun x14 =>
bindO (loadS none x14 h10) fun x15 =>
bindO (faS 0 (.ptr (Heap.next (Heap.alloc h (.cells c0))) 0)) fun x16 =>
bindO (loadS none x16 h10) fun x17 =>
bindO (neV (.int .i64) x15 x17) fun x18 =>
condB x18 (
K (.ret (.int .i64 2)) h10) (
bindO (loadS (some 2) (.ptr (Heap.next (Heap.alloc h (.cells c0))) 0) h10) fun x19 =>
bindO (loadS (some 2) (.ptr (Heap.next h) 0) h10) fun x20 =>
semCall Tryz.prog 29 [x20] h10 (outK (fun x21 h22 =>
if ((bindO (loadS (some 2) (.ptr (Heap.next (Heap.alloc h (.cells c0))) 0) h22) fun x23 =>
AV.beq x23 x19) && true) = true then (
semCall Tryz.prog 59 [x19, x21] h22 (outK (fun x24 h25 =>
bindO (unS .not x24) fun x26 =>
condB x26 (
K (.ret (.int .i64 4)) h25) (
K (.ret (.int .i64 0)) h25)) (fun _ _ => false))) else false) (fun _ _ => false))))) (fun v11 h12 => K (.panic v11) h12)))) (fun v5 h6 => K (.panic v5) h6))) := by kernel_rfl
theorem F.ref11_Check_sem {a0 a1 : AV} {h : Heap} {K : Out → Heap → Bool} (hh : (
bindO (boxS a0) fun c0 =>
bindO (boxS a1) fun c1 =>
bindO (loadS (some 2) (.ptr (Heap.next h) 0) (Heap.alloc (Heap.alloc h (.cells c0)) (.cells c1))) fun x2 =>
semCall Tryz.prog 13 [x2] (Heap.alloc (Heap.alloc h (.cells c0)) (.cells c1)) (outK (fun x3 h4 =>
bindO (unS .not x3) fun x7 =>
condB x7 (
K (.ret (.int .i64 1)) h4) (
bindO (loadS (some 2) (.ptr (Heap.next (Heap.alloc h (.cells c0))) 0) h4) fun x8 =>
semCall Tryz.prog 58 [x8] h4 (outK (fun x9 h10 =>
bindO (unS .not x9) fun x13 =>
condB x13 (
K (.ret (.int .i64 1)) h10) (
bindO (faS 0 (.ptr (Heap.next h) 0)) fun x14 =>
bindO (loadS none x14 h10) fun x15 =>
bindO (faS 0 (.ptr (Heap.next (Heap.alloc h (.cells c0))) 0)) fun x16 =>
bindO (loadS none x16 h10) fun x17 =>
bindO (neV (.int .i64) x15 x17) fun x18 =>
condB x18 (
K (.ret (.int .i64 2)) h10) (
bindO (loadS (some 2) (.ptr (Heap.next (Heap.alloc h (.cells c0))) 0) h10) fun x19 =>
bindO (loadS (some 2) (.ptr (Heap.next h) 0) h10) fun x20 =>
semCall Tryz.prog 29 [x20] h10 (outK (fun x21 h22 =>
if ((bindO (loadS (some 2) (.ptr (Heap.next (Heap.alloc h (.cells c0))) 0) h22) fun x23 =>
AV.beq x23 x19) && true) = true then (
semCall Tryz.prog 59 [x19, x21] h22 (outK (fun x24 h25 =>
bindO (unS .not x24) fun x26 =>
condB x26 (
K (.ret (.int .i64 4)) h25) (
K (.ret (.int .i64 0)) h25)) (fun _ _ => false))) else false) (fun _ _ => false))))) (fun v11 h12 => K (.panic v11) h12)))) (fun v5 h6 => K (.panic v5) h6))) = true) : Sem Tryz.prog 19 [a0, a1] h K :=
  sem_body mixed (noD_sound _) Tryz.func19 (c := codeOf Tryz.f19) rfl (by decide) (of_decide_eq_true (by kernel_rfl)) (F.ref11_Check_eq.trans hh)
noncomputable def F.ref11_Run.L0 : Code := partOf (codeOf Tryz.f20) [1, 1, 1, 0, 1, 0, 0]
noncomputable def F.ref11_Run.L0k (K : Out → Heap → Bool) : AX → St → Bool := (blockK 0 (seqK false (evalS Tryz.prog (semCall Tryz.prog) (partOf (codeOf Tryz.f20) [1, 1, 1, 1])) (leaveK Tryz.prog noD Tryz.f20.results.toList K)))
noncomputable def F.ref11_Run.L1 : Code := partOf (codeOf Tryz.f20) [1, 1, 1, 0, 1, 0, 0, 1, 0, 0, 1, 1, 0, 1, 1, 1, 0, 1, 1, 0, 0]
noncomputable def F.ref11_Run.L1k (K : AX → St → Bool) : AX → St → Bool := (blockK 5 (blockK 2 (blockK 1 (seqK false (evalS Tryz.prog (semCall Tryz.prog) (partOf (codeOf Tryz.f20) [1, 1, 1, 0, 1, 0, 0, 1, 1])) K))))
noncomputable def F.ref11_Run.L2 : Code := partOf (codeOf Tryz.f20) [1, 1, 1, 0, 1, 0, 0, 1, 0, 0, 1, 1, 0, 1, 1, 1, 1, 1, 1, 1, 1, 0, 0]
noncomputable def F.ref11_Run.L2k (K : AX → St → Bool) : AX → St → Bool := (blockK 3 (blockK 2 (blockK 1 (seqK false (evalS Tryz.prog (semCall Tryz.prog) (partOf (codeOf Tryz.f20) [1, 1, 1, 0, 1, 0, 0, 1, 1])) K))))
theorem F.ref11_Run.L0_eq {e : Env} {h : Heap} {K : AX → St → Bool} : evalS Tryz.prog (semCall Tryz.prog) F.ref11_Run.L0 ⟨e, 123, [], h⟩ K = (
bindO (faS 1 (e 2)) fun x12 =>
bindO (loadS none x12 h) fun x13 =>
bindO (lenS .slice x13 h) fun x14 =>
bindO (binS .lss (e 7) x14) fun x15 =>
condB x15 (
bindO (faS 1 (e 2)) fun x16 =>
bindO (loadS none x16 h) fun x17 =>
bindO (iaS 4 x17 (e 7)) fun x18 =>
bindO (loadS (some 4) x18 h) fun x19 =>
bindO (storeS 4 (.ptr (Heap.next h) 0) x19 (Heap.alloc h (.cells [(.int .i64 0), (.str []), .nils, .nils]))) fun h20 =>
bindO (faS 0 (.ptr (Heap.next h) 0)) fun x21 =>
bindO (loadS none x21 h20) fun x22 =>
bindO (eqV (.int .i64) x22 (.int .i64 0)) fun x23 =>
condB x23 (
bindO (iaS 1 (e 5) (e 7)) fun x24 =>
bindO (storeS 1 x24 (.bool true) h20) fun h25 =>
bindO (binS .add (e 7) (.int .i64 1)) fun x26 =>
K .normal ⟨(setV (setV (setV (setV (setV (setV (setV (setV (setV (setV (setV (setV (setV (setV (setV (setV (setV (setV (setV (setV (setV e 19 (e 7)) 20 x12) 21 x13) 22 x14) 23 x15) 26 x16) 27 x17) 28 (e 7)) 29 x18) 30 x19) 8 (.ptr (Heap.next h) 0)) 31 x21) 32 x22) 65 x23) 64 x23) 66 (e 5)) 67 (e 7)) 68 x24) 24 (e 7)) 25 x26) 7 x26), 123, [], h25⟩) (
bindO (eqV (.int .i64) x22 (.int .i64 1)) fun x27 =>
condB x27 (
bindO (faS 0 (e 3)) fun x28 =>
bindO (loadS none x28 h20) fun x29 =>
bindO (faS 2 (.ptr (Heap.next h) 0)) fun x30 =>
bindO (loadS none x30 h20) fun x31 =>
semCall Tryz.prog 61 [x29, x31] h20 (outK (fun x32 h33 =>
bindO (extractS x32 0) fun x36 =>
bindO (extractS x32 1) fun x37 =>
loopB (evalS Tryz.prog (semCall Tryz.prog) F.ref11_Run.L1) ⟨(setV (setV (setV (setV (setV (setV (setV (setV (setV (setV (setV (setV (setV (setV (setV (setV (setV (setV (setV (setV (setV (setV (setV (setV (setV (setV (setV (setV e 19 (e 7)) 20 x12) 21 x13) 22 x14) 23 x15) 26 x16) 27 x17) 28 (e 7)) 29 x18) 30 x19) 8 (.ptr (Heap.next h) 0)) 31 x21) 32 x22) 65 x23) 64 x23) 70 x27) 69 x27) 72 x28) 73 x29) 74 x30) 75 x31) 76 x32) 71 x32) 77 x36) 78 x37) 9 x36) 10 x37) 11 (.int .i64 0)), 123, [], h33⟩ (F.ref11_Run.L1k K)) (fun v34 h35 => K (.panic v34) ⟨(setV (setV (setV (setV (setV (setV (setV (setV (setV (setV (setV (setV (setV (setV (setV (setV (setV (setV (setV (setV (setV e 19 (e 7)) 20 x12) 21 x13) 22 x14) 23 x15) 26 x16) 27 x17) 28 (e 7)) 29 x18) 30 x19) 8 (.ptr (Heap.next h) 0)) 31 x21) 32 x22) 65 x23) 64 x23) 70 x27) 69 x27) 72 x28) 73 x29) 74 x30) 75 x31), 123, [], h35⟩))) (
bindO (eqV (.int .i64) x22 (.int .i64 2)) fun x38 =>
condB x38 (
bindO (faS 3 (.ptr (Heap.next h) 0)) fun x39 =>
bindO (loadS none x39 h20) fun x40 =>
bindO (iaS 1 x40 (.int .i64 0)) fun x41 =>
bindO (loadS none x41 h20) fun x42 =>
bindO (iaS 1 (e 5) x42) fun x43 =>
bindO (loadS none x43 h20) fun x44 =>
bindO (unS .not x44) fun x45 =>
bindO (iaS 1 (e 5) (e 7)) fun x46 =>
bindO (storeS 1 x46 x45 h20) fun h47 =>
bindO (binS .add (e 7) (.int .i64 1)) fun x48 =>
K .normal ⟨(setV (setV (setV (setV (setV (setV (setV (setV (setV (setV (setV (setV (setV (setV (setV (setV (setV (setV (setV (setV (setV (setV (setV (setV (setV (setV (setV (setV (setV (setV (setV (setV (setV e 19 (e 7)) 20 x12) 21 x13) 22 x14) 23 x15) 26 x16) 27 x17) 28 (e 7)) 29 x18) 30 x19) 8 (.ptr (Heap.next h) 0)) 31 x21) 32 x22) 65 x23) 64 x23) 70 x27) 69 x27) 105 x38) 104 x38) 106 (e 5)) 107 (e 7)) 108 (e 5)) 109 x39) 110 x40) 111 x41) 112 x42) 113 x43) 114 x44) 115 x45) 116 x46) 24 (e 7)) 25 x48) 7 x48), 123, [], h47⟩) (
bindO (faS 0 (.ptr (Heap.next h) 0)) fun x49 =>
bindO (loadS none x49 h20) fun x50 =>
bindO (eqV (.int .i64) x50 (.int .i64 3)) fun x51 =>
bindO (iaS 1 (e 5) (e 7)) fun x52 =>
bindO (storeS 1 x52 x51 h20) fun h53 =>
loopB (evalS Tryz.prog (semCall Tryz.prog) F.ref11_Run.L2) ⟨(setV (setV (setV (setV (setV (setV (setV (setV (setV (setV (setV (setV (setV (setV (setV (setV (setV (setV (setV (setV (setV (setV (setV (setV (setV (setV e 19 (e 7)) 20 x12) 21 x13) 22 x14) 23 x15) 26 x16) 27 x17) 28 (e 7)) 29 x18) 30 x19) 8 (.ptr (Heap.next h) 0)) 31 x21) 32 x22) 65 x23) 64 x23) 70 x27) 69 x27) 105 x38) 104 x38) 33 (e 5)) 34 (e 7)) 35 x49) 36 x50) 37 x51) 38 x52) 12 (.int .i64 0)), 123, [], h53⟩ (F.ref11_Run.L2k K))))) (
K (.exit 0) ⟨(setV (setV (setV (setV (setV e 19 (e 7)) 20 x12) 21 x13) 22 x14) 23 x15), 123, [], h⟩)) := by kernel_rfl
theorem F.ref11_Run.L0_x0_eq {e : Env} {h : Heap} {K : Out → Heap → Bool} : F.ref11_Run.L0k K (.exit 0) ⟨e, 123, [], h⟩ = (
bindO (lenS .slice (e 5) h) fun x54 =>
bindO (binS .sub x54 (.int .i64 1)) fun x55 =>
bindO (iaS 1 (e 5) x55) fun x56 =>
bindO (loadS none x56 h) fun x57 =>
K (.ret x57) h) := by kernel_rfl
theorem F.ref11_Run.L1_eq {e : Env} {h : Heap} {K : AX → St → Bool} : evalS Tryz.prog (semCall Tryz.prog) F.ref11_Run.L1 ⟨e, 123, [], h⟩ K = (
bindO (lenS .slice (e 6) h) fun x58 =>
bindO (binS .lss (e 11) x58) fun x59 =>
condB x59 (
bindO (iaS 3 (e 6) (e 11)) fun x60 =>
bindO (faS 0 x60) fun x61 =>
bindO (loadS none x61 h) fun x62 =>
bindO (faS 1 (e 8)) fun x63 =>
bindO (loadS none x63 h) fun x64 =>
bindO (eqV .string x62 x64) fun x65 =>
condB x65 (
bindO (iaS 3 (e 6) (e 11)) fun x66 =>
bindO (faS 2 x66) fun x67 =>
bindO (loadS none x67 h) fun x68 =>
bindO (iaS 1 x68 (e 9)) fun x69 =>
bindO (loadS none x69 h) fun x70 =>
bindO (iaS 1 (e 5) (e 7)) fun x71 =>
bindO (storeS 1 x71 x70 h) fun h72 =>
bindO (binS .add (e 11) (.int .i64 1)) fun x73 =>
K .normal ⟨(setV (setV (setV (setV (setV (setV (setV (setV (setV (setV (setV (setV (setV (setV (setV (setV (setV (setV (setV (setV (setV (setV (setV (setV (setV (setV e 79 (e 11)) 80 (e 6)) 81 x58) 82 x59) 85 (e 6)) 86 (e 11)) 87 x60) 88 x61) 89 x62) 90 x63) 91 x64) 92 x65) 93 (e 5)) 94 (e 7)) 95 (e 6)) 96 (e 11)) 97 x66) 98 x67) 99 x68) 100 (e 9)) 101 x69) 102 x70) 103 x71) 83 (e 11)) 84 x73) 11 x73), 123, [], h72⟩) (
bindO (binS .add (e 11) (.int .i64 1)) fun x74 =>
K .normal ⟨(setV (setV (setV (setV (setV (setV (setV (setV (setV (setV (setV (setV (setV (setV (setV e 79 (e 11)) 80 (e 6)) 81 x58) 82 x59) 85 (e 6)) 86 (e 11)) 87 x60) 88 x61) 89 x62) 90 x63) 91 x64) 92 x65) 83 (e 11)) 84 x74) 11 x74), 123, [], h⟩)) (
K (.exit 5) ⟨(setV (setV (setV (setV e 79 (e 11)) 80 (e 6)) 81 x58) 82 x59), 123, [], h⟩)) := by kernel_rfl
theorem F.ref11_Run.L1_x5_eq {e : Env} {h : Heap} {K : AX → St → Bool} : F.ref11_Run.L1k K (.exit 5) ⟨e, 123, [], h⟩ = (
bindO (binS .add (e 7) (.int .i64 1)) fun x75 =>
K .normal ⟨(setV (setV (setV e 24 (e 7)) 25 x75) 7 x75), 123, [], h⟩) := by kernel_rfl
theorem F.ref11_Run.L2_eq {e : Env} {h : Heap} {K : AX → St → Bool} : evalS Tryz.prog (semCall Tryz.prog) F.ref11_Run.L2 ⟨e, 123, [], h⟩ K = (
bindO (faS 3 (e 8)) fun x76 =>
bindO (loadS none x76 h) fun x77 =>
bindO (lenS .slice x77 h) fun x78 =>
bindO (binS .lss (e 12) x78) fun x79 =>
condB x79 (
bindO (faS 3 (e 8)) fun x80 =>
bindO (loadS none x80 h) fun x81 =>
bindO (iaS 1 x81 (e 12)) fun x82 =>
bindO (loadS none x82 h) fun x83 =>
bindO (iaS 1 (e 5) x83) fun x84 =>
bindO (loadS none x84 h) fun x85 =>
bindO (faS 0 (e 8)) fun x86 =>
bindO (loadS none x86 h) fun x87 =>
bindO (eqV (.int .i64) x87 (.int .i64 3)) fun x88 =>
bindO (neV .bool x85 x88) fun x89 =>
condB x89 (
bindO (faS 0 (e 8)) fun x90 =>
bindO (loadS none x90 h) fun x91 =>
bindO (eqV (.int .i64) x91 (.int .i64 4)) fun x92 =>
bindO (iaS 1 (e 5) (e 7)) fun x93 =>
bindO (storeS 1 x93 x92 h) fun h94 =>
bindO (binS .add (e 12) (.int .i64 1)) fun x95 =>
K .normal ⟨(setV (setV (setV (setV (setV (setV (setV (setV (setV (setV (setV (setV (setV (setV (setV (setV (setV (setV (setV (setV (setV (setV (setV (setV (setV (setV e 39 (e 12)) 40 x76) 41 x77) 42 x78) 43 x79) 46 (e 5)) 47 x80) 48 x81) 49 (e 12)) 50 x82) 51 x83) 52 x84) 53 x85) 54 x86) 55 x87) 56 x88) 57 x89) 58 (e 5)) 59 (e 7)) 60 x90) 61 x91) 62 x92) 63 x93) 44 (e 12)) 45 x95) 12 x95), 123, [], h94⟩) (
bindO (binS .add (e 12) (.int .i64 1)) fun x96 =>
K .normal ⟨(setV (setV (setV (setV (setV (setV (setV (setV (setV (setV (setV (setV (setV (setV (setV (setV (setV (setV (setV (setV e 39 (e 12)) 40 x76) 41 x77) 42 x78) 43 x79) 46 (e 5)) 47 x80) 48 x81) 49 (e 12)) 50 x82) 51 x83) 52 x84) 53 x85) 54 x86) 55 x87) 56 x88) 57 x89) 44 (e 12)) 45 x96) 12 x96), 123, [], h⟩)) (
K (.exit 3) ⟨(setV (setV (setV (setV (setV e 39 (e 12)) 40 x76) 41 x77) 42 x78) 43 x79), 123, [], h⟩)) := by kernel_rfl
theorem F.ref11_Run.L2_x3_eq {e : Env} {h : Heap} {K : AX → St → Bool} : F.ref11_Run.L2k K (.exit 3) ⟨e, 123, [], h⟩ = (
bindO (binS .add (e 7) (.int .i64 1)) fun x97 =>
K .normal ⟨(setV (setV (setV e 24 (e 7)) 25 x97) 7 x97), 123, [], h⟩) := by kernel_rfl
theorem F.ref11_Run_eq {a0 a1 : AV} {h : Heap} {K : Out → Heap → Bool} : evalS Tryz.prog (semCall Tryz.prog) (codeOf Tryz.f20) ⟨mkEnv [a0, a1], 123, [], h⟩ (leaveK Tryz.prog noD Tryz.f20.results.toList K) = (
bindO (boxS a0) fun c0 =>
bindO (boxS a1) fun c1 =>
bindO (faS 1 (.ptr (Heap.next h) 0)) fun x2 =>
bindO (loadS none x2 (Heap.alloc (Heap.alloc h (.cells c0)) (.cells c1))) fun x3 =>
bindO (lenS .slice x3 (Heap.alloc (Heap.alloc h (.cells c0)) (.cells c1))) fun x4 =>
bindO2 (makeSliceS 1 1 [(.bool false)] x4 x4 (Heap.alloc (Heap.alloc h (.cells c0)) (.cells c1))) fun x5 h6 =>
bindO (loadS (some 2) (.ptr (Heap.next (Heap.alloc h (.cells c0))) 0) h6) fun x7 =>
semCall Tryz.prog 60 [x7] h6 (outK (fun x8 h9 =>
loopB (evalS Tryz.prog (semCall Tryz.prog) F.ref11_Run.L0) ⟨(setV (setV (setV (setV (setV (setV (setV (setV (setV (setV (setV (setV (mkEnv [a0, a1]) 2 (.ptr (Heap.next h) 0)) 3 (.ptr (Heap.next (Heap.alloc h (.cells c0))) 0)) 4 (.bool false)) 13 x2) 14 x3) 15 x4) 16 x5) 5 x5) 17 x7) 18 x8) 6 x8) 7 (.int .i64 0)), 123, [], h9⟩ (F.ref11_Run.L0k K)) (fun v10 h11 => K (.panic v10) h11))) := by kernel_rfl
theorem F.ref11_Run_sem {a0 a1 : AV} {h : Heap} {K : Out → Heap → Bool} (hh : (
bindO (boxS a0) fun c0 =>
bindO (boxS a1) fun c1 =>
bindO (faS 1 (.ptr (Heap.next h) 0)) fun x2 =>
bindO (loadS none x2 (Heap.alloc (Heap.alloc h (.cells c0)) (.cells c1))) fun x3 =>
bindO (lenS .slice x3 (Heap.alloc (Heap.alloc h (.cells c0)) (.cells c1))) fun x4 =>
bindO2 (makeSliceS 1 1 [(.bool false)] x4 x4 (Heap.alloc (Heap.alloc h (.cells c0)) (.cells c1))) fun x5 h6 =>
bindO (loadS (some 2) (.ptr (Heap.next (Heap.alloc h (.cells c0))) 0) h6) fun x7 =>
semCall Tryz.prog 60 [x7] h6 (outK (fun x8 h9 =>
loopB (evalS Tryz.prog (semCall Tryz.prog) F.ref11_Run.L0) ⟨(setV (setV (setV (setV (setV (setV (setV (setV (setV (setV (setV (setV (mkEnv [a0, a1]) 2 (.ptr (Heap.next h) 0)) 3 (.ptr (Heap.next (Heap.alloc h (.cells c0))) 0)) 4 (.bool false)) 13 x2) 14 x3) 15 x4) 16 x5) 5 x5) 17 x7) 18 x8) 6 x8) 7 (.int .i64 0)), 123, [], h9⟩ (F.ref11_Run.L0k K)) (fun v10 h11 => K (.panic v10) h11))) = true) : Sem Tryz.prog 20 [a0, a1] h K :=
  sem_body mixed (noD_sound _) Tryz.func20 (c := codeOf Tryz.f20) rfl (by decide) (of_decide_eq_true (by kernel_rfl)) (F.ref11_Run_eq.trans hh)
noncomputable def F.ref11_Symbols.L0 : Code := partOf (codeOf Tryz.f29) [1, 1, 1, 0, 1, 0, 0]
noncomputable def F.ref11_Symbols.L0k (K : Out → Heap → Bool) : AX → St → Bool := (blockK 0 (seqK false (evalS Tryz.prog (semCall Tryz.prog) (partOf (codeOf Tryz.f29) [1, 1, 1, 1])) (leaveK Tryz.prog noD Tryz.f29.results.toList K)))
theorem F.ref11_Symbols.L0_eq {e : Env} {h : Heap} {K : AX → St → Bool} : evalS Tryz.prog (semCall Tryz.prog) F.ref11_Symbols.L0 ⟨e, 49, [], h⟩ K = (
bindO (faS 1 (e 1)) fun x1 =>
bindO (loadS none x1 h) fun x2 =>
bindO (lenS .slice x2 h) fun x3 =>
bindO (binS .lss (e 5) x3) fun x4 =>
condB x4 (
bindO (faS 1 (e 1)) fun x5 =>
bindO (loadS none x5 h) fun x6 =>
bindO (iaS 4 x6 (e 5)) fun x7 =>
bindO (loadS (some 4) x7 h) fun x8 =>
bindO (storeS 4 (.ptr (Heap.next h) 0) x8 (Heap.alloc h (.cells [(.int .i64 0), (.str []), .nils, .nils]))) fun h9 =>
bindO (faS 0 (.ptr (Heap.next h) 0)) fun x10 =>
bindO (loadS none x10 h9) fun x11 =>
bindO (eqV (.int .i64) x11 (.int .i64 1)) fun x12 =>
condB x12 (
bindO (faS 1 (.ptr (Heap.next h) 0)) fun x13 =>
bindO (loadS none x13 h9) fun x14 =>
bindO (lookupS .string (.bool false) false (e 4) x14 h9) fun x15 =>
bindO (unS .not x15) fun x16 =>
condB x16 (
bindO (faS 1 (.ptr (Heap.next h) 0)) fun x17 =>
bindO (loadS none x17 h9) fun x18 =>
bindO (mapUpdateS .string (e 4) x18 (.bool true) h9) fun h19 =>
bindO (faS 2 (e 3)) fun x20 =>
bindO (loadS none x20 h19) fun x21 =>
bindO (faS 1 (.ptr (Heap.next h) 0)) fun x22 =>
bindO (loadS none x22 h19) fun x23 =>
bindO (faS 2 (.ptr (Heap.next h) 0)) fun x24 =>
bindO (loadS none x24 h19) fun x25 =>
bindO (lenS .slice x25 h19) fun x26 =>
bindO2 (makeSliceS 1 16 [(.str [])] x26 x26 h19) fun x27 h28 =>
bindO (aggS [(.str []), .nils] [(0, 1), (1, 1)] [x23, x27]) fun x29 =>
bindO (aggS [(.int .i64 0), (.bool false), (.str []), .nils] [(0, 1), (2, 2)] [(.int .i64 0), x29]) fun x30 =>
bindO (rowS [(.int .i64 0), (.bool false), (.str []), .nils] [(0, 4)] [x30]) fun c31 =>
bindO2 (appendS 4 56 x21 (.slice (Heap.next h28) 0 1 4) (Heap.alloc h28 (.cells c31))) fun x32 h33 =>
bindO (faS 2 (e 3)) fun x34 =>
bindO (storeS 1 x34 x32 h33) fun h35 =>
bindO (binS .add (e 5) (.int .i64 1)) fun x36 =>
K .normal ⟨(setV (setV (setV (setV (setV (setV (setV (setV (setV (setV (setV (setV (setV (setV (setV (setV (setV (setV (setV (setV (setV (setV (setV (setV (setV (setV (setV (setV (setV (setV (setV (setV (setV (setV (setV (setV (setV (setV (setV (setV (setV (setV (setV (setV (setV e 8 (e 5)) 9 x1) 10 x2) 11 x3) 12 x4) 15 x5) 16 x6) 17 (e 5)) 18 x7) 19 x8) 6 (.ptr (Heap.next h) 0)) 20 x10) 21 x11) 22 x12) 23 x12) 23 (.bool true)) 24 (e 4)) 23 (.bool true)) 25 x13) 23 (.bool true)) 26 x14) 23 (.bool true)) 27 x15) 23 (.bool true)) 28 x16) 29 x16) 30 (e 4)) 31 x17) 32 x18) 33 x20) 34 x21) 35 x22) 36 x23) 37 x24) 38 x25) 39 x26) 40 x27) 41 x29) 42 x30) 43 (.slice (Heap.next h28) 0 1 4)) 44 x32) 45 x34) 13 (e 5)) 14 x36) 5 x36), 49, [], h35⟩) (
bindO (binS .add (e 5) (.int .i64 1)) fun x37 =>
K .normal ⟨(setV (setV (setV (setV (setV (setV (setV (setV (setV (setV (setV (setV (setV (setV (setV (setV (setV (setV (setV (setV (setV (setV (setV (setV (setV (setV (setV (setV (setV e 8 (e 5)) 9 x1) 10 x2) 11 x3) 12 x4) 15 x5) 16 x6) 17 (e 5)) 18 x7) 19 x8) 6 (.ptr (Heap.next h) 0)) 20 x10) 21 x11) 22 x12) 23 x12) 23 (.bool true)) 24 (e 4)) 23 (.bool true)) 25 x13) 23 (.bool true)) 26 x14) 23 (.bool true)) 27 x15) 23 (.bool true)) 28 x16) 29 x16) 13 (e 5)) 14 x37) 5 x37), 49, [], h9⟩)) (
bindO (binS .add (e 5) (.int .i64 1)) fun x38 =>
K .normal ⟨(setV (setV (setV (setV (setV (setV (setV (setV (setV (setV (setV (setV (setV (setV (setV (setV (setV (setV (setV (setV (setV (setV (setV (setV (setV (setV (setV (setV (setV e 8 (e 5)) 9 x1) 10 x2) 11 x3) 12 x4) 15 x5) 16 x6) 17 (e 5)) 18 x7) 19 x8) 6 (.ptr (Heap.next h) 0)) 20 x10) 21 x11) 22 x12) 23 x12) 23 (.bool false)) 24 noV) 23 (.bool false)) 25 noV) 23 (.bool false)) 26 noV) 23 (.bool false)) 27 noV) 23 (.bool false)) 28 noV) 29 (.bool false)) 13 (e 5)) 14 x38) 5 x38), 49, [], h9⟩)) (
K (.exit 0) ⟨(setV (setV (setV (setV (setV e 8 (e 5)) 9 x1) 10 x2) 11 x3) 12 x4), 49, [], h⟩)) := by kernel_rfl
theorem F.ref11_Symbols.L0_x0_eq {e : Env} {h : Heap} {K : Out → Heap → Bool} : F.ref11_Symbols.L0k K (.exit 0) ⟨e, 49, [], h⟩ = (
bindO (loadS (some 3) (e 3) h) fun x39 =>
bindO (rowS [(.str []), .nils, .nils] [(0, 3)] [x39]) fun c40 =>
semCall Tryz.prog 77 [(.slice (Heap.next h) 0 1 3)] (Heap.alloc h (.cells c40)) (outK (fun x41 h42 =>
K (.ret x41) h42) (fun v43 h44 => K (.panic v43) h44))) := by kernel_rfl
theorem F.ref11_Symbols_eq {a0 : AV} {h : Heap} {K : Out → Heap → Bool} : evalS Tryz.prog (semCall Tryz.prog) (codeOf Tryz.f29) ⟨mkEnv [a0], 49, [], h⟩ (leaveK Tryz.prog noD Tryz.f29.results.toList K) = (
bindO (boxS a0) fun c0 =>
loopB (evalS Tryz.prog (semCall Tryz.prog) F.ref11_Symbols.L0) ⟨(setV (setV (setV (setV (setV (setV (mkEnv [a0]) 1 (.ptr (Heap.next h) 0)) 2 .nils) 3 (.ptr (Heap.next (Heap.alloc h (.cells c0))) 0)) 7 (.map (Heap.next (Heap.alloc (Heap.alloc h (.cells c0)) (.cells [(.str []), .nils, .nils]))))) 4 (.map (Heap.next (Heap.alloc (Heap.alloc h (.cells c0)) (.cells [(.str []), .nils, .nils]))))) 5 (.int .i64 0)), 49, [], (Heap.alloc (Heap.alloc (Heap.alloc h (.cells c0)) (.cells [(.str []), .nils, .nils])) (.map [] 0))⟩ (F.ref11_Symbols.L0k K)) := by kernel_rfl
theorem F.ref11_Symbols_sem {a0 : AV} {h : Heap} {K : Out → Heap → Bool} (hh : (
bindO (boxS a0) fun c0 =>
loopB (evalS Tryz.prog (semCall Tryz.prog) F.ref11_Symbols.L0) ⟨(setV (setV (setV (setV (setV (setV (mkEnv [a0]) 1 (.ptr (Heap.next h) 0)) 2 .nils) 3 (.ptr (Heap.next (Heap.alloc h (.cells c0))) 0)) 7 (.map (Heap.next (Heap.alloc (Heap.alloc h (.cells c0)) (.cells [(.str []), .nils, .nils]))))) 4 (.map (Heap.next (Heap.alloc (Heap.alloc h (.cells c0)) (.cells [(.str []), .nils, .nils]))))) 5 (.int .i64 0)), 49, [], (Heap.alloc (Heap.alloc (Heap.alloc h (.cells c0)) (.cells [(.str []), .nils, .nils])) (.map [] 0))⟩ (F.ref11_Symbols.L0k K)) = true) : Sem Tryz.prog 29 [a0] h K :=
  sem_body mixed (noD_sound _) Tryz.func29 (c := codeOf Tryz.f29) rfl (by decide) (of_decide_eq_true (by kernel_rfl)) (F.ref11_Symbols_eq.trans hh)
noncomputable def F.gate_bits.L0 : Code := partOf (codeOf Tryz.f56) [1, 1, 1, 1, 1, 0, 1, 0, 0]
noncomputable def F.gate_bits.L0k (K : Out → Heap → Bool) : AX → St → Bool := (blockK 0 (seqK false (evalS Tryz.prog (semCall Tryz.prog) (partOf (codeOf Tryz.f56) [1, 1, 1, 1, 1, 1])) (leaveK Tryz.prog noD Tryz.f56.results.toList K)))
noncomputable def F.gate_bits.L1 : Code := partOf (codeOf Tryz.f56) [1, 1, 1, 1, 1, 0, 1, 0, 0, 1, 1, 0, 1, 1, 1, 1, 1, 1, 0, 0]
noncomputable def F.gate_bits.L1k (K : AX → St → Bool) : AX → St → Bool := (blockK 2 (blockK 1 K))
theorem F.gate_bits.L0_eq {e : Env} {h : Heap} {K : AX → St → Bool} : evalS Tryz.prog (semCall Tryz.prog) F.gate_bits.L0 ⟨e, 87, [], h⟩ K = (
bindO (nextS false (e 38) h) (allNext [] (resK (fun x23 h24 =>
bindO (extractS x23 0) fun x27 =>
condB x27 (
bindO (entryS (e 38) h24) fun x28 =>
bindO (extractS x28 0) fun x29 =>
bindO (extractS x28 1) fun x30 =>
bindO (loadS (some 2) (e 3) h24) fun x31 =>
semCall Tryz.prog 100 [x31, x29, x30] h24 (outK (fun x32 h33 =>
bindO (binS .lss x32 (.int .i64 0)) fun x36 =>
condB x36 (
K .ret ⟨(setV (setV (setV (setV (setV (setV (setV (setV (setV (setV (setV (setV (setV (setV (setV (setV (setV e 39 x23) 40 x27) 41 x28) 42 x29) 43 x30) 10 x29) 11 x30) 44 x31) 45 x29) 46 x30) 47 x32) 12 x32) 48 x32) 49 x36) 4 .nilm) 5 .nilm) 6 (.int .i64 4)), 87, [], h33⟩) (
bindO (faS 0 (e 3)) fun x37 =>
bindO (loadS none x37 h33) fun x38 =>
semCall Tryz.prog 110 [x38, x30] h33 (outK (fun x39 h40 =>
bindO (extractS x39 0) fun x43 =>
bindO (extractS x39 1) fun x44 =>
bindO2 (makeSliceS 1 1 [(.bool false)] x43 x43 h40) fun x45 h46 =>
bindO (mapUpdateS .string (e 9) x29 x45 h46) fun h47 =>
bindO (faS 1 (e 3)) fun x48 =>
bindO (loadS none x48 h47) fun x49 =>
bindO (iaS 3 x49 x32) fun x50 =>
bindO (faS 2 x50) fun x51 =>
bindO (loadS none x51 h47) fun x52 =>
bindO (lenS .slice x52 h47) fun x53 =>
loopB (evalS Tryz.prog (semCall Tryz.prog) F.gate_bits.L1) ⟨(setV (setV (setV (setV (setV (setV (setV (setV (setV (setV (setV (setV (setV (setV (setV (setV (setV (setV (setV (setV (setV (setV (setV (setV (setV (setV (setV (setV (setV (setV (setV (setV (setV (setV (setV e 39 x23) 40 x27) 41 x28) 42 x29) 43 x30) 10 x29) 11 x30) 44 x31) 45 x29) 46 x30) 47 x32) 12 x32) 48 x32) 49 x36) 51 x37) 52 x38) 53 x30) 54 x39) 50 x39) 55 x43) 56 x44) 13 x43) 14 x44) 57 (e 9)) 58 x29) 59 x43) 60 x45) 61 x48) 62 x49) 63 x32) 64 x50) 65 x51) 66 x52) 67 x53) 68 (.int .i64 0)), 87, [], h47⟩ (F.gate_bits.L1k K)) (fun v41 h42 => K (.panic v41) ⟨(setV (setV (setV (setV (setV (setV (setV (setV (setV (setV (setV (setV (setV (setV (setV (setV (setV e 39 x23) 40 x27) 41 x28) 42 x29) 43 x30) 10 x29) 11 x30) 44 x31) 45 x29) 46 x30) 47 x32) 12 x32) 48 x32) 49 x36) 51 x37) 52 x38) 53 x30), 87, [], h42⟩)))) (fun v34 h35 => K (.panic v34) ⟨(setV (setV (setV (setV (setV (setV (setV (setV (setV (setV e 39 x23) 40 x27) 41 x28) 42 x29) 43 x30) 10 x29) 11 x30) 44 x31) 45 x29) 46 x30), 87, [], h35⟩))) (
K (.exit 0) ⟨(setV (setV e 39 x23) 40 x27), 87, [], h24⟩)) (fun v25 h26 => K (.panic v25) ⟨e, 87, [], h26⟩)))) := by kernel_rfl
theorem F.gate_bits.L0_x0_eq {e : Env} {h : Heap} {K : Out → Heap → Bool} : F.gate_bits.L0k K (.exit 0) ⟨e, 87, [], h⟩ = (
K (.ret (.tuple [(e 9), (e 7), (.int .i64 0)])) h) := by kernel_rfl
theorem F.gate_bits.L0_r_eq {e : Env} {h : Heap} {K : Out → Heap → Bool} : F.gate_bits.L0k K .ret ⟨e, 87, [], h⟩ = (
K (.ret (.tuple [(e 4), (e 5), (e 6)])) h) := by kernel_rfl
theorem F.gate_bits.L1_eq {e : Env} {h : Heap} {K : AX → St → Bool} : evalS Tryz.prog (semCall Tryz.prog) F.gate_bits.L1 ⟨e, 87, [], h⟩ K = (
bindO (binS .lss (e 68) (e 67)) fun x54 =>
condB x54 (
bindO (iaS 1 (e 66) (e 68)) fun x55 =>
bindO (loadS none x55 h) fun x56 =>
bindO (faS 0 (e 3)) fun x57 =>
bindO (loadS none x57 h) fun x58 =>
semCall Tryz.prog 111 [x58, x56] h (outK (fun x59 h60 =>
bindO (extractS x59 0) fun x63 =>
bindO (extractS x59 1) fun x64 =>
bindO (lookupS .string .nils false (e 9) (e 10) h60) fun x65 =>
bindO (iaS 1 x65 x63) fun x66 =>
bindO (storeS 1 x66 (.bool true) h60) fun h67 =>
bindO (binS .add (e 68) (.int .i64 1)) fun x68 =>
K .normal ⟨(setV (setV (setV (setV (setV (setV (setV (setV (setV (setV (setV (setV (setV (setV (setV (setV (setV (setV (setV (setV e 69 x54) 70 x55) 71 x56) 16 x56) 73 x57) 74 x58) 75 x56) 76 x59) 72 x59) 77 x63) 78 x64) 17 x63) 18 x64) 79 (e 9)) 80 (e 10)) 81 x65) 82 x63) 83 x66) 84 x68) 68 x68), 87, [], h67⟩) (fun v61 h62 => K (.panic v61) ⟨(setV (setV (setV (setV (setV (setV (setV e 69 x54) 70 x55) 71 x56) 16 x56) 73 x57) 74 x58) 75 x56), 87, [], h62⟩))) (
K (.exit 2) ⟨(setV e 69 x54), 87, [], h⟩)) := by kernel_rfl
theorem F.gate_bits.L1_x2_eq {e : Env} {h : Heap} {K : AX → St → Bool} : F.gate_bits.L1k K (.exit 2) ⟨e, 87, [], h⟩ = (
K .normal ⟨e, 87, [], h⟩) := by kernel_rfl
theorem F.gate_bits_eq {a0 a1 : AV} {h : Heap} {K : Out → Heap → Bool} : evalS Tryz.prog (semCall Tryz.prog) (codeOf Tryz.f56) ⟨mkEnv [a0, a1], 87, [], h⟩ (leaveK Tryz.prog noD Tryz.f56.results.toList K) = (
bindO (boxS a0) fun c0 =>
bindO (boxS a1) fun c1 =>
bindO (loadS (some 2) (.ptr (Heap.next h) 0) (Heap.alloc (Heap.alloc h (.cells c0)) (.cells c1))) fun x2 =>
semCall Tryz.prog 54 [x2] (Heap.alloc (Heap.alloc h (.cells c0)) (.cells c1)) (outK (fun x3 h4 =>
bindO (extractS x3 0) fun x7 =>
bindO (extractS x3 1) fun x8 =>
bindO (unS .not x8) fun x9 =>
condB x9 (
K (.ret (.tuple [.nilm, .nilm, (.int .i64 1)])) h4) (
bindO (loadS (some 2) (.ptr (Heap.next (Heap.alloc h (.cells c0))) 0) h4) fun x10 =>
semCall Tryz.prog 99 [x10] h4 (outK (fun x11 h12 =>
bindO (unS .not x11) fun x15 =>
condB x15 (
K (.ret (.tuple [.nilm, .nilm, (.int .i64 1)])) h12) (
bindO (faS 0 (.ptr (Heap.next h) 0)) fun x16 =>
bindO (loadS none x16 h12) fun x17 =>
bindO (faS 0 (.ptr (Heap.next (Heap.alloc h (.cells c0))) 0)) fun x18 =>
bindO (loadS none x18 h12) fun x19 =>
bindO (neV (.int .i64) x17 x19) fun x20 =>
condB x20 (
K (.ret (.tuple [.nilm, .nilm, (.int .i64 2)])) h12) (
bindO2 (rangeS .map x7 (Heap.alloc h12 (.map [] 0))) fun x21 h22 =>
loopB (evalS Tryz.prog (semCall Tryz.prog) F.gate_bits.L0) ⟨(setV (setV (setV (setV (setV (setV (setV (setV (setV (setV (setV (setV (setV (setV (setV (setV (setV (setV (setV (setV (setV (setV (setV (setV (setV (setV (setV (setV (setV (setV (setV (mkEnv [a0, a1]) 2 (.ptr (Heap.next h) 0)) 3 (.ptr (Heap.next (Heap.alloc h (.cells c0))) 0)) 4 .nilm) 5 .nilm) 6 (.int .i64 0)) 20 x2) 21 x3) 19 x3) 22 x7) 23 x8) 7 x7) 8 x8) 24 x8) 25 x9) 26 x9) 26 (.bool false)) 27 x10) 26 (.bool false)) 28 x11) 26 (.bool false)) 29 x15) 30 x15) 31 x16) 32 x17) 33 x18) 34 x19) 35 x20) 36 (.map (Heap.next h12))) 9 (.map (Heap.next h12))) 37 x7) 38 x21), 87, [], h22⟩ (F.gate_bits.L0k K)))) (fun v13 h14 => K (.panic v13) h14)))) (fun v5 h6 => K (.panic v5) h6))) := by kernel_rfl
theorem F.gate_bits_sem {a0 a1 : AV} {h : Heap} {K : Out → Heap → Bool} (hh : (
bindO (boxS a0) fun c0 =>
bindO (boxS a1) fun c1 =>
bindO (loadS (some 2) (.ptr (Heap.next h) 0) (Heap.alloc (Heap.alloc h (.cells c0)) (.cells c1))) fun x2 =>
semCall Tryz.prog 54 [x2] (Heap.alloc (Heap.alloc h (.cells c0)) (.cells c1)) (outK (fun x3 h4 =>
bindO (extractS x3 0) fun x7 =>
bindO (extractS x3 1) fun x8 =>
bindO (unS .not x8) fun x9 =>
condB x9 (
K (.ret (.tuple [.nilm, .nilm, (.int .i64 1)])) h4) (
bindO (loadS (some 2) (.ptr (Heap.next (Heap.alloc h (.cells c0))) 0) h4) fun x10 =>
semCall Tryz.prog 99 [x10] h4 (outK (fun x11 h12 =>
bindO (unS .not x11) fun x15 =>
condB x15 (
K (.ret (.tuple [.nilm, .nilm, (.int .i64 1)])) h12) (
bindO (faS 0 (.ptr (Heap.next h) 0)) fun x16 =>
bindO (loadS none x16 h12) fun x17 =>
bindO (faS 0 (.ptr (Heap.next (Heap.alloc h (.cells c0))) 0)) fun x18 =>
bindO (loadS none x18 h12) fun x19 =>
bindO (neV (.int .i64) x17 x19) fun x20 =>
condB x20 (
K (.ret (.tuple [.nilm, .nilm, (.int .i64 2)])) h12) (
bindO2 (rangeS .map x7 (Heap.alloc h12 (.map [] 0))) fun x21 h22 =>
loopB (evalS Tryz.prog (semCall Tryz.prog) F.gate_bits.L0) ⟨(setV (setV (setV (setV (setV (setV (setV (setV (setV (setV (setV (setV (setV (setV (setV (setV (setV (setV (setV (setV (setV (setV (setV (setV (setV (setV (setV (setV (setV (setV (setV (mkEnv [a0, a1]) 2 (.ptr (Heap.next h) 0)) 3 (.ptr (Heap.next (Heap.alloc h (.cells c0))) 0)) 4 .nilm) 5 .nilm) 6 (.int .i64 0)) 20 x2) 21 x3) 19 x3) 22 x7) 23 x8) 7 x7) 8 x8) 24 x8) 25 x9) 26 x9) 26 (.bool false)) 27 x10) 26 (.bool false)) 28 x11) 26 (.bool false)) 29 x15) 30 x15) 31 x16) 32 x17) 33 x18) 34 x19) 35 x20) 36 (.map (Heap.next h12))) 9 (.map (Heap.next h12))) 37 x7) 38 x21), 87, [], h22⟩ (F.gate_bits.L0k K)))) (fun v13 h14 => K (.panic v13) h14)))) (fun v5 h6 => K (.panic v5) h6))) = true) : Sem Tryz.prog 56 [a0, a1] h K :=
  sem_body mixed (noD_sound _) Tryz.func56 (c := codeOf Tryz.f56) rfl (by decide) (of_decide_eq_true (by kernel_rfl)) (F.gate_bits_eq.trans hh)
noncomputable def F.gate_result.L0 : Code := partOf (codeOf Tryz.f57) [1, 1, 0, 1, 0, 0]
noncomputable def F.gate_result.L0k (K : Out → Heap → Bool) : AX → St → Bool := (blockK 0 (seqK false (evalS Tryz.prog (semCall Tryz.prog) (partOf (codeOf Tryz.f57) [1, 1, 1])) (leaveK Tryz.prog noD Tryz.f57.results.toList K)))
theorem F.gate_result.L0_eq {e : Env} {h : Heap} {K : AX → St → Bool} : evalS Tryz.prog (semCall Tryz.prog) F.gate_result.L0 ⟨e, 80, [], h⟩ K = (
bindO (binS .lss (e 17) (e 16)) fun x10 =>
condB x10 (
bindO (iaS 4 (e 15) (e 17)) fun x11 =>
bindO (loadS (some 4) x11 h) fun x12 =>
bindO (storeS 4 (.ptr (Heap.next h) 0) x12 (Heap.alloc h (.cells [(.int .i64 0), (.str []), .nils, .nils]))) fun h13 =>
bindO (faS 0 (.ptr (Heap.next h) 0)) fun x14 =>
bindO (loadS none x14 h13) fun x15 =>
bindO (eqV (.int .i64) x15 (.int .i64 0)) fun x16 =>
condB x16 (
bindO (loadS none (e 5) h13) fun x17 =>
bindO (iaS 1 x17 (e 17)) fun x18 =>
bindO (storeS 1 x18 (.bool true) h13) fun h19 =>
bindO (binS .add (e 17) (.int .i64 1)) fun x20 =>
K .normal ⟨(setV (setV (setV (setV (setV (setV (setV (setV (setV (setV (setV (setV (setV (setV (setV e 18 x10) 19 (e 17)) 20 x11) 21 x12) 7 (.ptr (Heap.next h) 0)) 6 (e 17)) 22 x14) 23 x15) 36 x16) 35 x16) 37 x17) 38 (e 17)) 39 x18) 73 x20) 17 x20), 80, [], h19⟩) (
bindO (eqV (.int .i64) x15 (.int .i64 1)) fun x21 =>
condB x21 (
bindO (faS 0 (e 2)) fun x22 =>
bindO (loadS none x22 h13) fun x23 =>
bindO (faS 2 (.ptr (Heap.next h) 0)) fun x24 =>
bindO (loadS none x24 h13) fun x25 =>
semCall Tryz.prog 111 [x23, x25] h13 (outK (fun x26 h27 =>
bindO (extractS x26 0) fun x30 =>
bindO (extractS x26 1) fun x31 =>
bindO (loadS none (e 5) h27) fun x32 =>
bindO (faS 1 (.ptr (Heap.next h) 0)) fun x33 =>
bindO (loadS none x33 h27) fun x34 =>
bindO (lookupS .string .nils false (e 1) x34 h27) fun x35 =>
bindO (iaS 1 x35 x30) fun x36 =>
bindO (loadS none x36 h27) fun x37 =>
bindO (iaS 1 x32 (e 17)) fun x38 =>
bindO (storeS 1 x38 x37 h27) fun h39 =>
bindO (binS .add (e 17) (.int .i64 1)) fun x40 =>
K .normal ⟨(setV (setV (setV (setV (setV (setV (setV (setV (setV (setV (setV (setV (setV (setV (setV (setV (setV (setV (setV (setV (setV (setV (setV (setV (setV (setV (setV (setV (setV (setV (setV (setV (setV (setV e 18 x10) 19 (e 17)) 20 x11) 21 x12) 7 (.ptr (Heap.next h) 0)) 6 (e 17)) 22 x14) 23 x15) 36 x16) 35 x16) 41 x21) 40 x21) 43 x22) 44 x23) 45 x24) 46 x25) 47 x26) 42 x26) 48 x30) 49 x31) 8 x30) 9 x31) 50 x32) 51 (e 17)) 52 (e 1)) 53 x33) 54 x34) 55 x35) 56 x30) 57 x36) 58 x37) 59 x38) 73 x40) 17 x40), 80, [], h39⟩) (fun v28 h29 => K (.panic v28) ⟨(setV (setV (setV (setV (setV (setV (setV (setV (setV (setV (setV (setV (setV (setV (setV (setV e 18 x10) 19 (e 17)) 20 x11) 21 x12) 7 (.ptr (Heap.next h) 0)) 6 (e 17)) 22 x14) 23 x15) 36 x16) 35 x16) 41 x21) 40 x21) 43 x22) 44 x23) 45 x24) 46 x25), 80, [], h29⟩))) (
bindO (eqV (.int .i64) x15 (.int .i64 2)) fun x41 =>
condB x41 (
bindO (loadS none (e 5) h13) fun x42 =>
bindO (loadS none (e 5) h13) fun x43 =>
bindO (faS 3 (.ptr (Heap.next h) 0)) fun x44 =>
bindO (loadS none x44 h13) fun x45 =>
bindO (iaS 1 x45 (.int .i64 0)) fun x46 =>
bindO (loadS none x46 h13) fun x47 =>
bindO (iaS 1 x43 x47) fun x48 =>
bindO (loadS none x48 h13) fun x49 =>
bindO (unS .not x49) fun x50 =>
bindO (iaS 1 x42 (e 17)) fun x51 =>
bindO (storeS 1 x51 x50 h13) fun h52 =>
bindO (binS .add (e 17) (.int .i64 1)) fun x53 =>
K .normal ⟨(setV (setV (setV (setV (setV (setV (setV (setV (setV (setV (setV (setV (setV (setV (setV (setV (setV (setV (setV (setV (setV (setV (setV (setV (setV (setV (setV e 18 x10) 19 (e 17)) 20 x11) 21 x12) 7 (.ptr (Heap.next h) 0)) 6 (e 17)) 22 x14) 23 x15) 36 x16) 35 x16) 41 x21) 40 x21) 61 x41) 60 x41) 62 x42) 63 (e 17)) 64 x43) 65 x44) 66 x45) 67 x46) 68 x47) 69 x48) 70 x49) 71 x50) 72 x51) 73 x53) 17 x53), 80, [], h52⟩) (
bindO (loadS none (e 5) h13) fun x54 =>
bindO (faS 3 (.ptr (Heap.next h) 0)) fun x55 =>
bindO (loadS none x55 h13) fun x56 =>
bindO (faS 0 (.ptr (Heap.next h) 0)) fun x57 =>
bindO (loadS none x57 h13) fun x58 =>
bindO (eqV (.int .i64) x58 (.int .i64 4)) fun x59 =>
semCall Tryz.prog 112 [x56, (.func 113 [] [(e 5), (.ptr (Heap.next h) 0)])] h13 (outK (fun x60 h61 =>
if ((bindO (loadS none x57 h61) fun x62 =>
AV.beq x62 x58) && ((bindO (loadS none (e 5) h61) fun x63 =>
AV.beq x63 x54) && true)) = true then (
bindO (eqV .bool x60 x59) fun x64 =>
bindO (iaS 1 x54 (e 17)) fun x65 =>
bindO (storeS 1 x65 x64 h61) fun h66 =>
bindO (binS .add (e 17) (.int .i64 1)) fun x67 =>
K .normal ⟨(setV (setV (setV (setV (setV (setV (setV (setV (setV (setV (setV (setV (setV (setV (setV (setV (setV (setV (setV (setV (setV (setV (setV (setV (setV (setV (setV e 18 x10) 19 (e 17)) 20 x11) 21 x12) 7 (.ptr (Heap.next h) 0)) 6 (e 17)) 22 x14) 23 x15) 36 x16) 35 x16) 41 x21) 40 x21) 61 x41) 60 x41) 24 x54) 25 (e 17)) 26 x55) 27 x56) 28 (.func 113 [] [(e 5), (.ptr (Heap.next h) 0)])) 30 x57) 31 x58) 32 x59) 29 x60) 33 x64) 34 x65) 73 x67) 17 x67), 80, [], h66⟩) else false) (fun _ _ => false)))))) (
K (.exit 0) ⟨(setV e 18 x10), 80, [], h⟩)) := by kernel_rfl
theorem F.gate_result.L0_x0_eq {e : Env} {h : Heap} {K : Out → Heap → Bool} : F.gate_result.L0k K (.exit 0) ⟨e, 80, [], h⟩ = (
bindO (loadS none (e 5) h) fun x68 =>
bindO (loadS none (e 5) h) fun x69 =>
bindO (lenS .slice x69 h) fun x70 =>
bindO (binS .sub x70 (.int .i64 1)) fun x71 =>
bindO (iaS 1 x68 x71) fun x72 =>
bindO (loadS none x72 h) fun x73 =>
K (.ret x73) h) := by kernel_rfl
theorem F.gate_result_eq {a0 a1 : AV} {h : Heap} {K : Out → Heap → Bool} : evalS Tryz.prog (semCall Tryz.prog) (codeOf Tryz.f57) ⟨mkEnv [a0, a1], 80, [], h⟩ (leaveK Tryz.prog noD Tryz.f57.results.toList K) = (
bindO (boxS a0) fun c0 =>
bindO (faS 1 (.ptr (Heap.next h) 0)) fun x1 =>
bindO (loadS none x1 (Heap.alloc h (.cells c0))) fun x2 =>
bindO (lenS .slice x2 (Heap.alloc h (.cells c0))) fun x3 =>
bindO2 (makeSliceS 1 1 [(.bool false)] x3 x3 (Heap.alloc h (.cells c0))) fun x4 h5 =>
bindO (storeS 1 (.ptr (Heap.next h5) 0) x4 (Heap.alloc h5 (.cells [.nils]))) fun h6 =>
bindO (faS 1 (.ptr (Heap.next h) 0)) fun x7 =>
bindO (loadS none x7 h6) fun x8 =>
bindO (lenS .slice x8 h6) fun x9 =>
loopB (evalS Tryz.prog (semCall Tryz.prog) F.gate_result.L0) ⟨(setV (setV (setV (setV (setV (setV (setV (setV (setV (setV (setV (mkEnv [a0, a1]) 2 (.ptr (Heap.next h) 0)) 4 (.bool false)) 10 x1) 11 x2) 12 x3) 13 x4) 5 (.ptr (Heap.next h5) 0)) 14 x7) 15 x8) 16 x9) 17 (.int .i64 0)), 80, [], h6⟩ (F.gate_result.L0k K)) := by kernel_rfl
theorem F.gate_result_sem {a0 a1 : AV} {h : Heap} {K : Out → Heap → Bool} (hh : (
bindO (boxS a0) fun c0 =>
bindO (faS 1 (.ptr (Heap.next h) 0)) fun x1 =>
bindO (loadS none x1 (Heap.alloc h (.cells c0))) fun x2 =>
bindO (lenS .slice x2 (Heap.alloc h (.cells c0))) fun x3 =>
bindO2 (makeSliceS 1 1 [(.bool false)] x3 x3 (Heap.alloc h (.cells c0))) fun x4 h5 =>
bindO (storeS 1 (.ptr (Heap.next h5) 0) x4 (Heap.alloc h5 (.cells [.nils]))) fun h6 =>
bindO (faS 1 (.ptr (Heap.next h) 0)) fun x7 =>
bindO (loadS none x7 h6) fun x8 =>
bindO (lenS .slice x8 h6) fun x9 =>
loopB (evalS Tryz.prog (semCall Tryz.prog) F.gate_result.L0) ⟨(setV (setV (setV (setV (setV (setV (setV (setV (setV (setV (setV (mkEnv [a0, a1]) 2 (.ptr (Heap.next h) 0)) 4 (.bool false)) 10 x1) 11 x2) 12 x3) 13 x4) 5 (.ptr (Heap.next h5) 0)) 14 x7) 15 x8) 16 x9) 17 (.int .i64 0)), 80, [], h6⟩ (F.gate_result.L0k K)) = true) : Sem Tryz.prog 57 [a0, a1] h K :=
  sem_body mixed (noD_sound _) Tryz.func57 (c := codeOf Tryz.f57) rfl (by decide) (of_decide_eq_true (by kernel_rfl)) (F.gate_result_eq.trans hh)
noncomputable def F.ref01_Valid.L0 : Code := partOf (codeOf Tryz.f58) [1, 1, 0, 1, 0, 0]
noncomputable def F.ref01_Valid.L0k (K : Out → Heap → Bool) : AX → St → Bool := (blockK 0 (seqK false (evalS Tryz.prog (semCall Tryz.prog) (partOf (codeOf Tryz.f58) [1, 1, 1])) (leaveK Tryz.prog noD Tryz.f58.results.toList K)))
noncomputable def F.ref01_Valid.L1 : Code := partOf (codeOf Tryz.f58) [1, 1, 0, 1, 0, 0, 1, 0, 0, 1, 1, 0, 0]
noncomputable def F.ref01_Valid.L1k (K : AX → St → Bool) : AX → St → Bool := (blockK 2 (blockK 1 (seqK false (evalS Tryz.prog (semCall Tryz.prog) (partOf (codeOf Tryz.f58) [1, 1, 0, 1, 0, 0, 1, 1])) K)))
theorem F.ref01_Valid.L0_eq {e : Env} {h : Heap} {K : AX → St → Bool} : evalS Tryz.prog (semCall Tryz.prog) F.ref01_Valid.L0 ⟨e, 53, [], h⟩ K = (
bindO (faS 1 (e 1)) fun x11 =>
bindO (loadS none x11 h) fun x12 =>
bindO (lenS .slice x12 h) fun x13 =>
bindO (binS .lss (e 3) x13) fun x14 =>
condB x14 (
bindO (faS 0 (e 1)) fun x15 =>
bindO (loadS none x15 h) fun x16 =>
bindO (faS 1 (e 1)) fun x17 =>
bindO (loadS none x17 h) fun x18 =>
bindO (iaS 3 x18 (e 3)) fun x19 =>
bindO (loadS (some 3) x19 h) fun x20 =>
semCall Tryz.prog 114 [x16, x20] h (outK (fun x21 h22 =>
bindO (unS .not x21) fun x23 =>
condB x23 (
K .ret ⟨(setV (setV (setV (setV (setV (setV (setV (setV (setV (setV (setV (setV (setV (setV (setV e 19 (e 3)) 20 x11) 21 x12) 22 x13) 23 x14) 26 x15) 27 x16) 28 x17) 29 x18) 30 (e 3)) 31 x19) 32 x20) 33 x21) 34 x23) 2 (.bool false)), 53, [], h22⟩) (
loopB (evalS Tryz.prog (semCall Tryz.prog) F.ref01_Valid.L1) ⟨(setV (setV (setV (setV (setV (setV (setV (setV (setV (setV (setV (setV (setV (setV (setV e 19 (e 3)) 20 x11) 21 x12) 22 x13) 23 x14) 26 x15) 27 x16) 28 x17) 29 x18) 30 (e 3)) 31 x19) 32 x20) 33 x21) 34 x23) 4 (.int .i64 0)), 53, [], h22⟩ (F.ref01_Valid.L1k K))) (fun _ _ => false))) (
K (.exit 0) ⟨(setV (setV (setV (setV (setV e 19 (e 3)) 20 x11) 21 x12) 22 x13) 23 x14), 53, [], h⟩)) := by kernel_rfl
theorem F.ref01_Valid.L0_x0_eq {e : Env} {h : Heap} {K : Out → Heap → Bool} : F.ref01_Valid.L0k K (.exit 0) ⟨e, 53, [], h⟩ = (
K (.ret (.bool true)) h) := by kernel_rfl
theorem F.ref01_Valid.L0_r_eq {e : Env} {h : Heap} {K : Out → Heap → Bool} : F.ref01_Valid.L0k K .ret ⟨e, 53, [], h⟩ = (
K (.ret (e 2)) h) := by kernel_rfl
theorem F.ref01_Valid.L1_eq {e : Env} {h : Heap} {K : AX → St → Bool} : evalS Tryz.prog (semCall Tryz.prog) F.ref01_Valid.L1 ⟨e, 53, [], h⟩ K = (
bindO (binS .lss (e 4) (e 3)) fun x24 =>
condB x24 (
bindO (faS 1 (e 1)) fun x25 =>
bindO (loadS none x25 h) fun x26 =>
bindO (iaS 3 x26 (e 4)) fun x27 =>
bindO (faS 0 x27) fun x28 =>
bindO (loadS none x28 h) fun x29 =>
bindO (faS 1 (e 1)) fun x30 =>
bindO (loadS none x30 h) fun x31 =>
bindO (iaS 3 x31 (e 3)) fun x32 =>
bindO (faS 0 x32) fun x33 =>
bindO (loadS none x33 h) fun x34 =>
bindO (eqV .string x29 x34) fun x35 =>
condB x35 (
K .ret ⟨(setV (setV (setV (setV (setV (setV (setV (setV (setV (setV (setV (setV (setV (setV (setV (setV (setV e 35 (e 4)) 36 (e 3)) 37 x24) 40 x25) 41 x26) 42 (e 4)) 43 x27) 44 x28) 45 x29) 46 x30) 47 x31) 48 (e 3)) 49 x32) 50 x33) 51 x34) 52 x35) 2 (.bool false)), 53, [], h⟩) (
bindO (binS .add (e 4) (.int .i64 1)) fun x36 =>
K .normal ⟨(setV (setV (setV (setV (setV (setV (setV (setV (setV (setV (setV (setV (setV (setV (setV (setV (setV (setV (setV e 35 (e 4)) 36 (e 3)) 37 x24) 40 x25) 41 x26) 42 (e 4)) 43 x27) 44 x28) 45 x29) 46 x30) 47 x31) 48 (e 3)) 49 x32) 50 x33) 51 x34) 52 x35) 38 (e 4)) 39 x36) 4 x36), 53, [], h⟩)) (
K (.exit 2) ⟨(setV (setV (setV e 35 (e 4)) 36 (e 3)) 37 x24), 53, [], h⟩)) := by kernel_rfl
theorem F.ref01_Valid.L1_x2_eq {e : Env} {h : Heap} {K : AX → St → Bool} : F.ref01_Valid.L1k K (.exit 2) ⟨e, 53, [], h⟩ = (
bindO (binS .add (e 3) (.int .i64 1)) fun x37 =>
K .normal ⟨(setV (setV (setV e 24 (e 3)) 25 x37) 3 x37), 53, [], h⟩) := by kernel_rfl
theorem F.ref01_Valid.L1_r_eq {e : Env} {h : Heap} {K : AX → St → Bool} : F.ref01_Valid.L1k K .ret ⟨e, 53, [], h⟩ = (
K .ret ⟨e, 53, [], h⟩) := by kernel_rfl
theorem F.ref01_Valid_eq {a0 : AV} {h : Heap} {K : Out → Heap → Bool} : evalS Tryz.prog (semCall Tryz.prog) (codeOf Tryz.f58) ⟨mkEnv [a0], 53, [], h⟩ (leaveK Tryz.prog noD Tryz.f58.results.toList K) = (
bindO (boxS a0) fun c0 =>
bindO (faS 0 (.ptr (Heap.next h) 0)) fun x1 =>
bindO (loadS none x1 (Heap.alloc h (.cells c0))) fun x2 =>
bindO (binS .lss x2 (.int .i64 1)) fun x3 =>
condB x3 (
K (.ret (.bool false)) (Heap.alloc h (.cells c0))) (
bindO (faS 0 (.ptr (Heap.next h) 0)) fun x4 =>
bindO (loadS none x4 (Heap.alloc h (.cells c0))) fun x5 =>
bindO (binS .gtr x5 (.int .i64 64)) fun x6 =>
condB x6 (
K (.ret (.bool false)) (Heap.alloc h (.cells c0))) (
bindO (faS 1 (.ptr (Heap.next h) 0)) fun x7 =>
bindO (loadS none x7 (Heap.alloc h (.cells c0))) fun x8 =>
bindO (lenS .slice x8 (Heap.alloc h (.cells c0))) fun x9 =>
bindO (binS .gtr x9 (.int .i64 8)) fun x10 =>
condB x10 (
K (.ret (.bool false)) (Heap.alloc h (.cells c0))) (
loopB (evalS Tryz.prog (semCall Tryz.prog) F.ref01_Valid.L0) ⟨(setV (setV (setV (setV (setV (setV (setV (setV (setV (setV (setV (setV (setV (setV (setV (setV (setV (setV (setV (setV (setV (setV (setV (setV (mkEnv [a0]) 1 (.ptr (Heap.next h) 0)) 2 (.bool false)) 5 x1) 6 x2) 7 x3) 8 x3) 8 (.bool false)) 9 x4) 8 (.bool false)) 10 x5) 8 (.bool false)) 11 x6) 12 x6) 13 x6) 13 (.bool false)) 14 x7) 13 (.bool false)) 15 x8) 13 (.bool false)) 16 x9) 13 (.bool false)) 17 x10) 18 x10) 3 (.int .i64 0)), 53, [], (Heap.alloc h (.cells c0))⟩ (F.ref01_Valid.L0k K))))) := by kernel_rfl
theorem F.ref01_Valid_sem {a0 : AV} {h : Heap} {K : Out → Heap → Bool} (hh : (
bindO (boxS a0) fun c0 =>
bindO (faS 0 (.ptr (Heap.next h) 0)) fun x1 =>
bindO (loadS none x1 (Heap.alloc h (.cells c0))) fun x2 =>
bindO (binS .lss x2 (.int .i64 1)) fun x3 =>
condB x3 (
K (.ret (.bool false)) (Heap.alloc h (.cells c0))) (
bindO (faS 0 (.ptr (Heap.next h) 0)) fun x4 =>
bindO (loadS none x4 (Heap.alloc h (.cells c0))) fun x5 =>
bindO (binS .gtr x5 (.int .i64 64)) fun x6 =>
condB x6 (
K (.ret (.bool false)) (Heap.alloc h (.cells c0))) (
bindO (faS 1 (.ptr (Heap.next h) 0)) fun x7 =>
bindO (loadS none x7 (Heap.alloc h (.cells c0))) fun x8 =>
bindO (lenS .slice x8 (Heap.alloc h (.cells c0))) fun x9 =>
bindO (binS .gtr x9 (.int .i64 8)) fun x10 =>
condB x10 (
K (.ret (.bool false)) (Heap.alloc h (.cells c0))) (
loopB (evalS Tryz.prog (semCall Tryz.prog) F.ref01_Valid.L0) ⟨(setV (setV (setV (setV (setV (setV (setV (setV (setV (setV (setV (setV (setV (setV (setV (setV (setV (setV (setV (setV (setV (setV (setV (setV (mkEnv [a0]) 1 (.ptr (Heap.next h) 0)) 2 (.bool false)) 5 x1) 6 x2) 7 x3) 8 x3) 8 (.bool false)) 9 x4) 8 (.bool false)) 10 x5) 8 (.bool false)) 11 x6) 12 x6) 13 x6) 13 (.bool false)) 14 x7) 13 (.bool false)) 15 x8) 13 (.bool false)) 16 x9) 13 (.bool false)) 17 x10) 18 x10) 3 (.int .i64 0)), 53, [], (Heap.alloc h (.cells c0))⟩ (F.ref01_Valid.L0k K))))) = true) : Sem Tryz.prog 58 [a0] h K :=
  sem_body mixed (noD_sound _) Tryz.func58 (c := codeOf Tryz.f58) rfl (by decide) (of_decide_eq_true (by kernel_rfl)) (F.ref01_Valid_eq.trans hh)
noncomputable def F.ref01_Fits.L0 : Code := partOf (codeOf Tryz.f59) [1, 0, 1, 0, 0]
noncomputable def F.ref01_Fits.L0k (K : Out → Heap → Bool) : AX → St → Bool := (blockK 0 (seqK false (evalS Tryz.prog (semCall Tryz.prog) (partOf (codeOf Tryz.f59) [1, 1])) (leaveK Tryz.prog noD Tryz.f59.results.toList K)))
theorem F.ref01_Fits.L0_eq {e : Env} {h : Heap} {K : AX → St → Bool} : evalS Tryz.prog (semCall Tryz.prog) F.ref01_Fits.L0 ⟨e, 36, [], h⟩ K = (
bindO (lenS .slice (e 1) h) fun x1 =>
bindO (binS .lss (e 5) x1) fun x2 =>
condB x2 (
bindO (loadS (some 2) (e 2) h) fun x3 =>
bindO (iaS 2 (e 1) (e 5)) fun x4 =>
bindO (faS 0 x4) fun x5 =>
bindO (loadS none x5 h) fun x6 =>
semCall Tryz.prog 85 [x3, x6] h (outK (fun x7 h8 =>
bindO (binS .lss x7 (.int .i64 0)) fun x9 =>
condB x9 (
K .ret ⟨(setV (setV (setV (setV (setV (setV (setV (setV (setV (setV (setV (setV (setV (setV (setV (setV (setV (setV (setV (setV (setV (setV (setV (setV (setV (setV (setV (setV (setV (setV (setV (setV (setV (setV (setV (setV (setV (setV (setV (setV (setV e 7 (e 5)) 8 (e 1)) 9 x1) 10 x2) 13 x3) 14 (e 1)) 15 (e 5)) 16 x4) 17 x5) 18 x6) 19 x7) 6 x7) 20 x7) 21 x9) 22 x9) 22 (.bool true)) 23 noV) 22 (.bool true)) 24 noV) 22 (.bool true)) 25 noV) 22 (.bool true)) 26 noV) 22 (.bool true)) 27 noV) 22 (.bool true)) 28 noV) 22 (.bool true)) 29 noV) 22 (.bool true)) 30 noV) 22 (.bool true)) 31 noV) 22 (.bool true)) 32 noV) 22 (.bool true)) 33 noV) 22 (.bool true)) 34 noV) 35 (.bool true)) 4 (.bool false)), 36, [], h8⟩) (
bindO (faS 1 (e 2)) fun x10 =>
bindO (loadS none x10 h8) fun x11 =>
bindO (iaS 3 x11 x7) fun x12 =>
bindO (faS 1 x12) fun x13 =>
bindO (loadS none x13 h8) fun x14 =>
bindO (iaS 2 (e 1) (e 5)) fun x15 =>
bindO (faS 1 x15) fun x16 =>
bindO (loadS none x16 h8) fun x17 =>
bindO (neV (.int .i64) x14 x17) fun x18 =>
condB x18 (
K .ret ⟨(setV (setV (setV (setV (setV (setV (setV (setV (setV (setV (setV (setV (setV (setV (setV (setV (setV (setV (setV (setV (setV (setV (setV (setV (setV (setV (setV (setV (setV (setV (setV (setV (setV (setV (setV (setV (setV (setV (setV (setV (setV e 7 (e 5)) 8 (e 1)) 9 x1) 10 x2) 13 x3) 14 (e 1)) 15 (e 5)) 16 x4) 17 x5) 18 x6) 19 x7) 6 x7) 20 x7) 21 x9) 22 x9) 22 (.bool false)) 23 x10) 22 (.bool false)) 24 x11) 22 (.bool false)) 25 x7) 22 (.bool false)) 26 x12) 22 (.bool false)) 27 x13) 22 (.bool false)) 28 x14) 22 (.bool false)) 29 (e 1)) 22 (.bool false)) 30 (e 5)) 22 (.bool false)) 31 x15) 22 (.bool false)) 32 x16) 22 (.bool false)) 33 x17) 22 (.bool false)) 34 x18) 35 x18) 4 (.bool false)), 36, [], h8⟩) (
bindO (binS .add (e 5) (.int .i64 1)) fun x19 =>
K .normal ⟨(setV (setV (setV (setV (setV (setV (setV (setV (setV (setV (setV (setV (setV (setV (setV (setV (setV (setV (setV (setV (setV (setV (setV (setV (setV (setV (setV (setV (setV (setV (setV (setV (setV (setV (setV (setV (setV (setV (setV (setV (setV (setV (setV e 7 (e 5)) 8 (e 1)) 9 x1) 10 x2) 13 x3) 14 (e 1)) 15 (e 5)) 16 x4) 17 x5) 18 x6) 19 x7) 6 x7) 20 x7) 21 x9) 22 x9) 22 (.bool false)) 23 x10) 22 (.bool false)) 24 x11) 22 (.bool false)) 25 x7) 22 (.bool false)) 26 x12) 22 (.bool false)) 27 x13) 22 (.bool false)) 28 x14) 22 (.bool false)) 29 (e 1)) 22 (.bool false)) 30 (e 5)) 22 (.bool false)) 31 x15) 22 (.bool false)) 32 x16) 22 (.bool false)) 33 x17) 22 (.bool false)) 34 x18) 35 x18) 11 (e 5)) 12 x19) 5 x19), 36, [], h8⟩))) (fun _ _ => false))) (
K (.exit 0) ⟨(setV (setV (setV (setV e 7 (e 5)) 8 (e 1)) 9 x1) 10 x2), 36, [], h⟩)) := by kernel_rfl
theorem F.ref01_Fits.L0_x0_eq {e : Env} {h : Heap} {K : Out → Heap → Bool} : F.ref01_Fits.L0k K (.exit 0) ⟨e, 36, [], h⟩ = (
K (.ret (.bool true)) h) := by kernel_rfl
theorem F.ref01_Fits.L0_r_eq {e : Env} {h : Heap} {K : Out → Heap → Bool} : F.ref01_Fits.L0k K .ret ⟨e, 36, [], h⟩ = (
K (.ret (e 4)) h) := by kernel_rfl
theorem F.ref01_Fits_eq {a0 a1 : AV} {h : Heap} {K : Out → Heap → Bool} : evalS Tryz.prog (semCall Tryz.prog) (codeOf Tryz.f59) ⟨mkEnv [a0, a1], 36, [], h⟩ (leaveK Tryz.prog noD Tryz.f59.results.toList K) = (
bindO (boxS a0) fun c0 =>
loopB (evalS Tryz.prog (semCall Tryz.prog) F.ref01_Fits.L0) ⟨(setV (setV (setV (mkEnv [a0, a1]) 2 (.ptr (Heap.next h) 0)) 4 (.bool false)) 5 (.int .i64 0)), 36, [], (Heap.alloc h (.cells c0))⟩ (F.ref01_Fits.L0k K)) := by kernel_rfl
theorem F.ref01_Fits_sem {a0 a1 : AV} {h : Heap} {K : Out → Heap → Bool} (hh : (
bindO (boxS a0) fun c0 =>
loopB (evalS Tryz.prog (semCall Tryz.prog) F.ref01_Fits.L0) ⟨(setV (setV (setV (mkEnv [a0, a1]) 2 (.ptr (Heap.next h) 0)) 4 (.bool false)) 5 (.int .i64 0)), 36, [], (Heap.alloc h (.cells c0))⟩ (F.ref01_Fits.L0k K)) = true) : Sem Tryz.prog 59 [a0, a1] h K :=
  sem_body mixed (noD_sound _) Tryz.func59 (c := codeOf Tryz.f59) rfl (by decide) (of_decide_eq_true (by kernel_rfl)) (F.ref01_Fits_eq.trans hh)
theorem F.ref07_Tables_eq {a0 : AV} {h : Heap} {K : Out → Heap → Bool} : evalS Tryz.prog (semCall Tryz.prog) (codeOf Tryz.f60) ⟨mkEnv [a0], 8, [], h⟩ (leaveK Tryz.prog noD Tryz.f60.results.toList K) = (
bindO (boxS a0) fun c0 =>
bindO (loadS (some 2) (.ptr (Heap.next h) 0) (Heap.alloc h (.cells c0))) fun x1 =>
semCall Tryz.prog 82 [x1] (Heap.alloc h (.cells c0)) (outK (fun x2 h3 =>
bindO (nilCheckS x2) fun x6 =>
bindO (faS 2 x6) fun x7 =>
bindO (loadS none x7 h3) fun x8 =>
K (.ret x8) h3) (fun v4 h5 => K (.panic v4) h5))) := by kernel_rfl
theorem F.ref07_Tables_sem {a0 : AV} {h : Heap} {K : Out → Heap → Bool} (hh : (
bindO (boxS a0) fun c0 =>
bindO (loadS (some 2) (.ptr (Heap.next h) 0) (Heap.alloc h (.cells c0))) fun x1 =>
semCall Tryz.prog 82 [x1] (Heap.alloc h (.cells c0)) (outK (fun x2 h3 =>
bindO (nilCheckS x2) fun x6 =>
bindO (faS 2 x6) fun x7 =>
bindO (loadS none x7 h3) fun x8 =>
K (.ret x8) h3) (fun v4 h5 => K (.panic v4) h5))) = true) : Sem Tryz.prog 60 [a0] h K :=
  sem_body mixed (noD_sound _) Tryz.func60 (c := codeOf Tryz.f60) rfl (by decide) (of_decide_eq_true (by kernel_rfl)) (F.ref07_Tables_eq.trans hh)
noncomputable def F.ref01_Rank.L0 : Code := partOf (codeOf Tryz.f61) [1, 1, 1, 1, 0, 1, 0, 0]
noncomputable def F.ref01_Rank.L0k (K : Out → Heap → Bool) : AX → St → Bool := (blockK 0 (seqK false (evalS Tryz.prog (semCall Tryz.prog) (partOf (codeOf Tryz.f61) [1, 1, 1, 1, 1])) (leaveK Tryz.prog noD Tryz.f61.results.toList K)))
theorem F.ref01_Rank.L0_eq {e : Env} {h : Heap} {K : AX → St → Bool} : evalS Tryz.prog (semCall Tryz.prog) F.ref01_Rank.L0 ⟨e, 39, [], h⟩ K = (
bindO (lenS .slice (e 1) h) fun x13 =>
bindO (binS .lss (e 9) x13) fun x14 =>
condB x14 (
bindO (binS .mul (e 8) (e 0)) fun x15 =>
bindO (iaS 1 (e 1) (e 9)) fun x16 =>
bindO (loadS none x16 h) fun x17 =>
bindO (binS .add x15 x17) fun x18 =>
bindO (binS .add (e 9) (.int .i64 1)) fun x19 =>
K .normal ⟨(setV (setV (setV (setV (setV (setV (setV (setV (setV (setV (setV (setV (setV (setV (setV (setV e 24 (e 9)) 25 (e 1)) 26 x13) 27 x14) 30 (e 8)) 31 (e 0)) 32 x15) 33 (e 1)) 34 (e 9)) 35 x16) 36 x17) 37 x18) 8 x18) 28 (e 9)) 29 x19) 9 x19), 39, [], h⟩) (
K (.exit 0) ⟨(setV (setV (setV (setV e 24 (e 9)) 25 (e 1)) 26 x13) 27 x14), 39, [], h⟩)) := by kernel_rfl
theorem F.ref01_Rank.L0_x0_eq {e : Env} {h : Heap} {K : Out → Heap → Bool} : F.ref01_Rank.L0k K (.exit 0) ⟨e, 39, [], h⟩ = (
K (.ret (.tuple [(e 8), (.int .i64 0)])) h) := by kernel_rfl
theorem F.ref01_Rank_eq {a0 a1 : AV} {h : Heap} {K : Out → Heap → Bool} : evalS Tryz.prog (semCall Tryz.prog) (codeOf Tryz.f61) ⟨mkEnv [a0, a1], 39, [], h⟩ (leaveK Tryz.prog noD Tryz.f61.results.toList K) = (
bindO (lenS .slice a1 h) fun x0 =>
semCall Tryz.prog 115 [a0, x0] h (outK (fun x1 h2 =>
bindO (extractS x1 0) fun x5 =>
bindO (extractS x1 1) fun x6 =>
bindO (neV (.int .i64) x6 (.int .i64 0)) fun x7 =>
condB x7 (
K (.ret (.tuple [(.int .i64 0), x6])) h2) (
semCall Tryz.prog 108 [a0, a1] h2 (outK (fun x8 h9 =>
bindO (unS .not x8) fun x12 =>
condB x12 (
K (.ret (.tuple [(.int .i64 0), (.int .i64 2)])) h9) (
loopB (evalS Tryz.prog (semCall Tryz.prog) F.ref01_Rank.L0) ⟨(setV (setV (setV (setV (setV (setV (setV (setV (setV (setV (setV (setV (setV (setV (setV (setV (setV (setV (setV (mkEnv [a0, a1]) 4 (.int .i64 0)) 5 (.int .i64 0)) 11 a0) 12 a1) 13 x0) 14 x1) 10 x1) 15 x5) 16 x6) 6 x5) 7 x6) 17 x6) 18 x7) 20 a0) 21 a1) 22 x8) 23 x12) 8 (.int .i64 0)) 9 (.int .i64 0)), 39, [], h9⟩ (F.ref01_Rank.L0k K))) (fun v10 h11 => K (.panic v10) h11)))) (fun v3 h4 => K (.panic v3) h4))) := by kernel_rfl
theorem F.ref01_Rank_sem {a0 a1 : AV} {h : Heap} {K : Out → Heap → Bool} (hh : (
bindO (lenS .slice a1 h) fun x0 =>
semCall Tryz.prog 115 [a0, x0] h (outK (fun x1 h2 =>
bindO (extractS x1 0) fun x5 =>
bindO (extractS x1 1) fun x6 =>
bindO (neV (.int .i64) x6 (.int .i64 0)) fun x7 =>
condB x7 (
K (.ret (.tuple [(.int .i64 0), x6])) h2) (
semCall Tryz.prog 108 [a0, a1] h2 (outK (fun x8 h9 =>
bindO (unS .not x8) fun x12 =>
condB x12 (
K (.ret (.tuple [(.int .i64 0), (.int .i64 2)])) h9) (
loopB (evalS Tryz.prog (semCall Tryz.prog) F.ref01_Rank.L0) ⟨(setV (setV (setV (setV (setV (setV (setV (setV (setV (setV (setV (setV (setV (setV (setV (setV (setV (setV (setV (mkEnv [a0, a1]) 4 (.int .i64 0)) 5 (.int .i64 0)) 11 a0) 12 a1) 13 x0) 14 x1) 10 x1) 15 x5) 16 x6) 6 x5) 7 x6) 17 x6) 18 x7) 20 a0) 21 a1) 22 x8) 23 x12) 8 (.int .i64 0)) 9 (.int .i64 0)), 39, [], h9⟩ (F.ref01_Rank.L0k K))) (fun v10 h11 => K (.panic v10) h11)))) (fun v3 h4 => K (.panic v3) h4))) = true) : Sem Tryz.prog 61 [a0, a1] h K :=
  sem_body mixed (noD_sound _) Tryz.func61 (c := codeOf Tryz.f61) rfl (by decide) (of_decide_eq_true (by kernel_rfl)) (F.ref01_Rank_eq.trans hh)
noncomputable def F.ref07_Symbols.L0 : Code := partOf (codeOf Tryz.f77) [1, 1, 1, 1, 0, 1, 0, 0]
noncomputable def F.ref07_Symbols.L0k (K : Out → Heap → Bool) : AX → St → Bool := (blockK 0 (seqK false (evalS Tryz.prog (semCall Tryz.prog) (partOf (codeOf Tryz.f77) [1, 1, 1, 1, 1])) (leaveK Tryz.prog noD Tryz.f77.results.toList K)))
noncomputable def F.ref07_Symbols.L1 : Code := partOf (codeOf Tryz.f77) [1, 1, 1, 1, 1, 1, 0, 1, 0, 0]
noncomputable def F.ref07_Symbols.L1k (K : Out → Heap → Bool) : AX → St → Bool := (blockK 2 (seqK false (evalS Tryz.prog (semCall Tryz.prog) (partOf (codeOf Tryz.f77) [1, 1, 1, 1, 1, 1, 1])) (leaveK Tryz.prog noD Tryz.f77.results.toList K)))
theorem F.ref07_Symbols.L0_eq {e : Env} {h : Heap} {K : AX → St → Bool} : evalS Tryz.prog (semCall Tryz.prog) F.ref07_Symbols.L0 ⟨e, 55, [], h⟩ K = (
bindO (lenS .slice (e 5) h) fun x8 =>
bindO (binS .lss (e 6) x8) fun x9 =>
condB x9 (
bindO (iaS 2 (e 5) (e 6)) fun x10 =>
bindO (faS 0 x10) fun x11 =>
bindO (loadS none x11 h) fun x12 =>
semCall Tryz.prog 119 [(e 3), x12] h (outK (fun x13 h14 =>
bindO (unS .not x13) fun x17 =>
condB x17 (
bindO (iaS 2 (e 5) (e 6)) fun x18 =>
bindO (faS 0 x18) fun x19 =>
bindO (loadS none x19 h14) fun x20 =>
semCall Tryz.prog 139 [(e 4), x20] h14 (outK (fun x21 h22 =>
bindO (binS .add (e 6) (.int .i64 1)) fun x25 =>
K .normal ⟨(setV (setV (setV (setV (setV (setV (setV (setV (setV (setV (setV (setV (setV (setV (setV (setV (setV (setV (setV (setV (setV (setV (setV e 13 (e 6)) 14 (e 5)) 15 x8) 16 x9) 19 (e 3)) 20 (e 5)) 21 (e 6)) 22 x10) 23 x11) 24 x12) 25 x13) 26 x17) 27 (e 4)) 28 (e 5)) 29 (e 6)) 30 x18) 31 x19) 32 x20) 33 x21) 4 x21) 17 (e 6)) 18 x25) 6 x25), 55, [], h22⟩) (fun v23 h24 => K (.panic v23) ⟨(setV (setV (setV (setV (setV (setV (setV (setV (setV (setV (setV (setV (setV (setV (setV (setV (setV (setV e 13 (e 6)) 14 (e 5)) 15 x8) 16 x9) 19 (e 3)) 20 (e 5)) 21 (e 6)) 22 x10) 23 x11) 24 x12) 25 x13) 26 x17) 27 (e 4)) 28 (e 5)) 29 (e 6)) 30 x18) 31 x19) 32 x20), 55, [], h24⟩))) (
bindO (binS .add (e 6) (.int .i64 1)) fun x26 =>
K .normal ⟨(setV (setV (setV (setV (setV (setV (setV (setV (setV (setV (setV (setV (setV (setV (setV e 13 (e 6)) 14 (e 5)) 15 x8) 16 x9) 19 (e 3)) 20 (e 5)) 21 (e 6)) 22 x10) 23 x11) 24 x12) 25 x13) 26 x17) 17 (e 6)) 18 x26) 6 x26), 55, [], h14⟩)) (fun v15 h16 => K (.panic v15) ⟨(setV (setV (setV (setV (setV (setV (setV (setV (setV (setV e 13 (e 6)) 14 (e 5)) 15 x8) 16 x9) 19 (e 3)) 20 (e 5)) 21 (e 6)) 22 x10) 23 x11) 24 x12), 55, [], h16⟩))) (
K (.exit 0) ⟨(setV (setV (setV (setV e 13 (e 6)) 14 (e 5)) 15 x8) 16 x9), 55, [], h⟩)) := by kernel_rfl
theorem F.ref07_Symbols.L0_x0_eq {e : Env} {h : Heap} {K : Out → Heap → Bool} : F.ref07_Symbols.L0k K (.exit 0) ⟨e, 55, [], h⟩ = (
loopB (evalS Tryz.prog (semCall Tryz.prog) F.ref07_Symbols.L1) ⟨(setV (setV e 7 .nils) 8 (.int .i64 0)), 55, [], h⟩ (F.ref07_Symbols.L1k K)) := by kernel_rfl
theorem F.ref07_Symbols.L1_eq {e : Env} {h : Heap} {K : AX → St → Bool} : evalS Tryz.prog (semCall Tryz.prog) F.ref07_Symbols.L1 ⟨e, 55, [], h⟩ K = (
bindO (lenS .slice (e 4) h) fun x27 =>
bindO (binS .lss (e 8) x27) fun x28 =>
condB x28 (
bindO (iaS 1 (e 4) (e 8)) fun x29 =>
bindO (loadS none x29 h) fun x30 =>
bindO (iaS 1 (e 4) (e 8)) fun x31 =>
bindO (loadS none x31 h) fun x32 =>
semCall Tryz.prog 140 [(e 0), x32] h (outK (fun x33 h34 =>
if ((bindO (loadS none x29 h34) fun x35 =>
AV.beq x35 x30) && true) = true then (
bindO (aggS [(.str []), (.int .i64 0)] [(0, 1), (1, 1)] [x30, x33]) fun x36 =>
bindO (rowS [(.str []), (.int .i64 0)] [(0, 2)] [x36]) fun c37 =>
bindO2 (appendS 2 24 (e 7) (.slice (Heap.next h34) 0 1 2) (Heap.alloc h34 (.cells c37))) fun x38 h39 =>
bindO (binS .add (e 8) (.int .i64 1)) fun x40 =>
K .normal ⟨(setV (setV (setV (setV (setV (setV (setV (setV (setV (setV (setV (setV (setV (setV (setV (setV (setV (setV (setV (setV (setV (setV e 34 (e 8)) 35 (e 4)) 36 x27) 37 x28) 40 (e 7)) 41 (e 4)) 42 (e 8)) 43 x29) 44 x30) 45 (e 0)) 46 (e 4)) 47 (e 8)) 48 x31) 49 x32) 50 x33) 51 x36) 52 (.slice (Heap.next h34) 0 1 2)) 53 x38) 7 x38) 38 (e 8)) 39 x40) 8 x40), 55, [], h39⟩) else false) (fun _ _ => false))) (
K (.exit 2) ⟨(setV (setV (setV (setV e 34 (e 8)) 35 (e 4)) 36 x27) 37 x28), 55, [], h⟩)) := by kernel_rfl
theorem F.ref07_Symbols.L1_x2_eq {e : Env} {h : Heap} {K : Out → Heap → Bool} : F.ref07_Symbols.L1k K (.exit 2) ⟨e, 55, [], h⟩ = (
K (.ret (e 7)) h) := by kernel_rfl
theorem F.ref07_Symbols_eq {a0 : AV} {h : Heap} {K : Out → Heap → Bool} : evalS Tryz.prog (semCall Tryz.prog) (codeOf Tryz.f77) ⟨mkEnv [a0], 55, [], h⟩ (leaveK Tryz.prog noD Tryz.f77.results.toList K) = (
semCall Tryz.prog 137 [a0] h (outK (fun x0 h1 =>
semCall Tryz.prog 138 [a0] h1 (outK (fun x4 h5 =>
loopB (evalS Tryz.prog (semCall Tryz.prog) F.ref07_Symbols.L0) ⟨(setV (setV (setV (setV (setV (setV (setV (setV (setV (mkEnv [a0]) 2 .nils) 9 a0) 10 x0) 3 x0) 4 .nils) 11 a0) 12 x4) 5 x4) 6 (.int .i64 0)), 55, [], h5⟩ (F.ref07_Symbols.L0k K)) (fun v6 h7 => K (.panic v6) h7))) (fun v2 h3 => K (.panic v2) h3))) := by kernel_rfl
theorem F.ref07_Symbols_sem {a0 : AV} {h : Heap} {K : Out → Heap → Bool} (hh : (
semCall Tryz.prog 137 [a0] h (outK (fun x0 h1 =>
semCall Tryz.prog 138 [a0] h1 (outK (fun x4 h5 =>
loopB (evalS Tryz.prog (semCall Tryz.prog) F.ref07_Symbols.L0) ⟨(setV (setV (setV (setV (setV (setV (setV (setV (setV (mkEnv [a0]) 2 .nils) 9 a0) 10 x0) 3 x0) 4 .nils) 11 a0) 12 x4) 5 x4) 6 (.int .i64 0)), 55, [], h5⟩ (F.ref07_Symbols.L0k K)) (fun v6 h7 => K (.panic v6) h7))) (fun v2 h3 => K (.panic v2) h3))) = true) : Sem Tryz.prog 77 [a0] h K :=
  sem_body mixed (noD_sound _) Tryz.func77 (c := codeOf Tryz.f77) rfl (by decide) (of_decide_eq_true (by kernel_rfl)) (F.ref07_Symbols_eq.trans hh)
noncomputable def F.ref03_Of.L0 : Code := partOf (codeOf Tryz.f82) [1, 1, 0, 1, 0, 0]
noncomputable def F.ref03_Of.L0k (K : Out → Heap → Bool) : AX → St → Bool := (blockK 0 (seqK false (evalS Tryz.prog (semCall Tryz.prog) (partOf (codeOf Tryz.f82) [1, 1, 1])) (leaveK Tryz.prog noD Tryz.f82.results.toList K)))
theorem F.ref03_Of.L0_eq {e : Env} {h : Heap} {K : AX → St → Bool} : evalS Tryz.prog (semCall Tryz.prog) F.ref03_Of.L0 ⟨e, 50, [], h⟩ K = (
bindO (faS 1 (e 1)) fun x8 =>
bindO (loadS none x8 h) fun x9 =>
bindO (lenS .slice x9 h) fun x10 =>
bindO (binS .lss (e 4) x10) fun x11 =>
condB x11 (
bindO (nilCheckS (e 3)) fun x12 =>
bindO (faS 2 x12) fun x13 =>
bindO (loadS none x13 h) fun x14 =>
bindO (faS 0 (e 1)) fun x15 =>
bindO (loadS none x15 h) fun x16 =>
bindO (faS 1 (e 1)) fun x17 =>
bindO (loadS none x17 h) fun x18 =>
bindO (iaS 3 x18 (e 4)) fun x19 =>
bindO (faS 0 x19) fun x20 =>
bindO (loadS none x20 h) fun x21 =>
bindO (faS 1 (e 1)) fun x22 =>
bindO (loadS none x22 h) fun x23 =>
bindO (iaS 3 x23 (e 4)) fun x24 =>
bindO (faS 1 x24) fun x25 =>
bindO (loadS none x25 h) fun x26 =>
bindO (faS 1 (e 1)) fun x27 =>
bindO (loadS none x27 h) fun x28 =>
bindO (iaS 3 x28 (e 4)) fun x29 =>
bindO (faS 2 x29) fun x30 =>
bindO (loadS none x30 h) fun x31 =>
semCall Tryz.prog 143 [x16, x21, x26, x31] h (outK (fun x32 h33 =>
if ((bindO (loadS none x13 h33) fun x34 =>
AV.beq x34 x14) && true) = true then (
bindO (rowS [(.str []), (.int .i64 0), .nils] [(0, 3)] [x32]) fun c35 =>
bindO2 (appendS 3 48 x14 (.slice (Heap.next h33) 0 1 3) (Heap.alloc h33 (.cells c35))) fun x36 h37 =>
bindO (nilCheckS (e 3)) fun x38 =>
bindO (faS 2 x38) fun x39 =>
bindO (storeS 1 x39 x36 h37) fun h40 =>
bindO (binS .add (e 4) (.int .i64 1)) fun x41 =>
K .normal ⟨(setV (setV (setV (setV (setV (setV (setV (setV (setV (setV (setV (setV (setV (setV (setV (setV (setV (setV (setV (setV (setV (setV (setV (setV (setV (setV (setV (setV (setV (setV (setV (setV (setV (setV (setV (setV (setV (setV e 12 (e 4)) 13 x8) 14 x9) 15 x10) 16 x11) 19 (e 3)) 20 (e 3)) 21 x12) 22 x13) 23 x14) 24 x15) 25 x16) 26 x17) 27 x18) 28 (e 4)) 29 x19) 30 x20) 31 x21) 32 x22) 33 x23) 34 (e 4)) 35 x24) 36 x25) 37 x26) 38 x27) 39 x28) 40 (e 4)) 41 x29) 42 x30) 43 x31) 44 x32) 45 (.slice (Heap.next h33) 0 1 3)) 46 x36) 47 x38) 48 x39) 17 (e 4)) 18 x41) 4 x41), 50, [], h40⟩) else false) (fun _ _ => false))) (
K (.exit 0) ⟨(setV (setV (setV (setV (setV e 12 (e 4)) 13 x8) 14 x9) 15 x10) 16 x11), 50, [], h⟩)) := by kernel_rfl
theorem F.ref03_Of.L0_x0_eq {e : Env} {h : Heap} {K : Out → Heap → Bool} : F.ref03_Of.L0k K (.exit 0) ⟨e, 50, [], h⟩ = (
K (.ret (e 3)) h) := by kernel_rfl
theorem F.ref03_Of_eq {a0 : AV} {h : Heap} {K : Out → Heap → Bool} : evalS Tryz.prog (semCall Tryz.prog) (codeOf Tryz.f82) ⟨mkEnv [a0], 50, [], h⟩ (leaveK Tryz.prog noD Tryz.f82.results.toList K) = (
bindO (boxS a0) fun c0 =>
bindO (faS 0 (.ptr (Heap.next h) 0)) fun x1 =>
bindO (loadS none x1 (Heap.alloc h (.cells c0))) fun x2 =>
bindO (faS 1 (.ptr (Heap.next h) 0)) fun x3 =>
bindO (loadS none x3 (Heap.alloc h (.cells c0))) fun x4 =>
bindO (lenS .slice x4 (Heap.alloc h (.cells c0))) fun x5 =>
bindO (aggS [(.int .i64 0), (.int .i64 0), .nils, .nils, .nils, (.bool false)] [(0, 1), (1, 1)] [x2, x5]) fun x6 =>
bindO (boxS x6) fun c7 =>
loopB (evalS Tryz.prog (semCall Tryz.prog) F.ref03_Of.L0) ⟨(setV (setV (setV (setV (setV (setV (setV (setV (setV (setV (setV (mkEnv [a0]) 1 (.ptr (Heap.next h) 0)) 2 .nilp) 5 x1) 6 x2) 7 x3) 8 x4) 9 x5) 10 x6) 11 (.ptr (Heap.next (Heap.alloc h (.cells c0))) 0)) 3 (.ptr (Heap.next (Heap.alloc h (.cells c0))) 0)) 4 (.int .i64 0)), 50, [], (Heap.alloc (Heap.alloc h (.cells c0)) (.cells c7))⟩ (F.ref03_Of.L0k K)) := by kernel_rfl
theorem F.ref03_Of_sem {a0 : AV} {h : Heap} {K : Out → Heap → Bool} (hh : (
bindO (boxS a0) fun c0 =>
bindO (faS 0 (.ptr (Heap.next h) 0)) fun x1 =>
bindO (loadS none x1 (Heap.alloc h (.cells c0))) fun x2 =>
bindO (faS 1 (.ptr (Heap.next h) 0)) fun x3 =>
bindO (loadS none x3 (Heap.alloc h (.cells c0))) fun x4 =>
bindO (lenS .slice x4 (Heap.alloc h (.cells c0))) fun x5 =>
bindO (aggS [(.int .i64 0), (.int .i64 0), .nils, .nils, .nils, (.bool false)] [(0, 1), (1, 1)] [x2, x5]) fun x6 =>
bindO (boxS x6) fun c7 =>
loopB (evalS Tryz.prog (semCall Tryz.prog) F.ref03_Of.L0) ⟨(setV (setV (setV (setV (setV (setV (setV (setV (setV (setV (setV (mkEnv [a0]) 1 (.ptr (Heap.next h) 0)) 2 .nilp) 5 x1) 6 x2) 7 x3) 8 x4) 9 x5) 10 x6) 11 (.ptr (Heap.next (Heap.alloc h (.cells c0))) 0)) 3 (.ptr (Heap.next (Heap.alloc h (.cells c0))) 0)) 4 (.int .i64 0)), 50, [], (Heap.alloc (Heap.alloc h (.cells c0)) (.cells c7))⟩ (F.ref03_Of.L0k K)) = true) : Sem Tryz.prog 82 [a0] h K :=
  sem_body mixed (noD_sound _) Tryz.func82 (c := codeOf Tryz.f82) rfl (by decide) (of_decide_eq_true (by kernel_rfl)) (F.ref03_Of_eq.trans hh)
noncomputable def F.ref01_Find.L0 : Code := partOf (codeOf Tryz.f85) [1, 0, 1, 0, 0]
noncomputable def F.ref01_Find.L0k (K : Out → Heap → Bool) : AX → St → Bool := (blockK 0 (seqK false (evalS Tryz.prog (semCall Tryz.prog) (partOf (codeOf Tryz.f85) [1, 1])) (leaveK Tryz.prog noD Tryz.f85.results.toList K)))
theorem F.ref01_Find.L0_eq {e : Env} {h : Heap} {K : AX → St → Bool} : evalS Tryz.prog (semCall Tryz.prog) F.ref01_Find.L0 ⟨e, 22, [], h⟩ K = (
bindO (faS 1 (e 2)) fun x1 =>
bindO (loadS none x1 h) fun x2 =>
bindO (lenS .slice x2 h) fun x3 =>
bindO (binS .lss (e 5) x3) fun x4 =>
condB x4 (
bindO (faS 1 (e 2)) fun x5 =>
bindO (loadS none x5 h) fun x6 =>
bindO (iaS 3 x6 (e 5)) fun x7 =>
bindO (faS 0 x7) fun x8 =>
bindO (loadS none x8 h) fun x9 =>
bindO (eqV .string x9 (e 1)) fun x10 =>
condB x10 (
K .ret ⟨(setV (setV (setV (setV (setV (setV (setV (setV (setV (setV (setV (setV (setV (setV (setV e 6 (e 5)) 7 x1) 8 x2) 9 x3) 10 x4) 13 x5) 14 x6) 15 (e 5)) 16 x7) 17 x8) 18 x9) 19 (e 1)) 20 x10) 21 (e 5)) 4 (e 5)), 22, [], h⟩) (
bindO (binS .add (e 5) (.int .i64 1)) fun x11 =>
K .normal ⟨(setV (setV (setV (setV (setV (setV (setV (setV (setV (setV (setV (setV (setV (setV (setV (setV e 6 (e 5)) 7 x1) 8 x2) 9 x3) 10 x4) 13 x5) 14 x6) 15 (e 5)) 16 x7) 17 x8) 18 x9) 19 (e 1)) 20 x10) 11 (e 5)) 12 x11) 5 x11), 22, [], h⟩)) (
K (.exit 0) ⟨(setV (setV (setV (setV (setV e 6 (e 5)) 7 x1) 8 x2) 9 x3) 10 x4), 22, [], h⟩)) := by kernel_rfl
theorem F.ref01_Find.L0_x0_eq {e : Env} {h : Heap} {K : Out → Heap → Bool} : F.ref01_Find.L0k K (.exit 0) ⟨e, 22, [], h⟩ = (
K (.ret (.int .i64 (-1))) h) := by kernel_rfl
theorem F.ref01_Find.L0_r_eq {e : Env} {h : Heap} {K : Out → Heap → Bool} : F.ref01_Find.L0k K .ret ⟨e, 22, [], h⟩ = (
K (.ret (e 4)) h) := by kernel_rfl
theorem F.ref01_Find_eq {a0 a1 : AV} {h : Heap} {K : Out → Heap → Bool} : evalS Tryz.prog (semCall Tryz.prog) (codeOf Tryz.f85) ⟨mkEnv [a0, a1], 22, [], h⟩ (leaveK Tryz.prog noD Tryz.f85.results.toList K) = (
bindO (boxS a0) fun c0 =>
loopB (evalS Tryz.prog (semCall Tryz.prog) F.ref01_Find.L0) ⟨(setV (setV (setV (mkEnv [a0, a1]) 2 (.ptr (Heap.next h) 0)) 4 (.int .i64 0)) 5 (.int .i64 0)), 22, [], (Heap.alloc h (.cells c0))⟩ (F.ref01_Find.L0k K)) := by kernel_rfl
theorem F.ref01_Find_sem {a0 a1 : AV} {h : Heap} {K : Out → Heap → Bool} (hh : (
bindO (boxS a0) fun c0 =>
loopB (evalS Tryz.prog (semCall Tryz.prog) F.ref01_Find.L0) ⟨(setV (setV (setV (mkEnv [a0, a1]) 2 (.ptr (Heap.next h) 0)) 4 (.int .i64 0)) 5 (.int .i64 0)), 22, [], (Heap.alloc h (.cells c0))⟩ (F.ref01_Find.L0k K)) = true) : Sem Tryz.prog 85 [a0, a1] h K :=
  sem_body mixed (noD_sound _) Tryz.func85 (c := codeOf Tryz.f85) rfl (by decide) (of_decide_eq_true (by kernel_rfl)) (F.ref01_Find_eq.trans hh)
noncomputable def F.ref01_Pow.L0 : Code := partOf (codeOf Tryz.f87) [1, 1, 0, 1, 0, 0]
noncomputable def F.ref01_Pow.L0k (K : Out → Heap → Bool) : AX → St → Bool := (blockK 0 (seqK false (evalS Tryz.prog (semCall Tryz.prog) (partOf (codeOf Tryz.f87) [1, 1, 1])) (leaveK Tryz.prog noD Tryz.f87.results.toList K)))
theorem F.ref01_Pow.L0_eq {e : Env} {h : Heap} {K : AX → St → Bool} : evalS Tryz.prog (semCall Tryz.prog) F.ref01_Pow.L0 ⟨e, 20, [], h⟩ K = (
bindO (binS .lss (e 6) (e 1)) fun x0 =>
condB x0 (
bindO (binS .leq (e 5) (.int .i64 4096)) fun x1 =>
condB x1 (
bindO (binS .mul (e 5) (e 0)) fun x2 =>
bindO (binS .add (e 6) (.int .i64 1)) fun x3 =>
K .normal ⟨(setV (setV (setV (setV (setV (setV (setV (setV (setV (setV (setV (setV (setV (setV (setV (setV e 7 (e 6)) 8 (e 1)) 9 x0) 10 x0) 10 (.bool true)) 11 (e 5)) 10 (.bool true)) 12 x1) 13 x1) 16 (e 5)) 17 (e 0)) 18 x2) 5 x2) 14 (e 6)) 15 x3) 6 x3), 20, [], h⟩) (
K (.exit 0) ⟨(setV (setV (setV (setV (setV (setV (setV (setV (setV e 7 (e 6)) 8 (e 1)) 9 x0) 10 x0) 10 (.bool true)) 11 (e 5)) 10 (.bool true)) 12 x1) 13 x1), 20, [], h⟩)) (
K (.exit 0) ⟨(setV (setV (setV (setV (setV (setV (setV (setV (setV e 7 (e 6)) 8 (e 1)) 9 x0) 10 x0) 10 (.bool false)) 11 noV) 10 (.bool false)) 12 noV) 13 (.bool false)), 20, [], h⟩)) := by kernel_rfl
theorem F.ref01_Pow.L0_x0_eq {e : Env} {h : Heap} {K : Out → Heap → Bool} : F.ref01_Pow.L0k K (.exit 0) ⟨e, 20, [], h⟩ = (
K (.ret (e 5)) h) := by kernel_rfl
theorem F.ref01_Pow_eq {a0 a1 : AV} {h : Heap} {K : Out → Heap → Bool} : evalS Tryz.prog (semCall Tryz.prog) (codeOf Tryz.f87) ⟨mkEnv [a0, a1], 20, [], h⟩ (leaveK Tryz.prog noD Tryz.f87.results.toList K) = (
loopB (evalS Tryz.prog (semCall Tryz.prog) F.ref01_Pow.L0) ⟨(setV (setV (setV (mkEnv [a0, a1]) 4 (.int .i64 0)) 5 (.int .i64 1)) 6 (.int .i64 0)), 20, [], h⟩ (F.ref01_Pow.L0k K)) := by kernel_rfl
theorem F.ref01_Pow_sem {a0 a1 : AV} {h : Heap} {K : Out → Heap → Bool} (hh : (
loopB (evalS Tryz.prog (semCall Tryz.prog) F.ref01_Pow.L0) ⟨(setV (setV (setV (mkEnv [a0, a1]) 4 (.int .i64 0)) 5 (.int .i64 1)) 6 (.int .i64 0)), 20, [], h⟩ (F.ref01_Pow.L0k K)) = true) : Sem Tryz.prog 87 [a0, a1] h K :=
  sem_body mixed (noD_sound _) Tryz.func87 (c := codeOf Tryz.f87) rfl (by decide) (of_decide_eq_true (by kernel_rfl)) (F.ref01_Pow_eq.trans hh)
noncomputable def F.shape_Valid.L0 : Code := partOf (codeOf Tryz.f99) [1, 1, 0, 1, 0, 0]
noncomputable def F.shape_Valid.L0k (K : Out → Heap → Bool) : AX → St → Bool := (blockK 0 (seqK false (evalS Tryz.prog (semCall Tryz.prog) (partOf (codeOf Tryz.f99) [1, 1, 1])) (leaveK Tryz.prog noD Tryz.f99.results.toList K)))
theorem F.shape_Valid.L0_eq {e : Env} {h : Heap} {K : AX → St → Bool} : evalS Tryz.prog (semCall Tryz.prog) F.shape_Valid.L0 ⟨e, 63, [], h⟩ K = (
bindO (binS .lss (e 22) (e 21)) fun x14 =>
condB x14 (
bindO (iaS 3 (e 20) (e 22)) fun x15 =>
bindO (loadS (some 3) x15 h) fun x16 =>
bindO (storeS 3 (.ptr (Heap.next h) 0) x16 (Heap.alloc h (.cells [(.str []), (.int .i64 0), .nils]))) fun h17 =>
bindO (faS 0 (.ptr (Heap.next h) 0)) fun x18 =>
bindO (loadS none x18 h17) fun x19 =>
semCall Tryz.prog 152 [x19] h17 (outK (fun x20 h21 =>
bindO (unS .not x20) fun x24 =>
condB x24 (
K .ret ⟨(setV (setV (setV (setV (setV (setV (setV (setV (setV (setV (setV (setV (setV (setV (setV (setV (setV (setV (setV (setV (setV (setV (setV (setV (setV (setV (setV (setV (setV (setV (setV (setV (setV (setV (setV (setV (setV (setV (setV (setV (setV (setV (setV (setV (setV (setV (setV (setV (setV (setV (setV (setV (setV e 23 x14) 24 (e 22)) 25 x15) 26 x16) 4 (.ptr (Heap.next h) 0)) 3 (e 22)) 27 x18) 28 x19) 29 x20) 30 x24) 31 x24) 31 (.bool true)) 32 noV) 31 (.bool true)) 33 noV) 31 (.bool true)) 34 noV) 35 (.bool true)) 36 (.bool true)) 36 (.bool true)) 37 noV) 36 (.bool true)) 38 noV) 36 (.bool true)) 39 noV) 40 (.bool true)) 41 (.bool true)) 41 (.bool true)) 42 noV) 41 (.bool true)) 43 noV) 41 (.bool true)) 44 noV) 41 (.bool true)) 45 noV) 41 (.bool true)) 46 noV) 41 (.bool true)) 47 noV) 48 (.bool true)) 49 (.bool true)) 49 (.bool true)) 50 noV) 49 (.bool true)) 51 noV) 49 (.bool true)) 52 noV) 49 (.bool true)) 53 noV) 49 (.bool true)) 54 noV) 55 (.bool true)) 2 (.bool false)), 63, [], h21⟩) (
bindO (faS 1 (.ptr (Heap.next h) 0)) fun x25 =>
bindO (loadS none x25 h21) fun x26 =>
bindO (binS .lss x26 (.int .i64 0)) fun x27 =>
condB x27 (
K .ret ⟨(setV (setV (setV (setV (setV (setV (setV (setV (setV (setV (setV (setV (setV (setV (setV (setV (setV (setV (setV (setV (setV (setV (setV (setV (setV (setV (setV (setV (setV (setV (setV (setV (setV (setV (setV (setV (setV (setV (setV (setV (setV (setV (setV (setV (setV (setV (setV (setV (setV (setV (setV (setV (setV e 23 x14) 24 (e 22)) 25 x15) 26 x16) 4 (.ptr (Heap.next h) 0)) 3 (e 22)) 27 x18) 28 x19) 29 x20) 30 x24) 31 x24) 31 (.bool false)) 32 x25) 31 (.bool false)) 33 x26) 31 (.bool false)) 34 x27) 35 x27) 36 x27) 36 (.bool true)) 37 noV) 36 (.bool true)) 38 noV) 36 (.bool true)) 39 noV) 40 (.bool true)) 41 (.bool true)) 41 (.bool true)) 42 noV) 41 (.bool true)) 43 noV) 41 (.bool true)) 44 noV) 41 (.bool true)) 45 noV) 41 (.bool true)) 46 noV) 41 (.bool true)) 47 noV) 48 (.bool true)) 49 (.bool true)) 49 (.bool true)) 50 noV) 49 (.bool true)) 51 noV) 49 (.bool true)) 52 noV) 49 (.bool true)) 53 noV) 49 (.bool true)) 54 noV) 55 (.bool true)) 2 (.bool false)), 63, [], h21⟩) (
bindO (faS 1 (.ptr (Heap.next h) 0)) fun x28 =>
bindO (loadS none x28 h21) fun x29 =>
bindO (binS .gtr x29 (.int .i64 12)) fun x30 =>
condB x30 (
K .ret ⟨(setV (setV (setV (setV (setV (setV (setV (setV (setV (setV (setV (setV (setV (setV (setV (setV (setV (setV (setV (setV (setV (setV (setV (setV (setV (setV (setV (setV (setV (setV (setV (setV (setV (setV (setV (setV (setV (setV (setV (setV (setV (setV (setV (setV (setV (setV (setV (setV (setV (setV (setV (setV (setV e 23 x14) 24 (e 22)) 25 x15) 26 x16) 4 (.ptr (Heap.next h) 0)) 3 (e 22)) 27 x18) 28 x19) 29 x20) 30 x24) 31 x24) 31 (.bool false)) 32 x25) 31 (.bool false)) 33 x26) 31 (.bool false)) 34 x27) 35 x27) 36 x27) 36 (.bool false)) 37 x28) 36 (.bool false)) 38 x29) 36 (.bool false)) 39 x30) 40 x30) 41 x30) 41 (.bool true)) 42 noV) 41 (.bool true)) 43 noV) 41 (.bool true)) 44 noV) 41 (.bool true)) 45 noV) 41 (.bool true)) 46 noV) 41 (.bool true)) 47 noV) 48 (.bool true)) 49 (.bool true)) 49 (.bool true)) 50 noV) 49 (.bool true)) 51 noV) 49 (.bool true)) 52 noV) 49 (.bool true)) 53 noV) 49 (.bool true)) 54 noV) 55 (.bool true)) 2 (.bool false)), 63, [], h21⟩) (
bindO (faS 0 (e 1)) fun x31 =>
bindO (loadS none x31 h21) fun x32 =>
bindO (faS 1 (.ptr (Heap.next h) 0)) fun x33 =>
bindO (loadS none x33 h21) fun x34 =>
semCall Tryz.prog 153 [x32, x34, (.int .i64 4096)] h21 (outK (fun x35 h36 =>
bindO (binS .lss x35 (.int .i64 0)) fun x39 =>
condB x39 (
K .ret ⟨(setV (setV (setV (setV (setV (setV (setV (setV (setV (setV (setV (setV (setV (setV (setV (setV (setV (setV (setV (setV (setV (setV (setV (setV (setV (setV (setV (setV (setV (setV (setV (setV (setV (setV (setV (setV (setV (setV (setV (setV (setV (setV (setV (setV (setV (setV (setV (setV (setV (setV (setV (setV (setV e 23 x14) 24 (e 22)) 25 x15) 26 x16) 4 (.ptr (Heap.next h) 0)) 3 (e 22)) 27 x18) 28 x19) 29 x20) 30 x24) 31 x24) 31 (.bool false)) 32 x25) 31 (.bool false)) 33 x26) 31 (.bool false)) 34 x27) 35 x27) 36 x27) 36 (.bool false)) 37 x28) 36 (.bool false)) 38 x29) 36 (.bool false)) 39 x30) 40 x30) 41 x30) 41 (.bool false)) 42 x31) 41 (.bool false)) 43 x32) 41 (.bool false)) 44 x33) 41 (.bool false)) 45 x34) 41 (.bool false)) 46 x35) 41 (.bool false)) 47 x39) 48 x39) 49 x39) 49 (.bool true)) 50 noV) 49 (.bool true)) 51 noV) 49 (.bool true)) 52 noV) 49 (.bool true)) 53 noV) 49 (.bool true)) 54 noV) 55 (.bool true)) 2 (.bool false)), 63, [], h36⟩) (
bindO (faS 0 (e 1)) fun x40 =>
bindO (loadS none x40 h36) fun x41 =>
bindO (loadS (some 3) (.ptr (Heap.next h) 0) h36) fun x42 =>
semCall Tryz.prog 154 [x41, x42] h36 (outK (fun x43 h44 =>
bindO (unS .not x43) fun x47 =>
condB x47 (
K .ret ⟨(setV (setV (setV (setV (setV (setV (setV (setV (setV (setV (setV (setV (setV (setV (setV (setV (setV (setV (setV (setV (setV (setV (setV (setV (setV (setV (setV (setV (setV (setV (setV (setV (setV (setV (setV (setV (setV (setV (setV (setV (setV (setV (setV (setV (setV (setV (setV (setV (setV (setV (setV (setV (setV e 23 x14) 24 (e 22)) 25 x15) 26 x16) 4 (.ptr (Heap.next h) 0)) 3 (e 22)) 27 x18) 28 x19) 29 x20) 30 x24) 31 x24) 31 (.bool false)) 32 x25) 31 (.bool false)) 33 x26) 31 (.bool false)) 34 x27) 35 x27) 36 x27) 36 (.bool false)) 37 x28) 36 (.bool false)) 38 x29) 36 (.bool false)) 39 x30) 40 x30) 41 x30) 41 (.bool false)) 42 x31) 41 (.bool false)) 43 x32) 41 (.bool false)) 44 x33) 41 (.bool false)) 45 x34) 41 (.bool false)) 46 x35) 41 (.bool false)) 47 x39) 48 x39) 49 x39) 49 (.bool false)) 50 x40) 49 (.bool false)) 51 x41) 49 (.bool false)) 52 x42) 49 (.bool false)) 53 x43) 49 (.bool false)) 54 x47) 55 x47) 2 (.bool false)), 63, [], h44⟩) (
bindO (faS 1 (e 1)) fun x48 =>
bindO (loadS none x48 h44) fun x49 =>
bindO (sliceS (some 3) x49 none (some (e 22))) fun x50 =>
semCall Tryz.prog 155 [x50, (.func 156 [] [(.ptr (Heap.next h) 0)])] h44 (outK (fun x51 h52 =>
condB x51 (
K .ret ⟨(setV (setV (setV (setV (setV (setV (setV (setV (setV (setV (setV (setV (setV (setV (setV (setV (setV (setV (setV (setV (setV (setV (setV (setV (setV (setV (setV (setV (setV (setV (setV (setV (setV (setV (setV (setV (setV (setV (setV (setV (setV (setV (setV (setV (setV (setV (setV (setV (setV (setV (setV (setV (setV (setV (setV (setV (setV (setV (setV e 23 x14) 24 (e 22)) 25 x15) 26 x16) 4 (.ptr (Heap.next h) 0)) 3 (e 22)) 27 x18) 28 x19) 29 x20) 30 x24) 31 x24) 31 (.bool false)) 32 x25) 31 (.bool false)) 33 x26) 31 (.bool false)) 34 x27) 35 x27) 36 x27) 36 (.bool false)) 37 x28) 36 (.bool false)) 38 x29) 36 (.bool false)) 39 x30) 40 x30) 41 x30) 41 (.bool false)) 42 x31) 41 (.bool false)) 43 x32) 41 (.bool false)) 44 x33) 41 (.bool false)) 45 x34) 41 (.bool false)) 46 x35) 41 (.bool false)) 47 x39) 48 x39) 49 x39) 49 (.bool false)) 50 x40) 49 (.bool false)) 51 x41) 49 (.bool false)) 52 x42) 49 (.bool false)) 53 x43) 49 (.bool false)) 54 x47) 55 x47) 56 x48) 57 x49) 58 (e 22)) 59 x50) 60 (.func 156 [] [(.ptr (Heap.next h) 0)])) 61 x51) 2 (.bool false)), 63, [], h52⟩) (
bindO (binS .add (e 22) (.int .i64 1)) fun x55 =>
K .normal ⟨(setV (setV (setV (setV (setV (setV (setV (setV (setV (setV (setV (setV (setV (setV (setV (setV (setV (setV (setV (setV (setV (setV (setV (setV (setV (setV (setV (setV (setV (setV (setV (setV (setV (setV (setV (setV (setV (setV (setV (setV (setV (setV (setV (setV (setV (setV (setV (setV (setV (setV (setV (setV (setV (setV (setV (setV (setV (setV (setV (setV e 23 x14) 24 (e 22)) 25 x15) 26 x16) 4 (.ptr (Heap.next h) 0)) 3 (e 22)) 27 x18) 28 x19) 29 x20) 30 x24) 31 x24) 31 (.bool false)) 32 x25) 31 (.bool false)) 33 x26) 31 (.bool false)) 34 x27) 35 x27) 36 x27) 36 (.bool false)) 37 x28) 36 (.bool false)) 38 x29) 36 (.bool false)) 39 x30) 40 x30) 41 x30) 41 (.bool false)) 42 x31) 41 (.bool false)) 43 x32) 41 (.bool false)) 44 x33) 41 (.bool false)) 45 x34) 41 (.bool false)) 46 x35) 41 (.bool false)) 47 x39) 48 x39) 49 x39) 49 (.bool false)) 50 x40) 49 (.bool false)) 51 x41) 49 (.bool false)) 52 x42) 49 (.bool false)) 53 x43) 49 (.bool false)) 54 x47) 55 x47) 56 x48) 57 x49) 58 (e 22)) 59 x50) 60 (.func 156 [] [(.ptr (Heap.next h) 0)])) 61 x51) 62 x55) 22 x55), 63, [], h52⟩)) (fun v53 h54 => K (.panic v53) ⟨(setV (setV (setV (setV (setV (setV (setV (setV (setV (setV (setV (setV (setV (setV (setV (setV (setV (setV (setV (setV (setV (setV (setV (setV (setV (setV (setV (setV (setV (setV (setV (setV (setV (setV (setV (setV (setV (setV (setV (setV (setV (setV (setV (setV (setV (setV (setV (setV (setV (setV (setV (setV (setV (setV (setV (setV (setV e 23 x14) 24 (e 22)) 25 x15) 26 x16) 4 (.ptr (Heap.next h) 0)) 3 (e 22)) 27 x18) 28 x19) 29 x20) 30 x24) 31 x24) 31 (.bool false)) 32 x25) 31 (.bool false)) 33 x26) 31 (.bool false)) 34 x27) 35 x27) 36 x27) 36 (.bool false)) 37 x28) 36 (.bool false)) 38 x29) 36 (.bool false)) 39 x30) 40 x30) 41 x30) 41 (.bool false)) 42 x31) 41 (.bool false)) 43 x32) 41 (.bool false)) 44 x33) 41 (.bool false)) 45 x34) 41 (.bool false)) 46 x35) 41 (.bool false)) 47 x39) 48 x39) 49 x39) 49 (.bool false)) 50 x40) 49 (.bool false)) 51 x41) 49 (.bool false)) 52 x42) 49 (.bool false)) 53 x43) 49 (.bool false)) 54 x47) 55 x47) 56 x48) 57 x49) 58 (e 22)) 59 x50) 60 (.func 156 [] [(.ptr (Heap.next h) 0)])), 63, [], h54⟩)))) (fun v45 h46 => K (.panic v45) ⟨(setV (setV (setV (setV (setV (setV (setV (setV (setV (setV (setV (setV (setV (setV (setV (setV (setV (setV (setV (setV (setV (setV (setV (setV (setV (setV (setV (setV (setV (setV (setV (setV (setV (setV (setV (setV (setV (setV (setV (setV (setV (setV (setV (setV (setV (setV (setV (setV e 23 x14) 24 (e 22)) 25 x15) 26 x16) 4 (.ptr (Heap.next h) 0)) 3 (e 22)) 27 x18) 28 x19) 29 x20) 30 x24) 31 x24) 31 (.bool false)) 32 x25) 31 (.bool false)) 33 x26) 31 (.bool false)) 34 x27) 35 x27) 36 x27) 36 (.bool false)) 37 x28) 36 (.bool false)) 38 x29) 36 (.bool false)) 39 x30) 40 x30) 41 x30) 41 (.bool false)) 42 x31) 41 (.bool false)) 43 x32) 41 (.bool false)) 44 x33) 41 (.bool false)) 45 x34) 41 (.bool false)) 46 x35) 41 (.bool false)) 47 x39) 48 x39) 49 x39) 49 (.bool false)) 50 x40) 49 (.bool false)) 51 x41) 49 (.bool false)) 52 x42) 49 (.bool false)), 63, [], h46⟩)))) (fun v37 h38 => K (.panic v37) ⟨(setV (setV (setV (setV (setV (setV (setV (setV (setV (setV (setV (setV (setV (setV (setV (setV (setV (setV (setV (setV (setV (setV (setV (setV (setV (setV (setV (setV (setV (setV (setV (setV (setV (setV (setV (setV e 23 x14) 24 (e 22)) 25 x15) 26 x16) 4 (.ptr (Heap.next h) 0)) 3 (e 22)) 27 x18) 28 x19) 29 x20) 30 x24) 31 x24) 31 (.bool false)) 32 x25) 31 (.bool false)) 33 x26) 31 (.bool false)) 34 x27) 35 x27) 36 x27) 36 (.bool false)) 37 x28) 36 (.bool false)) 38 x29) 36 (.bool false)) 39 x30) 40 x30) 41 x30) 41 (.bool false)) 42 x31) 41 (.bool false)) 43 x32) 41 (.bool false)) 44 x33) 41 (.bool false)) 45 x34) 41 (.bool false)), 63, [], h38⟩)))))) (fun v22 h23 => K (.panic v22) ⟨(setV (setV (setV (setV (setV (setV (setV (setV e 23 x14) 24 (e 22)) 25 x15) 26 x16) 4 (.ptr (Heap.next h) 0)) 3 (e 22)) 27 x18) 28 x19), 63, [], h23⟩))) (
K (.exit 0) ⟨(setV e 23 x14), 63, [], h⟩)) := by kernel_rfl
theorem F.shape_Valid.L0_x0_eq {e : Env} {h : Heap} {K : Out → Heap → Bool} : F.shape_Valid.L0k K (.exit 0) ⟨e, 63, [], h⟩ = (
K (.ret (.bool true)) h) := by kernel_rfl
theorem F.shape_Valid.L0_r_eq {e : Env} {h : Heap} {K : Out → Heap → Bool} : F.shape_Valid.L0k K .ret ⟨e, 63, [], h⟩ = (
K (.ret (e 2)) h) := by kernel_rfl
theorem F.shape_Valid_eq {a0 : AV} {h : Heap} {K : Out → Heap → Bool} : evalS Tryz.prog (semCall Tryz.prog) (codeOf Tryz.f99) ⟨mkEnv [a0], 63, [], h⟩ (leaveK Tryz.prog noD Tryz.f99.results.toList K) = (
bindO (boxS a0) fun c0 =>
bindO (faS 0 (.ptr (Heap.next h) 0)) fun x1 =>
bindO (loadS none x1 (Heap.alloc h (.cells c0))) fun x2 =>
bindO (binS .lss x2 (.int .i64 1)) fun x3 =>
condB x3 (
K (.ret (.bool false)) (Heap.alloc h (.cells c0))) (
bindO (faS 0 (.ptr (Heap.next h) 0)) fun x4 =>
bindO (loadS none x4 (Heap.alloc h (.cells c0))) fun x5 =>
bindO (binS .gtr x5 (.int .i64 64)) fun x6 =>
condB x6 (
K (.ret (.bool false)) (Heap.alloc h (.cells c0))) (
bindO (faS 1 (.ptr (Heap.next h) 0)) fun x7 =>
bindO (loadS none x7 (Heap.alloc h (.cells c0))) fun x8 =>
bindO (lenS .slice x8 (Heap.alloc h (.cells c0))) fun x9 =>
bindO (binS .gtr x9 (.int .i64 8)) fun x10 =>
condB x10 (
K (.ret (.bool false)) (Heap.alloc h (.cells c0))) (
bindO (faS 1 (.ptr (Heap.next h) 0)) fun x11 =>
bindO (loadS none x11 (Heap.alloc h (.cells c0))) fun x12 =>
bindO (lenS .slice x12 (Heap.alloc h (.cells c0))) fun x13 =>
loopB (evalS Tryz.prog (semCall Tryz.prog) F.shape_Valid.L0) ⟨(setV (setV (setV (setV (setV (setV (setV (setV (setV (setV (setV (setV (setV (setV (setV (setV (setV (setV (setV (setV (setV (setV (setV (setV (setV (setV (setV (mkEnv [a0]) 1 (.ptr (Heap.next h) 0)) 2 (.bool false)) 5 x1) 6 x2) 7 x3) 8 x3) 8 (.bool false)) 9 x4) 8 (.bool false)) 10 x5) 8 (.bool false)) 11 x6) 12 x6) 13 x6) 13 (.bool false)) 14 x7) 13 (.bool false)) 15 x8) 13 (.bool false)) 16 x9) 13 (.bool false)) 17 x10) 18 x10) 19 x11) 20 x12) 21 x13) 22 (.int .i64 0)), 63, [], (Heap.alloc h (.cells c0))⟩ (F.shape_Valid.L0k K))))) := by kernel_rfl
theorem F.shape_Valid_sem {a0 : AV} {h : Heap} {K : Out → Heap → Bool} (hh : (
bindO (boxS a0) fun c0 =>
bindO (faS 0 (.ptr (Heap.next h) 0)) fun x1 =>
bindO (loadS none x1 (Heap.alloc h (.cells c0))) fun x2 =>
bindO (binS .lss x2 (.int .i64 1)) fun x3 =>
condB x3 (
K (.ret (.bool false)) (Heap.alloc h (.cells c0))) (
bindO (faS 0 (.ptr (Heap.next h) 0)) fun x4 =>
bindO (loadS none x4 (Heap.alloc h (.cells c0))) fun x5 =>
bindO (binS .gtr x5 (.int .i64 64)) fun x6 =>
condB x6 (
K (.ret (.bool false)) (Heap.alloc h (.cells c0))) (
bindO (faS 1 (.ptr (Heap.next h) 0)) fun x7 =>
bindO (loadS none x7 (Heap.alloc h (.cells c0))) fun x8 =>
bindO (lenS .slice x8 (Heap.alloc h (.cells c0))) fun x9 =>
bindO (binS .gtr x9 (.int .i64 8)) fun x10 =>
condB x10 (
K (.ret (.bool false)) (Heap.alloc h (.cells c0))) (
bindO (faS 1 (.ptr (Heap.next h) 0)) fun x11 =>
bindO (loadS none x11 (Heap.alloc h (.cells c0))) fun x12 =>
bindO (lenS .slice x12 (Heap.alloc h (.cells c0))) fun x13 =>
loopB (evalS Tryz.prog (semCall Tryz.prog) F.shape_Valid.L0) ⟨(setV (setV (setV (setV (setV (setV (setV (setV (setV (setV (setV (setV (setV (setV (setV (setV (setV (setV (setV (setV (setV (setV (setV (setV (setV (setV (setV (mkEnv [a0]) 1 (.ptr (Heap.next h) 0)) 2 (.bool false)) 5 x1) 6 x2) 7 x3) 8 x3) 8 (.bool false)) 9 x4) 8 (.bool false)) 10 x5) 8 (.bool false)) 11 x6) 12 x6) 13 x6) 13 (.bool false)) 14 x7) 13 (.bool false)) 15 x8) 13 (.bool false)) 16 x9) 13 (.bool false)) 17 x10) 18 x10) 19 x11) 20 x12) 21 x13) 22 (.int .i64 0)), 63, [], (Heap.alloc h (.cells c0))⟩ (F.shape_Valid.L0k K))))) = true) : Sem Tryz.prog 99 [a0] h K :=
  sem_body mixed (noD_sound _) Tryz.func99 (c := codeOf Tryz.f99) rfl (by decide) (of_decide_eq_true (by kernel_rfl)) (F.shape_Valid_eq.trans hh)
theorem F.shape_Find_eq {a0 a1 a2 : AV} {h : Heap} {K : Out → Heap → Bool} : evalS Tryz.prog (semCall Tryz.prog) (codeOf Tryz.f100) ⟨mkEnv [a0, a1, a2], 11, [], h⟩ (leaveK Tryz.prog noD Tryz.f100.results.toList K) = (
bindO (boxS a0) fun c0 =>
bindO (boxS a1) fun c1 =>
bindO (boxS a2) fun c2 =>
bindO (faS 1 (.ptr (Heap.next h) 0)) fun x3 =>
bindO (loadS none x3 (Heap.alloc (Heap.alloc (Heap.alloc h (.cells c0)) (.cells c1)) (.cells c2))) fun x4 =>
semCall Tryz.prog 157 [x4, (.func 158 [] [(.ptr (Heap.next (Heap.alloc h (.cells c0))) 0), (.ptr (Heap.next (Heap.alloc (Heap.alloc h (.cells c0)) (.cells c1))) 0)])] (Heap.alloc (Heap.alloc (Heap.alloc h (.cells c0)) (.cells c1)) (.cells c2)) (outK (fun x5 h6 =>
K (.ret x5) h6) (fun v7 h8 => K (.panic v7) h8))) := by kernel_rfl
theorem F.shape_Find_sem {a0 a1 a2 : AV} {h : Heap} {K : Out → Heap → Bool} (hh : (
bindO (boxS a0) fun c0 =>
bindO (boxS a1) fun c1 =>
bindO (boxS a2) fun c2 =>
bindO (faS 1 (.ptr (Heap.next h) 0)) fun x3 =>
bindO (loadS none x3 (Heap.alloc (Heap.alloc (Heap.alloc h (.cells c0)) (.cells c1)) (.cells c2))) fun x4 =>
semCall Tryz.prog 157 [x4, (.func 158 [] [(.ptr (Heap.next (Heap.alloc h (.cells c0))) 0), (.ptr (Heap.next (Heap.alloc (Heap.alloc h (.cells c0)) (.cells c1))) 0)])] (Heap.alloc (Heap.alloc (Heap.alloc h (.cells c0)) (.cells c1)) (.cells c2)) (outK (fun x5 h6 =>
K (.ret x5) h6) (fun v7 h8 => K (.panic v7) h8))) = true) : Sem Tryz.prog 100 [a0, a1, a2] h K :=
  sem_body mixed (noD_sound _) Tryz.func100 (c := codeOf Tryz.f100) rfl (by decide) (of_decide_eq_true (by kernel_rfl)) (F.shape_Find_eq.trans hh)
noncomputable def F.slices_Compare_S_int_int.L0 : Code := partOf (codeOf Tryz.f102) [1, 0, 1, 0, 0]
noncomputable def F.slices_Compare_S_int_int.L0k (K : Out → Heap → Bool) : AX → St → Bool := (blockK 0 (seqK false (evalS Tryz.prog (semCall Tryz.prog) (partOf (codeOf Tryz.f102) [1, 1])) (leaveK Tryz.prog noD Tryz.f102.results.toList K)))
theorem F.slices_Compare_S_int_int.L0_eq {e : Env} {h : Heap} {K : AX → St → Bool} : evalS Tryz.prog (semCall Tryz.prog) F.slices_Compare_S_int_int.L0 ⟨e, 36, [], h⟩ K = (
bindO (binS .lss (e 11) (e 10)) fun x1 =>
condB x1 (
bindO (iaS 1 (e 9) (e 11)) fun x2 =>
bindO (loadS none x2 h) fun x3 =>
bindO (lenS .slice (e 1) h) fun x4 =>
bindO (binS .geq (e 11) x4) fun x5 =>
condB x5 (
K .ret ⟨(setV (setV (setV (setV (setV (setV (setV (setV (setV (setV (setV e 12 x1) 13 (e 11)) 14 x2) 15 x3) 5 (e 11)) 6 x3) 16 (e 11)) 17 (e 1)) 18 x4) 19 x5) 4 (.int .i64 1)), 36, [], h⟩) (
bindO (iaS 1 (e 1) (e 11)) fun x6 =>
bindO (loadS none x6 h) fun x7 =>
semCall Tryz.prog 159 [x3, x7] h (outK (fun x8 h9 =>
bindO (neV (.int .i64) x8 (.int .i64 0)) fun x12 =>
condB x12 (
K .ret ⟨(setV (setV (setV (setV (setV (setV (setV (setV (setV (setV (setV (setV (setV (setV (setV (setV (setV (setV (setV (setV (setV (setV (setV e 12 x1) 13 (e 11)) 14 x2) 15 x3) 5 (e 11)) 6 x3) 16 (e 11)) 17 (e 1)) 18 x4) 19 x5) 20 (e 1)) 21 (e 11)) 22 x6) 23 x7) 7 x7) 24 x3) 25 x7) 26 x8) 8 x8) 27 x8) 28 x12) 29 x8) 4 x8), 36, [], h9⟩) (
bindO (binS .add (e 11) (.int .i64 1)) fun x13 =>
K .normal ⟨(setV (setV (setV (setV (setV (setV (setV (setV (setV (setV (setV (setV (setV (setV (setV (setV (setV (setV (setV (setV (setV (setV (setV e 12 x1) 13 (e 11)) 14 x2) 15 x3) 5 (e 11)) 6 x3) 16 (e 11)) 17 (e 1)) 18 x4) 19 x5) 20 (e 1)) 21 (e 11)) 22 x6) 23 x7) 7 x7) 24 x3) 25 x7) 26 x8) 8 x8) 27 x8) 28 x12) 30 x13) 11 x13), 36, [], h9⟩)) (fun v10 h11 => K (.panic v10) ⟨(setV (setV (setV (setV (setV (setV (setV (setV (setV (setV (setV (setV (setV (setV (setV (setV (setV e 12 x1) 13 (e 11)) 14 x2) 15 x3) 5 (e 11)) 6 x3) 16 (e 11)) 17 (e 1)) 18 x4) 19 x5) 20 (e 1)) 21 (e 11)) 22 x6) 23 x7) 7 x7) 24 x3) 25 x7), 36, [], h11⟩)))) (
K (.exit 0) ⟨(setV e 12 x1), 36, [], h⟩)) := by kernel_rfl
theorem F.slices_Compare_S_int_int.L0_x0_eq {e : Env} {h : Heap} {K : Out → Heap → Bool} : F.slices_Compare_S_int_int.L0k K (.exit 0) ⟨e, 36, [], h⟩ = (
bindO (lenS .slice (e 0) h) fun x14 =>
bindO (lenS .slice (e 1) h) fun x15 =>
bindO (binS .lss x14 x15) fun x16 =>
condB x16 (
K (.ret (.int .i64 (-1))) h) (
K (.ret (.int .i64 0)) h)) := by kernel_rfl
theorem F.slices_Compare_S_int_int.L0_r_eq {e : Env} {h : Heap} {K : Out → Heap → Bool} : F.slices_Compare_S_int_int.L0k K .ret ⟨e, 36, [], h⟩ = (
K (.ret (e 4)) h) := by kernel_rfl
theorem F.slices_Compare_S_int_int_eq {a0 a1 : AV} {h : Heap} {K : Out → Heap → Bool} : evalS Tryz.prog (semCall Tryz.prog) (codeOf Tryz.f102) ⟨mkEnv [a0, a1], 36, [], h⟩ (leaveK Tryz.prog noD Tryz.f102.results.toList K) = (
bindO (lenS .slice a0 h) fun x0 =>
loopB (evalS Tryz.prog (semCall Tryz.prog) F.slices_Compare_S_int_int.L0) ⟨(setV (setV (setV (setV (mkEnv [a0, a1]) 4 (.int .i64 0)) 9 a0) 10 x0) 11 (.int .i64 0)), 36, [], h⟩ (F.slices_Compare_S_int_int.L0k K)) := by kernel_rfl
theorem F.slices_Compare_S_int_int_sem {a0 a1 : AV} {h : Heap} {K : Out → Heap → Bool} (hh : (
bindO (lenS .slice a0 h) fun x0 =>
loopB (evalS Tryz.prog (semCall Tryz.prog) F.slices_Compare_S_int_int.L0) ⟨(setV (setV (setV (setV (mkEnv [a0, a1]) 4 (.int .i64 0)) 9 a0) 10 x0) 11 (.int .i64 0)), 36, [], h⟩ (F.slices_Compare_S_int_int.L0k K)) = true) : Sem Tryz.prog 102 [a0, a1] h K :=
  sem_body mixed (noD_sound _) Tryz.func102 (c := codeOf Tryz.f102) rfl (by decide) (of_decide_eq_true (by kernel_rfl)) (F.slices_Compare_S_int_int_eq.trans hh)
theorem F.shape_elements_eq {a0 a1 : AV} {h : Heap} {K : Out → Heap → Bool} : evalS Tryz.prog (semCall Tryz.prog) (codeOf Tryz.f103) ⟨mkEnv [a0, a1], 9, [], h⟩ (leaveK Tryz.prog noD Tryz.f103.results.toList K) = (
bindO (boxS a0) fun c0 =>
semCall Tryz.prog 112 [a1, (.func 160 [] [(.ptr (Heap.next h) 0)])] (Heap.alloc h (.cells c0)) (outK (fun x1 h2 =>
bindO (unS .not x1) fun x5 =>
K (.ret x5) h2) (fun v3 h4 => K (.panic v3) h4))) := by kernel_rfl
theorem F.shape_elements_sem {a0 a1 : AV} {h : Heap} {K : Out → Heap → Bool} (hh : (
bindO (boxS a0) fun c0 =>
semCall Tryz.prog 112 [a1, (.func 160 [] [(.ptr (Heap.next h) 0)])] (Heap.alloc h (.cells c0)) (outK (fun x1 h2 =>
bindO (unS .not x1) fun x5 =>
K (.ret x5) h2) (fun v3 h4 => K (.panic v3) h4))) = true) : Sem Tryz.prog 103 [a0, a1] h K :=
  sem_body mixed (noD_sound _) Tryz.func103 (c := codeOf Tryz.f103) rfl (by decide) (of_decide_eq_true (by kernel_rfl)) (F.shape_elements_eq.trans hh)
theorem F.shape_Power_eq {a0 a1 : AV} {h : Heap} {K : Out → Heap → Bool} : evalS Tryz.prog (semCall Tryz.prog) (codeOf Tryz.f110) ⟨mkEnv [a0, a1], 27, [], h⟩ (leaveK Tryz.prog noD Tryz.f110.results.toList K) = (
bindO (binS .lss a0 (.int .i64 1)) fun x0 =>
condB x0 (
K (.ret (.tuple [(.int .i64 0), (.int .i64 2)])) h) (
bindO (binS .gtr a0 (.int .i64 64)) fun x1 =>
condB x1 (
K (.ret (.tuple [(.int .i64 0), (.int .i64 2)])) h) (
bindO (binS .lss a1 (.int .i64 0)) fun x2 =>
condB x2 (
K (.ret (.tuple [(.int .i64 0), (.int .i64 2)])) h) (
bindO (binS .gtr a1 (.int .i64 12)) fun x3 =>
condB x3 (
K (.ret (.tuple [(.int .i64 0), (.int .i64 2)])) h) (
semCall Tryz.prog 153 [a0, a1, (.int .i64 4096)] h (outK (fun x4 h5 =>
bindO (binS .lss x4 (.int .i64 0)) fun x8 =>
condB x8 (
K (.ret (.tuple [(.int .i64 0), (.int .i64 5)])) h5) (
K (.ret (.tuple [x4, (.int .i64 0)])) h5)) (fun v6 h7 => K (.panic v6) h7))))))) := by kernel_rfl
theorem F.shape_Power_sem {a0 a1 : AV} {h : Heap} {K : Out → Heap → Bool} (hh : (
bindO (binS .lss a0 (.int .i64 1)) fun x0 =>
condB x0 (
K (.ret (.tuple [(.int .i64 0), (.int .i64 2)])) h) (
bindO (binS .gtr a0 (.int .i64 64)) fun x1 =>
condB x1 (
K (.ret (.tuple [(.int .i64 0), (.int .i64 2)])) h) (
bindO (binS .lss a1 (.int .i64 0)) fun x2 =>
condB x2 (
K (.ret (.tuple [(.int .i64 0), (.int .i64 2)])) h) (
bindO (binS .gtr a1 (.int .i64 12)) fun x3 =>
condB x3 (
K (.ret (.tuple [(.int .i64 0), (.int .i64 2)])) h) (
semCall Tryz.prog 153 [a0, a1, (.int .i64 4096)] h (outK (fun x4 h5 =>
bindO (binS .lss x4 (.int .i64 0)) fun x8 =>
condB x8 (
K (.ret (.tuple [(.int .i64 0), (.int .i64 5)])) h5) (
K (.ret (.tuple [x4, (.int .i64 0)])) h5)) (fun v6 h7 => K (.panic v6) h7))))))) = true) : Sem Tryz.prog 110 [a0, a1] h K :=
  sem_body mixed (noD_sound _) Tryz.func110 (c := codeOf Tryz.f110) rfl (by decide) (of_decide_eq_true (by kernel_rfl)) (F.shape_Power_eq.trans hh)
noncomputable def F.shape_Rank.L0 : Code := partOf (codeOf Tryz.f111) [1, 1, 1, 1, 0, 1, 0, 0]
noncomputable def F.shape_Rank.L0k (K : Out → Heap → Bool) : AX → St → Bool := (blockK 0 (seqK false (evalS Tryz.prog (semCall Tryz.prog) (partOf (codeOf Tryz.f111) [1, 1, 1, 1, 1])) (leaveK Tryz.prog noD Tryz.f111.results.toList K)))
theorem F.shape_Rank.L0_eq {e : Env} {h : Heap} {K : AX → St → Bool} : evalS Tryz.prog (semCall Tryz.prog) F.shape_Rank.L0 ⟨e, 38, [], h⟩ K = (
bindO (binS .lss (e 27) (e 26)) fun x14 =>
condB x14 (
bindO (iaS 1 (e 25) (e 27)) fun x15 =>
bindO (loadS none x15 h) fun x16 =>
bindO (binS .mul (e 8) (e 0)) fun x17 =>
bindO (binS .add x17 x16) fun x18 =>
bindO (binS .add (e 27) (.int .i64 1)) fun x19 =>
K .normal ⟨(setV (setV (setV (setV (setV (setV (setV (setV (setV (setV (setV (setV e 28 x14) 29 x15) 30 x16) 10 x16) 31 (e 8)) 32 (e 0)) 33 x17) 34 x16) 35 x18) 8 x18) 36 x19) 27 x19), 38, [], h⟩) (
K (.exit 0) ⟨(setV e 28 x14), 38, [], h⟩)) := by kernel_rfl
theorem F.shape_Rank.L0_x0_eq {e : Env} {h : Heap} {K : Out → Heap → Bool} : F.shape_Rank.L0k K (.exit 0) ⟨e, 38, [], h⟩ = (
K (.ret (.tuple [(e 8), (.int .i64 0)])) h) := by kernel_rfl
theorem F.shape_Rank_eq {a0 a1 : AV} {h : Heap} {K : Out → Heap → Bool} : evalS Tryz.prog (semCall Tryz.prog) (codeOf Tryz.f111) ⟨mkEnv [a0, a1], 38, [], h⟩ (leaveK Tryz.prog noD Tryz.f111.results.toList K) = (
bindO (lenS .slice a1 h) fun x0 =>
semCall Tryz.prog 110 [a0, x0] h (outK (fun x1 h2 =>
bindO (extractS x1 0) fun x5 =>
bindO (extractS x1 1) fun x6 =>
bindO (neV (.int .i64) x6 (.int .i64 0)) fun x7 =>
condB x7 (
K (.ret (.tuple [(.int .i64 0), x6])) h2) (
semCall Tryz.prog 103 [a0, a1] h2 (outK (fun x8 h9 =>
bindO (unS .not x8) fun x12 =>
condB x12 (
K (.ret (.tuple [(.int .i64 0), (.int .i64 2)])) h9) (
bindO (lenS .slice a1 h9) fun x13 =>
loopB (evalS Tryz.prog (semCall Tryz.prog) F.shape_Rank.L0) ⟨(setV (setV (setV (setV (setV (setV (setV (setV (setV (setV (setV (setV (setV (setV (setV (setV (setV (setV (setV (setV (setV (mkEnv [a0, a1]) 4 (.int .i64 0)) 5 (.int .i64 0)) 12 a0) 13 a1) 14 x0) 15 x1) 11 x1) 16 x5) 17 x6) 6 x5) 7 x6) 18 x6) 19 x7) 21 a0) 22 a1) 23 x8) 24 x12) 8 (.int .i64 0)) 25 a1) 26 x13) 27 (.int .i64 0)), 38, [], h9⟩ (F.shape_Rank.L0k K))) (fun v10 h11 => K (.panic v10) h11)))) (fun v3 h4 => K (.panic v3) h4))) := by kernel_rfl
theorem F.shape_Rank_sem {a0 a1 : AV} {h : Heap} {K : Out → Heap → Bool} (hh : (
bindO (lenS .slice a1 h) fun x0 =>
semCall Tryz.prog 110 [a0, x0] h (outK (fun x1 h2 =>
bindO (extractS x1 0) fun x5 =>
bindO (extractS x1 1) fun x6 =>
bindO (neV (.int .i64) x6 (.int .i64 0)) fun x7 =>
condB x7 (
K (.ret (.tuple [(.int .i64 0), x6])) h2) (
semCall Tryz.prog 103 [a0, a1] h2 (outK (fun x8 h9 =>
bindO (unS .not x8) fun x12 =>
condB x12 (
K (.ret (.tuple [(.int .i64 0), (.int .i64 2)])) h9) (
bindO (lenS .slice a1 h9) fun x13 =>
loopB (evalS Tryz.prog (semCall Tryz.prog) F.shape_Rank.L0) ⟨(setV (setV (setV (setV (setV (setV (setV (setV (setV (setV (setV (setV (setV (setV (setV (setV (setV (setV (setV (setV (setV (mkEnv [a0, a1]) 4 (.int .i64 0)) 5 (.int .i64 0)) 12 a0) 13 a1) 14 x0) 15 x1) 11 x1) 16 x5) 17 x6) 6 x5) 7 x6) 18 x6) 19 x7) 21 a0) 22 a1) 23 x8) 24 x12) 8 (.int .i64 0)) 25 a1) 26 x13) 27 (.int .i64 0)), 38, [], h9⟩ (F.shape_Rank.L0k K))) (fun v10 h11 => K (.panic v10) h11)))) (fun v3 h4 => K (.panic v3) h4))) = true) : Sem Tryz.prog 111 [a0, a1] h K :=
  sem_body mixed (noD_sound _) Tryz.func111 (c := codeOf Tryz.f111) rfl (by decide) (of_decide_eq_true (by kernel_rfl)) (F.shape_Rank_eq.trans hh)
theorem F.gate_result_1_eq {a0 a1 a2 : AV} {h : Heap} {K : Out → Heap → Bool} : evalS Tryz.prog (semCall Tryz.prog) (codeOf Tryz.f113) ⟨mkEnv [a0, a1, a2], 13, [], h⟩ (leaveK Tryz.prog noD Tryz.f113.results.toList K) = (
bindO (loadS none a1 h) fun x0 =>
bindO (iaS 1 x0 a0) fun x1 =>
bindO (loadS none x1 h) fun x2 =>
bindO (faS 0 a2) fun x3 =>
bindO (loadS none x3 h) fun x4 =>
bindO (eqV (.int .i64) x4 (.int .i64 4)) fun x5 =>
bindO (eqV .bool x2 x5) fun x6 =>
K (.ret x6) h) := by kernel_rfl
theorem F.gate_result_1_sem {a0 a1 a2 : AV} {h : Heap} {K : Out → Heap → Bool} (hh : (
bindO (loadS none a1 h) fun x0 =>
bindO (iaS 1 x0 a0) fun x1 =>
bindO (loadS none x1 h) fun x2 =>
bindO (faS 0 a2) fun x3 =>
bindO (loadS none x3 h) fun x4 =>
bindO (eqV (.int .i64) x4 (.int .i64 4)) fun x5 =>
bindO (eqV .bool x2 x5) fun x6 =>
K (.ret x6) h) = true) : Sem Tryz.prog 113 [a0, a1, a2] h K :=
  sem_body mixed (noD_sound _) Tryz.func113 (c := codeOf Tryz.f113) rfl (by decide) (of_decide_eq_true (by kernel_rfl)) (F.gate_result_1_eq.trans hh)
noncomputable def F.ref01_rel.L0 : Code := partOf (codeOf Tryz.f114) [1, 1, 0, 1, 0, 0]
noncomputable def F.ref01_rel.L0k (K : Out → Heap → Bool) : AX → St → Bool := (blockK 0 (seqK false (evalS Tryz.prog (semCall Tryz.prog) (partOf (codeOf Tryz.f114) [1, 1, 1])) (leaveK Tryz.prog noD Tryz.f114.results.toList K)))
theorem F.ref01_rel.L0_eq {e : Env} {h : Heap} {K : AX → St → Bool} : evalS Tryz.prog (semCall Tryz.prog) F.ref01_rel.L0 ⟨e, 72, [], h⟩ K = (
bindO (faS 2 (e 3)) fun x21 =>
bindO (loadS none x21 h) fun x22 =>
bindO (lenS .slice x22 h) fun x23 =>
bindO (binS .lss (e 5) x23) fun x24 =>
condB x24 (
bindO (faS 2 (e 3)) fun x25 =>
bindO (loadS none x25 h) fun x26 =>
bindO (iaS 1 x26 (e 5)) fun x27 =>
bindO (loadS none x27 h) fun x28 =>
bindO (lenS .slice x28 h) fun x29 =>
bindO (faS 1 (e 3)) fun x30 =>
bindO (loadS none x30 h) fun x31 =>
bindO (neV (.int .i64) x29 x31) fun x32 =>
condB x32 (
K .ret ⟨(setV (setV (setV (setV (setV (setV (setV (setV (setV (setV (setV (setV (setV (setV (setV (setV (setV (setV (setV (setV (setV (setV (setV (setV (setV (setV (setV (setV (setV (setV (setV (setV (setV (setV (setV (setV (setV (setV (setV (setV (setV (setV (setV (setV (setV (setV (setV (setV (setV (setV (setV (setV (setV (setV (setV (setV e 27 (e 5)) 28 x21) 29 x22) 30 x23) 31 x24) 34 x25) 35 x26) 36 (e 5)) 37 x27) 38 x28) 39 x29) 40 x30) 41 x31) 42 x32) 43 x32) 43 (.bool true)) 44 noV) 43 (.bool true)) 45 noV) 43 (.bool true)) 46 noV) 43 (.bool true)) 47 noV) 43 (.bool true)) 48 noV) 43 (.bool true)) 49 noV) 43 (.bool true)) 50 noV) 43 (.bool true)) 51 noV) 52 (.bool true)) 53 (.bool true)) 53 (.bool true)) 54 noV) 53 (.bool true)) 55 noV) 53 (.bool true)) 56 noV) 57 noV) 58 noV) 59 noV) 60 noV) 61 noV) 62 noV) 63 noV) 64 noV) 65 noV) 66 noV) 67 noV) 68 noV) 69 noV) 53 (.bool true)) 70 noV) 71 (.bool true)) 4 (.bool false)), 72, [], h⟩) (
bindO (faS 2 (e 3)) fun x33 =>
bindO (loadS none x33 h) fun x34 =>
bindO (iaS 1 x34 (e 5)) fun x35 =>
bindO (loadS none x35 h) fun x36 =>
semCall Tryz.prog 108 [(e 0), x36] h (outK (fun x37 h38 =>
bindO (unS .not x37) fun x39 =>
condB x39 (
K .ret ⟨(setV (setV (setV (setV (setV (setV (setV (setV (setV (setV (setV (setV (setV (setV (setV (setV (setV (setV (setV (setV (setV (setV (setV (setV (setV (setV (setV (setV (setV (setV (setV (setV (setV (setV (setV (setV (setV (setV (setV (setV (setV (setV (setV (setV (setV (setV (setV (setV (setV (setV (setV (setV (setV (setV (setV (setV e 27 (e 5)) 28 x21) 29 x22) 30 x23) 31 x24) 34 x25) 35 x26) 36 (e 5)) 37 x27) 38 x28) 39 x29) 40 x30) 41 x31) 42 x32) 43 x32) 43 (.bool false)) 44 (e 0)) 43 (.bool false)) 45 x33) 43 (.bool false)) 46 x34) 43 (.bool false)) 47 (e 5)) 43 (.bool false)) 48 x35) 43 (.bool false)) 49 x36) 43 (.bool false)) 50 x37) 43 (.bool false)) 51 x39) 52 x39) 53 x39) 53 (.bool true)) 54 noV) 53 (.bool true)) 55 noV) 53 (.bool true)) 56 noV) 57 noV) 58 noV) 59 noV) 60 noV) 61 noV) 62 noV) 63 noV) 64 noV) 65 noV) 66 noV) 67 noV) 68 noV) 69 noV) 53 (.bool true)) 70 noV) 71 (.bool true)) 4 (.bool false)), 72, [], h38⟩) (
bindO (binS .gtr (e 5) (.int .i64 0)) fun x40 =>
condB x40 (
bindO (faS 2 (e 3)) fun x41 =>
bindO (loadS none x41 h38) fun x42 =>
bindO (binS .sub (e 5) (.int .i64 1)) fun x43 =>
bindO (iaS 1 x42 x43) fun x44 =>
bindO (loadS none x44 h38) fun x45 =>
bindO (faS 2 (e 3)) fun x46 =>
bindO (loadS none x46 h38) fun x47 =>
bindO (iaS 1 x47 (e 5)) fun x48 =>
bindO (loadS none x48 h38) fun x49 =>
semCall Tryz.prog 145 [x45, x49] h38 (outK (fun x50 h51 =>
bindO (unS .not x50) fun x52 =>
condB x52 (
K .ret ⟨(setV (setV (setV (setV (setV (setV (setV (setV (setV (setV (setV (setV (setV (setV (setV (setV (setV (setV (setV (setV (setV (setV (setV (setV (setV (setV (setV (setV (setV (setV (setV (setV (setV (setV (setV (setV (setV (setV (setV (setV (setV (setV (setV (setV (setV (setV (setV (setV (setV (setV (setV (setV (setV (setV (setV (setV (setV (setV (setV (setV (setV (setV (setV (setV (setV (setV (setV (setV (setV e 27 (e 5)) 28 x21) 29 x22) 30 x23) 31 x24) 34 x25) 35 x26) 36 (e 5)) 37 x27) 38 x28) 39 x29) 40 x30) 41 x31) 42 x32) 43 x32) 43 (.bool false)) 44 (e 0)) 43 (.bool false)) 45 x33) 43 (.bool false)) 46 x34) 43 (.bool false)) 47 (e 5)) 43 (.bool false)) 48 x35) 43 (.bool false)) 49 x36) 43 (.bool false)) 50 x37) 43 (.bool false)) 51 x39) 52 x39) 53 x39) 53 (.bool false)) 54 (e 5)) 53 (.bool false)) 55 x40) 53 (.bool false)) 56 x40) 56 (.bool true)) 57 x41) 56 (.bool true)) 58 x42) 56 (.bool true)) 59 (e 5)) 56 (.bool true)) 60 x43) 56 (.bool true)) 61 x44) 56 (.bool true)) 62 x45) 56 (.bool true)) 63 x46) 56 (.bool true)) 64 x47) 56 (.bool true)) 65 (e 5)) 56 (.bool true)) 66 x48) 56 (.bool true)) 67 x49) 56 (.bool true)) 68 x50) 56 (.bool true)) 69 x52) 53 (.bool false)) 70 x52) 71 x52) 4 (.bool false)), 72, [], h51⟩) (
bindO (binS .add (e 5) (.int .i64 1)) fun x53 =>
K .normal ⟨(setV (setV (setV (setV (setV (setV (setV (setV (setV (setV (setV (setV (setV (setV (setV (setV (setV (setV (setV (setV (setV (setV (setV (setV (setV (setV (setV (setV (setV (setV (setV (setV (setV (setV (setV (setV (setV (setV (setV (setV (setV (setV (setV (setV (setV (setV (setV (setV (setV (setV (setV (setV (setV (setV (setV (setV (setV (setV (setV (setV (setV (setV (setV (setV (setV (setV (setV (setV (setV (setV (setV e 27 (e 5)) 28 x21) 29 x22) 30 x23) 31 x24) 34 x25) 35 x26) 36 (e 5)) 37 x27) 38 x28) 39 x29) 40 x30) 41 x31) 42 x32) 43 x32) 43 (.bool false)) 44 (e 0)) 43 (.bool false)) 45 x33) 43 (.bool false)) 46 x34) 43 (.bool false)) 47 (e 5)) 43 (.bool false)) 48 x35) 43 (.bool false)) 49 x36) 43 (.bool false)) 50 x37) 43 (.bool false)) 51 x39) 52 x39) 53 x39) 53 (.bool false)) 54 (e 5)) 53 (.bool false)) 55 x40) 53 (.bool false)) 56 x40) 56 (.bool true)) 57 x41) 56 (.bool true)) 58 x42) 56 (.bool true)) 59 (e 5)) 56 (.bool true)) 60 x43) 56 (.bool true)) 61 x44) 56 (.bool true)) 62 x45) 56 (.bool true)) 63 x46) 56 (.bool true)) 64 x47) 56 (.bool true)) 65 (e 5)) 56 (.bool true)) 66 x48) 56 (.bool true)) 67 x49) 56 (.bool true)) 68 x50) 56 (.bool true)) 69 x52) 53 (.bool false)) 70 x52) 71 x52) 32 (e 5)) 33 x53) 5 x53), 72, [], h51⟩)) (fun _ _ => false))) (
bindO (binS .add (e 5) (.int .i64 1)) fun x54 =>
K .normal ⟨(setV (setV (setV (setV (setV (setV (setV (setV (setV (setV (setV (setV (setV (setV (setV (setV (setV (setV (setV (setV (setV (setV (setV (setV (setV (setV (setV (setV (setV (setV (setV (setV (setV (setV (setV (setV (setV (setV (setV (setV (setV (setV (setV (setV (setV (setV (setV (setV (setV (setV (setV (setV (setV (setV (setV (setV (setV (setV (setV (setV (setV (setV (setV (setV (setV (setV (setV (setV (setV (setV (setV e 27 (e 5)) 28 x21) 29 x22) 30 x23) 31 x24) 34 x25) 35 x26) 36 (e 5)) 37 x27) 38 x28) 39 x29) 40 x30) 41 x31) 42 x32) 43 x32) 43 (.bool false)) 44 (e 0)) 43 (.bool false)) 45 x33) 43 (.bool false)) 46 x34) 43 (.bool false)) 47 (e 5)) 43 (.bool false)) 48 x35) 43 (.bool false)) 49 x36) 43 (.bool false)) 50 x37) 43 (.bool false)) 51 x39) 52 x39) 53 x39) 53 (.bool false)) 54 (e 5)) 53 (.bool false)) 55 x40) 53 (.bool false)) 56 x40) 56 (.bool false)) 57 noV) 56 (.bool false)) 58 noV) 56 (.bool false)) 59 noV) 56 (.bool false)) 60 noV) 56 (.bool false)) 61 noV) 56 (.bool false)) 62 noV) 56 (.bool false)) 63 noV) 56 (.bool false)) 64 noV) 56 (.bool false)) 65 noV) 56 (.bool false)) 66 noV) 56 (.bool false)) 67 noV) 56 (.bool false)) 68 noV) 56 (.bool false)) 69 noV) 53 (.bool false)) 70 (.bool false)) 71 (.bool false)) 32 (e 5)) 33 x54) 5 x54), 72, [], h38⟩))) (fun _ _ => false)))) (
K (.exit 0) ⟨(setV (setV (setV (setV (setV e 27 (e 5)) 28 x21) 29 x22) 30 x23) 31 x24), 72, [], h⟩)) := by kernel_rfl
theorem F.ref01_rel.L0_x0_eq {e : Env} {h : Heap} {K : Out → Heap → Bool} : F.ref01_rel.L0k K (.exit 0) ⟨e, 72, [], h⟩ = (
K (.ret (.bool true)) h) := by kernel_rfl
theorem F.ref01_rel.L0_r_eq {e : Env} {h : Heap} {K : Out → Heap → Bool} : F.ref01_rel.L0k K .ret ⟨e, 72, [], h⟩ = (
K (.ret (e 4)) h) := by kernel_rfl
theorem F.ref01_rel_eq {a0 a1 : AV} {h : Heap} {K : Out → Heap → Bool} : evalS Tryz.prog (semCall Tryz.prog) (codeOf Tryz.f114) ⟨mkEnv [a0, a1], 72, [], h⟩ (leaveK Tryz.prog noD Tryz.f114.results.toList K) = (
bindO (boxS a1) fun c0 =>
bindO (faS 0 (.ptr (Heap.next h) 0)) fun x1 =>
bindO (loadS none x1 (Heap.alloc h (.cells c0))) fun x2 =>
semCall Tryz.prog 107 [x2] (Heap.alloc h (.cells c0)) (outK (fun x3 h4 =>
bindO (unS .not x3) fun x7 =>
condB x7 (
K (.ret (.bool false)) h4) (
bindO (faS 1 (.ptr (Heap.next h) 0)) fun x8 =>
bindO (loadS none x8 h4) fun x9 =>
bindO (binS .lss x9 (.int .i64 0)) fun x10 =>
condB x10 (
K (.ret (.bool false)) h4) (
bindO (faS 1 (.ptr (Heap.next h) 0)) fun x11 =>
bindO (loadS none x11 h4) fun x12 =>
bindO (binS .gtr x12 (.int .i64 12)) fun x13 =>
condB x13 (
K (.ret (.bool false)) h4) (
bindO (faS 1 (.ptr (Heap.next h) 0)) fun x14 =>
bindO (loadS none x14 h4) fun x15 =>
semCall Tryz.prog 87 [a0, x15] h4 (outK (fun x16 h17 =>
bindO (binS .gtr x16 (.int .i64 4096)) fun x20 =>
condB x20 (
K (.ret (.bool false)) h17) (
loopB (evalS Tryz.prog (semCall Tryz.prog) F.ref01_rel.L0) ⟨(setV (setV (setV (setV (setV (setV (setV (setV (setV (setV (setV (setV (setV (setV (setV (setV (setV (setV (setV (setV (setV (setV (setV (setV (setV (setV (setV (setV (setV (setV (setV (setV (setV (setV (setV (mkEnv [a0, a1]) 3 (.ptr (Heap.next h) 0)) 4 (.bool false)) 6 x1) 7 x2) 8 x3) 9 x7) 10 x7) 10 (.bool false)) 11 x8) 10 (.bool false)) 12 x9) 10 (.bool false)) 13 x10) 14 x10) 15 x10) 15 (.bool false)) 16 x11) 15 (.bool false)) 17 x12) 15 (.bool false)) 18 x13) 19 x13) 20 x13) 20 (.bool false)) 21 a0) 20 (.bool false)) 22 x14) 20 (.bool false)) 23 x15) 20 (.bool false)) 24 x16) 20 (.bool false)) 25 x20) 26 x20) 5 (.int .i64 0)), 72, [], h17⟩ (F.ref01_rel.L0k K))) (fun v18 h19 => K (.panic v18) h19)))))) (fun v5 h6 => K (.panic v5) h6))) := by kernel_rfl
theorem F.ref01_rel_sem {a0 a1 : AV} {h : Heap} {K : Out → Heap → Bool} (hh : (
bindO (boxS a1) fun c0 =>
bindO (faS 0 (.ptr (Heap.next h) 0)) fun x1 =>
bindO (loadS none x1 (Heap.alloc h (.cells c0))) fun x2 =>
semCall Tryz.prog 107 [x2] (Heap.alloc h (.cells c0)) (outK (fun x3 h4 =>
bindO (unS .not x3) fun x7 =>
condB x7 (
K (.ret (.bool false)) h4) (
bindO (faS 1 (.ptr (Heap.next h) 0)) fun x8 =>
bindO (loadS none x8 h4) fun x9 =>
bindO (binS .lss x9 (.int .i64 0)) fun x10 =>
condB x10 (
K (.ret (.bool false)) h4) (
bindO (faS 1 (.ptr (Heap.next h) 0)) fun x11 =>
bindO (loadS none x11 h4) fun x12 =>
bindO (binS .gtr x12 (.int .i64 12)) fun x13 =>
condB x13 (
K (.ret (.bool false)) h4) (
bindO (faS 1 (.ptr (Heap.next h) 0)) fun x14 =>
bindO (loadS none x14 h4) fun x15 =>
semCall Tryz.prog 87 [a0, x15] h4 (outK (fun x16 h17 =>
bindO (binS .gtr x16 (.int .i64 4096)) fun x20 =>
condB x20 (
K (.ret (.bool false)) h17) (
loopB (evalS Tryz.prog (semCall Tryz.prog) F.ref01_rel.L0) ⟨(setV (setV (setV (setV (setV (setV (setV (setV (setV (setV (setV (setV (setV (setV (setV (setV (setV (setV (setV (setV (setV (setV (setV (setV (setV (setV (setV (setV (setV (setV (setV (setV (setV (setV (setV (mkEnv [a0, a1]) 3 (.ptr (Heap.next h) 0)) 4 (.bool false)) 6 x1) 7 x2) 8 x3) 9 x7) 10 x7) 10 (.bool false)) 11 x8) 10 (.bool false)) 12 x9) 10 (.bool false)) 13 x10) 14 x10) 15 x10) 15 (.bool false)) 16 x11) 15 (.bool false)) 17 x12) 15 (.bool false)) 18 x13) 19 x13) 20 x13) 20 (.bool false)) 21 a0) 20 (.bool false)) 22 x14) 20 (.bool false)) 23 x15) 20 (.bool false)) 24 x16) 20 (.bool false)) 25 x20) 26 x20) 5 (.int .i64 0)), 72, [], h17⟩ (F.ref01_rel.L0k K))) (fun v18 h19 => K (.panic v18) h19)))))) (fun v5 h6 => K (.panic v5) h6))) = true) : Sem Tryz.prog 114 [a0, a1] h K :=
  sem_body mixed (noD_sound _) Tryz.func114 (c := codeOf Tryz.f114) rfl (by decide) (of_decide_eq_true (by kernel_rfl)) (F.ref01_rel_eq.trans hh)
theorem F.ref01_Power_eq {a0 a1 : AV} {h : Heap} {K : Out → Heap → Bool} : evalS Tryz.prog (semCall Tryz.prog) (codeOf Tryz.f115) ⟨mkEnv [a0, a1], 27, [], h⟩ (leaveK Tryz.prog noD Tryz.f115.results.toList K) = (
bindO (binS .lss a0 (.int .i64 1)) fun x0 =>
condB x0 (
K (.ret (.tuple [(.int .i64 0), (.int .i64 2)])) h) (
bindO (binS .gtr a0 (.int .i64 64)) fun x1 =>
condB x1 (
K (.ret (.tuple [(.int .i64 0), (.int .i64 2)])) h) (
bindO (binS .lss a1 (.int .i64 0)) fun x2 =>
condB x2 (
K (.ret (.tuple [(.int .i64 0), (.int .i64 2)])) h) (
bindO (binS .gtr a1 (.int .i64 12)) fun x3 =>
condB x3 (
K (.ret (.tuple [(.int .i64 0), (.int .i64 2)])) h) (
semCall Tryz.prog 87 [a0, a1] h (outK (fun x4 h5 =>
bindO (binS .gtr x4 (.int .i64 4096)) fun x8 =>
condB x8 (
K (.ret (.tuple [(.int .i64 0), (.int .i64 5)])) h5) (
semCall Tryz.prog 87 [a0, a1] h5 (outK (fun x9 h10 =>
K (.ret (.tuple [x9, (.int .i64 0)])) h10) (fun v11 h12 => K (.panic v11) h12)))) (fun v6 h7 => K (.panic v6) h7))))))) := by kernel_rfl
theorem F.ref01_Power_sem {a0 a1 : AV} {h : Heap} {K : Out → Heap → Bool} (hh : (
bindO (binS .lss a0 (.int .i64 1)) fun x0 =>
condB x0 (
K (.ret (.tuple [(.int .i64 0), (.int .i64 2)])) h) (
bindO (binS .gtr a0 (.int .i64 64)) fun x1 =>
condB x1 (
K (.ret (.tuple [(.int .i64 0), (.int .i64 2)])) h) (
bindO (binS .lss a1 (.int .i64 0)) fun x2 =>
condB x2 (
K (.ret (.tuple [(.int .i64 0), (.int .i64 2)])) h) (
bindO (binS .gtr a1 (.int .i64 12)) fun x3 =>
condB x3 (
K (.ret (.tuple [(.int .i64 0), (.int .i64 2)])) h) (
semCall Tryz.prog 87 [a0, a1] h (outK (fun x4 h5 =>
bindO (binS .gtr x4 (.int .i64 4096)) fun x8 =>
condB x8 (
K (.ret (.tuple [(.int .i64 0), (.int .i64 5)])) h5) (
semCall Tryz.prog 87 [a0, a1] h5 (outK (fun x9 h10 =>
K (.ret (.tuple [x9, (.int .i64 0)])) h10) (fun v11 h12 => K (.panic v11) h12)))) (fun v6 h7 => K (.panic v6) h7))))))) = true) : Sem Tryz.prog 115 [a0, a1] h K :=
  sem_body mixed (noD_sound _) Tryz.func115 (c := codeOf Tryz.f115) rfl (by decide) (of_decide_eq_true (by kernel_rfl)) (F.ref01_Power_eq.trans hh)
noncomputable def F.ref02_Among.L0 : Code := partOf (codeOf Tryz.f119) [1, 0, 1, 0, 0]
noncomputable def F.ref02_Among.L0k (K : Out → Heap → Bool) : AX → St → Bool := (blockK 0 (seqK false (evalS Tryz.prog (semCall Tryz.prog) (partOf (codeOf Tryz.f119) [1, 1])) (leaveK Tryz.prog noD Tryz.f119.results.toList K)))
theorem F.ref02_Among.L0_eq {e : Env} {h : Heap} {K : AX → St → Bool} : evalS Tryz.prog (semCall Tryz.prog) F.ref02_Among.L0 ⟨e, 18, [], h⟩ K = (
bindO (lenS .slice (e 0) h) fun x0 =>
bindO (binS .lss (e 5) x0) fun x1 =>
condB x1 (
bindO (iaS 1 (e 0) (e 5)) fun x2 =>
bindO (loadS none x2 h) fun x3 =>
bindO (eqV .string x3 (e 1)) fun x4 =>
condB x4 (
K .ret ⟨(setV (setV (setV (setV (setV (setV (setV (setV (setV (setV (setV e 6 (e 5)) 7 (e 0)) 8 x0) 9 x1) 12 (e 0)) 13 (e 5)) 14 x2) 15 x3) 16 (e 1)) 17 x4) 4 (.bool true)), 18, [], h⟩) (
bindO (binS .add (e 5) (.int .i64 1)) fun x5 =>
K .normal ⟨(setV (setV (setV (setV (setV (setV (setV (setV (setV (setV (setV (setV (setV e 6 (e 5)) 7 (e 0)) 8 x0) 9 x1) 12 (e 0)) 13 (e 5)) 14 x2) 15 x3) 16 (e 1)) 17 x4) 10 (e 5)) 11 x5) 5 x5), 18, [], h⟩)) (
K (.exit 0) ⟨(setV (setV (setV (setV e 6 (e 5)) 7 (e 0)) 8 x0) 9 x1), 18, [], h⟩)) := by kernel_rfl
theorem F.ref02_Among.L0_x0_eq {e : Env} {h : Heap} {K : Out → Heap → Bool} : F.ref02_Among.L0k K (.exit 0) ⟨e, 18, [], h⟩ = (
K (.ret (.bool false)) h) := by kernel_rfl
theorem F.ref02_Among.L0_r_eq {e : Env} {h : Heap} {K : Out → Heap → Bool} : F.ref02_Among.L0k K .ret ⟨e, 18, [], h⟩ = (
K (.ret (e 4)) h) := by kernel_rfl
theorem F.ref02_Among_eq {a0 a1 : AV} {h : Heap} {K : Out → Heap → Bool} : evalS Tryz.prog (semCall Tryz.prog) (codeOf Tryz.f119) ⟨mkEnv [a0, a1], 18, [], h⟩ (leaveK Tryz.prog noD Tryz.f119.results.toList K) = (
loopB (evalS Tryz.prog (semCall Tryz.prog) F.ref02_Among.L0) ⟨(setV (setV (mkEnv [a0, a1]) 4 (.bool false)) 5 (.int .i64 0)), 18, [], h⟩ (F.ref02_Among.L0k K)) := by kernel_rfl
theorem F.ref02_Among_sem {a0 a1 : AV} {h : Heap} {K : Out → Heap → Bool} (hh : (
loopB (evalS Tryz.prog (semCall Tryz.prog) F.ref02_Among.L0) ⟨(setV (setV (mkEnv [a0, a1]) 4 (.bool false)) 5 (.int .i64 0)), 18, [], h⟩ (F.ref02_Among.L0k K)) = true) : Sem Tryz.prog 119 [a0, a1] h K :=
  sem_body mixed (noD_sound _) Tryz.func119 (c := codeOf Tryz.f119) rfl (by decide) (of_decide_eq_true (by kernel_rfl)) (F.ref02_Among_eq.trans hh)
noncomputable def F.ref07_Defined.L0 : Code := partOf (codeOf Tryz.f137) [1, 1, 0, 1, 0, 0]
noncomputable def F.ref07_Defined.L0k (K : Out → Heap → Bool) : AX → St → Bool := (blockK 0 (seqK false (evalS Tryz.prog (semCall Tryz.prog) (partOf (codeOf Tryz.f137) [1, 1, 1])) (leaveK Tryz.prog noD Tryz.f137.results.toList K)))
theorem F.ref07_Defined.L0_eq {e : Env} {h : Heap} {K : AX → St → Bool} : evalS Tryz.prog (semCall Tryz.prog) F.ref07_Defined.L0 ⟨e, 20, [], h⟩ K = (
bindO (lenS .slice (e 0) h) fun x0 =>
bindO (binS .lss (e 4) x0) fun x1 =>
condB x1 (
bindO (iaS 3 (e 0) (e 4)) fun x2 =>
bindO (faS 0 x2) fun x3 =>
bindO (faS 0 x3) fun x4 =>
bindO (loadS none x4 h) fun x5 =>
semCall Tryz.prog 139 [(e 3), x5] h (outK (fun x6 h7 =>
bindO (binS .add (e 4) (.int .i64 1)) fun x10 =>
K .normal ⟨(setV (setV (setV (setV (setV (setV (setV (setV (setV (setV (setV (setV (setV (setV (setV (setV e 5 (e 4)) 6 (e 0)) 7 x0) 8 x1) 11 (e 3)) 12 (e 0)) 13 (e 4)) 14 x2) 15 x3) 16 x4) 17 x5) 18 x6) 3 x6) 9 (e 4)) 10 x10) 4 x10), 20, [], h7⟩) (fun v8 h9 => K (.panic v8) ⟨(setV (setV (setV (setV (setV (setV (setV (setV (setV (setV (setV e 5 (e 4)) 6 (e 0)) 7 x0) 8 x1) 11 (e 3)) 12 (e 0)) 13 (e 4)) 14 x2) 15 x3) 16 x4) 17 x5), 20, [], h9⟩))) (
K (.exit 0) ⟨(setV (setV (setV (setV e 5 (e 4)) 6 (e 0)) 7 x0) 8 x1), 20, [], h⟩)) := by kernel_rfl
theorem F.ref07_Defined.L0_x0_eq {e : Env} {h : Heap} {K : Out → Heap → Bool} : F.ref07_Defined.L0k K (.exit 0) ⟨e, 20, [], h⟩ = (
K (.ret (e 3)) h) := by kernel_rfl
theorem F.ref07_Defined_eq {a0 : AV} {h : Heap} {K : Out → Heap → Bool} : evalS Tryz.prog (semCall Tryz.prog) (codeOf Tryz.f137) ⟨mkEnv [a0], 20, [], h⟩ (leaveK Tryz.prog noD Tryz.f137.results.toList K) = (
loopB (evalS Tryz.prog (semCall Tryz.prog) F.ref07_Defined.L0) ⟨(setV (setV (setV (mkEnv [a0]) 2 .nils) 3 .nils) 4 (.int .i64 0)), 20, [], h⟩ (F.ref07_Defined.L0k K)) := by kernel_rfl
theorem F.ref07_Defined_sem {a0 : AV} {h : Heap} {K : Out → Heap → Bool} (hh : (
loopB (evalS Tryz.prog (semCall Tryz.prog) F.ref07_Defined.L0) ⟨(setV (setV (setV (mkEnv [a0]) 2 .nils) 3 .nils) 4 (.int .i64 0)), 20, [], h⟩ (F.ref07_Defined.L0k K)) = true) : Sem Tryz.prog 137 [a0] h K :=
  sem_body mixed (noD_sound _) Tryz.func137 (c := codeOf Tryz.f137) rfl (by decide) (of_decide_eq_true (by kernel_rfl)) (F.ref07_Defined_eq.trans hh)
noncomputable def F.ref07_atoms.L0 : Code := partOf (codeOf Tryz.f138) [1, 1, 0, 1, 0, 0]
noncomputable def F.ref07_atoms.L0k (K : Out → Heap → Bool) : AX → St → Bool := (blockK 0 (seqK false (evalS Tryz.prog (semCall Tryz.prog) (partOf (codeOf Tryz.f138) [1, 1, 1])) (leaveK Tryz.prog noD Tryz.f138.results.toList K)))
noncomputable def F.ref07_atoms.L1 : Code := partOf (codeOf Tryz.f138) [1, 1, 0, 1, 0, 0, 1, 0, 0, 1, 1, 0, 0]
noncomputable def F.ref07_atoms.L1k (K : AX → St → Bool) : AX → St → Bool := (blockK 2 (blockK 1 (seqK false (evalS Tryz.prog (semCall Tryz.prog) (partOf (codeOf Tryz.f138) [1, 1, 0, 1, 0, 0, 1, 1])) K)))
theorem F.ref07_atoms.L0_eq {e : Env} {h : Heap} {K : AX → St → Bool} : evalS Tryz.prog (semCall Tryz.prog) F.ref07_atoms.L0 ⟨e, 63, [], h⟩ K = (
bindO (lenS .slice (e 0) h) fun x0 =>
bindO (binS .lss (e 4) x0) fun x1 =>
condB x1 (
bindO (iaS 3 (e 0) (e 4)) fun x2 =>
bindO (faS 0 x2) fun x3 =>
bindO (faS 0 x3) fun x4 =>
bindO (loadS none x4 h) fun x5 =>
bindO (iaS 3 (e 0) (e 4)) fun x6 =>
bindO (faS 0 x6) fun x7 =>
bindO (faS 1 x7) fun x8 =>
bindO (loadS none x8 h) fun x9 =>
bindO (lenS .slice x9 h) fun x10 =>
bindO (aggS [(.str []), (.int .i64 0)] [(0, 1), (1, 1)] [x5, x10]) fun x11 =>
bindO (rowS [(.str []), (.int .i64 0)] [(0, 2)] [x11]) fun c12 =>
bindO2 (appendS 2 24 (e 3) (.slice (Heap.next h) 0 1 2) (Heap.alloc h (.cells c12))) fun x13 h14 =>
loopB (evalS Tryz.prog (semCall Tryz.prog) F.ref07_atoms.L1) ⟨(setV (setV (setV (setV (setV (setV (setV (setV (setV (setV (setV (setV (setV (setV (setV (setV (setV (setV (setV (setV (setV (setV (setV e 7 (e 4)) 8 (e 0)) 9 x0) 10 x1) 13 (e 3)) 14 (e 0)) 15 (e 4)) 16 x2) 17 x3) 18 x4) 19 x5) 20 (e 0)) 21 (e 4)) 22 x6) 23 x7) 24 x8) 25 x9) 26 x10) 27 x11) 28 (.slice (Heap.next h) 0 1 2)) 29 x13) 3 x13) 5 (.int .i64 0)), 63, [], h14⟩ (F.ref07_atoms.L1k K)) (
K (.exit 0) ⟨(setV (setV (setV (setV e 7 (e 4)) 8 (e 0)) 9 x0) 10 x1), 63, [], h⟩)) := by kernel_rfl
theorem F.ref07_atoms.L0_x0_eq {e : Env} {h : Heap} {K : Out → Heap → Bool} : F.ref07_atoms.L0k K (.exit 0) ⟨e, 63, [], h⟩ = (
K (.ret (e 3)) h) := by kernel_rfl
theorem F.ref07_atoms.L1_eq {e : Env} {h : Heap} {K : AX → St → Bool} : evalS Tryz.prog (semCall Tryz.prog) F.ref07_atoms.L1 ⟨e, 63, [], h⟩ K = (
bindO (iaS 3 (e 0) (e 4)) fun x15 =>
bindO (faS 2 x15) fun x16 =>
bindO (loadS none x16 h) fun x17 =>
bindO (lenS .slice x17 h) fun x18 =>
bindO (binS .lss (e 5) x18) fun x19 =>
condB x19 (
bindO (iaS 3 (e 0) (e 4)) fun x20 =>
bindO (faS 2 x20) fun x21 =>
bindO (loadS none x21 h) fun x22 =>
bindO (iaS 4 x22 (e 5)) fun x23 =>
bindO (loadS (some 4) x23 h) fun x24 =>
bindO (storeS 4 (.ptr (Heap.next h) 0) x24 (Heap.alloc h (.cells [(.int .i64 0), (.bool false), (.str []), .nils]))) fun h25 =>
bindO (faS 0 (.ptr (Heap.next h) 0)) fun x26 =>
bindO (loadS none x26 h25) fun x27 =>
bindO (eqV (.int .i64) x27 (.int .i64 0)) fun x28 =>
condB x28 (
bindO (faS 2 (.ptr (Heap.next h) 0)) fun x29 =>
bindO (faS 0 x29) fun x30 =>
bindO (loadS none x30 h25) fun x31 =>
bindO (faS 2 (.ptr (Heap.next h) 0)) fun x32 =>
bindO (faS 1 x32) fun x33 =>
bindO (loadS none x33 h25) fun x34 =>
bindO (lenS .slice x34 h25) fun x35 =>
bindO (aggS [(.str []), (.int .i64 0)] [(0, 1), (1, 1)] [x31, x35]) fun x36 =>
bindO (rowS [(.str []), (.int .i64 0)] [(0, 2)] [x36]) fun c37 =>
bindO2 (appendS 2 24 (e 3) (.slice (Heap.next h25) 0 1 2) (Heap.alloc h25 (.cells c37))) fun x38 h39 =>
bindO (binS .add (e 5) (.int .i64 1)) fun x40 =>
K .normal ⟨(setV (setV (setV (setV (setV (setV (setV (setV (setV (setV (setV (setV (setV (setV (setV (setV (setV (setV (setV (setV (setV (setV (setV (setV (setV (setV (setV (setV (setV (setV (setV (setV (setV (setV (setV e 30 (e 5)) 31 (e 0)) 32 (e 4)) 33 x15) 34 x16) 35 x17) 36 x18) 37 x19) 40 (e 0)) 41 (e 4)) 42 x20) 43 x21) 44 x22) 45 (e 5)) 46 x23) 47 x24) 6 (.ptr (Heap.next h) 0)) 48 x26) 49 x27) 50 x28) 51 (e 3)) 52 x29) 53 x30) 54 x31) 55 x32) 56 x33) 57 x34) 58 x35) 59 x36) 60 (.slice (Heap.next h25) 0 1 2)) 61 x38) 3 x38) 38 (e 5)) 39 x40) 5 x40), 63, [], h39⟩) (
bindO (binS .add (e 5) (.int .i64 1)) fun x41 =>
K .normal ⟨(setV (setV (setV (setV (setV (setV (setV (setV (setV (setV (setV (setV (setV (setV (setV (setV (setV (setV (setV (setV (setV (setV (setV e 30 (e 5)) 31 (e 0)) 32 (e 4)) 33 x15) 34 x16) 35 x17) 36 x18) 37 x19) 40 (e 0)) 41 (e 4)) 42 x20) 43 x21) 44 x22) 45 (e 5)) 46 x23) 47 x24) 6 (.ptr (Heap.next h) 0)) 48 x26) 49 x27) 50 x28) 38 (e 5)) 39 x41) 5 x41), 63, [], h25⟩)) (
K (.exit 2) ⟨(setV (setV (setV (setV (setV (setV (setV (setV e 30 (e 5)) 31 (e 0)) 32 (e 4)) 33 x15) 34 x16) 35 x17) 36 x18) 37 x19), 63, [], h⟩)) := by kernel_rfl
theorem F.ref07_atoms.L1_x2_eq {e : Env} {h : Heap} {K : AX → St → Bool} : F.ref07_atoms.L1k K (.exit 2) ⟨e, 63, [], h⟩ = (
bindO (binS .add (e 4) (.int .i64 1)) fun x42 =>
K .normal ⟨(setV (setV (setV e 11 (e 4)) 12 x42) 4 x42), 63, [], h⟩) := by kernel_rfl
theorem F.ref07_atoms_eq {a0 : AV} {h : Heap} {K : Out → Heap → Bool} : evalS Tryz.prog (semCall Tryz.prog) (codeOf Tryz.f138) ⟨mkEnv [a0], 63, [], h⟩ (leaveK Tryz.prog noD Tryz.f138.results.toList K) = (
loopB (evalS Tryz.prog (semCall Tryz.prog) F.ref07_atoms.L0) ⟨(setV (setV (setV (mkEnv [a0]) 2 .nils) 3 .nils) 4 (.int .i64 0)), 63, [], h⟩ (F.ref07_atoms.L0k K)) := by kernel_rfl
theorem F.ref07_atoms_sem {a0 : AV} {h : Heap} {K : Out → Heap → Bool} (hh : (
loopB (evalS Tryz.prog (semCall Tryz.prog) F.ref07_atoms.L0) ⟨(setV (setV (setV (mkEnv [a0]) 2 .nils) 3 .nils) 4 (.int .i64 0)), 63, [], h⟩ (F.ref07_atoms.L0k K)) = true) : Sem Tryz.prog 138 [a0] h K :=
  sem_body mixed (noD_sound _) Tryz.func138 (c := codeOf Tryz.f138) rfl (by decide) (of_decide_eq_true (by kernel_rfl)) (F.ref07_atoms_eq.trans hh)
noncomputable def F.ref07_rising.L0 : Code := partOf (codeOf Tryz.f139) [1, 1, 0, 0, 0]
noncomputable def F.ref07_rising.L0k (K : Out → Heap → Bool) : AX → St → Bool := (blockK 0 (seqK false (evalS Tryz.prog (semCall Tryz.prog) (partOf (codeOf Tryz.f139) [1, 1, 1])) (leaveK Tryz.prog noD Tryz.f139.results.toList K)))
theorem F.ref07_rising.L0_eq {e : Env} {h : Heap} {K : AX → St → Bool} : evalS Tryz.prog (semCall Tryz.prog) F.ref07_rising.L0 ⟨e, 45, [], h⟩ K = (
bindO (lenS .slice (e 0) h) fun x0 =>
bindO (binS .lss (e 5) x0) fun x1 =>
condB x1 (
bindO (iaS 1 (e 0) (e 5)) fun x2 =>
bindO (loadS none x2 h) fun x3 =>
bindO (binS .lss x3 (e 1)) fun x4 =>
condB x4 (
bindO (binS .add (e 5) (.int .i64 1)) fun x5 =>
K .normal ⟨(setV (setV (setV (setV (setV (setV (setV (setV (setV (setV (setV (setV (setV (setV (setV (setV (setV (setV (setV (setV (setV e 6 (e 5)) 7 (e 0)) 8 x0) 9 x1) 10 x1) 10 (.bool true)) 11 (e 0)) 10 (.bool true)) 12 (e 5)) 10 (.bool true)) 13 x2) 10 (.bool true)) 14 x3) 10 (.bool true)) 15 (e 1)) 10 (.bool true)) 16 x4) 17 x4) 18 (e 5)) 19 x5) 5 x5), 45, [], h⟩) (
K (.exit 0) ⟨(setV (setV (setV (setV (setV (setV (setV (setV (setV (setV (setV (setV (setV (setV (setV (setV (setV (setV e 6 (e 5)) 7 (e 0)) 8 x0) 9 x1) 10 x1) 10 (.bool true)) 11 (e 0)) 10 (.bool true)) 12 (e 5)) 10 (.bool true)) 13 x2) 10 (.bool true)) 14 x3) 10 (.bool true)) 15 (e 1)) 10 (.bool true)) 16 x4) 17 x4), 45, [], h⟩)) (
K (.exit 0) ⟨(setV (setV (setV (setV (setV (setV (setV (setV (setV (setV (setV (setV (setV (setV (setV (setV (setV (setV e 6 (e 5)) 7 (e 0)) 8 x0) 9 x1) 10 x1) 10 (.bool false)) 11 noV) 10 (.bool false)) 12 noV) 10 (.bool false)) 13 noV) 10 (.bool false)) 14 noV) 10 (.bool false)) 15 noV) 10 (.bool false)) 16 noV) 17 (.bool false)), 45, [], h⟩)) := by kernel_rfl
theorem F.ref07_rising.L0_x0_eq {e : Env} {h : Heap} {K : Out → Heap → Bool} : F.ref07_rising.L0k K (.exit 0) ⟨e, 45, [], h⟩ = (
bindO (lenS .slice (e 0) h) fun x6 =>
bindO (binS .lss (e 5) x6) fun x7 =>
condB x7 (
bindO (iaS 1 (e 0) (e 5)) fun x8 =>
bindO (loadS none x8 h) fun x9 =>
bindO (eqV .string x9 (e 1)) fun x10 =>
condB x10 (
K (.ret (e 0)) h) (
bindO (rowS [] [] []) fun c11 =>
bindO (sliceS (some 1) (e 0) none (some (e 5))) fun x12 =>
bindO (rowS [(.str [])] [(0, 1)] [(e 1)]) fun c13 =>
bindO (sliceS (some 1) (e 0) (some (e 5)) none) fun x14 =>
bindO2 (appendS 1 16 (.slice (Heap.next h) 0 0 1) x12 (Heap.alloc (Heap.alloc h (.cells c11)) (.cells c13))) fun x15 h16 =>
bindO2 (appendS 1 16 x15 (.slice (Heap.next (Heap.alloc h (.cells c11))) 0 1 1) h16) fun x17 h18 =>
bindO2 (appendS 1 16 x17 x14 h18) fun x19 h20 =>
K (.ret x19) h20)) (
bindO (rowS [] [] []) fun c21 =>
bindO (sliceS (some 1) (e 0) none (some (e 5))) fun x22 =>
bindO (rowS [(.str [])] [(0, 1)] [(e 1)]) fun c23 =>
bindO (sliceS (some 1) (e 0) (some (e 5)) none) fun x24 =>
bindO2 (appendS 1 16 (.slice (Heap.next h) 0 0 1) x22 (Heap.alloc (Heap.alloc h (.cells c21)) (.cells c23))) fun x25 h26 =>
bindO2 (appendS 1 16 x25 (.slice (Heap.next (Heap.alloc h (.cells c21))) 0 1 1) h26) fun x27 h28 =>
bindO2 (appendS 1 16 x27 x24 h28) fun x29 h30 =>
K (.ret x29) h30)) := by kernel_rfl
theorem F.ref07_rising_eq {a0 a1 : AV} {h : Heap} {K : Out → Heap → Bool} : evalS Tryz.prog (semCall Tryz.prog) (codeOf Tryz.f139) ⟨mkEnv [a0, a1], 45, [], h⟩ (leaveK Tryz.prog noD Tryz.f139.results.toList K) = (
loopB (evalS Tryz.prog (semCall Tryz.prog) F.ref07_rising.L0) ⟨(setV (setV (mkEnv [a0, a1]) 4 .nils) 5 (.int .i64 0)), 45, [], h⟩ (F.ref07_rising.L0k K)) := by kernel_rfl
theorem F.ref07_rising_sem {a0 a1 : AV} {h : Heap} {K : Out → Heap → Bool} (hh : (
loopB (evalS Tryz.prog (semCall Tryz.prog) F.ref07_rising.L0) ⟨(setV (setV (mkEnv [a0, a1]) 4 .nils) 5 (.int .i64 0)), 45, [], h⟩ (F.ref07_rising.L0k K)) = true) : Sem Tryz.prog 139 [a0, a1] h K :=
  sem_body mixed (noD_sound _) Tryz.func139 (c := codeOf Tryz.f139) rfl (by decide) (of_decide_eq_true (by kernel_rfl)) (F.ref07_rising_eq.trans hh)
noncomputable def F.ref07_Arity.L0 : Code := partOf (codeOf Tryz.f140) [1, 1, 0, 1, 0, 0]
noncomputable def F.ref07_Arity.L0k (K : Out → Heap → Bool) : AX → St → Bool := (blockK 0 (seqK false (evalS Tryz.prog (semCall Tryz.prog) (partOf (codeOf Tryz.f140) [1, 1, 1])) (leaveK Tryz.prog noD Tryz.f140.results.toList K)))
theorem F.ref07_Arity.L0_eq {e : Env} {h : Heap} {K : AX → St → Bool} : evalS Tryz.prog (semCall Tryz.prog) F.ref07_Arity.L0 ⟨e, 27, [], h⟩ K = (
bindO (lenS .slice (e 5) h) fun x4 =>
bindO (binS .lss (e 6) x4) fun x5 =>
condB x5 (
bindO (iaS 2 (e 5) (e 6)) fun x6 =>
bindO (faS 0 x6) fun x7 =>
bindO (loadS none x7 h) fun x8 =>
bindO (eqV .string x8 (e 1)) fun x9 =>
condB x9 (
bindO (iaS 2 (e 5) (e 6)) fun x10 =>
bindO (faS 1 x10) fun x11 =>
bindO (loadS none x11 h) fun x12 =>
K .ret ⟨(setV (setV (setV (setV (setV (setV (setV (setV (setV (setV (setV (setV (setV (setV (setV (setV (setV e 9 (e 6)) 10 (e 5)) 11 x4) 12 x5) 15 (e 5)) 16 (e 6)) 17 x6) 18 x7) 19 x8) 20 (e 1)) 21 x9) 22 (e 5)) 23 (e 6)) 24 x10) 25 x11) 26 x12) 4 x12), 27, [], h⟩) (
bindO (binS .add (e 6) (.int .i64 1)) fun x13 =>
K .normal ⟨(setV (setV (setV (setV (setV (setV (setV (setV (setV (setV (setV (setV (setV (setV e 9 (e 6)) 10 (e 5)) 11 x4) 12 x5) 15 (e 5)) 16 (e 6)) 17 x6) 18 x7) 19 x8) 20 (e 1)) 21 x9) 13 (e 6)) 14 x13) 6 x13), 27, [], h⟩)) (
K (.exit 0) ⟨(setV (setV (setV (setV e 9 (e 6)) 10 (e 5)) 11 x4) 12 x5), 27, [], h⟩)) := by kernel_rfl
theorem F.ref07_Arity.L0_x0_eq {e : Env} {h : Heap} {K : Out → Heap → Bool} : F.ref07_Arity.L0k K (.exit 0) ⟨e, 27, [], h⟩ = (
K (.ret (.int .i64 (-1))) h) := by kernel_rfl
theorem F.ref07_Arity.L0_r_eq {e : Env} {h : Heap} {K : Out → Heap → Bool} : F.ref07_Arity.L0k K .ret ⟨e, 27, [], h⟩ = (
K (.ret (e 4)) h) := by kernel_rfl
theorem F.ref07_Arity_eq {a0 a1 : AV} {h : Heap} {K : Out → Heap → Bool} : evalS Tryz.prog (semCall Tryz.prog) (codeOf Tryz.f140) ⟨mkEnv [a0, a1], 27, [], h⟩ (leaveK Tryz.prog noD Tryz.f140.results.toList K) = (
semCall Tryz.prog 138 [a0] h (outK (fun x0 h1 =>
loopB (evalS Tryz.prog (semCall Tryz.prog) F.ref07_Arity.L0) ⟨(setV (setV (setV (setV (setV (mkEnv [a0, a1]) 4 (.int .i64 0)) 7 a0) 8 x0) 5 x0) 6 (.int .i64 0)), 27, [], h1⟩ (F.ref07_Arity.L0k K)) (fun v2 h3 => K (.panic v2) h3))) := by kernel_rfl
theorem F.ref07_Arity_sem {a0 a1 : AV} {h : Heap} {K : Out → Heap → Bool} (hh : (
semCall Tryz.prog 138 [a0] h (outK (fun x0 h1 =>
loopB (evalS Tryz.prog (semCall Tryz.prog) F.ref07_Arity.L0) ⟨(setV (setV (setV (setV (setV (mkEnv [a0, a1]) 4 (.int .i64 0)) 7 a0) 8 x0) 5 x0) 6 (.int .i64 0)), 27, [], h1⟩ (F.ref07_Arity.L0k K)) (fun v2 h3 => K (.panic v2) h3))) = true) : Sem Tryz.prog 140 [a0, a1] h K :=
  sem_body mixed (noD_sound _) Tryz.func140 (c := codeOf Tryz.f140) rfl (by decide) (of_decide_eq_true (by kernel_rfl)) (F.ref07_Arity_eq.trans hh)
noncomputable def F.ref03_TableOf.L0 : Code := partOf (codeOf Tryz.f143) [1, 1, 0, 1, 0, 0]
noncomputable def F.ref03_TableOf.L0k (K : Out → Heap → Bool) : AX → St → Bool := (blockK 0 (seqK false (evalS Tryz.prog (semCall Tryz.prog) (partOf (codeOf Tryz.f143) [1, 1, 1])) (leaveK Tryz.prog noD Tryz.f143.results.toList K)))
theorem F.ref03_TableOf.L0_eq {e : Env} {h : Heap} {K : AX → St → Bool} : evalS Tryz.prog (semCall Tryz.prog) F.ref03_TableOf.L0 ⟨e, 34, [], h⟩ K = (
bindO (lenS .slice (e 3) h) fun x8 =>
bindO (binS .lss (e 10) x8) fun x9 =>
condB x9 (
bindO (faS 2 (e 9)) fun x10 =>
bindO (loadS none x10 h) fun x11 =>
bindO (iaS 1 (e 3) (e 10)) fun x12 =>
bindO (loadS none x12 h) fun x13 =>
semCall Tryz.prog 178 [(e 0), x13] h (outK (fun x14 h15 =>
if ((bindO (loadS none x10 h15) fun x16 =>
AV.beq x16 x11) && true) = true then (
bindO (iaS 1 x11 x14) fun x17 =>
bindO (storeS 1 x17 (.bool true) h15) fun h18 =>
bindO (binS .add (e 10) (.int .i64 1)) fun x19 =>
K .normal ⟨(setV (setV (setV (setV (setV (setV (setV (setV (setV (setV (setV (setV (setV (setV (setV (setV e 18 (e 10)) 19 (e 3)) 20 x8) 21 x9) 24 x10) 25 x11) 26 (e 0)) 27 (e 3)) 28 (e 10)) 29 x12) 30 x13) 31 x14) 32 x17) 22 (e 10)) 23 x19) 10 x19), 34, [], h18⟩) else false) (fun _ _ => false))) (
K (.exit 0) ⟨(setV (setV (setV (setV e 18 (e 10)) 19 (e 3)) 20 x8) 21 x9), 34, [], h⟩)) := by kernel_rfl
theorem F.ref03_TableOf.L0_x0_eq {e : Env} {h : Heap} {K : Out → Heap → Bool} : F.ref03_TableOf.L0k K (.exit 0) ⟨e, 34, [], h⟩ = (
bindO (loadS (some 3) (e 9) h) fun x20 =>
bindO (storeS 3 (e 8) x20 h) fun h21 =>
bindO (resultL Tryz.prog ⟨(setV e 33 x20), 34, [], h21⟩ Tryz.f143.results.toList) fun vs => K (.ret (oneOf vs)) h21) := by kernel_rfl
theorem F.ref03_TableOf_eq {a0 a1 a2 a3 : AV} {h : Heap} {K : Out → Heap → Bool} : evalS Tryz.prog (semCall Tryz.prog) (codeOf Tryz.f143) ⟨mkEnv [a0, a1, a2, a3], 34, [], h⟩ (leaveK Tryz.prog noD Tryz.f143.results.toList K) = (
semCall Tryz.prog 87 [a0, a2] (Heap.alloc h (.cells [(.str []), (.int .i64 0), .nils])) (outK (fun x0 h1 =>
bindO2 (makeSliceS 1 1 [(.bool false)] x0 x0 h1) fun x4 h5 =>
bindO (aggS [(.str []), (.int .i64 0), .nils] [(0, 1), (1, 1), (2, 1)] [a1, a2, x4]) fun x6 =>
bindO (storeS 3 (.ptr (Heap.next h5) 0) x6 (Heap.alloc h5 (.cells [(.str []), (.int .i64 0), .nils]))) fun h7 =>
loopB (evalS Tryz.prog (semCall Tryz.prog) F.ref03_TableOf.L0) ⟨(setV (setV (setV (setV (setV (setV (setV (setV (setV (setV (mkEnv [a0, a1, a2, a3]) 8 (.ptr (Heap.next h) 0)) 11 a1) 12 a2) 13 a0) 14 a2) 15 x0) 16 x4) 17 x6) 9 (.ptr (Heap.next h5) 0)) 10 (.int .i64 0)), 34, [], h7⟩ (F.ref03_TableOf.L0k K)) (fun v2 h3 => K (.panic v2) h3))) := by kernel_rfl
theorem F.ref03_TableOf_sem {a0 a1 a2 a3 : AV} {h : Heap} {K : Out → Heap → Bool} (hh : (
semCall Tryz.prog 87 [a0, a2] (Heap.alloc h (.cells [(.str []), (.int .i64 0), .nils])) (outK (fun x0 h1 =>
bindO2 (makeSliceS 1 1 [(.bool false)] x0 x0 h1) fun x4 h5 =>
bindO (aggS [(.str []), (.int .i64 0), .nils] [(0, 1), (1, 1), (2, 1)] [a1, a2, x4]) fun x6 =>
bindO (storeS 3 (.ptr (Heap.next h5) 0) x6 (Heap.alloc h5 (.cells [(.str []), (.int .i64 0), .nils]))) fun h7 =>
loopB (evalS Tryz.prog (semCall Tryz.prog) F.ref03_TableOf.L0) ⟨(setV (setV (setV (setV (setV (setV (setV (setV (setV (setV (mkEnv [a0, a1, a2, a3]) 8 (.ptr (Heap.next h) 0)) 11 a1) 12 a2) 13 a0) 14 a2) 15 x0) 16 x4) 17 x6) 9 (.ptr (Heap.next h5) 0)) 10 (.int .i64 0)), 34, [], h7⟩ (F.ref03_TableOf.L0k K)) (fun v2 h3 => K (.panic v2) h3))) = true) : Sem Tryz.prog 143 [a0, a1, a2, a3] h K :=
  sem_body mixed (noD_sound _) Tryz.func143 (c := codeOf Tryz.f143) rfl (by decide) (of_decide_eq_true (by kernel_rfl)) (F.ref03_TableOf_eq.trans hh)
noncomputable def F.ref01_Less.L0 : Code := partOf (codeOf Tryz.f145) [1, 0, 1, 0, 0]
noncomputable def F.ref01_Less.L0k (K : Out → Heap → Bool) : AX → St → Bool := (blockK 0 (seqK false (evalS Tryz.prog (semCall Tryz.prog) (partOf (codeOf Tryz.f145) [1, 1])) (leaveK Tryz.prog noD Tryz.f145.results.toList K)))
theorem F.ref01_Less.L0_eq {e : Env} {h : Heap} {K : AX → St → Bool} : evalS Tryz.prog (semCall Tryz.prog) F.ref01_Less.L0 ⟨e, 30, [], h⟩ K = (
bindO (lenS .slice (e 0) h) fun x0 =>
bindO (binS .lss (e 5) x0) fun x1 =>
condB x1 (
bindO (iaS 1 (e 0) (e 5)) fun x2 =>
bindO (loadS none x2 h) fun x3 =>
bindO (iaS 1 (e 1) (e 5)) fun x4 =>
bindO (loadS none x4 h) fun x5 =>
bindO (neV (.int .i64) x3 x5) fun x6 =>
condB x6 (
bindO (iaS 1 (e 0) (e 5)) fun x7 =>
bindO (loadS none x7 h) fun x8 =>
bindO (iaS 1 (e 1) (e 5)) fun x9 =>
bindO (loadS none x9 h) fun x10 =>
bindO (binS .lss x8 x10) fun x11 =>
K .ret ⟨(setV (setV (setV (setV (setV (setV (setV (setV (setV (setV (setV (setV (setV (setV (setV (setV (setV (setV (setV (setV (setV (setV (setV e 6 (e 5)) 7 (e 0)) 8 x0) 9 x1) 12 (e 0)) 13 (e 5)) 14 x2) 15 x3) 16 (e 1)) 17 (e 5)) 18 x4) 19 x5) 20 x6) 21 (e 0)) 22 (e 5)) 23 x7) 24 x8) 25 (e 1)) 26 (e 5)) 27 x9) 28 x10) 29 x11) 4 x11), 30, [], h⟩) (
bindO (binS .add (e 5) (.int .i64 1)) fun x12 =>
K .normal ⟨(setV (setV (setV (setV (setV (setV (setV (setV (setV (setV (setV (setV (setV (setV (setV (setV e 6 (e 5)) 7 (e 0)) 8 x0) 9 x1) 12 (e 0)) 13 (e 5)) 14 x2) 15 x3) 16 (e 1)) 17 (e 5)) 18 x4) 19 x5) 20 x6) 10 (e 5)) 11 x12) 5 x12), 30, [], h⟩)) (
K (.exit 0) ⟨(setV (setV (setV (setV e 6 (e 5)) 7 (e 0)) 8 x0) 9 x1), 30, [], h⟩)) := by kernel_rfl
theorem F.ref01_Less.L0_x0_eq {e : Env} {h : Heap} {K : Out → Heap → Bool} : F.ref01_Less.L0k K (.exit 0) ⟨e, 30, [], h⟩ = (
K (.ret (.bool false)) h) := by kernel_rfl
theorem F.ref01_Less.L0_r_eq {e : Env} {h : Heap} {K : Out → Heap → Bool} : F.ref01_Less.L0k K .ret ⟨e, 30, [], h⟩ = (
K (.ret (e 4)) h) := by kernel_rfl
theorem F.ref01_Less_eq {a0 a1 : AV} {h : Heap} {K : Out → Heap → Bool} : evalS Tryz.prog (semCall Tryz.prog) (codeOf Tryz.f145) ⟨mkEnv [a0, a1], 30, [], h⟩ (leaveK Tryz.prog noD Tryz.f145.results.toList K) = (
loopB (evalS Tryz.prog (semCall Tryz.prog) F.ref01_Less.L0) ⟨(setV (setV (mkEnv [a0, a1]) 4 (.bool false)) 5 (.int .i64 0)), 30, [], h⟩ (F.ref01_Less.L0k K)) := by kernel_rfl
theorem F.ref01_Less_sem {a0 a1 : AV} {h : Heap} {K : Out → Heap → Bool} (hh : (
loopB (evalS Tryz.prog (semCall Tryz.prog) F.ref01_Less.L0) ⟨(setV (setV (mkEnv [a0, a1]) 4 (.bool false)) 5 (.int .i64 0)), 30, [], h⟩ (F.ref01_Less.L0k K)) = true) : Sem Tryz.prog 145 [a0, a1] h K :=
  sem_body mixed (noD_sound _) Tryz.func145 (c := codeOf Tryz.f145) rfl (by decide) (of_decide_eq_true (by kernel_rfl)) (F.ref01_Less_eq.trans hh)
noncomputable def F.shape_power.L0 : Code := partOf (codeOf Tryz.f153) [1, 1, 0, 1, 0, 0]
noncomputable def F.shape_power.L0k (K : Out → Heap → Bool) : AX → St → Bool := (blockK 0 (seqK false (evalS Tryz.prog (semCall Tryz.prog) (partOf (codeOf Tryz.f153) [1, 1, 1])) (leaveK Tryz.prog noD Tryz.f153.results.toList K)))
theorem F.shape_power.L0_eq {e : Env} {h : Heap} {K : AX → St → Bool} : evalS Tryz.prog (semCall Tryz.prog) F.shape_power.L0 ⟨e, 19, [], h⟩ K = (
bindO (binS .lss (e 9) (e 8)) fun x0 =>
condB x0 (
bindO (binS .mul (e 7) (e 0)) fun x1 =>
bindO (binS .gtr x1 (e 2)) fun x2 =>
condB x2 (
K .ret ⟨(setV (setV (setV (setV (setV (setV (setV (setV (setV e 10 x0) 11 (e 7)) 12 (e 0)) 13 x1) 7 x1) 14 x1) 15 (e 2)) 16 x2) 6 (.int .i64 (-1))), 19, [], h⟩) (
bindO (binS .add (e 9) (.int .i64 1)) fun x3 =>
K .normal ⟨(setV (setV (setV (setV (setV (setV (setV (setV (setV (setV e 10 x0) 11 (e 7)) 12 (e 0)) 13 x1) 7 x1) 14 x1) 15 (e 2)) 16 x2) 17 x3) 9 x3), 19, [], h⟩)) (
K (.exit 0) ⟨(setV e 10 x0), 19, [], h⟩)) := by kernel_rfl
theorem F.shape_power.L0_x0_eq {e : Env} {h : Heap} {K : Out → Heap → Bool} : F.shape_power.L0k K (.exit 0) ⟨e, 19, [], h⟩ = (
K (.ret (e 7)) h) := by kernel_rfl
theorem F.shape_power.L0_r_eq {e : Env} {h : Heap} {K : Out → Heap → Bool} : F.shape_power.L0k K .ret ⟨e, 19, [], h⟩ = (
K (.ret (e 6)) h) := by kernel_rfl
theorem F.shape_power_eq {a0 a1 a2 : AV} {h : Heap} {K : Out → Heap → Bool} : evalS Tryz.prog (semCall Tryz.prog) (codeOf Tryz.f153) ⟨mkEnv [a0, a1, a2], 19, [], h⟩ (leaveK Tryz.prog noD Tryz.f153.results.toList K) = (
loopB (evalS Tryz.prog (semCall Tryz.prog) F.shape_power.L0) ⟨(setV (setV (setV (setV (mkEnv [a0, a1, a2]) 6 (.int .i64 0)) 7 (.int .i64 1)) 8 a1) 9 (.int .i64 0)), 19, [], h⟩ (F.shape_power.L0k K)) := by kernel_rfl
theorem F.shape_power_sem {a0 a1 a2 : AV} {h : Heap} {K : Out → Heap → Bool} (hh : (
loopB (evalS Tryz.prog (semCall Tryz.prog) F.shape_power.L0) ⟨(setV (setV (setV (setV (mkEnv [a0, a1, a2]) 6 (.int .i64 0)) 7 (.int .i64 1)) 8 a1) 9 (.int .i64 0)), 19, [], h⟩ (F.shape_power.L0k K)) = true) : Sem Tryz.prog 153 [a0, a1, a2] h K :=
  sem_body mixed (noD_sound _) Tryz.func153 (c := codeOf Tryz.f153) rfl (by decide) (of_decide_eq_true (by kernel_rfl)) (F.shape_power_eq.trans hh)
noncomputable def F.shape_tuples.L0 : Code := partOf (codeOf Tryz.f154) [1, 0, 1, 0, 0]
noncomputable def F.shape_tuples.L0k (K : Out → Heap → Bool) : AX → St → Bool := (blockK 0 (seqK false (evalS Tryz.prog (semCall Tryz.prog) (partOf (codeOf Tryz.f154) [1, 1])) (leaveK Tryz.prog noD Tryz.f154.results.toList K)))
theorem F.shape_tuples.L0_eq {e : Env} {h : Heap} {K : AX → St → Bool} : evalS Tryz.prog (semCall Tryz.prog) F.shape_tuples.L0 ⟨e, 42, [], h⟩ K = (
bindO (binS .lss (e 10) (e 9)) fun x4 =>
condB x4 (
bindO (iaS 1 (e 8) (e 10)) fun x5 =>
bindO (loadS none x5 h) fun x6 =>
bindO (lenS .slice x6 h) fun x7 =>
bindO (faS 1 (e 3)) fun x8 =>
bindO (loadS none x8 h) fun x9 =>
bindO (neV (.int .i64) x7 x9) fun x10 =>
condB x10 (
K .ret ⟨(setV (setV (setV (setV (setV (setV (setV (setV (setV (setV (setV (setV (setV (setV (setV (setV (setV (setV (setV (setV (setV (setV (setV (setV (setV (setV (setV (setV (setV (setV (setV (setV (setV (setV (setV (setV (setV (setV (setV (setV (setV e 11 x4) 12 (e 10)) 13 x5) 14 x6) 5 (e 10)) 6 x6) 15 x6) 16 x7) 17 x8) 18 x9) 19 x10) 20 x10) 20 (.bool true)) 21 noV) 20 (.bool true)) 22 noV) 20 (.bool true)) 23 noV) 20 (.bool true)) 24 noV) 25 (.bool true)) 26 (.bool true)) 26 (.bool true)) 27 noV) 26 (.bool true)) 28 noV) 26 (.bool true)) 29 noV) 30 noV) 31 noV) 32 noV) 33 noV) 34 noV) 35 noV) 36 noV) 37 noV) 38 noV) 26 (.bool true)) 39 noV) 40 (.bool true)) 4 (.bool false)), 42, [], h⟩) (
semCall Tryz.prog 103 [(e 0), x6] h (outK (fun x11 h12 =>
bindO (unS .not x11) fun x15 =>
condB x15 (
K .ret ⟨(setV (setV (setV (setV (setV (setV (setV (setV (setV (setV (setV (setV (setV (setV (setV (setV (setV (setV (setV (setV (setV (setV (setV (setV (setV (setV (setV (setV (setV (setV (setV (setV (setV (setV (setV (setV (setV (setV (setV (setV (setV e 11 x4) 12 (e 10)) 13 x5) 14 x6) 5 (e 10)) 6 x6) 15 x6) 16 x7) 17 x8) 18 x9) 19 x10) 20 x10) 20 (.bool false)) 21 (e 0)) 20 (.bool false)) 22 x6) 20 (.bool false)) 23 x11) 20 (.bool false)) 24 x15) 25 x15) 26 x15) 26 (.bool true)) 27 noV) 26 (.bool true)) 28 noV) 26 (.bool true)) 29 noV) 30 noV) 31 noV) 32 noV) 33 noV) 34 noV) 35 noV) 36 noV) 37 noV) 38 noV) 26 (.bool true)) 39 noV) 40 (.bool true)) 4 (.bool false)), 42, [], h12⟩) (
bindO (binS .gtr (e 10) (.int .i64 0)) fun x16 =>
condB x16 (
bindO (faS 2 (e 3)) fun x17 =>
bindO (loadS none x17 h12) fun x18 =>
bindO (binS .sub (e 10) (.int .i64 1)) fun x19 =>
bindO (iaS 1 x18 x19) fun x20 =>
bindO (loadS none x20 h12) fun x21 =>
semCall Tryz.prog 102 [x21, x6] h12 (outK (fun x22 h23 =>
bindO (binS .geq x22 (.int .i64 0)) fun x26 =>
condB x26 (
K .ret ⟨(setV (setV (setV (setV (setV (setV (setV (setV (setV (setV (setV (setV (setV (setV (setV (setV (setV (setV (setV (setV (setV (setV (setV (setV (setV (setV (setV (setV (setV (setV (setV (setV (setV (setV (setV (setV (setV (setV (setV (setV (setV (setV (setV (setV (setV (setV (setV (setV (setV (setV e 11 x4) 12 (e 10)) 13 x5) 14 x6) 5 (e 10)) 6 x6) 15 x6) 16 x7) 17 x8) 18 x9) 19 x10) 20 x10) 20 (.bool false)) 21 (e 0)) 20 (.bool false)) 22 x6) 20 (.bool false)) 23 x11) 20 (.bool false)) 24 x15) 25 x15) 26 x15) 26 (.bool false)) 27 (e 10)) 26 (.bool false)) 28 x16) 26 (.bool false)) 29 x16) 29 (.bool true)) 30 x17) 29 (.bool true)) 31 x18) 29 (.bool true)) 32 (e 10)) 29 (.bool true)) 33 x19) 29 (.bool true)) 34 x20) 29 (.bool true)) 35 x21) 29 (.bool true)) 36 x6) 29 (.bool true)) 37 x22) 29 (.bool true)) 38 x26) 26 (.bool false)) 39 x26) 40 x26) 4 (.bool false)), 42, [], h23⟩) (
bindO (binS .add (e 10) (.int .i64 1)) fun x27 =>
K .normal ⟨(setV (setV (setV (setV (setV (setV (setV (setV (setV (setV (setV (setV (setV (setV (setV (setV (setV (setV (setV (setV (setV (setV (setV (setV (setV (setV (setV (setV (setV (setV (setV (setV (setV (setV (setV (setV (setV (setV (setV (setV (setV (setV (setV (setV (setV (setV (setV (setV (setV (setV (setV e 11 x4) 12 (e 10)) 13 x5) 14 x6) 5 (e 10)) 6 x6) 15 x6) 16 x7) 17 x8) 18 x9) 19 x10) 20 x10) 20 (.bool false)) 21 (e 0)) 20 (.bool false)) 22 x6) 20 (.bool false)) 23 x11) 20 (.bool false)) 24 x15) 25 x15) 26 x15) 26 (.bool false)) 27 (e 10)) 26 (.bool false)) 28 x16) 26 (.bool false)) 29 x16) 29 (.bool true)) 30 x17) 29 (.bool true)) 31 x18) 29 (.bool true)) 32 (e 10)) 29 (.bool true)) 33 x19) 29 (.bool true)) 34 x20) 29 (.bool true)) 35 x21) 29 (.bool true)) 36 x6) 29 (.bool true)) 37 x22) 29 (.bool true)) 38 x26) 26 (.bool false)) 39 x26) 40 x26) 41 x27) 10 x27), 42, [], h23⟩)) (fun v24 h25 => K (.panic v24) ⟨(setV (setV (setV (setV (setV (setV (setV (setV (setV (setV (setV (setV (setV (setV (setV (setV (setV (setV (setV (setV (setV (setV (setV (setV (setV (setV (setV (setV (setV (setV (setV (setV (setV (setV (setV (setV (setV (setV (setV (setV (setV (setV (setV e 11 x4) 12 (e 10)) 13 x5) 14 x6) 5 (e 10)) 6 x6) 15 x6) 16 x7) 17 x8) 18 x9) 19 x10) 20 x10) 20 (.bool false)) 21 (e 0)) 20 (.bool false)) 22 x6) 20 (.bool false)) 23 x11) 20 (.bool false)) 24 x15) 25 x15) 26 x15) 26 (.bool false)) 27 (e 10)) 26 (.bool false)) 28 x16) 26 (.bool false)) 29 x16) 29 (.bool true)) 30 x17) 29 (.bool true)) 31 x18) 29 (.bool true)) 32 (e 10)) 29 (.bool true)) 33 x19) 29 (.bool true)) 34 x20) 29 (.bool true)) 35 x21) 29 (.bool true)) 36 x6) 29 (.bool true)), 42, [], h25⟩))) (
bindO (binS .add (e 10) (.int .i64 1)) fun x28 =>
K .normal ⟨(setV (setV (setV (setV (setV (setV (setV (setV (setV (setV (setV (setV (setV (setV (setV (setV (setV (setV (setV (setV (setV (setV (setV (setV (setV (setV (setV (setV (setV (setV (setV (setV (setV (setV (setV (setV (setV (setV (setV (setV (setV (setV (setV (setV (setV (setV (setV (setV (setV (setV (setV e 11 x4) 12 (e 10)) 13 x5) 14 x6) 5 (e 10)) 6 x6) 15 x6) 16 x7) 17 x8) 18 x9) 19 x10) 20 x10) 20 (.bool false)) 21 (e 0)) 20 (.bool false)) 22 x6) 20 (.bool false)) 23 x11) 20 (.bool false)) 24 x15) 25 x15) 26 x15) 26 (.bool false)) 27 (e 10)) 26 (.bool false)) 28 x16) 26 (.bool false)) 29 x16) 29 (.bool false)) 30 noV) 29 (.bool false)) 31 noV) 29 (.bool false)) 32 noV) 29 (.bool false)) 33 noV) 29 (.bool false)) 34 noV) 29 (.bool false)) 35 noV) 29 (.bool false)) 36 noV) 29 (.bool false)) 37 noV) 29 (.bool false)) 38 noV) 26 (.bool false)) 39 (.bool false)) 40 (.bool false)) 41 x28) 10 x28), 42, [], h12⟩))) (fun v13 h14 => K (.panic v13) ⟨(setV (setV (setV (setV (setV (setV (setV (setV (setV (setV (setV (setV (setV (setV (setV (setV (setV e 11 x4) 12 (e 10)) 13 x5) 14 x6) 5 (e 10)) 6 x6) 15 x6) 16 x7) 17 x8) 18 x9) 19 x10) 20 x10) 20 (.bool false)) 21 (e 0)) 20 (.bool false)) 22 x6) 20 (.bool false)), 42, [], h14⟩)))) (
K (.exit 0) ⟨(setV e 11 x4), 42, [], h⟩)) := by kernel_rfl
theorem F.shape_tuples.L0_x0_eq {e : Env} {h : Heap} {K : Out → Heap → Bool} : F.shape_tuples.L0k K (.exit 0) ⟨e, 42, [], h⟩ = (
K (.ret (.bool true)) h) := by kernel_rfl
theorem F.shape_tuples.L0_r_eq {e : Env} {h : Heap} {K : Out → Heap → Bool} : F.shape_tuples.L0k K .ret ⟨e, 42, [], h⟩ = (
K (.ret (e 4)) h) := by kernel_rfl
theorem F.shape_tuples_eq {a0 a1 : AV} {h : Heap} {K : Out → Heap → Bool} : evalS Tryz.prog (semCall Tryz.prog) (codeOf Tryz.f154) ⟨mkEnv [a0, a1], 42, [], h⟩ (leaveK Tryz.prog noD Tryz.f154.results.toList K) = (
bindO (boxS a1) fun c0 =>
bindO (faS 2 (.ptr (Heap.next h) 0)) fun x1 =>
bindO (loadS none x1 (Heap.alloc h (.cells c0))) fun x2 =>
bindO (lenS .slice x2 (Heap.alloc h (.cells c0))) fun x3 =>
loopB (evalS Tryz.prog (semCall Tryz.prog) F.shape_tuples.L0) ⟨(setV (setV (setV (setV (setV (setV (mkEnv [a0, a1]) 3 (.ptr (Heap.next h) 0)) 4 (.bool false)) 7 x1) 8 x2) 9 x3) 10 (.int .i64 0)), 42, [], (Heap.alloc h (.cells c0))⟩ (F.shape_tuples.L0k K)) := by kernel_rfl
theorem F.shape_tuples_sem {a0 a1 : AV} {h : Heap} {K : Out → Heap → Bool} (hh : (
bindO (boxS a1) fun c0 =>
bindO (faS 2 (.ptr (Heap.next h) 0)) fun x1 =>
bindO (loadS none x1 (Heap.alloc h (.cells c0))) fun x2 =>
bindO (lenS .slice x2 (Heap.alloc h (.cells c0))) fun x3 =>
loopB (evalS Tryz.prog (semCall Tryz.prog) F.shape_tuples.L0) ⟨(setV (setV (setV (setV (setV (setV (mkEnv [a0, a1]) 3 (.ptr (Heap.next h) 0)) 4 (.bool false)) 7 x1) 8 x2) 9 x3) 10 (.int .i64 0)), 42, [], (Heap.alloc h (.cells c0))⟩ (F.shape_tuples.L0k K)) = true) : Sem Tryz.prog 154 [a0, a1] h K :=
  sem_body mixed (noD_sound _) Tryz.func154 (c := codeOf Tryz.f154) rfl (by decide) (of_decide_eq_true (by kernel_rfl)) (F.shape_tuples_eq.trans hh)
theorem F.slices_ContainsFunc_S_api_Rel_api_Rel_eq {a0 a1 : AV} {h : Heap} {K : Out → Heap → Bool} : evalS Tryz.prog (semCall Tryz.prog) (codeOf Tryz.f155) ⟨mkEnv [a0, a1], 9, [], h⟩ (leaveK Tryz.prog noD Tryz.f155.results.toList K) = (
semCall Tryz.prog 157 [a0, a1] h (outK (fun x0 h1 =>
bindO (binS .geq x0 (.int .i64 0)) fun x4 =>
K (.ret x4) h1) (fun v2 h3 => K (.panic v2) h3))) := by kernel_rfl
theorem F.slices_ContainsFunc_S_api_Rel_api_Rel_sem {a0 a1 : AV} {h : Heap} {K : Out → Heap → Bool} (hh : (
semCall Tryz.prog 157 [a0, a1] h (outK (fun x0 h1 =>
bindO (binS .geq x0 (.int .i64 0)) fun x4 =>
K (.ret x4) h1) (fun v2 h3 => K (.panic v2) h3))) = true) : Sem Tryz.prog 155 [a0, a1] h K :=
  sem_body mixed (noD_sound _) Tryz.func155 (c := codeOf Tryz.f155) rfl (by decide) (of_decide_eq_true (by kernel_rfl)) (F.slices_ContainsFunc_S_api_Rel_api_Rel_eq.trans hh)
theorem F.shape_Valid_1_eq {a0 a1 : AV} {h : Heap} {K : Out → Heap → Bool} : evalS Tryz.prog (semCall Tryz.prog) (codeOf Tryz.f156) ⟨mkEnv [a0, a1], 9, [], h⟩ (leaveK Tryz.prog noD Tryz.f156.results.toList K) = (
bindO (boxS a0) fun c0 =>
bindO (faS 0 (.ptr (Heap.next h) 0)) fun x1 =>
bindO (loadS none x1 (Heap.alloc h (.cells c0))) fun x2 =>
bindO (faS 0 a1) fun x3 =>
bindO (loadS none x3 (Heap.alloc h (.cells c0))) fun x4 =>
bindO (eqV .string x2 x4) fun x5 =>
K (.ret x5) (Heap.alloc h (.cells c0))) := by kernel_rfl
theorem F.shape_Valid_1_sem {a0 a1 : AV} {h : Heap} {K : Out → Heap → Bool} (hh : (
bindO (boxS a0) fun c0 =>
bindO (faS 0 (.ptr (Heap.next h) 0)) fun x1 =>
bindO (loadS none x1 (Heap.alloc h (.cells c0))) fun x2 =>
bindO (faS 0 a1) fun x3 =>
bindO (loadS none x3 (Heap.alloc h (.cells c0))) fun x4 =>
bindO (eqV .string x2 x4) fun x5 =>
K (.ret x5) (Heap.alloc h (.cells c0))) = true) : Sem Tryz.prog 156 [a0, a1] h K :=
  sem_body mixed (noD_sound _) Tryz.func156 (c := codeOf Tryz.f156) rfl (by decide) (of_decide_eq_true (by kernel_rfl)) (F.shape_Valid_1_eq.trans hh)
noncomputable def F.slices_IndexFunc_S_api_Rel_api_Rel.L0 : Code := partOf (codeOf Tryz.f157) [1, 0, 1, 0, 0]
noncomputable def F.slices_IndexFunc_S_api_Rel_api_Rel.L0k (K : Out → Heap → Bool) : AX → St → Bool := (blockK 0 (seqK false (evalS Tryz.prog (semCall Tryz.prog) (partOf (codeOf Tryz.f157) [1, 1])) (leaveK Tryz.prog noD Tryz.f157.results.toList K)))
theorem F.slices_IndexFunc_S_api_Rel_api_Rel.L0_eq {e : Env} {h : Heap} {K : AX → St → Bool} : evalS Tryz.prog (semCall Tryz.prog) F.slices_IndexFunc_S_api_Rel_api_Rel.L0 ⟨e, 19, [], h⟩ K = (
bindO (binS .lss (e 8) (e 7)) fun x1 =>
condB x1 (
bindO (iaS 3 (e 0) (e 8)) fun x2 =>
bindO (loadS (some 3) x2 h) fun x3 =>
callV (e 1) fun f9 a10 a11 => semCall Tryz.prog f9 (a10 ++ ([x3] ++ a11)) h (outK (fun x4 h5 =>
condB x4 (
K .ret ⟨(setV (setV (setV (setV (setV (setV (setV (setV (setV (setV (setV e 9 x1) 10 (e 8)) 5 (e 8)) 11 (e 1)) 12 (e 0)) 13 (e 8)) 14 x2) 15 x3) 16 x4) 17 (e 8)) 4 (e 8)), 19, [], h5⟩) (
bindO (binS .add (e 8) (.int .i64 1)) fun x8 =>
K .normal ⟨(setV (setV (setV (setV (setV (setV (setV (setV (setV (setV (setV e 9 x1) 10 (e 8)) 5 (e 8)) 11 (e 1)) 12 (e 0)) 13 (e 8)) 14 x2) 15 x3) 16 x4) 18 x8) 8 x8), 19, [], h5⟩)) (fun v6 h7 => K (.panic v6) ⟨(setV (setV (setV (setV (setV (setV (setV (setV e 9 x1) 10 (e 8)) 5 (e 8)) 11 (e 1)) 12 (e 0)) 13 (e 8)) 14 x2) 15 x3), 19, [], h7⟩))) (
K (.exit 0) ⟨(setV e 9 x1), 19, [], h⟩)) := by kernel_rfl
theorem F.slices_IndexFunc_S_api_Rel_api_Rel.L0_x0_eq {e : Env} {h : Heap} {K : Out → Heap → Bool} : F.slices_IndexFunc_S_api_Rel_api_Rel.L0k K (.exit 0) ⟨e, 19, [], h⟩ = (
K (.ret (.int .i64 (-1))) h) := by kernel_rfl
theorem F.slices_IndexFunc_S_api_Rel_api_Rel.L0_r_eq {e : Env} {h : Heap} {K : Out → Heap → Bool} : F.slices_IndexFunc_S_api_Rel_api_Rel.L0k K .ret ⟨e, 19, [], h⟩ = (
K (.ret (e 4)) h) := by kernel_rfl
theorem F.slices_IndexFunc_S_api_Rel_api_Rel_eq {a0 a1 : AV} {h : Heap} {K : Out → Heap → Bool} : evalS Tryz.prog (semCall Tryz.prog) (codeOf Tryz.f157) ⟨mkEnv [a0, a1], 19, [], h⟩ (leaveK Tryz.prog noD Tryz.f157.results.toList K) = (
bindO (lenS .slice a0 h) fun x0 =>
loopB (evalS Tryz.prog (semCall Tryz.prog) F.slices_IndexFunc_S_api_Rel_api_Rel.L0) ⟨(setV (setV (setV (setV (mkEnv [a0, a1]) 4 (.int .i64 0)) 6 a0) 7 x0) 8 (.int .i64 0)), 19, [], h⟩ (F.slices_IndexFunc_S_api_Rel_api_Rel.L0k K)) := by kernel_rfl
theorem F.slices_IndexFunc_S_api_Rel_api_Rel_sem {a0 a1 : AV} {h : Heap} {K : Out → Heap → Bool} (hh : (
bindO (lenS .slice a0 h) fun x0 =>
loopB (evalS Tryz.prog (semCall Tryz.prog) F.slices_IndexFunc_S_api_Rel_api_Rel.L0) ⟨(setV (setV (setV (setV (mkEnv [a0, a1]) 4 (.int .i64 0)) 6 a0) 7 x0) 8 (.int .i64 0)), 19, [], h⟩ (F.slices_IndexFunc_S_api_Rel_api_Rel.L0k K)) = true) : Sem Tryz.prog 157 [a0, a1] h K :=
  sem_body mixed (noD_sound _) Tryz.func157 (c := codeOf Tryz.f157) rfl (by decide) (of_decide_eq_true (by kernel_rfl)) (F.slices_IndexFunc_S_api_Rel_api_Rel_eq.trans hh)
theorem F.shape_Find_1_eq {a0 a1 a2 : AV} {h : Heap} {K : Out → Heap → Bool} : evalS Tryz.prog (semCall Tryz.prog) (codeOf Tryz.f158) ⟨mkEnv [a0, a1, a2], 15, [], h⟩ (leaveK Tryz.prog noD Tryz.f158.results.toList K) = (
bindO (boxS a0) fun c0 =>
bindO (faS 0 (.ptr (Heap.next h) 0)) fun x1 =>
bindO (loadS none x1 (Heap.alloc h (.cells c0))) fun x2 =>
bindO (loadS none a1 (Heap.alloc h (.cells c0))) fun x3 =>
bindO (eqV .string x2 x3) fun x4 =>
condB x4 (
bindO (faS 1 (.ptr (Heap.next h) 0)) fun x5 =>
bindO (loadS none x5 (Heap.alloc h (.cells c0))) fun x6 =>
bindO (loadS none a2 (Heap.alloc h (.cells c0))) fun x7 =>
bindO (eqV (.int .i64) x6 x7) fun x8 =>
K (.ret x8) (Heap.alloc h (.cells c0))) (
K (.ret (.bool false)) (Heap.alloc h (.cells c0)))) := by kernel_rfl
theorem F.shape_Find_1_sem {a0 a1 a2 : AV} {h : Heap} {K : Out → Heap → Bool} (hh : (
bindO (boxS a0) fun c0 =>
bindO (faS 0 (.ptr (Heap.next h) 0)) fun x1 =>
bindO (loadS none x1 (Heap.alloc h (.cells c0))) fun x2 =>
bindO (loadS none a1 (Heap.alloc h (.cells c0))) fun x3 =>
bindO (eqV .string x2 x3) fun x4 =>
condB x4 (
bindO (faS 1 (.ptr (Heap.next h) 0)) fun x5 =>
bindO (loadS none x5 (Heap.alloc h (.cells c0))) fun x6 =>
bindO (loadS none a2 (Heap.alloc h (.cells c0))) fun x7 =>
bindO (eqV (.int .i64) x6 x7) fun x8 =>
K (.ret x8) (Heap.alloc h (.cells c0))) (
K (.ret (.bool false)) (Heap.alloc h (.cells c0)))) = true) : Sem Tryz.prog 158 [a0, a1, a2] h K :=
  sem_body mixed (noD_sound _) Tryz.func158 (c := codeOf Tryz.f158) rfl (by decide) (of_decide_eq_true (by kernel_rfl)) (F.shape_Find_1_eq.trans hh)
theorem F.cmp_Compare_int_eq {a0 a1 : AV} {h : Heap} {K : Out → Heap → Bool} : evalS Tryz.prog (semCall Tryz.prog) (codeOf Tryz.f159) ⟨mkEnv [a0, a1], 20, [], h⟩ (leaveK Tryz.prog noD Tryz.f159.results.toList K) = (
semCall Tryz.prog 194 [a0] h (outK (fun x0 h1 =>
semCall Tryz.prog 194 [a1] h1 (outK (fun x4 h5 =>
condB x0 (
condB x4 (
K (.ret (.int .i64 0)) h5) (
K (.ret (.int .i64 (-1))) h5)) (
condB x4 (
K (.ret (.int .i64 1)) h5) (
bindO (binS .lss a0 a1) fun x8 =>
condB x8 (
K (.ret (.int .i64 (-1))) h5) (
bindO (binS .gtr a0 a1) fun x9 =>
condB x9 (
K (.ret (.int .i64 1)) h5) (
K (.ret (.int .i64 0)) h5))))) (fun v6 h7 => K (.panic v6) h7))) (fun v2 h3 => K (.panic v2) h3))) := by kernel_rfl
theorem F.cmp_Compare_int_sem {a0 a1 : AV} {h : Heap} {K : Out → Heap → Bool} (hh : (
semCall Tryz.prog 194 [a0] h (outK (fun x0 h1 =>
semCall Tryz.prog 194 [a1] h1 (outK (fun x4 h5 =>
condB x0 (
condB x4 (
K (.ret (.int .i64 0)) h5) (
K (.ret (.int .i64 (-1))) h5)) (
condB x4 (
K (.ret (.int .i64 1)) h5) (
bindO (binS .lss a0 a1) fun x8 =>
condB x8 (
K (.ret (.int .i64 (-1))) h5) (
bindO (binS .gtr a0 a1) fun x9 =>
condB x9 (
K (.ret (.int .i64 1)) h5) (
K (.ret (.int .i64 0)) h5))))) (fun v6 h7 => K (.panic v6) h7))) (fun v2 h3 => K (.panic v2) h3))) = true) : Sem Tryz.prog 159 [a0, a1] h K :=
  sem_body mixed (noD_sound _) Tryz.func159 (c := codeOf Tryz.f159) rfl (by decide) (of_decide_eq_true (by kernel_rfl)) (F.cmp_Compare_int_eq.trans hh)
theorem F.shape_elements_1_eq {a0 a1 : AV} {h : Heap} {K : Out → Heap → Bool} : evalS Tryz.prog (semCall Tryz.prog) (codeOf Tryz.f160) ⟨mkEnv [a0, a1], 11, [], h⟩ (leaveK Tryz.prog noD Tryz.f160.results.toList K) = (
bindO (binS .lss a0 (.int .i64 0)) fun x0 =>
condB x0 (
K (.ret (.bool true)) h) (
bindO (loadS none a1 h) fun x1 =>
bindO (binS .geq a0 x1) fun x2 =>
K (.ret x2) h)) := by kernel_rfl
theorem F.shape_elements_1_sem {a0 a1 : AV} {h : Heap} {K : Out → Heap → Bool} (hh : (
bindO (binS .lss a0 (.int .i64 0)) fun x0 =>
condB x0 (
K (.ret (.bool true)) h) (
bindO (loadS none a1 h) fun x1 =>
bindO (binS .geq a0 x1) fun x2 =>
K (.ret x2) h)) = true) : Sem Tryz.prog 160 [a0, a1] h K :=
  sem_body mixed (noD_sound _) Tryz.func160 (c := codeOf Tryz.f160) rfl (by decide) (of_decide_eq_true (by kernel_rfl)) (F.shape_elements_1_eq.trans hh)
noncomputable def F.ref03_rank.L0 : Code := partOf (codeOf Tryz.f178) [1, 1, 0, 1, 0, 0]
noncomputable def F.ref03_rank.L0k (K : Out → Heap → Bool) : AX → St → Bool := (blockK 0 (seqK false (evalS Tryz.prog (semCall Tryz.prog) (partOf (codeOf Tryz.f178) [1, 1, 1])) (leaveK Tryz.prog noD Tryz.f178.results.toList K)))
theorem F.ref03_rank.L0_eq {e : Env} {h : Heap} {K : AX → St → Bool} : evalS Tryz.prog (semCall Tryz.prog) F.ref03_rank.L0 ⟨e, 22, [], h⟩ K = (
bindO (lenS .slice (e 1) h) fun x0 =>
bindO (binS .lss (e 6) x0) fun x1 =>
condB x1 (
bindO (binS .mul (e 5) (e 0)) fun x2 =>
bindO (iaS 1 (e 1) (e 6)) fun x3 =>
bindO (loadS none x3 h) fun x4 =>
bindO (binS .add x2 x4) fun x5 =>
bindO (binS .add (e 6) (.int .i64 1)) fun x6 =>
K .normal ⟨(setV (setV (setV (setV (setV (setV (setV (setV (setV (setV (setV (setV (setV (setV (setV (setV e 7 (e 6)) 8 (e 1)) 9 x0) 10 x1) 13 (e 5)) 14 (e 0)) 15 x2) 16 (e 1)) 17 (e 6)) 18 x3) 19 x4) 20 x5) 5 x5) 11 (e 6)) 12 x6) 6 x6), 22, [], h⟩) (
K (.exit 0) ⟨(setV (setV (setV (setV e 7 (e 6)) 8 (e 1)) 9 x0) 10 x1), 22, [], h⟩)) := by kernel_rfl
theorem F.ref03_rank.L0_x0_eq {e : Env} {h : Heap} {K : Out → Heap → Bool} : F.ref03_rank.L0k K (.exit 0) ⟨e, 22, [], h⟩ = (
K (.ret (e 5)) h) := by kernel_rfl
theorem F.ref03_rank_eq {a0 a1 : AV} {h : Heap} {K : Out → Heap → Bool} : evalS Tryz.prog (semCall Tryz.prog) (codeOf Tryz.f178) ⟨mkEnv [a0, a1], 22, [], h⟩ (leaveK Tryz.prog noD Tryz.f178.results.toList K) = (
loopB (evalS Tryz.prog (semCall Tryz.prog) F.ref03_rank.L0) ⟨(setV (setV (setV (mkEnv [a0, a1]) 4 (.int .i64 0)) 5 (.int .i64 0)) 6 (.int .i64 0)), 22, [], h⟩ (F.ref03_rank.L0k K)) := by kernel_rfl
theorem F.ref03_rank_sem {a0 a1 : AV} {h : Heap} {K : Out → Heap → Bool} (hh : (
loopB (evalS Tryz.prog (semCall Tryz.prog) F.ref03_rank.L0) ⟨(setV (setV (setV (mkEnv [a0, a1]) 4 (.int .i64 0)) 5 (.int .i64 0)) 6 (.int .i64 0)), 22, [], h⟩ (F.ref03_rank.L0k K)) = true) : Sem Tryz.prog 178 [a0, a1] h K :=
  sem_body mixed (noD_sound _) Tryz.func178 (c := codeOf Tryz.f178) rfl (by decide) (of_decide_eq_true (by kernel_rfl)) (F.ref03_rank_eq.trans hh)
theorem F.cmp_isNaN_int_eq {a0 : AV} {h : Heap} {K : Out → Heap → Bool} : evalS Tryz.prog (semCall Tryz.prog) (codeOf Tryz.f194) ⟨mkEnv [a0], 6, [], h⟩ (leaveK Tryz.prog noD Tryz.f194.results.toList K) = (
bindO (neV (.int .i64) a0 a0) fun x0 =>
K (.ret x0) h) := by kernel_rfl
theorem F.cmp_isNaN_int_sem {a0 : AV} {h : Heap} {K : Out → Heap → Bool} (hh : (
bindO (neV (.int .i64) a0 a0) fun x0 =>
K (.ret x0) h) = true) : Sem Tryz.prog 194 [a0] h K :=
  sem_body mixed (noD_sound _) Tryz.func194 (c := codeOf Tryz.f194) rfl (by decide) (of_decide_eq_true (by kernel_rfl)) (F.cmp_isNaN_int_eq.trans hh)
end
end Go.AM
/- Powers, ranks, the order of tuples: what small functions of structures answer. Conditions: none. -/
namespace Go.AM
open Go Go.Proofs
set_option linter.unusedVariables false
set_option linter.unusedSimpArgs false
noncomputable section

theorem pow_up {n : Nat} (h1 : 1 ≤ n) {i k : Nat} (h : i ≤ k) : n ^ i ≤ n ^ k := Nat.pow_le_pow_right h1 h
theorem ref01_Pow {n k : Nat} (h1 : 1 ≤ n) (h2 : n ≤ 64) (hk : k ≤ big) {h : Heap} {K : Out → Heap → Bool} (hK : ∀ v : Nat, (n ^ k ≤ 4096 → v = n ^ k) → (4096 < n ^ k → 4096 < v) → K (.ret (.int .i64 (v : Int))) h = true) :
    Sem Tryz.prog 87 [.int .i64 (n : Int), .int .i64 (k : Int)] h K := by
  refine F.ref01_Pow_sem ?_
  refine loopB_range 0 k (Nat.zero_le _) (fun i e h' => h' = h ∧ e 0 = .int .i64 (n : Int) ∧ e 1 = .int .i64 (k : Int) ∧ e 6 = .int .i64 (i : Int) ∧ e 5 = .int .i64 ((n ^ i : Nat) : Int) ∧ n ^ i ≤ 262144) ⟨rfl, rfl, rfl, rfl, rfl, by simp⟩ ?_ ?_
  · rintro i e h' _ hi ⟨rfl, e0, e1, e6, e5, hb⟩ K' hn hx hr hp
    rw [F.ref01_Pow.L0_eq]
    simp only [e0, e1, e5, e6, bindO_some, bindO2_some, outK_ret, condB_bool, cond_t, cond_f, fa_ptr, fa_iptr, part_none, Nat.zero_add, Nat.add_zero, Nat.reduceAdd, List.getElem?_cons_zero, List.getElem?_cons_succ, len_str, lenS_enc, lss_int, leq_int, gtr_int, geq_int, eq_int, ne_int, eq_str, ne_str, eq_bool, ne_bool, not_bool, extract_0, extract_1, extract_2, setV_eq, Nat.reduceEqDiff, reduceIte, lt_true hi]
    by_cases hc : n ^ i ≤ 4096
    · have hm : n ^ i * n ≤ 4096 * 64 := Nat.mul_le_mul hc h2
      have hm' : ((n ^ i : Nat) : Int) * (n : Int) = ((n ^ (i + 1) : Nat) : Int) := by rw [Nat.pow_succ, Int.natCast_mul]
      have hs : n ^ (i + 1) ≤ 262144 := by rw [Nat.pow_succ]; omega
      have hmul : binS .mul (.int .i64 ((n ^ i : Nat) : Int)) (.int .i64 (n : Int)) = some (.int .i64 ((n ^ (i + 1) : Nat) : Int)) := by
        rw [mul_i64 (by rw [hm']; omega) (by rw [hm']; omega), hm']
      simp only [decide_eq_true (by omega : ((n ^ i : Nat) : Int) ≤ 4096), cond_t, hmul, succ_i64 hi hk, bindO_some]
      exact hn _ _ ⟨rfl, e0, e1, rfl, rfl, hs⟩
    · simp only [decide_eq_false (by omega : ¬ ((n ^ i : Nat) : Int) ≤ 4096), cond_f]
      rw [hx, F.ref01_Pow.L0_x0_eq]
      simp only [e5, setV_eq, Nat.reduceEqDiff, reduceIte]
      have := pow_up h1 (Nat.le_of_lt hi)
      exact hK _ (fun h => by omega) (fun _ => by omega)
  · rintro e h' ⟨rfl, e0, e1, e6, e5, hb⟩ K' hx
    rw [F.ref01_Pow.L0_eq]
    simp only [e0, e1, e5, e6, bindO_some, bindO2_some, outK_ret, condB_bool, cond_t, cond_f, fa_ptr, fa_iptr, part_none, Nat.zero_add, Nat.add_zero, Nat.reduceAdd, List.getElem?_cons_zero, List.getElem?_cons_succ, len_str, lenS_enc, lss_int, leq_int, gtr_int, geq_int, eq_int, ne_int, eq_str, ne_str, eq_bool, ne_bool, not_bool, extract_0, extract_1, extract_2, setV_eq, Nat.reduceEqDiff, reduceIte, lt_false]
    rw [hx, F.ref01_Pow.L0_x0_eq]
    simp only [e5, setV_eq, Nat.reduceEqDiff, reduceIte]
    exact hK _ (fun _ => rfl) (fun h => h)

/-- The power, or minus one. -/
def powI (n k : Nat) : Int := if n ^ k ≤ 4096 then ((n ^ k : Nat) : Int) else -1
theorem shape_power {n k : Nat} (h1 : 1 ≤ n) (h2 : n ≤ 64) (hk : k ≤ big) {h : Heap} {K : Out → Heap → Bool} (hK : K (.ret (.int .i64 (powI n k))) h = true) :
    Sem Tryz.prog 153 [.int .i64 (n : Int), .int .i64 (k : Int), .int .i64 4096] h K := by
  refine F.shape_power_sem ?_
  refine loopB_range 0 k (Nat.zero_le _) (fun i e h' => h' = h ∧ e 0 = .int .i64 (n : Int) ∧ e 2 = .int .i64 4096 ∧ e 8 = .int .i64 (k : Int) ∧ e 9 = .int .i64 (i : Int) ∧ e 7 = .int .i64 ((n ^ i : Nat) : Int) ∧ n ^ i ≤ 4096) ⟨rfl, rfl, rfl, rfl, rfl, rfl, by simp⟩ ?_ ?_
  · rintro i e h' _ hi ⟨rfl, e0, e2, e8, e9, e7, hb⟩ K' hn hx hr hp
    rw [F.shape_power.L0_eq]
    have hm : n ^ i * n ≤ 4096 * 64 := Nat.mul_le_mul hb h2
    have hm' : ((n ^ i : Nat) : Int) * (n : Int) = ((n ^ (i + 1) : Nat) : Int) := by rw [Nat.pow_succ, Int.natCast_mul]
    have hs : n ^ (i + 1) ≤ 262144 := by rw [Nat.pow_succ]; omega
    have hmul : binS .mul (.int .i64 ((n ^ i : Nat) : Int)) (.int .i64 (n : Int)) = some (.int .i64 ((n ^ (i + 1) : Nat) : Int)) := by
      rw [mul_i64 (by rw [hm']; omega) (by rw [hm']; omega), hm']
    simp only [e0, e2, e7, e8, e9, bindO_some, bindO2_some, outK_ret, condB_bool, cond_t, cond_f, fa_ptr, fa_iptr, part_none, Nat.zero_add, Nat.add_zero, Nat.reduceAdd, List.getElem?_cons_zero, List.getElem?_cons_succ, len_str, lenS_enc, lss_int, leq_int, gtr_int, geq_int, eq_int, ne_int, eq_str, ne_str, eq_bool, ne_bool, not_bool, extract_0, extract_1, extract_2, setV_eq, Nat.reduceEqDiff, reduceIte, lt_true hi, hmul]
    by_cases hc : n ^ (i + 1) ≤ 4096
    · simp only [decide_eq_false (by omega : ¬ (4096 : Int) < ((n ^ (i + 1) : Nat) : Int)), cond_f, succ_i64 hi hk, bindO_some]
      exact hn _ _ ⟨rfl, e0, e2, e8, rfl, rfl, hc⟩
    · simp only [decide_eq_true (by omega : (4096 : Int) < ((n ^ (i + 1) : Nat) : Int)), cond_t]
      rw [hr, F.shape_power.L0_r_eq]
      simp only [setV_eq, Nat.reduceEqDiff, reduceIte]
      have := pow_up h1 (show i + 1 ≤ k from hi)
      rw [powI, if_neg (by omega)] at hK
      exact hK
  · rintro e h' ⟨rfl, e0, e2, e8, e9, e7, hb⟩ K' hx
    rw [F.shape_power.L0_eq]
    simp only [e8, e9, bindO_some, bindO2_some, outK_ret, condB_bool, cond_t, cond_f, fa_ptr, fa_iptr, part_none, Nat.zero_add, Nat.add_zero, Nat.reduceAdd, List.getElem?_cons_zero, List.getElem?_cons_succ, len_str, lenS_enc, lss_int, leq_int, gtr_int, geq_int, eq_int, ne_int, eq_str, ne_str, eq_bool, ne_bool, not_bool, extract_0, extract_1, extract_2, setV_eq, Nat.reduceEqDiff, reduceIte, lt_false]
    rw [hx, F.shape_power.L0_x0_eq]
    simp only [e7, setV_eq, Nat.reduceEqDiff, reduceIte]
    rw [powI, if_pos hb] at hK
    exact hK

/-- What Power answers: the power and an error's number. -/
def powA (n k : Nat) : AV := if 12 < k then .tuple [.int .i64 0, .int .i64 2] else if 4096 < n ^ k then .tuple [.int .i64 0, .int .i64 5] else .tuple [.int .i64 ((n ^ k : Nat) : Int), .int .i64 0]
theorem shape_Power {n k : Nat} (h1 : 1 ≤ n) (h2 : n ≤ 64) (hk : k ≤ big) {h : Heap} {K : Out → Heap → Bool} (hK : K (.ret (powA n k)) h = true) : Sem Tryz.prog 110 [.int .i64 (n : Int), .int .i64 (k : Int)] h K := by
  refine F.shape_Power_sem ?_
  simp only [bindO_some, bindO2_some, outK_ret, condB_bool, cond_t, cond_f, fa_ptr, fa_iptr, part_none, Nat.zero_add, Nat.add_zero, Nat.reduceAdd, List.getElem?_cons_zero, List.getElem?_cons_succ, len_str, lenS_enc, lss_int, leq_int, gtr_int, geq_int, eq_int, ne_int, eq_str, ne_str, eq_bool, ne_bool, not_bool, extract_0, extract_1, extract_2, setV_eq, Nat.reduceEqDiff, reduceIte, decide_eq_false (by omega : ¬ (n : Int) < 1), decide_eq_false (by omega : ¬ (64 : Int) < (n : Int)), decide_eq_false (by omega : ¬ (k : Int) < 0)]
  unfold powA at hK
  by_cases h12 : 12 < k
  · rw [if_pos h12] at hK
    simp only [decide_eq_true (by omega : (12 : Int) < (k : Int)), cond_t]; exact hK
  · rw [if_neg h12] at hK
    simp only [decide_eq_false (by omega : ¬ (12 : Int) < (k : Int)), cond_f]
    refine semCall_true (shape_power h1 h2 hk ?_)
    simp only [bindO_some, bindO2_some, outK_ret, condB_bool, cond_t, cond_f, fa_ptr, fa_iptr, part_none, Nat.zero_add, Nat.add_zero, Nat.reduceAdd, List.getElem?_cons_zero, List.getElem?_cons_succ, len_str, lenS_enc, lss_int, leq_int, gtr_int, geq_int, eq_int, ne_int, eq_str, ne_str, eq_bool, ne_bool, not_bool, extract_0, extract_1, extract_2, setV_eq, Nat.reduceEqDiff, reduceIte]
    by_cases hc : n ^ k ≤ 4096
    · rw [if_neg (by omega)] at hK
      simp only [powI, if_pos hc, decide_eq_false (by omega : ¬ ((n ^ k : Nat) : Int) < 0), cond_f]; exact hK
    · rw [if_pos (by omega)] at hK
      simp only [powI, if_neg hc, decide_eq_true (by omega : (-1 : Int) < 0), cond_t]; exact hK
theorem ref01_Power {n k : Nat} (h1 : 1 ≤ n) (h2 : n ≤ 64) (hk : k ≤ big) {h : Heap} {K : Out → Heap → Bool} (hK : K (.ret (powA n k)) h = true) : Sem Tryz.prog 115 [.int .i64 (n : Int), .int .i64 (k : Int)] h K := by
  refine F.ref01_Power_sem ?_
  simp only [bindO_some, bindO2_some, outK_ret, condB_bool, cond_t, cond_f, fa_ptr, fa_iptr, part_none, Nat.zero_add, Nat.add_zero, Nat.reduceAdd, List.getElem?_cons_zero, List.getElem?_cons_succ, len_str, lenS_enc, lss_int, leq_int, gtr_int, geq_int, eq_int, ne_int, eq_str, ne_str, eq_bool, ne_bool, not_bool, extract_0, extract_1, extract_2, setV_eq, Nat.reduceEqDiff, reduceIte, decide_eq_false (by omega : ¬ (n : Int) < 1), decide_eq_false (by omega : ¬ (64 : Int) < (n : Int)), decide_eq_false (by omega : ¬ (k : Int) < 0)]
  unfold powA at hK
  by_cases h12 : 12 < k
  · rw [if_pos h12] at hK
    simp only [decide_eq_true (by omega : (12 : Int) < (k : Int)), cond_t]; exact hK
  · rw [if_neg h12] at hK
    simp only [decide_eq_false (by omega : ¬ (12 : Int) < (k : Int)), cond_f]
    refine semCall_true (ref01_Pow h1 h2 hk fun v v1 v2 => ?_)
    simp only [bindO_some, bindO2_some, outK_ret, condB_bool, cond_t, cond_f, fa_ptr, fa_iptr, part_none, Nat.zero_add, Nat.add_zero, Nat.reduceAdd, List.getElem?_cons_zero, List.getElem?_cons_succ, len_str, lenS_enc, lss_int, leq_int, gtr_int, geq_int, eq_int, ne_int, eq_str, ne_str, eq_bool, ne_bool, not_bool, extract_0, extract_1, extract_2, setV_eq, Nat.reduceEqDiff, reduceIte]
    by_cases hc : n ^ k ≤ 4096
    · rw [if_neg (by omega)] at hK
      have := v1 hc
      simp only [decide_eq_false (by omega : ¬ (4096 : Int) < (v : Int)), cond_f]
      refine semCall_true (ref01_Pow h1 h2 hk fun u u1 u2 => ?_)
      simp only [bindO_some, bindO2_some, outK_ret, condB_bool, cond_t, cond_f, fa_ptr, fa_iptr, part_none, Nat.zero_add, Nat.add_zero, Nat.reduceAdd, List.getElem?_cons_zero, List.getElem?_cons_succ, len_str, lenS_enc, lss_int, leq_int, gtr_int, geq_int, eq_int, ne_int, eq_str, ne_str, eq_bool, ne_bool, not_bool, extract_0, extract_1, extract_2, setV_eq, Nat.reduceEqDiff, reduceIte]
      rw [u1 hc]; exact hK
    · rw [if_pos (by omega)] at hK
      have := v2 (by omega)
      simp only [decide_eq_true (by omega : (4096 : Int) < (v : Int)), cond_t]; exact hK

/-! ### Elements -/
theorem elements_1 {b : Nat} {h : Heap} {n : Int} (hb : h.get b = some (.cells [.int .i64 n])) (v : Int) (K : Out → Heap → Bool) (hK : K (.ret (.bool (outB n v))) h = true) : Sem Tryz.prog 160 ([] ++ ([.int .i64 v] ++ [.ptr b 0])) h K := by
  refine F.shape_elements_1_sem ?_
  simp only [load_ptr hb, bindO_some, bindO2_some, outK_ret, condB_bool, cond_t, cond_f, fa_ptr, fa_iptr, part_none, Nat.zero_add, Nat.add_zero, Nat.reduceAdd, List.getElem?_cons_zero, List.getElem?_cons_succ, len_str, lenS_enc, lss_int, leq_int, gtr_int, geq_int, eq_int, ne_int, eq_str, ne_str, eq_bool, ne_bool, not_bool, extract_0, extract_1, extract_2, setV_eq, Nat.reduceEqDiff, reduceIte]
  unfold outB at hK
  by_cases h1 : v < 0 <;> by_cases h2 : n ≤ v <;> simpa [h1, h2] using hK
theorem shape_elements {n : Int} {x : Sl Int} (hx : x.l.length ≤ big) {h : Heap} {K : Out → Heap → Bool} (hK : K (.ret (.bool (inB n x.l))) h = true) : Sem Tryz.prog 103 [.int .i64 n, encSl encI 1 x] h K := by
  refine Sem.data (r := .bool (inB n x.l)) ?_ (by simp [AV.pureL, AV.pure, pure_encSl pure_encI]) hK
  refine F.shape_elements_sem ?_
  simp only [box_one (x := .int .i64 _) rfl, bindO_some, next_empty]
  have g0 : (Heap.alloc Heap.empty (.cells [.int .i64 n])).get 0 = some (.cells [.int .i64 n]) := get_alloc_same _ _
  refine semCall_true (ContainsFunc_int hx (elements_1 g0) ?_)
  simp only [bindO_some, bindO2_some, outK_ret, condB_bool, cond_t, cond_f, fa_ptr, fa_iptr, part_none, Nat.zero_add, Nat.add_zero, Nat.reduceAdd, List.getElem?_cons_zero, List.getElem?_cons_succ, len_str, lenS_enc, lss_int, leq_int, gtr_int, geq_int, eq_int, ne_int, eq_str, ne_str, eq_bool, ne_bool, not_bool, extract_0, extract_1, extract_2, setV_eq, Nat.reduceEqDiff, reduceIte]
  rw [in_out]
  exact frzK_same rfl

/-! ### Ranks -/
def rkGo (n : Nat) : List Int → Nat → Nat
  | [], r => r
  | x :: l, r => rkGo n l (r * n + x.toNat)
def rkN (n : Nat) (l : List Int) : Nat := rkGo n l 0
theorem rkGo_append (n : Nat) : ∀ (a b : List Int) (r : Nat), rkGo n (a ++ b) r = rkGo n b (rkGo n a r)
  | [], _, _ => rfl
  | x :: a, b, r => rkGo_append n a b _
theorem rkGo_lt {n : Nat} : ∀ (l : List Int) (r i : Nat), inB n l = true → r < n ^ i → rkGo n l r < n ^ (i + l.length)
  | [], r, i, _, h => h
  | x :: l, r, i, hb, h => by
    simp only [inB, List.all_cons, Bool.and_eq_true, Bool.not_eq_true', decide_eq_false_iff_not] at hb
    have : r * n + x.toNat < n ^ (i + 1) := by
      have h1 : (r + 1) * n ≤ n ^ i * n := Nat.mul_le_mul_right n h
      rw [Nat.succ_mul] at h1
      rw [Nat.pow_succ]
      omega
    have := rkGo_lt l (r * n + x.toNat) (i + 1) (by rw [inB, List.all_eq_true]; simpa using hb.2) this
    rw [List.length_cons, show i + (l.length + 1) = i + 1 + l.length by omega]
    exact this
theorem rkN_lt {n : Nat} {l : List Int} (hb : inB n l = true) : rkN n l < n ^ l.length := by
  have := rkGo_lt l 0 0 hb (by simp)
  rw [Nat.zero_add] at this
  exact this
theorem rkN_step {n : Nat} {l : List Int} {i : Nat} {v : Int} (hv : l[i]? = some v) : rkN n (l.take (i + 1)) = rkN n (l.take i) * n + v.toNat := by
  rw [rkN, List.take_add_one, hv, rkGo_append]; rfl
theorem in_take {n : Int} {l : List Int} (hb : inB n l = true) (i : Nat) : inB n (l.take i) = true := by
  unfold inB at hb ⊢
  rw [List.all_eq_true] at hb ⊢
  exact fun x hx => hb x (List.mem_of_mem_take hx)
theorem in_get {n : Int} {l : List Int} (hb : inB n l = true) {i : Nat} {v : Int} (hv : l[i]? = some v) : 0 ≤ v ∧ v < n := by
  unfold inB at hb
  rw [List.all_eq_true] at hb
  have := hb v (List.mem_of_getElem? hv)
  simp at this; omega
/-- One step of a rank. -/
theorem rank_ops {n : Nat} {l : List Int} (hb : inB n l = true) (h1 : 1 ≤ n) (hc : n ^ l.length ≤ 4096) {i : Nat} {v : Int} (hv : l[i]? = some v) :
    binS .mul (.int .i64 ((rkN n (l.take i) : Nat) : Int)) (.int .i64 (n : Int)) = some (.int .i64 ((rkN n (l.take i) * n : Nat) : Int)) ∧
    binS .add (.int .i64 ((rkN n (l.take i) * n : Nat) : Int)) (.int .i64 v) = some (.int .i64 ((rkN n (l.take (i + 1)) : Nat) : Int)) := by
  have hi : i < l.length := (List.getElem?_eq_some_iff.1 hv).1
  have hlt : rkN n (l.take (i + 1)) < n ^ (l.take (i + 1)).length := rkN_lt (in_take hb _)
  have hp : n ^ (l.take (i + 1)).length ≤ 4096 := Nat.le_trans (pow_up h1 (by rw [List.length_take]; omega)) hc
  obtain ⟨v0, v1⟩ := in_get hb hv
  have he : rkN n (l.take (i + 1)) = rkN n (l.take i) * n + v.toNat := rkN_step hv
  have hm : ((rkN n (l.take i) : Nat) : Int) * (n : Int) = ((rkN n (l.take i) * n : Nat) : Int) := by rw [Int.natCast_mul]
  have hs : ((rkN n (l.take i) * n : Nat) : Int) + v = ((rkN n (l.take (i + 1)) : Nat) : Int) := by omega
  exact ⟨by rw [mul_i64 (by rw [hm]; omega) (by rw [hm]; omega), hm], by rw [add_i64 (by rw [hs]; omega) (by rw [hs]; omega), hs]⟩

theorem shape_Rank {n : Nat} (h1 : 1 ≤ n) (h2 : n ≤ 64) {x : Sl Int} (hx : x.l.length ≤ 12) (hc : n ^ x.l.length ≤ 4096) (hb : inB n x.l = true) {h : Heap} {K : Out → Heap → Bool}
    (hK : K (.ret (.tuple [.int .i64 ((rkN n x.l : Nat) : Int), .int .i64 0])) h = true) : Sem Tryz.prog 111 [.int .i64 (n : Int), encSl encI 1 x] h K := by
  have hbig : x.l.length ≤ big := by unfold big; omega
  refine F.shape_Rank_sem ?_
  simp only [bindO_some, bindO2_some, outK_ret, condB_bool, cond_t, cond_f, fa_ptr, fa_iptr, part_none, Nat.zero_add, Nat.add_zero, Nat.reduceAdd, List.getElem?_cons_zero, List.getElem?_cons_succ, len_str, lenS_enc, lss_int, leq_int, gtr_int, geq_int, eq_int, ne_int, eq_str, ne_str, eq_bool, ne_bool, not_bool, extract_0, extract_1, extract_2, setV_eq, Nat.reduceEqDiff, reduceIte]
  refine semCall_true (shape_Power h1 h2 hbig ?_)
  simp only [powA, if_neg (by omega : ¬ 12 < x.l.length), if_neg (by omega : ¬ 4096 < n ^ x.l.length), bindO_some, bindO2_some, outK_ret, condB_bool, cond_t, cond_f, fa_ptr, fa_iptr, part_none, Nat.zero_add, Nat.add_zero, Nat.reduceAdd, List.getElem?_cons_zero, List.getElem?_cons_succ, len_str, lenS_enc, lss_int, leq_int, gtr_int, geq_int, eq_int, ne_int, eq_str, ne_str, eq_bool, ne_bool, not_bool, extract_0, extract_1, extract_2, setV_eq, Nat.reduceEqDiff, reduceIte, beq_self_eq_true, Bool.not_true, cond_f]
  refine semCall_true (shape_elements hbig ?_)
  simp only [bindO_some, bindO2_some, outK_ret, condB_bool, cond_t, cond_f, fa_ptr, fa_iptr, part_none, Nat.zero_add, Nat.add_zero, Nat.reduceAdd, List.getElem?_cons_zero, List.getElem?_cons_succ, len_str, lenS_enc, lss_int, leq_int, gtr_int, geq_int, eq_int, ne_int, eq_str, ne_str, eq_bool, ne_bool, not_bool, extract_0, extract_1, extract_2, setV_eq, Nat.reduceEqDiff, reduceIte, hb, Bool.not_true, cond_f]
  refine loopB_range 0 x.l.length (Nat.zero_le _) (fun i e h' => h' = h ∧ e 0 = .int .i64 (n : Int) ∧ e 8 = .int .i64 ((rkN n (x.l.take i) : Nat) : Int) ∧ e 25 = encSl encI 1 x ∧ e 26 = .int .i64 (x.l.length : Int) ∧ e 27 = .int .i64 (i : Int)) ⟨rfl, rfl, rfl, rfl, rfl, rfl⟩ ?_ ?_
  · rintro i e h' _ hi ⟨rfl, e0, e8, e25, e26, e27⟩ K' hn hx' hr hp
    have hv : x.l[i]? = some x.l[i] := List.getElem?_eq_getElem hi
    rw [F.shape_Rank.L0_eq]
    simp only [e0, e8, e25, e26, e27, bindO_some, bindO2_some, outK_ret, condB_bool, cond_t, cond_f, fa_ptr, fa_iptr, part_none, Nat.zero_add, Nat.add_zero, Nat.reduceAdd, List.getElem?_cons_zero, List.getElem?_cons_succ, len_str, lenS_enc, lss_int, leq_int, gtr_int, geq_int, eq_int, ne_int, eq_str, ne_str, eq_bool, ne_bool, not_bool, extract_0, extract_1, extract_2, setV_eq, Nat.reduceEqDiff, reduceIte, lt_true hi, iaS_enc x hi, get_ints hv, (rank_ops hb h1 hc hv).1, (rank_ops hb h1 hc hv).2, succ_i64 hi hbig]
    exact hn _ _ ⟨rfl, e0, rfl, e25, e26, rfl⟩
  · rintro e h' ⟨rfl, e0, e8, e25, e26, e27⟩ K' hx'
    rw [F.shape_Rank.L0_eq]
    simp only [e26, e27, bindO_some, bindO2_some, outK_ret, condB_bool, cond_t, cond_f, fa_ptr, fa_iptr, part_none, Nat.zero_add, Nat.add_zero, Nat.reduceAdd, List.getElem?_cons_zero, List.getElem?_cons_succ, len_str, lenS_enc, lss_int, leq_int, gtr_int, geq_int, eq_int, ne_int, eq_str, ne_str, eq_bool, ne_bool, not_bool, extract_0, extract_1, extract_2, setV_eq, Nat.reduceEqDiff, reduceIte, lt_false]
    rw [hx', F.shape_Rank.L0_x0_eq]
    simp only [e8, setV_eq, Nat.reduceEqDiff, reduceIte]
    rw [List.take_of_length_le (Nat.le_refl _)]
    exact hK
theorem ref01_Rank {n : Nat} (h1 : 1 ≤ n) (h2 : n ≤ 64) {x : Sl Int} (hx : x.l.length ≤ 12) (hc : n ^ x.l.length ≤ 4096) (hb : inB n x.l = true) {h : Heap} {K : Out → Heap → Bool}
    (hK : K (.ret (.tuple [.int .i64 ((rkN n x.l : Nat) : Int), .int .i64 0])) h = true) : Sem Tryz.prog 61 [.int .i64 (n : Int), encSl encI 1 x] h K := by
  have hbig : x.l.length ≤ big := by unfold big; omega
  refine F.ref01_Rank_sem ?_
  simp only [bindO_some, bindO2_some, outK_ret, condB_bool, cond_t, cond_f, fa_ptr, fa_iptr, part_none, Nat.zero_add, Nat.add_zero, Nat.reduceAdd, List.getElem?_cons_zero, List.getElem?_cons_succ, len_str, lenS_enc, lss_int, leq_int, gtr_int, geq_int, eq_int, ne_int, eq_str, ne_str, eq_bool, ne_bool, not_bool, extract_0, extract_1, extract_2, setV_eq, Nat.reduceEqDiff, reduceIte]
  refine semCall_true (ref01_Power h1 h2 hbig ?_)
  simp only [powA, if_neg (by omega : ¬ 12 < x.l.length), if_neg (by omega : ¬ 4096 < n ^ x.l.length), bindO_some, bindO2_some, outK_ret, condB_bool, cond_t, cond_f, fa_ptr, fa_iptr, part_none, Nat.zero_add, Nat.add_zero, Nat.reduceAdd, List.getElem?_cons_zero, List.getElem?_cons_succ, len_str, lenS_enc, lss_int, leq_int, gtr_int, geq_int, eq_int, ne_int, eq_str, ne_str, eq_bool, ne_bool, not_bool, extract_0, extract_1, extract_2, setV_eq, Nat.reduceEqDiff, reduceIte, beq_self_eq_true, Bool.not_true, cond_f]
  refine semCall_true (ref01_In hbig ?_)
  simp only [bindO_some, bindO2_some, outK_ret, condB_bool, cond_t, cond_f, fa_ptr, fa_iptr, part_none, Nat.zero_add, Nat.add_zero, Nat.reduceAdd, List.getElem?_cons_zero, List.getElem?_cons_succ, len_str, lenS_enc, lss_int, leq_int, gtr_int, geq_int, eq_int, ne_int, eq_str, ne_str, eq_bool, ne_bool, not_bool, extract_0, extract_1, extract_2, setV_eq, Nat.reduceEqDiff, reduceIte, hb, Bool.not_true, cond_f]
  refine loopB_range 0 x.l.length (Nat.zero_le _) (fun i e h' => h' = h ∧ e 0 = .int .i64 (n : Int) ∧ e 8 = .int .i64 ((rkN n (x.l.take i) : Nat) : Int) ∧ e 1 = encSl encI 1 x ∧ e 9 = .int .i64 (i : Int)) ⟨rfl, rfl, rfl, rfl, rfl⟩ ?_ ?_
  · rintro i e h' _ hi ⟨rfl, e0, e8, e1, e9⟩ K' hn hx' hr hp
    have hv : x.l[i]? = some x.l[i] := List.getElem?_eq_getElem hi
    rw [F.ref01_Rank.L0_eq]
    simp only [e0, e1, e8, e9, bindO_some, bindO2_some, outK_ret, condB_bool, cond_t, cond_f, fa_ptr, fa_iptr, part_none, Nat.zero_add, Nat.add_zero, Nat.reduceAdd, List.getElem?_cons_zero, List.getElem?_cons_succ, len_str, lenS_enc, lss_int, leq_int, gtr_int, geq_int, eq_int, ne_int, eq_str, ne_str, eq_bool, ne_bool, not_bool, extract_0, extract_1, extract_2, setV_eq, Nat.reduceEqDiff, reduceIte, lt_true hi, iaS_enc x hi, get_ints hv, (rank_ops hb h1 hc hv).1, (rank_ops hb h1 hc hv).2, succ_i64 hi hbig]
    exact hn _ _ ⟨rfl, e0, rfl, e1, rfl⟩
  · rintro e h' ⟨rfl, e0, e8, e1, e9⟩ K' hx'
    rw [F.ref01_Rank.L0_eq]
    simp only [e1, e9, bindO_some, bindO2_some, outK_ret, condB_bool, cond_t, cond_f, fa_ptr, fa_iptr, part_none, Nat.zero_add, Nat.add_zero, Nat.reduceAdd, List.getElem?_cons_zero, List.getElem?_cons_succ, len_str, lenS_enc, lss_int, leq_int, gtr_int, geq_int, eq_int, ne_int, eq_str, ne_str, eq_bool, ne_bool, not_bool, extract_0, extract_1, extract_2, setV_eq, Nat.reduceEqDiff, reduceIte, lt_false]
    rw [hx', F.ref01_Rank.L0_x0_eq]
    simp only [e8, setV_eq, Nat.reduceEqDiff, reduceIte]
    rw [List.take_of_length_le (Nat.le_refl _)]
    exact hK

/-! ### The order of tuples -/
def lessB : List Int → List Int → Bool
  | a :: l, b :: m => if a = b then lessB l m else decide (a < b)
  | _, _ => false
theorem lessB_drop {l m : List Int} {i : Nat} {a b : Int} (ha : l[i]? = some a) (hb : m[i]? = some b) : lessB (l.drop i) (m.drop i) = if a = b then lessB (l.drop (i + 1)) (m.drop (i + 1)) else decide (a < b) := by
  have h1 := (List.getElem?_eq_some_iff.1 ha).1
  have h2 := (List.getElem?_eq_some_iff.1 hb).1
  rw [List.drop_eq_getElem_cons h1, List.drop_eq_getElem_cons h2]
  rw [List.getElem?_eq_getElem h1] at ha
  rw [List.getElem?_eq_getElem h2] at hb
  cases ha; cases hb; rfl
theorem ref01_Less {x y : Sl Int} (hx : x.l.length ≤ big) (hxy : x.l.length = y.l.length) {h : Heap} {K : Out → Heap → Bool} (hK : K (.ret (.bool (lessB x.l y.l))) h = true) : Sem Tryz.prog 145 [encSl encI 1 x, encSl encI 1 y] h K := by
  refine F.ref01_Less_sem ?_
  refine loopB_range 0 x.l.length (Nat.zero_le _) (fun i e h' => h' = h ∧ e 0 = encSl encI 1 x ∧ e 1 = encSl encI 1 y ∧ e 5 = .int .i64 (i : Int) ∧ lessB x.l y.l = lessB (x.l.drop i) (y.l.drop i)) ⟨rfl, rfl, rfl, rfl, rfl⟩ ?_ ?_
  · rintro i e h' _ hi ⟨rfl, e0, e1, e5, hl⟩ K' hn hx' hr hp
    have hi2 : i < y.l.length := by omega
    have hv : x.l[i]? = some x.l[i] := List.getElem?_eq_getElem hi
    have hw : y.l[i]? = some y.l[i] := List.getElem?_eq_getElem hi2
    rw [lessB_drop hv hw] at hl
    generalize x.l[i] = a at hv hl
    generalize y.l[i] = b at hw hl
    rw [F.ref01_Less.L0_eq]
    simp only [e0, e1, e5, bindO_some, bindO2_some, outK_ret, condB_bool, cond_t, cond_f, fa_ptr, fa_iptr, part_none, Nat.zero_add, Nat.add_zero, Nat.reduceAdd, List.getElem?_cons_zero, List.getElem?_cons_succ, len_str, lenS_enc, lss_int, leq_int, gtr_int, geq_int, eq_int, ne_int, eq_str, ne_str, eq_bool, ne_bool, not_bool, extract_0, extract_1, extract_2, setV_eq, Nat.reduceEqDiff, reduceIte, lt_true hi, iaS_enc x hi, iaS_enc y hi2, get_ints hv, get_ints hw, int_beq]
    by_cases hab : a = b
    · rw [if_pos hab] at hl
      simp only [decide_eq_true hab, Bool.not_true, cond_f, succ_i64 hi hx, bindO_some]
      exact hn _ _ ⟨rfl, e0, e1, rfl, hl⟩
    · rw [if_neg hab] at hl
      simp only [decide_eq_false hab, Bool.not_false, cond_t]
      rw [hr, F.ref01_Less.L0_r_eq]
      simp only [setV_eq, Nat.reduceEqDiff, reduceIte]
      rw [hl] at hK; exact hK
  · rintro e h' ⟨rfl, e0, e1, e5, hl⟩ K' hx'
    rw [F.ref01_Less.L0_eq]
    simp only [e0, e5, bindO_some, bindO2_some, outK_ret, condB_bool, cond_t, cond_f, fa_ptr, fa_iptr, part_none, Nat.zero_add, Nat.add_zero, Nat.reduceAdd, List.getElem?_cons_zero, List.getElem?_cons_succ, len_str, lenS_enc, lss_int, leq_int, gtr_int, geq_int, eq_int, ne_int, eq_str, ne_str, eq_bool, ne_bool, not_bool, extract_0, extract_1, extract_2, setV_eq, Nat.reduceEqDiff, reduceIte, lt_false]
    rw [hx', F.ref01_Less.L0_x0_eq]
    rw [List.drop_of_length_le (Nat.le_refl _)] at hl
    rw [hl] at hK; exact hK

theorem isNaN_int {a : Int} {h : Heap} {K : Out → Heap → Bool} (hK : K (.ret (.bool false)) h = true) : Sem Tryz.prog 194 [.int .i64 a] h K := by
  refine F.cmp_isNaN_int_sem ?_
  simp only [bindO_some, bindO2_some, outK_ret, condB_bool, cond_t, cond_f, fa_ptr, fa_iptr, part_none, Nat.zero_add, Nat.add_zero, Nat.reduceAdd, List.getElem?_cons_zero, List.getElem?_cons_succ, len_str, lenS_enc, lss_int, leq_int, gtr_int, geq_int, eq_int, ne_int, eq_str, ne_str, eq_bool, ne_bool, not_bool, extract_0, extract_1, extract_2, setV_eq, Nat.reduceEqDiff, reduceIte, beq_self_eq_true, Bool.not_true]
  exact hK
theorem Compare_int {a b : Int} {h : Heap} {K : Out → Heap → Bool} (hK : ∀ c : Int, (c = 0 ↔ a = b) → (c < 0 ↔ a < b) → K (.ret (.int .i64 c)) h = true) : Sem Tryz.prog 159 [.int .i64 a, .int .i64 b] h K := by
  refine F.cmp_Compare_int_sem ?_
  refine semCall_true (isNaN_int ?_)
  simp only [bindO_some, bindO2_some, outK_ret, condB_bool, cond_t, cond_f, fa_ptr, fa_iptr, part_none, Nat.zero_add, Nat.add_zero, Nat.reduceAdd, List.getElem?_cons_zero, List.getElem?_cons_succ, len_str, lenS_enc, lss_int, leq_int, gtr_int, geq_int, eq_int, ne_int, eq_str, ne_str, eq_bool, ne_bool, not_bool, extract_0, extract_1, extract_2, setV_eq, Nat.reduceEqDiff, reduceIte]
  refine semCall_true (isNaN_int ?_)
  simp only [bindO_some, bindO2_some, outK_ret, condB_bool, cond_t, cond_f, fa_ptr, fa_iptr, part_none, Nat.zero_add, Nat.add_zero, Nat.reduceAdd, List.getElem?_cons_zero, List.getElem?_cons_succ, len_str, lenS_enc, lss_int, leq_int, gtr_int, geq_int, eq_int, ne_int, eq_str, ne_str, eq_bool, ne_bool, not_bool, extract_0, extract_1, extract_2, setV_eq, Nat.reduceEqDiff, reduceIte]
  by_cases h1 : a < b
  · simp only [decide_eq_true h1, cond_t]; exact hK _ (by omega) (by omega)
  · simp only [decide_eq_false h1, cond_f]
    by_cases h2 : b < a
    · simp only [decide_eq_true h2, cond_t]; exact hK _ (by omega) (by omega)
    · simp only [decide_eq_false h2, cond_f]; exact hK _ (by omega) (by omega)
theorem slices_Compare {x y : Sl Int} (hx : x.l.length ≤ big) (hxy : x.l.length = y.l.length) {h : Heap} {K : Out → Heap → Bool} (hK : ∀ c : Int, decide (0 ≤ c) = !(lessB x.l y.l) → K (.ret (.int .i64 c)) h = true) : Sem Tryz.prog 102 [encSl encI 1 x, encSl encI 1 y] h K := by
  refine F.slices_Compare_S_int_int_sem ?_
  simp only [bindO_some, bindO2_some, outK_ret, condB_bool, cond_t, cond_f, fa_ptr, fa_iptr, part_none, Nat.zero_add, Nat.add_zero, Nat.reduceAdd, List.getElem?_cons_zero, List.getElem?_cons_succ, len_str, lenS_enc, lss_int, leq_int, gtr_int, geq_int, eq_int, ne_int, eq_str, ne_str, eq_bool, ne_bool, not_bool, extract_0, extract_1, extract_2, setV_eq, Nat.reduceEqDiff, reduceIte]
  refine loopB_range 0 x.l.length (Nat.zero_le _) (fun i e h' => h' = h ∧ e 0 = encSl encI 1 x ∧ e 1 = encSl encI 1 y ∧ e 9 = encSl encI 1 x ∧ e 10 = .int .i64 (x.l.length : Int) ∧ e 11 = .int .i64 (i : Int) ∧ lessB x.l y.l = lessB (x.l.drop i) (y.l.drop i)) ⟨rfl, rfl, rfl, rfl, rfl, rfl, rfl⟩ ?_ ?_
  · rintro i e h' _ hi ⟨rfl, e0, e1, e9, e10, e11, hl⟩ K' hn hx' hr hp
    have hi2 : i < y.l.length := by omega
    have hv : x.l[i]? = some x.l[i] := List.getElem?_eq_getElem hi
    have hw : y.l[i]? = some y.l[i] := List.getElem?_eq_getElem hi2
    rw [lessB_drop hv hw] at hl
    generalize x.l[i] = a at hv hl
    generalize y.l[i] = b at hw hl
    rw [F.slices_Compare_S_int_int.L0_eq]
    simp only [e0, e1, e9, e10, e11, bindO_some, bindO2_some, outK_ret, condB_bool, cond_t, cond_f, fa_ptr, fa_iptr, part_none, Nat.zero_add, Nat.add_zero, Nat.reduceAdd, List.getElem?_cons_zero, List.getElem?_cons_succ, len_str, lenS_enc, lss_int, leq_int, gtr_int, geq_int, eq_int, ne_int, eq_str, ne_str, eq_bool, ne_bool, not_bool, extract_0, extract_1, extract_2, setV_eq, Nat.reduceEqDiff, reduceIte, lt_true hi, iaS_enc x hi, iaS_enc y hi2, get_ints hv, get_ints hw, decide_eq_false (by omega : ¬ (y.l.length : Int) ≤ (i : Int))]
    refine semCall_true (Compare_int fun c c1 c2 => ?_)
    simp only [bindO_some, bindO2_some, outK_ret, condB_bool, cond_t, cond_f, fa_ptr, fa_iptr, part_none, Nat.zero_add, Nat.add_zero, Nat.reduceAdd, List.getElem?_cons_zero, List.getElem?_cons_succ, len_str, lenS_enc, lss_int, leq_int, gtr_int, geq_int, eq_int, ne_int, eq_str, ne_str, eq_bool, ne_bool, not_bool, extract_0, extract_1, extract_2, setV_eq, Nat.reduceEqDiff, reduceIte, int_beq]
    by_cases hab : a = b
    · rw [if_pos hab] at hl
      simp only [decide_eq_true (c1.2 hab), Bool.not_true, cond_f, succ_i64 hi hx, bindO_some]
      exact hn _ _ ⟨rfl, e0, e1, e9, e10, rfl, hl⟩
    · rw [if_neg hab] at hl
      simp only [decide_eq_false (fun h => hab (c1.1 h)), Bool.not_false, cond_t]
      rw [hr, F.slices_Compare_S_int_int.L0_r_eq]
      simp only [setV_eq, Nat.reduceEqDiff, reduceIte]
      refine hK c ?_
      rw [hl]
      by_cases hlt : a < b
      · rw [decide_eq_true hlt, decide_eq_false (by have := c2.2 hlt; omega)]; rfl
      · rw [decide_eq_false hlt, decide_eq_true (by have := mt c2.1 hlt; omega)]; rfl
  · rintro e h' ⟨rfl, e0, e1, e9, e10, e11, hl⟩ K' hx'
    rw [F.slices_Compare_S_int_int.L0_eq]
    simp only [e10, e11, bindO_some, bindO2_some, outK_ret, condB_bool, cond_t, cond_f, fa_ptr, fa_iptr, part_none, Nat.zero_add, Nat.add_zero, Nat.reduceAdd, List.getElem?_cons_zero, List.getElem?_cons_succ, len_str, lenS_enc, lss_int, leq_int, gtr_int, geq_int, eq_int, ne_int, eq_str, ne_str, eq_bool, ne_bool, not_bool, extract_0, extract_1, extract_2, setV_eq, Nat.reduceEqDiff, reduceIte, lt_false]
    rw [hx', F.slices_Compare_S_int_int.L0_x0_eq]
    simp only [e0, e1, bindO_some, bindO2_some, outK_ret, condB_bool, cond_t, cond_f, fa_ptr, fa_iptr, part_none, Nat.zero_add, Nat.add_zero, Nat.reduceAdd, List.getElem?_cons_zero, List.getElem?_cons_succ, len_str, lenS_enc, lss_int, leq_int, gtr_int, geq_int, eq_int, ne_int, eq_str, ne_str, eq_bool, ne_bool, not_bool, extract_0, extract_1, extract_2, setV_eq, Nat.reduceEqDiff, reduceIte, decide_eq_false (by omega : ¬ (x.l.length : Int) < (y.l.length : Int))]
    rw [List.drop_of_length_le (Nat.le_refl _)] at hl
    exact hK 0 (by rw [hl]; rfl)
end
end Go.AM
/- Structures: which are valid; the program and the reference agree. Conditions: none. -/
namespace Go.AM
open Go Go.Proofs
set_option linter.unusedVariables false
set_option linter.unusedSimpArgs false
noncomputable section

/-! ### Looking at a row of values -/
/-- `a` is a row of the values of `l`, by `enc`, each `sz` cells. -/
structure View {α : Type} (enc : α → List AV) (sz : Nat) (a : AV) (l : List α) : Prop where
  len : ∀ h : Heap, lenS .slice a h = some (.int .i64 (l.length : Int))
  at_ : ∀ (i : Nat) (v : α), l[i]? = some v → ∃ cs o, (∀ k : IntKind, iaS sz a (.int k (i : Int)) = some (.iptr cs o)) ∧ (∀ h : Heap, loadS (some sz) (.iptr cs o) h = some (.agg (enc v))) ∧ ∀ (m : Nat), m < sz → ∀ h : Heap, loadS none (.iptr cs (o + m)) h = (enc v)[m]?
theorem view_enc {α : Type} {enc : α → List AV} {sz : Nat} (he : ∀ a, (enc a).length = sz) (x : Sl α) : View enc sz (encSl enc sz x) x.l where
  len h := lenS_enc x h
  at_ i v hv := ⟨x.l.flatMap enc, i * sz, fun k => iaS_enc x (List.getElem?_eq_some_iff.1 hv).1, fun h => load_agg he hv, fun m hm h => load_elem he hv hm⟩
theorem view_take {α : Type} {enc : α → List AV} {sz : Nat} (he : ∀ a, (enc a).length = sz) (x : Sl α) {i : Nat} (hi : i ≤ x.l.length) :
    ∃ a, (∀ k : IntKind, sliceS (some sz) (encSl enc sz x) none (some (.int k (i : Int))) = some a) ∧ View enc sz a (x.l.take i) := by
  cases x with
  | none =>
    simp only [Sl.l_none, List.length_nil, Nat.le_zero_eq] at hi
    subst hi
    exact ⟨.nils, fun k => by simp [sliceS, encSl, lenA, boundS, asNat], ⟨fun h => rfl, fun j v hv => by simp at hv⟩⟩
  | some l =>
    simp only [Sl.l_some] at hi ⊢
    refine ⟨.islice (l.flatMap enc) 0 i sz, fun k => ?_, ⟨fun h => by simp [lenS, Nat.min_eq_left hi], fun j v hv => ?_⟩⟩
    · simp [sliceS, encSl, lenA, boundS, asNat, hi]
    · have hj : j < i := by have := (List.getElem?_eq_some_iff.1 hv).1; rw [List.length_take] at this; omega
      rw [List.getElem?_take_of_lt hj] at hv
      exact ⟨l.flatMap enc, j * sz, fun k => by simp [iaS, asNat, hj], fun h => load_agg he hv, fun m hm h => load_elem he hv hm⟩

/-! ### Relations and structures -/
def encT (t : Sl Int) : List AV := [encSl encI 1 t]
theorem len_encT (t : Sl Int) : (encT t).length = 1 := rfl
theorem pure_encT (t : Sl Int) : AV.pureL (encT t) = true := by simp [encT, AV.pureL, pure_encSl pure_encI]
structure Rel where
  name : Str
  arity : Int
  tuples : Sl (Sl Int)
def encRel (r : Rel) : List AV := [.str r.name, .int .i64 r.arity, encSl encT 1 r.tuples]
theorem len_encRel (r : Rel) : (encRel r).length = 3 := rfl
theorem pure_encRel (r : Rel) : AV.pureL (encRel r) = true := by simp [encRel, AV.pureL, AV.pure, pure_encSl pure_encT]
theorem one_encRel (r : Rel) : oneAll (encRel r) = true := by unfold encRel; simp only [oneAll, one_encSl, Bool.and_true]; rfl
def Rel.ok (r : Rel) : Prop := r.name.length ≤ big ∧ r.tuples.l.length ≤ big ∧ ∀ t ∈ r.tuples.l, t.l.length ≤ big
structure Strc where
  size : Int
  rels : Sl Rel
def encStrc (s : Strc) : List AV := [.int .i64 s.size, encSl encRel 3 s.rels]
theorem pure_encStrc (s : Strc) : AV.pureL (encStrc s) = true := by simp [encStrc, AV.pureL, AV.pure, pure_encSl pure_encRel]
theorem one_encStrc (s : Strc) : oneAll (encStrc s) = true := by unfold encStrc; simp only [oneAll, one_encSl, Bool.and_true]; rfl
def Strc.ok (s : Strc) : Prop := s.rels.l.length ≤ big ∧ ∀ r ∈ s.rels.l, r.ok

def allN (p : Nat → Bool) (n : Nat) : Bool := (List.range n).all p
theorem allN_true {p : Nat → Bool} {n : Nat} (h : ∀ j, j < n → p j = true) : allN p n = true := by
  rw [allN, List.all_eq_true]; exact fun x hx => h x (List.mem_range.1 hx)
theorem allN_false {p : Nat → Bool} {n i : Nat} (hi : i < n) (h : p i = false) : allN p n = false := by
  rw [Bool.eq_false_iff]; intro hh
  rw [allN, List.all_eq_true] at hh
  have := hh i (List.mem_range.2 hi)
  rw [h] at this; cases this
theorem allN_get {p : Nat → Bool} {n : Nat} (h : allN p n = true) {i : Nat} (hi : i < n) : p i = true := by
  rw [allN, List.all_eq_true] at h
  exact h i (List.mem_range.2 hi)

/-- The tuple at a place is one of elements and after the tuple ahead of it. -/
def tupAt (n k : Nat) (l : List (Sl Int)) (i : Nat) : Bool := match l[i]? with
  | none => true
  | some t => decide (t.l.length = k) && (inB n t.l && (match i with
    | 0 => true
    | j + 1 => match l[j]? with
      | none => true
      | some p => lessB p.l t.l))
def tupB (n k : Nat) (l : List (Sl Int)) : Bool := allN (tupAt n k l) l.length
theorem tup_len {n k : Nat} {l : List (Sl Int)} {i : Nat} {t : Sl Int} (h : tupAt n k l i = true) (ht : l[i]? = some t) : t.l.length = k := by
  unfold tupAt at h
  rw [ht] at h
  simp only [Bool.and_eq_true, decide_eq_true_eq] at h
  exact h.1
theorem get_tup {l : List (Sl Int)} {i : Nat} {t : Sl Int} (ht : l[i]? = some t) {h : Heap} : loadS none (.iptr (l.flatMap encT) (i * 1)) h = some (encSl encI 1 t) := by
  rw [load_elem1 len_encT ht]; rfl

theorem shape_tuples {n k : Nat} {r : Rel} (hr : r.ok) (ha : r.arity = (k : Int)) {h : Heap} {K : Out → Heap → Bool} (hK : K (.ret (.bool (tupB n k r.tuples.l))) h = true) : Sem Tryz.prog 154 [.int .i64 (n : Int), .agg (encRel r)] h K := by
  refine Sem.data (r := .bool (tupB n k r.tuples.l)) ?_ (by simp [AV.pureL, AV.pure, pure_encRel]) hK
  clear hK
  refine F.shape_tuples_sem ?_
  have b0 : (Heap.alloc Heap.empty (.cells (encRel r))).get 0 = some (.cells (encRel r)) := get_alloc_same _ _
  simp only [box_agg (one_encRel r), bindO_some, next_empty]
  generalize (Heap.alloc Heap.empty (.cells (encRel r))) = H at b0 ⊢
  have fin : ∀ b : Bool, b = tupB n k r.tuples.l → frzK (.bool (tupB n k r.tuples.l)) (.ret (.bool b)) H = true := fun b hb => by rw [hb]; exact frzK_same rfl
  simp only [bindO_some, bindO2_some, outK_ret, condB_bool, cond_t, cond_f, fa_ptr, fa_iptr, part_none, Nat.zero_add, Nat.add_zero, Nat.reduceAdd, List.getElem?_cons_zero, List.getElem?_cons_succ, len_str, lenS_enc, lss_int, leq_int, gtr_int, geq_int, eq_int, ne_int, eq_str, ne_str, eq_bool, ne_bool, not_bool, extract_0, extract_1, extract_2, setV_eq, Nat.reduceEqDiff, reduceIte, load_ptr b0, encRel]
  refine loopB_range 0 r.tuples.l.length (Nat.zero_le _) (fun i e h' => h' = H ∧ e 0 = .int .i64 (n : Int) ∧ e 3 = .ptr 0 0 ∧ e 8 = encSl encT 1 r.tuples ∧ e 9 = .int .i64 (r.tuples.l.length : Int) ∧ e 10 = .int .i64 (i : Int) ∧ ∀ j, j < i → tupAt n k r.tuples.l j = true) ⟨rfl, rfl, rfl, rfl, rfl, rfl, fun j hj => by omega⟩ ?_ ?_
  · rintro i e h' _ hi ⟨rfl, e0, e3, e8, e9, e10, ht⟩ K' hn hx' hrr hp
    have hv : r.tuples.l[i]? = some r.tuples.l[i] := List.getElem?_eq_getElem hi
    generalize r.tuples.l[i] = t at hv
    have hto : t.l.length ≤ big := hr.2.2 t (List.mem_of_getElem? hv)
    have bad : tupAt n k r.tuples.l i = false → F.shape_tuples.L0k (frzK (.bool (tupB n k r.tuples.l))) .ret ⟨setV e 4 (.bool false), 42, [], h'⟩ = true := fun hb => by
      rw [F.shape_tuples.L0_r_eq]
      simp only [setV_eq, Nat.reduceEqDiff, reduceIte]
      exact fin _ (allN_false hi hb).symm
    rw [F.shape_tuples.L0_eq]
    simp only [e0, e3, e8, e9, e10, bindO_some, bindO2_some, outK_ret, condB_bool, cond_t, cond_f, fa_ptr, fa_iptr, part_none, Nat.zero_add, Nat.add_zero, Nat.reduceAdd, List.getElem?_cons_zero, List.getElem?_cons_succ, len_str, lenS_enc, lss_int, leq_int, gtr_int, geq_int, eq_int, ne_int, eq_str, ne_str, eq_bool, ne_bool, not_bool, extract_0, extract_1, extract_2, setV_eq, Nat.reduceEqDiff, reduceIte, lt_true hi, iaS_enc r.tuples hi, get_tup hv, load_ptr b0, encRel, int_beq, ha]
    by_cases h1 : t.l.length = k
    · simp only [decide_eq_true (by omega : (t.l.length : Int) = (k : Int)), Bool.not_true, cond_f]
      refine semCall_true (shape_elements hto ?_)
      simp only [bindO_some, bindO2_some, outK_ret, condB_bool, cond_t, cond_f, fa_ptr, fa_iptr, part_none, Nat.zero_add, Nat.add_zero, Nat.reduceAdd, List.getElem?_cons_zero, List.getElem?_cons_succ, len_str, lenS_enc, lss_int, leq_int, gtr_int, geq_int, eq_int, ne_int, eq_str, ne_str, eq_bool, ne_bool, not_bool, extract_0, extract_1, extract_2, setV_eq, Nat.reduceEqDiff, reduceIte]
      cases h2 : inB n t.l with
      | false =>
        simp only [Bool.not_false, cond_t]
        rw [hrr, F.shape_tuples.L0_r_eq]
        simp only [setV_eq, Nat.reduceEqDiff, reduceIte]
        exact fin _ (allN_false hi (by simp [tupAt, hv, h2])).symm
      | true =>
        simp only [Bool.not_true, cond_f]
        cases i with
        | zero =>
          simp only [show decide ((0 : Int) < ((0 : Nat) : Int)) = false from rfl, cond_f, succ_i64 hi hr.2.1, bindO_some]
          refine hn _ _ ⟨rfl, e0, e3, e8, e9, rfl, fun j hj => ?_⟩
          obtain rfl : j = 0 := by omega
          simp [tupAt, hv, h1, h2]
        | succ i =>
          have hi0 : i < r.tuples.l.length := by omega
          have hv0 : r.tuples.l[i]? = some r.tuples.l[i] := List.getElem?_eq_getElem hi0
          generalize r.tuples.l[i] = p at hv0
          have hpl : p.l.length = k := tup_len (ht i (by omega)) hv0
          have hpo : p.l.length ≤ big := hr.2.2 p (List.mem_of_getElem? hv0)
          have hsub : binS .sub (.int .i64 ((i + 1 : Nat) : Int)) (.int .i64 1) = some (.int .i64 (i : Int)) := by
            have := hr.2.1; unfold big at this
            rw [sub_i64 (by omega) (by omega)]; congr 2; omega
          simp only [decide_eq_true (by omega : (0 : Int) < ((i + 1 : Nat) : Int)), cond_t, bindO_some, bindO2_some, outK_ret, condB_bool, cond_t, cond_f, fa_ptr, fa_iptr, part_none, Nat.zero_add, Nat.add_zero, Nat.reduceAdd, List.getElem?_cons_zero, List.getElem?_cons_succ, len_str, lenS_enc, lss_int, leq_int, gtr_int, geq_int, eq_int, ne_int, eq_str, ne_str, eq_bool, ne_bool, not_bool, extract_0, extract_1, extract_2, setV_eq, Nat.reduceEqDiff, reduceIte, e3, load_ptr b0, encRel, hsub, iaS_enc r.tuples hi0, get_tup hv0]
          refine semCall_true (slices_Compare hpo (by omega) fun c hc => ?_)
          simp only [bindO_some, bindO2_some, outK_ret, condB_bool, cond_t, cond_f, fa_ptr, fa_iptr, part_none, Nat.zero_add, Nat.add_zero, Nat.reduceAdd, List.getElem?_cons_zero, List.getElem?_cons_succ, len_str, lenS_enc, lss_int, leq_int, gtr_int, geq_int, eq_int, ne_int, eq_str, ne_str, eq_bool, ne_bool, not_bool, extract_0, extract_1, extract_2, setV_eq, Nat.reduceEqDiff, reduceIte, hc]
          cases h3 : lessB p.l t.l with
          | false =>
            simp only [Bool.not_false, cond_t]
            rw [hrr, F.shape_tuples.L0_r_eq]
            simp only [setV_eq, Nat.reduceEqDiff, reduceIte]
            exact fin _ (allN_false hi (by simp [tupAt, hv, hv0, h3])).symm
          | true =>
            simp only [Bool.not_true, cond_f, succ_i64 hi hr.2.1, bindO_some]
            refine hn _ _ ⟨rfl, e0, e3, e8, e9, rfl, fun j hj => ?_⟩
            by_cases hj' : j < i + 1
            · exact ht j hj'
            · obtain rfl : j = i + 1 := by omega
              simp [tupAt, hv, hv0, h1, h2, h3]
    · simp only [decide_eq_false (by omega : ¬ (t.l.length : Int) = (k : Int)), Bool.not_false, cond_t]
      rw [hrr, F.shape_tuples.L0_r_eq]
      simp only [setV_eq, Nat.reduceEqDiff, reduceIte]
      exact fin _ (allN_false hi (by simp [tupAt, hv, h1])).symm
  · rintro e h' ⟨rfl, e0, e3, e8, e9, e10, ht⟩ K' hx'
    rw [F.shape_tuples.L0_eq]
    simp only [e9, e10, bindO_some, bindO2_some, outK_ret, condB_bool, cond_t, cond_f, fa_ptr, fa_iptr, part_none, Nat.zero_add, Nat.add_zero, Nat.reduceAdd, List.getElem?_cons_zero, List.getElem?_cons_succ, len_str, lenS_enc, lss_int, leq_int, gtr_int, geq_int, eq_int, ne_int, eq_str, ne_str, eq_bool, ne_bool, not_bool, extract_0, extract_1, extract_2, setV_eq, Nat.reduceEqDiff, reduceIte, lt_false]
    rw [hx', F.shape_tuples.L0_x0_eq]
    exact fin _ (allN_true ht).symm

/-- A relation that is as it should be. -/
def relB (n : Nat) (r : Rel) : Bool := nameB r.name && (decide (0 ≤ r.arity) && (decide (r.arity ≤ 12) && (decide (n ^ r.arity.toNat ≤ 4096) && tupB n r.arity.toNat r.tuples.l)))
theorem ref01_rel {n : Nat} (h1 : 1 ≤ n) (h2 : n ≤ 64) {r : Rel} (hr : r.ok) {h : Heap} {K : Out → Heap → Bool} (hK : K (.ret (.bool (relB n r))) h = true) : Sem Tryz.prog 114 [.int .i64 (n : Int), .agg (encRel r)] h K := by
  refine Sem.data (r := .bool (relB n r)) ?_ (by simp [AV.pureL, AV.pure, pure_encRel]) hK
  clear hK
  refine F.ref01_rel_sem ?_
  have b0 : (Heap.alloc Heap.empty (.cells (encRel r))).get 0 = some (.cells (encRel r)) := get_alloc_same _ _
  simp only [box_agg (one_encRel r), bindO_some, next_empty]
  generalize (Heap.alloc Heap.empty (.cells (encRel r))) = H at b0 ⊢
  have fin : ∀ b : Bool, b = relB n r → frzK (.bool (relB n r)) (.ret (.bool b)) H = true := fun b hb => by rw [hb]; exact frzK_same rfl
  simp only [bindO_some, bindO2_some, outK_ret, condB_bool, cond_t, cond_f, fa_ptr, fa_iptr, part_none, Nat.zero_add, Nat.add_zero, Nat.reduceAdd, List.getElem?_cons_zero, List.getElem?_cons_succ, len_str, lenS_enc, lss_int, leq_int, gtr_int, geq_int, eq_int, ne_int, eq_str, ne_str, eq_bool, ne_bool, not_bool, extract_0, extract_1, extract_2, setV_eq, Nat.reduceEqDiff, reduceIte, load_ptr b0, encRel]
  refine semCall_true (ref01_Name ?_)
  simp only [bindO_some, bindO2_some, outK_ret, condB_bool, cond_t, cond_f, fa_ptr, fa_iptr, part_none, Nat.zero_add, Nat.add_zero, Nat.reduceAdd, List.getElem?_cons_zero, List.getElem?_cons_succ, len_str, lenS_enc, lss_int, leq_int, gtr_int, geq_int, eq_int, ne_int, eq_str, ne_str, eq_bool, ne_bool, not_bool, extract_0, extract_1, extract_2, setV_eq, Nat.reduceEqDiff, reduceIte]
  cases hn : nameB r.name with
  | false => simp only [Bool.not_false, cond_t]; exact fin _ (by simp [relB, hn])
  | true =>
  simp only [Bool.not_true, cond_f, bindO_some, bindO2_some, outK_ret, condB_bool, cond_t, cond_f, fa_ptr, fa_iptr, part_none, Nat.zero_add, Nat.add_zero, Nat.reduceAdd, List.getElem?_cons_zero, List.getElem?_cons_succ, len_str, lenS_enc, lss_int, leq_int, gtr_int, geq_int, eq_int, ne_int, eq_str, ne_str, eq_bool, ne_bool, not_bool, extract_0, extract_1, extract_2, setV_eq, Nat.reduceEqDiff, reduceIte, load_ptr b0, encRel]
  by_cases ha : r.arity < 0
  · simp only [decide_eq_true ha, cond_t]; exact fin _ (by rw [relB, decide_eq_false (by omega : ¬ 0 ≤ r.arity)]; simp)
  simp only [decide_eq_false ha, cond_f]
  by_cases ha2 : 12 < r.arity
  · simp only [decide_eq_true ha2, cond_t]; exact fin _ (by rw [relB, decide_eq_false (by omega : ¬ r.arity ≤ 12)]; simp)
  simp only [decide_eq_false ha2, cond_f]
  obtain ⟨k, hk⟩ : ∃ k : Nat, r.arity = (k : Int) := ⟨r.arity.toNat, by omega⟩
  rw [hk]
  refine semCall_true (ref01_Pow h1 h2 (show k ≤ big by unfold big; omega) fun v v1 v2 => ?_)
  simp only [bindO_some, bindO2_some, outK_ret, condB_bool, cond_t, cond_f, fa_ptr, fa_iptr, part_none, Nat.zero_add, Nat.add_zero, Nat.reduceAdd, List.getElem?_cons_zero, List.getElem?_cons_succ, len_str, lenS_enc, lss_int, leq_int, gtr_int, geq_int, eq_int, ne_int, eq_str, ne_str, eq_bool, ne_bool, not_bool, extract_0, extract_1, extract_2, setV_eq, Nat.reduceEqDiff, reduceIte]
  have hrb : relB n r = (decide (n ^ k ≤ 4096) && tupB n k r.tuples.l) := by
    rw [relB, hn, decide_eq_true (by omega : 0 ≤ r.arity), decide_eq_true (by omega : r.arity ≤ 12), hk]; rfl
  replace fin : ∀ b : Bool, b = (decide (n ^ k ≤ 4096) && tupB n k r.tuples.l) → frzK (.bool (relB n r)) (.ret (.bool b)) H = true := fun b hb => fin b (hb.trans hrb.symm)
  by_cases hc : n ^ k ≤ 4096
  · have := v1 hc
    simp only [decide_eq_false (by omega : ¬ (4096 : Int) < (v : Int)), cond_f]
    replace fin : ∀ b : Bool, b = tupB n k r.tuples.l → frzK (.bool (relB n r)) (.ret (.bool b)) H = true := fun b hb => fin b (by rw [decide_eq_true hc, Bool.true_and]; exact hb)
    refine loopB_range 0 r.tuples.l.length (Nat.zero_le _) (fun i e h' => h' = H ∧ e 0 = .int .i64 (n : Int) ∧ e 3 = .ptr 0 0 ∧ e 5 = .int .i64 (i : Int) ∧ ∀ j, j < i → tupAt n k r.tuples.l j = true) ⟨rfl, rfl, rfl, rfl, fun j hj => by omega⟩ ?_ ?_
    · rintro i e h' _ hi ⟨rfl, e0, e3, e5, ht⟩ K' hn hx' hrr hp
      have hv : r.tuples.l[i]? = some r.tuples.l[i] := List.getElem?_eq_getElem hi
      generalize r.tuples.l[i] = t at hv
      have hto : t.l.length ≤ big := hr.2.2 t (List.mem_of_getElem? hv)
      rw [F.ref01_rel.L0_eq]
      simp only [e0, e3, e5, bindO_some, bindO2_some, outK_ret, condB_bool, cond_t, cond_f, fa_ptr, fa_iptr, part_none, Nat.zero_add, Nat.add_zero, Nat.reduceAdd, List.getElem?_cons_zero, List.getElem?_cons_succ, len_str, lenS_enc, lss_int, leq_int, gtr_int, geq_int, eq_int, ne_int, eq_str, ne_str, eq_bool, ne_bool, not_bool, extract_0, extract_1, extract_2, setV_eq, Nat.reduceEqDiff, reduceIte, load_ptr b0, encRel, lt_true hi, iaS_enc r.tuples hi, get_tup hv, int_beq, hk]
      by_cases q1 : t.l.length = k
      · simp only [decide_eq_true (by omega : (t.l.length : Int) = (k : Int)), Bool.not_true, cond_f]
        refine semCall_true (ref01_In hto ?_)
        simp only [bindO_some, bindO2_some, outK_ret, condB_bool, cond_t, cond_f, fa_ptr, fa_iptr, part_none, Nat.zero_add, Nat.add_zero, Nat.reduceAdd, List.getElem?_cons_zero, List.getElem?_cons_succ, len_str, lenS_enc, lss_int, leq_int, gtr_int, geq_int, eq_int, ne_int, eq_str, ne_str, eq_bool, ne_bool, not_bool, extract_0, extract_1, extract_2, setV_eq, Nat.reduceEqDiff, reduceIte]
        cases q2 : inB n t.l with
        | false =>
          simp only [Bool.not_false, cond_t]
          rw [hrr, F.ref01_rel.L0_r_eq]
          simp only [setV_eq, Nat.reduceEqDiff, reduceIte]
          exact fin _ (allN_false hi (by simp [tupAt, hv, q2])).symm
        | true =>
          simp only [Bool.not_true, cond_f]
          cases i with
          | zero =>
            simp only [show decide ((0 : Int) < ((0 : Nat) : Int)) = false from rfl, cond_f, succ_i64 hi hr.2.1, bindO_some]
            refine hn _ _ ⟨rfl, e0, e3, rfl, fun j hj => ?_⟩
            obtain rfl : j = 0 := by omega
            simp [tupAt, hv, q1, q2]
          | succ i =>
            have hi0 : i < r.tuples.l.length := by omega
            have hv0 : r.tuples.l[i]? = some r.tuples.l[i] := List.getElem?_eq_getElem hi0
            generalize r.tuples.l[i] = p at hv0
            have hpl : p.l.length = k := tup_len (ht i (by omega)) hv0
            have hpo : p.l.length ≤ big := hr.2.2 p (List.mem_of_getElem? hv0)
            have hsub : binS .sub (.int .i64 ((i + 1 : Nat) : Int)) (.int .i64 1) = some (.int .i64 (i : Int)) := by
              have := hr.2.1; unfold big at this
              rw [sub_i64 (by omega) (by omega)]; congr 2; omega
            simp only [decide_eq_true (by omega : (0 : Int) < ((i + 1 : Nat) : Int)), cond_t, bindO_some, bindO2_some, outK_ret, condB_bool, cond_t, cond_f, fa_ptr, fa_iptr, part_none, Nat.zero_add, Nat.add_zero, Nat.reduceAdd, List.getElem?_cons_zero, List.getElem?_cons_succ, len_str, lenS_enc, lss_int, leq_int, gtr_int, geq_int, eq_int, ne_int, eq_str, ne_str, eq_bool, ne_bool, not_bool, extract_0, extract_1, extract_2, setV_eq, Nat.reduceEqDiff, reduceIte, e3, e5, load_ptr b0, encRel, hsub, iaS_enc r.tuples hi0, iaS_enc r.tuples hi, get_tup hv0, get_tup hv]
            refine semCall_true (ref01_Less hpo (by omega) ?_)
            simp only [bindO_some, bindO2_some, outK_ret, condB_bool, cond_t, cond_f, fa_ptr, fa_iptr, part_none, Nat.zero_add, Nat.add_zero, Nat.reduceAdd, List.getElem?_cons_zero, List.getElem?_cons_succ, len_str, lenS_enc, lss_int, leq_int, gtr_int, geq_int, eq_int, ne_int, eq_str, ne_str, eq_bool, ne_bool, not_bool, extract_0, extract_1, extract_2, setV_eq, Nat.reduceEqDiff, reduceIte]
            cases q3 : lessB p.l t.l with
            | false =>
              simp only [Bool.not_false, cond_t]
              rw [hrr, F.ref01_rel.L0_r_eq]
              simp only [setV_eq, Nat.reduceEqDiff, reduceIte]
              exact fin _ (allN_false hi (by simp [tupAt, hv, hv0, q3])).symm
            | true =>
              simp only [Bool.not_true, cond_f, succ_i64 hi hr.2.1, bindO_some]
              refine hn _ _ ⟨rfl, e0, e3, rfl, fun j hj => ?_⟩
              by_cases hj' : j < i + 1
              · exact ht j hj'
              · obtain rfl : j = i + 1 := by omega
                simp [tupAt, hv, hv0, q1, q2, q3]
      · simp only [decide_eq_false (by omega : ¬ (t.l.length : Int) = (k : Int)), Bool.not_false, cond_t]
        rw [hrr, F.ref01_rel.L0_r_eq]
        simp only [setV_eq, Nat.reduceEqDiff, reduceIte]
        exact fin _ (allN_false hi (by simp [tupAt, hv, q1])).symm
    · rintro e h' ⟨rfl, e0, e3, e5, ht⟩ K' hx'
      rw [F.ref01_rel.L0_eq]
      simp only [e3, e5, bindO_some, bindO2_some, outK_ret, condB_bool, cond_t, cond_f, fa_ptr, fa_iptr, part_none, Nat.zero_add, Nat.add_zero, Nat.reduceAdd, List.getElem?_cons_zero, List.getElem?_cons_succ, len_str, lenS_enc, lss_int, leq_int, gtr_int, geq_int, eq_int, ne_int, eq_str, ne_str, eq_bool, ne_bool, not_bool, extract_0, extract_1, extract_2, setV_eq, Nat.reduceEqDiff, reduceIte, load_ptr b0, encRel, lt_false]
      rw [hx', F.ref01_rel.L0_x0_eq]
      exact fin _ (allN_true ht).symm
  · have := v2 (by omega)
    simp only [decide_eq_true (by omega : (4096 : Int) < (v : Int)), cond_t]
    exact fin _ (by rw [decide_eq_false hc]; rfl)
end
end Go.AM
/- Structures: Valid and Find, the program's and the reference's. Conditions: none. -/
namespace Go.AM
open Go Go.Proofs
set_option linter.unusedVariables false
set_option linter.unusedSimpArgs false
noncomputable section

/-- The first place where a question is answered yes, or minus one. -/
def idxGo {α : Type} (p : α → Bool) : List α → Nat → Int
  | [], _ => -1
  | x :: l, i => if p x = true then (i : Int) else idxGo p l (i + 1)
def whereI {α : Type} (p : α → Bool) (l : List α) : Int := idxGo p l 0
theorem idx_drop {α : Type} {p : α → Bool} {l : List α} {i : Nat} {v : α} (hv : l[i]? = some v) : idxGo p (l.drop i) i = if p v = true then (i : Int) else idxGo p (l.drop (i + 1)) (i + 1) := by
  have h1 := (List.getElem?_eq_some_iff.1 hv).1
  rw [List.drop_eq_getElem_cons h1]
  rw [List.getElem?_eq_getElem h1] at hv
  cases hv; rfl
theorem idxGo_any {α : Type} (p : α → Bool) : ∀ (l : List α) (i : Nat), decide (0 ≤ idxGo p l i) = l.any p
  | [], i => rfl
  | x :: l, i => by
    rw [idxGo, List.any_cons]
    cases hp : p x with
    | true => simp
    | false => simpa using idxGo_any p l (i + 1)
theorem whereI_any {α : Type} (p : α → Bool) (l : List α) : decide (0 ≤ whereI p l) = l.any p := idxGo_any p l 0
theorem IndexFunc_rel {x : AV} {l : List Rel} (hv : View encRel 3 x l) (hl : l.length ≤ big) {g : FuncId} {a b : List AV} {h : Heap} {p : Rel → Bool}
    (hp : ∀ (v : Rel) (h' : Heap), HExt h h' → ∀ (K : Out → Heap → Bool), (∀ h'', HExt h' h'' → K (.ret (.bool (p v))) h'' = true) → Sem Tryz.prog g (a ++ ([.agg (encRel v)] ++ b)) h' K)
    {K : Out → Heap → Bool} (hK : ∀ h', HExt h h' → K (.ret (.int .i64 (whereI p l))) h' = true) : Sem Tryz.prog 157 [x, .func g a b] h K := by
  refine F.slices_IndexFunc_S_api_Rel_api_Rel_sem ?_
  simp only [hv.len, bindO_some]
  refine loopB_range 0 l.length (Nat.zero_le _) (fun i e h' => HExt h h' ∧ e 0 = x ∧ e 1 = .func g a b ∧ e 7 = .int .i64 (l.length : Int) ∧ e 8 = .int .i64 (i : Int) ∧ whereI p l = idxGo p (l.drop i) i) ⟨HExt.refl _, rfl, rfl, rfl, rfl, rfl⟩ ?_ ?_
  · rintro i e h' _ hi ⟨hx, e0, e1, e7, e8, ht⟩ K' hn hx' hr hp'
    have hvi : l[i]? = some l[i] := List.getElem?_eq_getElem hi
    generalize l[i] = v at hvi
    obtain ⟨cs, o, v1, v2, _⟩ := hv.at_ i v hvi
    rw [idx_drop hvi] at ht
    rw [F.slices_IndexFunc_S_api_Rel_api_Rel.L0_eq]
    simp only [e0, e1, e7, e8, bindO_some, bindO2_some, outK_ret, condB_bool, cond_t, cond_f, fa_ptr, fa_iptr, part_none, Nat.zero_add, Nat.add_zero, Nat.reduceAdd, List.getElem?_cons_zero, List.getElem?_cons_succ, len_str, lenS_enc, lss_int, leq_int, gtr_int, geq_int, eq_int, ne_int, eq_str, ne_str, eq_bool, ne_bool, not_bool, extract_0, extract_1, extract_2, setV_eq, Nat.reduceEqDiff, reduceIte, lt_true hi, v1, v2, callV_func]
    refine semCall_true (hp v h' hx _ fun h'' hx2 => ?_)
    simp only [bindO_some, bindO2_some, outK_ret, condB_bool, cond_t, cond_f, fa_ptr, fa_iptr, part_none, Nat.zero_add, Nat.add_zero, Nat.reduceAdd, List.getElem?_cons_zero, List.getElem?_cons_succ, len_str, lenS_enc, lss_int, leq_int, gtr_int, geq_int, eq_int, ne_int, eq_str, ne_str, eq_bool, ne_bool, not_bool, extract_0, extract_1, extract_2, setV_eq, Nat.reduceEqDiff, reduceIte]
    cases hq : p v with
    | true =>
      simp only [cond_t]
      rw [hr, F.slices_IndexFunc_S_api_Rel_api_Rel.L0_r_eq]
      simp only [setV_eq, Nat.reduceEqDiff, reduceIte]
      rw [if_pos hq] at ht
      rw [ht] at hK
      exact hK _ (hx.trans hx2)
    | false =>
      simp only [cond_f, succ_i64 hi hl, bindO_some]
      rw [if_neg (by rw [hq]; decide)] at ht
      exact hn _ _ ⟨hx.trans hx2, e0, e1, e7, rfl, ht⟩
  · rintro e h' ⟨hx, e0, e1, e7, e8, ht⟩ K' hx'
    rw [F.slices_IndexFunc_S_api_Rel_api_Rel.L0_eq]
    simp only [e0, e1, e7, e8, bindO_some, bindO2_some, outK_ret, condB_bool, cond_t, cond_f, fa_ptr, fa_iptr, part_none, Nat.zero_add, Nat.add_zero, Nat.reduceAdd, List.getElem?_cons_zero, List.getElem?_cons_succ, len_str, lenS_enc, lss_int, leq_int, gtr_int, geq_int, eq_int, ne_int, eq_str, ne_str, eq_bool, ne_bool, not_bool, extract_0, extract_1, extract_2, setV_eq, Nat.reduceEqDiff, reduceIte, lt_false]
    rw [hx', F.slices_IndexFunc_S_api_Rel_api_Rel.L0_x0_eq]
    rw [List.drop_of_length_le (Nat.le_refl _)] at ht
    rw [ht] at hK
    exact hK _ hx
theorem ContainsFunc_rel {x : AV} {l : List Rel} (hv : View encRel 3 x l) (hl : l.length ≤ big) {g : FuncId} {a b : List AV} {h : Heap} {p : Rel → Bool}
    (hp : ∀ (v : Rel) (h' : Heap), HExt h h' → ∀ (K : Out → Heap → Bool), (∀ h'', HExt h' h'' → K (.ret (.bool (p v))) h'' = true) → Sem Tryz.prog g (a ++ ([.agg (encRel v)] ++ b)) h' K)
    {K : Out → Heap → Bool} (hK : ∀ h', HExt h h' → K (.ret (.bool (l.any p))) h' = true) : Sem Tryz.prog 155 [x, .func g a b] h K := by
  refine F.slices_ContainsFunc_S_api_Rel_api_Rel_sem ?_
  refine semCall_true (IndexFunc_rel hv hl hp fun h' hx => ?_)
  simp only [bindO_some, bindO2_some, outK_ret, condB_bool, cond_t, cond_f, fa_ptr, fa_iptr, part_none, Nat.zero_add, Nat.add_zero, Nat.reduceAdd, List.getElem?_cons_zero, List.getElem?_cons_succ, len_str, lenS_enc, lss_int, leq_int, gtr_int, geq_int, eq_int, ne_int, eq_str, ne_str, eq_bool, ne_bool, not_bool, extract_0, extract_1, extract_2, setV_eq, Nat.reduceEqDiff, reduceIte]
  rw [whereI_any]
  exact hK _ hx

/-! ### Valid -/
def relAt (s : Strc) (i : Nat) : Bool := match s.rels.l[i]? with
  | none => true
  | some r => relB s.size.toNat r && !((s.rels.l.take i).any fun q => q.name == r.name)
def strcB (s : Strc) : Bool := decide (1 ≤ s.size) && (decide (s.size ≤ 64) && (decide (s.rels.l.length ≤ 8) && allN (relAt s) s.rels.l.length))
theorem get_rel {s : Strc} {i : Nat} {r : Rel} (hr : s.rels.l[i]? = some r) {h : Heap} : loadS (some 3) (.iptr (s.rels.l.flatMap encRel) (i * 3)) h = some (.agg (encRel r)) := load_agg len_encRel hr
theorem Valid_1 {b : Nat} {r v : Rel} {h : Heap} (hb : h.get b = some (.cells (encRel r))) (hbn : b < h.next) (h' : Heap) (hx : HExt h h') (K : Out → Heap → Bool) (hK : ∀ h'', HExt h' h'' → K (.ret (.bool (v.name == r.name))) h'' = true) :
    Sem Tryz.prog 156 ([] ++ ([.agg (encRel v)] ++ [.ptr b 0])) h' K := by
  refine F.shape_Valid_1_sem ?_
  have hb' : h'.get b = some (.cells (encRel r)) := by rw [hx.get b hbn]; exact hb
  have hx2 : HExt h' (Heap.alloc h' (.cells (encRel v))) := HExt.alloc _ _
  have g0 : (Heap.alloc h' (.cells (encRel v))).get h'.next = some (.cells (encRel v)) := get_alloc_same _ _
  have g1 : (Heap.alloc h' (.cells (encRel v))).get b = some (.cells (encRel r)) := by rw [hx2.get b (Nat.lt_of_lt_of_le hbn hx.next)]; exact hb'
  simp only [box_agg (one_encRel v), bindO_some]
  generalize (Heap.alloc h' (.cells (encRel v))) = H at g0 g1 hx2 ⊢
  simp only [bindO_some, bindO2_some, outK_ret, condB_bool, cond_t, cond_f, fa_ptr, fa_iptr, part_none, Nat.zero_add, Nat.add_zero, Nat.reduceAdd, List.getElem?_cons_zero, List.getElem?_cons_succ, len_str, lenS_enc, lss_int, leq_int, gtr_int, geq_int, eq_int, ne_int, eq_str, ne_str, eq_bool, ne_bool, not_bool, extract_0, extract_1, extract_2, setV_eq, Nat.reduceEqDiff, reduceIte, load_ptr g0, load_ptr g1]
  rw [show (encRel v)[0]? = some (.str v.name) from rfl, show (encRel r)[0]? = some (.str r.name) from rfl]
  simp only [bindO_some, bindO2_some, outK_ret, condB_bool, cond_t, cond_f, fa_ptr, fa_iptr, part_none, Nat.zero_add, Nat.add_zero, Nat.reduceAdd, List.getElem?_cons_zero, List.getElem?_cons_succ, len_str, lenS_enc, lss_int, leq_int, gtr_int, geq_int, eq_int, ne_int, eq_str, ne_str, eq_bool, ne_bool, not_bool, extract_0, extract_1, extract_2, setV_eq, Nat.reduceEqDiff, reduceIte]
  exact hK _ hx2

theorem shape_Valid {s : Strc} (hs : s.ok) {h : Heap} {K : Out → Heap → Bool} (hK : K (.ret (.bool (strcB s))) h = true) : Sem Tryz.prog 99 [.agg (encStrc s)] h K := by
  refine Sem.data (r := .bool (strcB s)) ?_ (by simp [AV.pureL, AV.pure, pure_encStrc]) hK
  clear hK
  refine F.shape_Valid_sem ?_
  have b0 : (Heap.alloc Heap.empty (.cells (encStrc s))).get 0 = some (.cells (encStrc s)) := get_alloc_same _ _
  have bn : 1 ≤ (Heap.alloc Heap.empty (.cells (encStrc s))).next := Nat.le_refl _
  simp only [box_agg (one_encStrc s), bindO_some, next_empty]
  generalize (Heap.alloc Heap.empty (.cells (encStrc s))) = H at b0 bn ⊢
  have fin : ∀ (b : Bool) (H : Heap), b = strcB s → frzK (.bool (strcB s)) (.ret (.bool b)) H = true := fun b H hb => by rw [hb]; exact frzK_same rfl
  generalize frzK (.bool (strcB s)) = K at fin ⊢
  simp only [bindO_some, bindO2_some, outK_ret, condB_bool, cond_t, cond_f, fa_ptr, fa_iptr, part_none, Nat.zero_add, Nat.add_zero, Nat.reduceAdd, List.getElem?_cons_zero, List.getElem?_cons_succ, len_str, lenS_enc, lss_int, leq_int, gtr_int, geq_int, eq_int, ne_int, eq_str, ne_str, eq_bool, ne_bool, not_bool, extract_0, extract_1, extract_2, setV_eq, Nat.reduceEqDiff, reduceIte, load_ptr b0, encStrc]
  by_cases s1 : s.size < 1
  · simp only [decide_eq_true s1, cond_t]; exact fin _ _ (by rw [strcB, decide_eq_false (by omega : ¬ 1 ≤ s.size), Bool.false_and])
  simp only [decide_eq_false s1, cond_f]
  by_cases s2 : 64 < s.size
  · simp only [decide_eq_true s2, cond_t]; exact fin _ _ (by rw [strcB, decide_eq_false (by omega : ¬ s.size ≤ 64), Bool.false_and, Bool.and_false])
  simp only [decide_eq_false s2, cond_f]
  by_cases s3 : 8 < s.rels.l.length
  · simp only [decide_eq_true (by omega : (8 : Int) < (s.rels.l.length : Int)), cond_t]; exact fin _ _ (by rw [strcB, decide_eq_false (by omega : ¬ s.rels.l.length ≤ 8), Bool.false_and, Bool.and_false, Bool.and_false])
  simp only [decide_eq_false (by omega : ¬ (8 : Int) < (s.rels.l.length : Int)), cond_f]
  replace fin : ∀ (b : Bool) (H : Heap), b = allN (relAt s) s.rels.l.length → K (.ret (.bool b)) H = true := fun b H hb => fin b H (by
    rw [strcB, decide_eq_true (by omega : 1 ≤ s.size), decide_eq_true (by omega : s.size ≤ 64), decide_eq_true (by omega : s.rels.l.length ≤ 8)]; exact hb)
  obtain ⟨n, hn⟩ : ∃ n : Nat, s.size = (n : Int) := ⟨s.size.toNat, by omega⟩
  have hn' : s.size.toNat = n := by omega
  refine loopB_range 0 s.rels.l.length (Nat.zero_le _) (fun i e h' => h'.get 0 = some (.cells (encStrc s)) ∧ 1 ≤ h'.next ∧ e 1 = .ptr 0 0 ∧ e 20 = encSl encRel 3 s.rels ∧ e 21 = .int .i64 (s.rels.l.length : Int) ∧ e 22 = .int .i64 (i : Int) ∧ ∀ j, j < i → relAt s j = true) ⟨b0, bn, rfl, rfl, rfl, rfl, fun j hj => by omega⟩ ?_ ?_
  · rintro i e h' _ hi ⟨q0, qn, e1, e20, e21, e22, ht⟩ K' hnx hx' hrr hp
    have hv : s.rels.l[i]? = some s.rels.l[i] := List.getElem?_eq_getElem hi
    generalize s.rels.l[i] = r at hv
    have hro : r.ok := hs.2 r (List.mem_of_getElem? hv)
    have hat : relAt s i = (relB n r && !((s.rels.l.take i).any fun q => q.name == r.name)) := by rw [relAt, hv, hn']
    have bad : ∀ (e : Env) (h : Heap), relAt s i = false → e 2 = .bool false → F.shape_Valid.L0k K .ret ⟨e, 63, [], h⟩ = true := fun e h hb he => by
      rw [F.shape_Valid.L0_r_eq, he]
      exact fin _ _ (allN_false hi hb).symm
    obtain ⟨H, hst, g1, go, gn⟩ := store_new (h := h') (zs := [.str [], .int .i64 0, .nils]) (cs := encRel r) (n := 3) rfl rfl (one_encRel r)
    have p0 : H.get 0 = some (.cells (encStrc s)) := by rw [go _ (by omega)]; exact q0
    rw [F.shape_Valid.L0_eq]
    simp only [e1, e20, e21, e22, bindO_some, bindO2_some, outK_ret, condB_bool, cond_t, cond_f, fa_ptr, fa_iptr, part_none, Nat.zero_add, Nat.add_zero, Nat.reduceAdd, List.getElem?_cons_zero, List.getElem?_cons_succ, len_str, lenS_enc, lss_int, leq_int, gtr_int, geq_int, eq_int, ne_int, eq_str, ne_str, eq_bool, ne_bool, not_bool, extract_0, extract_1, extract_2, setV_eq, Nat.reduceEqDiff, reduceIte, lt_true hi, iaS_enc s.rels hi, get_rel hv, hst, load_ptr g1, part_whole (len_encRel r)]
    rw [show (encRel r)[0]? = some (.str r.name) from rfl]
    simp only [bindO_some, bindO2_some, outK_ret, condB_bool, cond_t, cond_f, fa_ptr, fa_iptr, part_none, Nat.zero_add, Nat.add_zero, Nat.reduceAdd, List.getElem?_cons_zero, List.getElem?_cons_succ, len_str, lenS_enc, lss_int, leq_int, gtr_int, geq_int, eq_int, ne_int, eq_str, ne_str, eq_bool, ne_bool, not_bool, extract_0, extract_1, extract_2, setV_eq, Nat.reduceEqDiff, reduceIte]
    refine semCall_true (shape_Name ?_)
    simp only [bindO_some, bindO2_some, outK_ret, condB_bool, cond_t, cond_f, fa_ptr, fa_iptr, part_none, Nat.zero_add, Nat.add_zero, Nat.reduceAdd, List.getElem?_cons_zero, List.getElem?_cons_succ, len_str, lenS_enc, lss_int, leq_int, gtr_int, geq_int, eq_int, ne_int, eq_str, ne_str, eq_bool, ne_bool, not_bool, extract_0, extract_1, extract_2, setV_eq, Nat.reduceEqDiff, reduceIte]
    cases w1 : nameB r.name with
    | false =>
      simp only [Bool.not_false, cond_t]
      rw [hrr]
      exact bad _ _ (by rw [hat, relB, w1]; simp) rfl
    | true =>
    simp only [Bool.not_true, cond_f, bindO_some, bindO2_some, outK_ret, condB_bool, cond_t, cond_f, fa_ptr, fa_iptr, part_none, Nat.zero_add, Nat.add_zero, Nat.reduceAdd, List.getElem?_cons_zero, List.getElem?_cons_succ, len_str, lenS_enc, lss_int, leq_int, gtr_int, geq_int, eq_int, ne_int, eq_str, ne_str, eq_bool, ne_bool, not_bool, extract_0, extract_1, extract_2, setV_eq, Nat.reduceEqDiff, reduceIte, load_ptr g1]
    rw [show (encRel r)[1]? = some (.int .i64 r.arity) from rfl]
    simp only [bindO_some, bindO2_some, outK_ret, condB_bool, cond_t, cond_f, fa_ptr, fa_iptr, part_none, Nat.zero_add, Nat.add_zero, Nat.reduceAdd, List.getElem?_cons_zero, List.getElem?_cons_succ, len_str, lenS_enc, lss_int, leq_int, gtr_int, geq_int, eq_int, ne_int, eq_str, ne_str, eq_bool, ne_bool, not_bool, extract_0, extract_1, extract_2, setV_eq, Nat.reduceEqDiff, reduceIte]
    by_cases w2 : r.arity < 0
    · simp only [decide_eq_true w2, cond_t]
      rw [hrr]
      exact bad _ _ (by rw [hat, relB, decide_eq_false (by omega : ¬ 0 ≤ r.arity)]; simp) rfl
    simp only [decide_eq_false w2, cond_f]
    by_cases w3 : 12 < r.arity
    · simp only [decide_eq_true w3, cond_t]
      rw [hrr]
      exact bad _ _ (by rw [hat, relB, decide_eq_false (by omega : ¬ r.arity ≤ 12)]; simp) rfl
    simp only [decide_eq_false w3, cond_f, load_ptr p0, bindO_some, bindO2_some, outK_ret, condB_bool, cond_t, cond_f, fa_ptr, fa_iptr, part_none, Nat.zero_add, Nat.add_zero, Nat.reduceAdd, List.getElem?_cons_zero, List.getElem?_cons_succ, len_str, lenS_enc, lss_int, leq_int, gtr_int, geq_int, eq_int, ne_int, eq_str, ne_str, eq_bool, ne_bool, not_bool, extract_0, extract_1, extract_2, setV_eq, Nat.reduceEqDiff, reduceIte, e1]
    rw [show (encStrc s)[0]? = some (.int .i64 s.size) from rfl]
    obtain ⟨k, hk⟩ : ∃ k : Nat, r.arity = (k : Int) := ⟨r.arity.toNat, by omega⟩
    simp only [bindO_some, bindO2_some, outK_ret, condB_bool, cond_t, cond_f, fa_ptr, fa_iptr, part_none, Nat.zero_add, Nat.add_zero, Nat.reduceAdd, List.getElem?_cons_zero, List.getElem?_cons_succ, len_str, lenS_enc, lss_int, leq_int, gtr_int, geq_int, eq_int, ne_int, eq_str, ne_str, eq_bool, ne_bool, not_bool, extract_0, extract_1, extract_2, setV_eq, Nat.reduceEqDiff, reduceIte, hn, hk]
    refine semCall_true (shape_power (by omega) (by omega) (show k ≤ big by unfold big; omega) ?_)
    simp only [bindO_some, bindO2_some, outK_ret, condB_bool, cond_t, cond_f, fa_ptr, fa_iptr, part_none, Nat.zero_add, Nat.add_zero, Nat.reduceAdd, List.getElem?_cons_zero, List.getElem?_cons_succ, len_str, lenS_enc, lss_int, leq_int, gtr_int, geq_int, eq_int, ne_int, eq_str, ne_str, eq_bool, ne_bool, not_bool, extract_0, extract_1, extract_2, setV_eq, Nat.reduceEqDiff, reduceIte]
    have hat2 : relAt s i = (decide (n ^ k ≤ 4096) && tupB n k r.tuples.l && !((s.rels.l.take i).any fun q => q.name == r.name)) := by
      rw [hat, relB, w1, decide_eq_true (by omega : 0 ≤ r.arity), decide_eq_true (by omega : r.arity ≤ 12), hk]; simp
    by_cases w4 : n ^ k ≤ 4096
    · simp only [powI, if_pos w4, decide_eq_false (by omega : ¬ ((n ^ k : Nat) : Int) < 0), cond_f, bindO_some, bindO2_some, outK_ret, condB_bool, cond_t, cond_f, fa_ptr, fa_iptr, part_none, Nat.zero_add, Nat.add_zero, Nat.reduceAdd, List.getElem?_cons_zero, List.getElem?_cons_succ, len_str, lenS_enc, lss_int, leq_int, gtr_int, geq_int, eq_int, ne_int, eq_str, ne_str, eq_bool, ne_bool, not_bool, extract_0, extract_1, extract_2, setV_eq, Nat.reduceEqDiff, reduceIte, load_ptr p0, load_ptr g1, part_whole (len_encRel r), e1]
      rw [show (encStrc s)[0]? = some (.int .i64 s.size) from rfl]
      simp only [bindO_some, bindO2_some, outK_ret, condB_bool, cond_t, cond_f, fa_ptr, fa_iptr, part_none, Nat.zero_add, Nat.add_zero, Nat.reduceAdd, List.getElem?_cons_zero, List.getElem?_cons_succ, len_str, lenS_enc, lss_int, leq_int, gtr_int, geq_int, eq_int, ne_int, eq_str, ne_str, eq_bool, ne_bool, not_bool, extract_0, extract_1, extract_2, setV_eq, Nat.reduceEqDiff, reduceIte, hn]
      refine semCall_true (shape_tuples hro hk ?_)
      simp only [bindO_some, bindO2_some, outK_ret, condB_bool, cond_t, cond_f, fa_ptr, fa_iptr, part_none, Nat.zero_add, Nat.add_zero, Nat.reduceAdd, List.getElem?_cons_zero, List.getElem?_cons_succ, len_str, lenS_enc, lss_int, leq_int, gtr_int, geq_int, eq_int, ne_int, eq_str, ne_str, eq_bool, ne_bool, not_bool, extract_0, extract_1, extract_2, setV_eq, Nat.reduceEqDiff, reduceIte]
      cases w5 : tupB n k r.tuples.l with
      | false =>
        simp only [Bool.not_false, cond_t]
        rw [hrr]
        exact bad _ _ (by rw [hat2, w5]; simp) rfl
      | true =>
      simp only [Bool.not_true, cond_f, bindO_some, bindO2_some, outK_ret, condB_bool, cond_t, cond_f, fa_ptr, fa_iptr, part_none, Nat.zero_add, Nat.add_zero, Nat.reduceAdd, List.getElem?_cons_zero, List.getElem?_cons_succ, len_str, lenS_enc, lss_int, leq_int, gtr_int, geq_int, eq_int, ne_int, eq_str, ne_str, eq_bool, ne_bool, not_bool, extract_0, extract_1, extract_2, setV_eq, Nat.reduceEqDiff, reduceIte, load_ptr p0, e1]
      rw [show (encStrc s)[1]? = some (encSl encRel 3 s.rels) from rfl]
      obtain ⟨a, ha, hva⟩ := view_take len_encRel s.rels (Nat.le_of_lt hi)
      simp only [bindO_some, bindO2_some, outK_ret, condB_bool, cond_t, cond_f, fa_ptr, fa_iptr, part_none, Nat.zero_add, Nat.add_zero, Nat.reduceAdd, List.getElem?_cons_zero, List.getElem?_cons_succ, len_str, lenS_enc, lss_int, leq_int, gtr_int, geq_int, eq_int, ne_int, eq_str, ne_str, eq_bool, ne_bool, not_bool, extract_0, extract_1, extract_2, setV_eq, Nat.reduceEqDiff, reduceIte, ha]
      have hlt : (s.rels.l.take i).length ≤ big := by rw [List.length_take]; have := hs.1; omega
      refine semCall_true (ContainsFunc_rel (p := fun q => q.name == r.name) hva hlt (fun v h2 hx2 K2 hK2 => Valid_1 g1 (by omega) h2 hx2 K2 hK2) fun h2 hx2 => ?_)
      simp only [bindO_some, bindO2_some, outK_ret, condB_bool, cond_t, cond_f, fa_ptr, fa_iptr, part_none, Nat.zero_add, Nat.add_zero, Nat.reduceAdd, List.getElem?_cons_zero, List.getElem?_cons_succ, len_str, lenS_enc, lss_int, leq_int, gtr_int, geq_int, eq_int, ne_int, eq_str, ne_str, eq_bool, ne_bool, not_bool, extract_0, extract_1, extract_2, setV_eq, Nat.reduceEqDiff, reduceIte]
      cases w6 : (s.rels.l.take i).any fun q => q.name == r.name with
      | true =>
        simp only [cond_t]
        rw [hrr]
        exact bad _ _ (by rw [hat2, w6]; simp) rfl
      | false =>
        simp only [cond_f, succ_i64 hi hs.1, bindO_some, e22]
        refine hnx _ _ ⟨by rw [hx2.get 0 (by omega)]; exact p0, by have := hx2.next; omega, e1, e20, e21, rfl, fun j hj => ?_⟩
        by_cases hj' : j < i
        · exact ht j hj'
        · obtain rfl : j = i := by omega
          rw [hat2, w5, w6, decide_eq_true w4]; rfl
    · simp only [powI, if_neg w4, decide_eq_true (by omega : (-1 : Int) < 0), cond_t]
      rw [hrr]
      exact bad _ _ (by rw [hat2, decide_eq_false w4]; simp) rfl
  · rintro e h' ⟨q0, qn, e1, e20, e21, e22, ht⟩ K' hx'
    rw [F.shape_Valid.L0_eq]
    simp only [e21, e22, bindO_some, bindO2_some, outK_ret, condB_bool, cond_t, cond_f, fa_ptr, fa_iptr, part_none, Nat.zero_add, Nat.add_zero, Nat.reduceAdd, List.getElem?_cons_zero, List.getElem?_cons_succ, len_str, lenS_enc, lss_int, leq_int, gtr_int, geq_int, eq_int, ne_int, eq_str, ne_str, eq_bool, ne_bool, not_bool, extract_0, extract_1, extract_2, setV_eq, Nat.reduceEqDiff, reduceIte, lt_false]
    rw [hx', F.shape_Valid.L0_x0_eq]
    exact fin _ _ (allN_true ht).symm
end
end Go.AM
/- Structures: the reference's Valid; Find, the program's and the reference's. Conditions: none. -/
namespace Go.AM
open Go Go.Proofs
set_option linter.unusedVariables false
set_option linter.unusedSimpArgs false
noncomputable section

theorem any_take {α : Type} {p : α → Bool} {l : List α} {i : Nat} {a : α} (ha : l[i]? = some a) (ht : (l.take i).any p = false) (hp : p a = false) : (l.take (i + 1)).any p = false := by
  rw [List.take_add_one, ha]; simp [ht, hp]
theorem any_at {α : Type} {p : α → Bool} {l : List α} {i k : Nat} {a : α} (ha : l[i]? = some a) (hi : i < k) (hp : p a = true) : (l.take k).any p = true := by
  rw [List.any_eq_true]
  exact ⟨a, List.mem_of_getElem? (by rw [List.getElem?_take_of_lt hi]; exact ha), hp⟩
theorem get_name {s : Strc} {i : Nat} {r : Rel} (hr : s.rels.l[i]? = some r) {h : Heap} : loadS none (.iptr (s.rels.l.flatMap encRel) (i * 3)) h = some (.str r.name) := by
  have := load_elem (h := h) len_encRel hr (k := 0) (by omega)
  rw [Nat.add_zero] at this
  rw [this]; rfl

theorem ref01_Valid {s : Strc} (hs : s.ok) {h : Heap} {K : Out → Heap → Bool} (hK : K (.ret (.bool (strcB s))) h = true) : Sem Tryz.prog 58 [.agg (encStrc s)] h K := by
  refine Sem.data (r := .bool (strcB s)) ?_ (by simp [AV.pureL, AV.pure, pure_encStrc]) hK
  clear hK
  refine F.ref01_Valid_sem ?_
  have b0 : (Heap.alloc Heap.empty (.cells (encStrc s))).get 0 = some (.cells (encStrc s)) := get_alloc_same _ _
  simp only [box_agg (one_encStrc s), bindO_some, next_empty]
  generalize (Heap.alloc Heap.empty (.cells (encStrc s))) = H at b0 ⊢
  have fin : ∀ (b : Bool), b = strcB s → frzK (.bool (strcB s)) (.ret (.bool b)) H = true := fun b hb => by rw [hb]; exact frzK_same rfl
  generalize frzK (.bool (strcB s)) = K at fin ⊢
  have ls : loadS none (.ptr 0 0) H = some (.int .i64 s.size) := by rw [load_ptr b0]; rfl
  have lr : loadS none (.ptr 0 (0 + 1)) H = some (encSl encRel 3 s.rels) := by rw [load_ptr b0]; rfl
  rw [Nat.zero_add] at lr
  simp only [bindO_some, bindO2_some, outK_ret, condB_bool, cond_t, cond_f, fa_ptr, fa_iptr, part_none, Nat.zero_add, Nat.add_zero, Nat.reduceAdd, List.getElem?_cons_zero, List.getElem?_cons_succ, len_str, lenS_enc, lss_int, leq_int, gtr_int, geq_int, eq_int, ne_int, eq_str, ne_str, eq_bool, ne_bool, not_bool, extract_0, extract_1, extract_2, setV_eq, Nat.reduceEqDiff, reduceIte, ls, lr]
  by_cases s1 : s.size < 1
  · simp only [decide_eq_true s1, cond_t]; exact fin _ (by rw [strcB, decide_eq_false (by omega : ¬ 1 ≤ s.size), Bool.false_and])
  simp only [decide_eq_false s1, cond_f]
  by_cases s2 : 64 < s.size
  · simp only [decide_eq_true s2, cond_t]; exact fin _ (by rw [strcB, decide_eq_false (by omega : ¬ s.size ≤ 64), Bool.false_and, Bool.and_false])
  simp only [decide_eq_false s2, cond_f]
  by_cases s3 : 8 < s.rels.l.length
  · simp only [decide_eq_true (by omega : (8 : Int) < (s.rels.l.length : Int)), cond_t]; exact fin _ (by rw [strcB, decide_eq_false (by omega : ¬ s.rels.l.length ≤ 8), Bool.false_and, Bool.and_false, Bool.and_false])
  simp only [decide_eq_false (by omega : ¬ (8 : Int) < (s.rels.l.length : Int)), cond_f]
  replace fin : ∀ (b : Bool), b = allN (relAt s) s.rels.l.length → K (.ret (.bool b)) H = true := fun b hb => fin b (by
    rw [strcB, decide_eq_true (by omega : 1 ≤ s.size), decide_eq_true (by omega : s.size ≤ 64), decide_eq_true (by omega : s.rels.l.length ≤ 8)]; exact hb)
  obtain ⟨n, hn⟩ : ∃ n : Nat, s.size = (n : Int) := ⟨s.size.toNat, by omega⟩
  have hn' : s.size.toNat = n := by omega
  rw [hn] at ls
  refine loopB_range 0 s.rels.l.length (Nat.zero_le _) (fun i e h' => h' = H ∧ e 1 = .ptr 0 0 ∧ e 3 = .int .i64 (i : Int) ∧ ∀ j, j < i → relAt s j = true) ⟨rfl, rfl, rfl, fun j hj => by omega⟩ ?_ ?_
  · rintro i e h' _ hi ⟨rfl, e1, e3, ht⟩ K' hnx hx' hrr hp
    have hv : s.rels.l[i]? = some s.rels.l[i] := List.getElem?_eq_getElem hi
    generalize s.rels.l[i] = r at hv
    have hro : r.ok := hs.2 r (List.mem_of_getElem? hv)
    have hat : relAt s i = (relB n r && !((s.rels.l.take i).any fun q => q.name == r.name)) := by rw [relAt, hv, hn']
    have bad : ∀ (e : Env), relAt s i = false → e 2 = .bool false → F.ref01_Valid.L0k K .ret ⟨e, 53, [], h'⟩ = true := fun e hb he => by
      rw [F.ref01_Valid.L0_r_eq, he]
      exact fin _ (allN_false hi hb).symm
    rw [F.ref01_Valid.L0_eq]
    simp only [e1, e3, bindO_some, bindO2_some, outK_ret, condB_bool, cond_t, cond_f, fa_ptr, fa_iptr, part_none, Nat.zero_add, Nat.add_zero, Nat.reduceAdd, List.getElem?_cons_zero, List.getElem?_cons_succ, len_str, lenS_enc, lss_int, leq_int, gtr_int, geq_int, eq_int, ne_int, eq_str, ne_str, eq_bool, ne_bool, not_bool, extract_0, extract_1, extract_2, setV_eq, Nat.reduceEqDiff, reduceIte, ls, lr, lt_true hi, iaS_enc s.rels hi, get_rel hv]
    refine semCall_true (ref01_rel (by omega) (by omega) hro ?_)
    simp only [bindO_some, bindO2_some, outK_ret, condB_bool, cond_t, cond_f, fa_ptr, fa_iptr, part_none, Nat.zero_add, Nat.add_zero, Nat.reduceAdd, List.getElem?_cons_zero, List.getElem?_cons_succ, len_str, lenS_enc, lss_int, leq_int, gtr_int, geq_int, eq_int, ne_int, eq_str, ne_str, eq_bool, ne_bool, not_bool, extract_0, extract_1, extract_2, setV_eq, Nat.reduceEqDiff, reduceIte]
    cases w1 : relB n r with
    | false =>
      simp only [Bool.not_false, cond_t]
      rw [hrr]
      exact bad _ (by rw [hat, w1, Bool.false_and]) rfl
    | true =>
    simp only [Bool.not_true, cond_f]
    refine loopB_range 0 i (Nat.zero_le _) (fun k e h2 => h2 = h' ∧ e 1 = .ptr 0 0 ∧ e 3 = .int .i64 (i : Int) ∧ e 4 = .int .i64 (k : Int) ∧ ((s.rels.l.take k).any fun q => q.name == r.name) = false) ⟨rfl, e1, e3, rfl, rfl⟩ ?_ ?_
    · rintro k e h2 _ hk ⟨rfl, e1, e3, e4, hk2⟩ K2 hn2 hx2 hr2 hp2
      have hki : k < s.rels.l.length := by omega
      have hvk : s.rels.l[k]? = some s.rels.l[k] := List.getElem?_eq_getElem hki
      generalize s.rels.l[k] = q at hvk
      rw [F.ref01_Valid.L1_eq]
      simp only [e1, e3, e4, bindO_some, bindO2_some, outK_ret, condB_bool, cond_t, cond_f, fa_ptr, fa_iptr, part_none, Nat.zero_add, Nat.add_zero, Nat.reduceAdd, List.getElem?_cons_zero, List.getElem?_cons_succ, len_str, lenS_enc, lss_int, leq_int, gtr_int, geq_int, eq_int, ne_int, eq_str, ne_str, eq_bool, ne_bool, not_bool, extract_0, extract_1, extract_2, setV_eq, Nat.reduceEqDiff, reduceIte, lr, lt_true hk, iaS_enc s.rels hi, iaS_enc s.rels hki, get_name hv, get_name hvk]
      cases w2 : q.name == r.name with
      | true =>
        simp only [cond_t]
        rw [hr2, F.ref01_Valid.L1_r_eq, hrr]
        exact bad _ (by rw [hat, any_at hvk hk w2]; simp) rfl
      | false =>
        simp only [cond_f, succ_i64 hk (by have := hs.1; omega), bindO_some]
        exact hn2 _ _ ⟨rfl, e1, e3, rfl, any_take hvk hk2 w2⟩
    · rintro e h2 ⟨rfl, e1, e3, e4, hk2⟩ K2 hx2
      rw [F.ref01_Valid.L1_eq]
      simp only [e3, e4, bindO_some, bindO2_some, outK_ret, condB_bool, cond_t, cond_f, fa_ptr, fa_iptr, part_none, Nat.zero_add, Nat.add_zero, Nat.reduceAdd, List.getElem?_cons_zero, List.getElem?_cons_succ, len_str, lenS_enc, lss_int, leq_int, gtr_int, geq_int, eq_int, ne_int, eq_str, ne_str, eq_bool, ne_bool, not_bool, extract_0, extract_1, extract_2, setV_eq, Nat.reduceEqDiff, reduceIte, lt_false]
      rw [hx2, F.ref01_Valid.L1_x2_eq]
      simp only [bindO_some, bindO2_some, outK_ret, condB_bool, cond_t, cond_f, fa_ptr, fa_iptr, part_none, Nat.zero_add, Nat.add_zero, Nat.reduceAdd, List.getElem?_cons_zero, List.getElem?_cons_succ, len_str, lenS_enc, lss_int, leq_int, gtr_int, geq_int, eq_int, ne_int, eq_str, ne_str, eq_bool, ne_bool, not_bool, extract_0, extract_1, extract_2, setV_eq, Nat.reduceEqDiff, reduceIte, e3, succ_i64 hi hs.1]
      refine hnx _ _ ⟨rfl, e1, rfl, fun j hj => ?_⟩
      by_cases hj' : j < i
      · exact ht j hj'
      · obtain rfl : j = i := by omega
        rw [hat, w1, hk2]; rfl
  · rintro e h' ⟨rfl, e1, e3, ht⟩ K' hx'
    rw [F.ref01_Valid.L0_eq]
    simp only [e1, e3, bindO_some, bindO2_some, outK_ret, condB_bool, cond_t, cond_f, fa_ptr, fa_iptr, part_none, Nat.zero_add, Nat.add_zero, Nat.reduceAdd, List.getElem?_cons_zero, List.getElem?_cons_succ, len_str, lenS_enc, lss_int, leq_int, gtr_int, geq_int, eq_int, ne_int, eq_str, ne_str, eq_bool, ne_bool, not_bool, extract_0, extract_1, extract_2, setV_eq, Nat.reduceEqDiff, reduceIte, lr, lt_false]
    rw [hx', F.ref01_Valid.L0_x0_eq]
    exact fin _ (allN_true ht).symm

/-! ### Find -/
def namedB (nm : Str) (q : Rel) : Bool := q.name == nm
def symB (nm : Str) (k : Int) (q : Rel) : Bool := (q.name == nm) && decide (q.arity = k)
theorem ref01_Find {s : Strc} (hs : s.ok) {nm : Str} {h : Heap} {K : Out → Heap → Bool} (hK : K (.ret (.int .i64 (whereI (namedB nm) s.rels.l))) h = true) : Sem Tryz.prog 85 [.agg (encStrc s), .str nm] h K := by
  refine Sem.data (r := .int .i64 (whereI (namedB nm) s.rels.l)) ?_ (by simp [AV.pureL, AV.pure, pure_encStrc]) hK
  clear hK
  refine F.ref01_Find_sem ?_
  have b0 : (Heap.alloc Heap.empty (.cells (encStrc s))).get 0 = some (.cells (encStrc s)) := get_alloc_same _ _
  simp only [box_agg (one_encStrc s), bindO_some, next_empty]
  generalize (Heap.alloc Heap.empty (.cells (encStrc s))) = H at b0 ⊢
  have fin : ∀ b : Int, b = whereI (namedB nm) s.rels.l → frzK (.int .i64 (whereI (namedB nm) s.rels.l)) (.ret (.int .i64 b)) H = true := fun b hb => by rw [hb]; exact frzK_same rfl
  have lr : loadS none (.ptr 0 1) H = some (encSl encRel 3 s.rels) := by rw [load_ptr b0]; rfl
  refine loopB_range 0 s.rels.l.length (Nat.zero_le _) (fun i e h' => h' = H ∧ e 1 = .str nm ∧ e 2 = .ptr 0 0 ∧ e 5 = .int .i64 (i : Int) ∧ whereI (namedB nm) s.rels.l = idxGo (namedB nm) (s.rels.l.drop i) i) ⟨rfl, rfl, rfl, rfl, rfl⟩ ?_ ?_
  · rintro i e h' _ hi ⟨rfl, e1, e2, e5, ht⟩ K' hn hx' hr hp
    have hv : s.rels.l[i]? = some s.rels.l[i] := List.getElem?_eq_getElem hi
    generalize s.rels.l[i] = r at hv
    rw [idx_drop hv] at ht
    rw [F.ref01_Find.L0_eq]
    simp only [e1, e2, e5, bindO_some, bindO2_some, outK_ret, condB_bool, cond_t, cond_f, fa_ptr, fa_iptr, part_none, Nat.zero_add, Nat.add_zero, Nat.reduceAdd, List.getElem?_cons_zero, List.getElem?_cons_succ, len_str, lenS_enc, lss_int, leq_int, gtr_int, geq_int, eq_int, ne_int, eq_str, ne_str, eq_bool, ne_bool, not_bool, extract_0, extract_1, extract_2, setV_eq, Nat.reduceEqDiff, reduceIte, lr, lt_true hi, iaS_enc s.rels hi, get_name hv]
    cases hq : r.name == nm with
    | true =>
      simp only [cond_t]
      rw [hr, F.ref01_Find.L0_r_eq]
      rw [if_pos (show namedB nm r = true from hq)] at ht
      simp only [setV_eq, Nat.reduceEqDiff, reduceIte, e5]
      exact fin _ ht.symm
    | false =>
      simp only [cond_f, succ_i64 hi hs.1, bindO_some]
      rw [if_neg (by rw [namedB, hq]; decide)] at ht
      exact hn _ _ ⟨rfl, e1, e2, rfl, ht⟩
  · rintro e h' ⟨rfl, e1, e2, e5, ht⟩ K' hx'
    rw [F.ref01_Find.L0_eq]
    simp only [e1, e2, e5, bindO_some, bindO2_some, outK_ret, condB_bool, cond_t, cond_f, fa_ptr, fa_iptr, part_none, Nat.zero_add, Nat.add_zero, Nat.reduceAdd, List.getElem?_cons_zero, List.getElem?_cons_succ, len_str, lenS_enc, lss_int, leq_int, gtr_int, geq_int, eq_int, ne_int, eq_str, ne_str, eq_bool, ne_bool, not_bool, extract_0, extract_1, extract_2, setV_eq, Nat.reduceEqDiff, reduceIte, lr, lt_false]
    rw [hx', F.ref01_Find.L0_x0_eq]
    rw [List.drop_of_length_le (Nat.le_refl _)] at ht
    exact fin _ ht.symm
theorem Find_1 {b1 b2 : Nat} {v : Rel} {nm : Str} {k : Int} {h : Heap} (g1 : h.get b1 = some (.cells [.str nm])) (g2 : h.get b2 = some (.cells [.int .i64 k])) (n1 : b1 < h.next) (n2 : b2 < h.next) (h' : Heap) (hx : HExt h h') (K : Out → Heap → Bool) (hK : ∀ h'', HExt h' h'' → K (.ret (.bool (symB nm k v))) h'' = true) :
    Sem Tryz.prog 158 ([] ++ ([.agg (encRel v)] ++ [.ptr b1 0, .ptr b2 0])) h' K := by
  refine F.shape_Find_1_sem ?_
  have hx2 : HExt h' (Heap.alloc h' (.cells (encRel v))) := HExt.alloc _ _
  have g0 : (Heap.alloc h' (.cells (encRel v))).get h'.next = some (.cells (encRel v)) := get_alloc_same _ _
  have q1 : (Heap.alloc h' (.cells (encRel v))).get b1 = some (.cells [.str nm]) := by rw [hx2.get b1 (Nat.lt_of_lt_of_le n1 hx.next), hx.get b1 n1]; exact g1
  have q2 : (Heap.alloc h' (.cells (encRel v))).get b2 = some (.cells [.int .i64 k]) := by rw [hx2.get b2 (Nat.lt_of_lt_of_le n2 hx.next), hx.get b2 n2]; exact g2
  simp only [box_agg (one_encRel v), bindO_some]
  generalize (Heap.alloc h' (.cells (encRel v))) = H at g0 q1 q2 hx2 ⊢
  simp only [bindO_some, bindO2_some, outK_ret, condB_bool, cond_t, cond_f, fa_ptr, fa_iptr, part_none, Nat.zero_add, Nat.add_zero, Nat.reduceAdd, List.getElem?_cons_zero, List.getElem?_cons_succ, len_str, lenS_enc, lss_int, leq_int, gtr_int, geq_int, eq_int, ne_int, eq_str, ne_str, eq_bool, ne_bool, not_bool, extract_0, extract_1, extract_2, setV_eq, Nat.reduceEqDiff, reduceIte, load_ptr g0, load_ptr q1, load_ptr q2]
  rw [show (encRel v)[0]? = some (.str v.name) from rfl, show (encRel v)[1]? = some (.int .i64 v.arity) from rfl]
  simp only [bindO_some, bindO2_some, outK_ret, condB_bool, cond_t, cond_f, fa_ptr, fa_iptr, part_none, Nat.zero_add, Nat.add_zero, Nat.reduceAdd, List.getElem?_cons_zero, List.getElem?_cons_succ, len_str, lenS_enc, lss_int, leq_int, gtr_int, geq_int, eq_int, ne_int, eq_str, ne_str, eq_bool, ne_bool, not_bool, extract_0, extract_1, extract_2, setV_eq, Nat.reduceEqDiff, reduceIte, int_beq]
  have := hK _ hx2
  unfold symB at this
  cases hq : v.name == nm with
  | true => simp only [cond_t]; rw [hq, Bool.true_and] at this; exact this
  | false => simp only [cond_f]; rw [hq, Bool.false_and] at this; exact this
theorem shape_Find {s : Strc} (hs : s.ok) {nm : Str} {k : Int} {h : Heap} {K : Out → Heap → Bool} (hK : K (.ret (.int .i64 (whereI (symB nm k) s.rels.l))) h = true) : Sem Tryz.prog 100 [.agg (encStrc s), .str nm, .int .i64 k] h K := by
  refine Sem.data (r := .int .i64 (whereI (symB nm k) s.rels.l)) ?_ (by simp [AV.pureL, AV.pure, pure_encStrc]) hK
  clear hK
  refine F.shape_Find_sem ?_
  simp only [box_agg (one_encStrc s), box_one (x := .int .i64 _) rfl, box_one (x := .str _) rfl, bindO_some, next_empty, Heap.next_alloc]
  have g0 : (Heap.alloc (Heap.alloc (Heap.alloc Heap.empty (.cells (encStrc s))) (.cells [.str nm])) (.cells [.int .i64 k])).get 0 = some (.cells (encStrc s)) := by simp [Heap.get_alloc, next_empty]
  have g1 : (Heap.alloc (Heap.alloc (Heap.alloc Heap.empty (.cells (encStrc s))) (.cells [.str nm])) (.cells [.int .i64 k])).get 1 = some (.cells [.str nm]) := by simp [Heap.get_alloc, next_empty]
  have g2 : (Heap.alloc (Heap.alloc (Heap.alloc Heap.empty (.cells (encStrc s))) (.cells [.str nm])) (.cells [.int .i64 k])).get 2 = some (.cells [.int .i64 k]) := by simp [Heap.get_alloc, next_empty]
  have gn : (Heap.alloc (Heap.alloc (Heap.alloc Heap.empty (.cells (encStrc s))) (.cells [.str nm])) (.cells [.int .i64 k])).next = 3 := rfl
  generalize (Heap.alloc (Heap.alloc (Heap.alloc Heap.empty (.cells (encStrc s))) (.cells [.str nm])) (.cells [.int .i64 k])) = H at g0 g1 g2 gn ⊢
  have lr : loadS none (.ptr 0 1) H = some (encSl encRel 3 s.rels) := by rw [load_ptr g0]; rfl
  simp only [bindO_some, bindO2_some, outK_ret, condB_bool, cond_t, cond_f, fa_ptr, fa_iptr, part_none, Nat.zero_add, Nat.add_zero, Nat.reduceAdd, List.getElem?_cons_zero, List.getElem?_cons_succ, len_str, lenS_enc, lss_int, leq_int, gtr_int, geq_int, eq_int, ne_int, eq_str, ne_str, eq_bool, ne_bool, not_bool, extract_0, extract_1, extract_2, setV_eq, Nat.reduceEqDiff, reduceIte, lr]
  refine semCall_true (IndexFunc_rel (view_enc len_encRel s.rels) hs.1 (p := symB nm k) (fun v h2 hx2 K2 hK2 => Find_1 g1 g2 (by omega) (by omega) h2 hx2 K2 hK2) fun h2 hx2 => ?_)
  simp only [bindO_some, bindO2_some, outK_ret, condB_bool, cond_t, cond_f, fa_ptr, fa_iptr, part_none, Nat.zero_add, Nat.add_zero, Nat.reduceAdd, List.getElem?_cons_zero, List.getElem?_cons_succ, len_str, lenS_enc, lss_int, leq_int, gtr_int, geq_int, eq_int, ne_int, eq_str, ne_str, eq_bool, ne_bool, not_bool, extract_0, extract_1, extract_2, setV_eq, Nat.reduceEqDiff, reduceIte]
  exact frzK_same rfl
end
end Go.AM
