/- Parts of the proof. Conditions: none. -/
import Derived.Test.YtfdanacohcffmaaGreatKn18
namespace Go.AM
open Go Go.Proofs
set_option linter.unusedVariables false
noncomputable section
variable {K : Out → Heap → Bool} {h : Heap} {J : AX → St → Bool} {e : Env} {a0 a1 a2 : AV}
noncomputable def F.law01_Few.L0 := partOf (codeOf Tryz.f42) [1, 1, 0, 1, 0, 0]
noncomputable def F.law01_Few.L0k (K : Out → Heap → Bool) := (blockK 0 (seqK false (EV (partOf (codeOf Tryz.f42) [1, 1, 1])) (RL Tryz.f42 K)))
noncomputable def F.law01_Few.L1 := partOf (codeOf Tryz.f42) [1, 1, 0, 1, 0, 0, 1, 0, 0, 1, 1, 0, 0]
noncomputable def F.law01_Few.L1k (J : AX → St → Bool) := (blockK 2 (blockK 1 (seqK false (EV (partOf (codeOf Tryz.f42) [1, 1, 0, 1, 0, 0, 1, 1])) J)))
noncomputable def F.law01_Few.L2 := partOf (codeOf Tryz.f42) [1, 1, 0, 1, 0, 0, 1, 0, 0, 1, 1, 0, 0, 1, 0, 0, 1, 1, 1, 0, 0]
noncomputable def F.law01_Few.L2k (J : AX → St → Bool) := (blockK 4 (blockK 3 (seqK false (EV (partOf (codeOf Tryz.f42) [1, 1, 0, 1, 0, 0, 1, 0, 0, 1, 1, 0, 0, 1, 1])) J)))
theorem F.law01_Few.L0_eq : EV F.law01_Few.L0 ⟨e, 89, [], h⟩ J = (
bindO (lenS .slice (e 0) h) fun a =>
bindO (binS .lss (e 5) a) fun b =>
let Q1 := (setV (setV (setV (setV e 8 (e 5)) 9 (e 0)) 10 a) 11 b); condB b (
bindO (iaS 2 (e 0) (e 5)) fun c =>
bindO (faS 1 c) fun d =>
bindO (loadS none d h) fun f =>
bindO (lenS .slice f h) fun g =>
bindO (binS .gtr g (.int .i64 12)) fun i =>
let Q2 := (setV (setV (setV (setV (setV (setV (setV Q1 14 (e 0)) 15 (e 5)) 16 c) 17 d) 18 f) 19 g) 20 i); condB i (
J .ret ⟨(setV Q2 2 (.bool false)), 89, [], h⟩) (
loopB (EV F.law01_Few.L1) ⟨(setV Q2 6 (.int .i64 0)), 89, [], h⟩ (F.law01_Few.L1k J))) (
J (.exit 0) ⟨Q1, 89, [], h⟩)) := by kernel_rfl
theorem F.law01_Few.L0_x0_eq : F.law01_Few.L0k K (.exit 0) ⟨e, 89, [], h⟩ = (
bindO (binS .leq (e 4) (.int .i64 20000)) fun a =>
K (.ret a) h) := by kernel_rfl
theorem F.law01_Few.L0_r_eq : F.law01_Few.L0k K .ret ⟨e, 89, [], h⟩ = (
K (.ret (e 2)) h) := by kernel_rfl
theorem F.law01_Few.L1_eq : EV F.law01_Few.L1 ⟨e, 89, [], h⟩ J = (
bindO (iaS 2 (e 0) (e 5)) fun w =>
bindO (faS 1 w) fun x =>
bindO (loadS none x h) fun d =>
bindO (lenS .slice d h) fun f =>
bindO (binS .lss (e 6) f) fun g =>
let Q1 := (setV (setV (setV (setV (setV (setV (setV (setV e 21 (e 6)) 22 (e 0)) 23 (e 5)) 24 w) 25 x) 26 d) 27 f) 28 g); condB g (
bindO (iaS 2 (e 0) (e 5)) fun i =>
bindO (faS 1 i) fun j =>
bindO (loadS none j h) fun k =>
bindO (iaS 3 k (e 6)) fun l =>
bindO (faS 2 l) fun m =>
bindO (loadS none m h) fun n =>
bindO (lenS .slice n h) fun o =>
bindO (binS .add (e 3) o) fun a =>
bindO (binS .gtr a (.int .i64 1500)) fun b =>
let Q2 := (setV (setV (setV (setV (setV (setV (setV (setV (setV (setV (setV (setV (setV (setV (setV (setV Q1 31 (e 3)) 32 (e 0)) 33 (e 5)) 34 i) 35 j) 36 k) 37 (e 6)) 38 l) 39 m) 40 n) 41 o) 42 a) 3 a) 43 a) 44 b) 45 b); condB b (
J .ret ⟨(setV (setV (setV (setV (setV (setV (setV (setV (setV (setV (setV (setV (setV (setV (setV (setV (setV (setV (setV (setV (setV (setV (setV (setV Q2 45 (.bool true)) 46 noV) 45 (.bool true)) 47 noV) 45 (.bool true)) 48 noV) 45 (.bool true)) 49 noV) 45 (.bool true)) 50 noV) 45 (.bool true)) 51 noV) 45 (.bool true)) 52 noV) 45 (.bool true)) 53 noV) 45 (.bool true)) 54 noV) 45 (.bool true)) 55 noV) 45 (.bool true)) 56 noV) 57 (.bool true)) 2 (.bool false)), 89, [], h⟩) (
bindO (iaS 2 (e 0) (e 5)) fun p =>
bindO (faS 1 p) fun q =>
bindO (loadS none q h) fun r =>
bindO (iaS 3 r (e 6)) fun s =>
bindO (faS 0 s) fun t =>
bindO (loadS none t h) fun u =>
bindO (lenS .str u h) fun v =>
bindO (binS .gtr v (.int .i64 1000)) fun c =>
let Q3 := (setV (setV (setV (setV (setV (setV (setV (setV (setV (setV (setV (setV (setV (setV (setV (setV (setV (setV (setV (setV (setV (setV (setV Q2 45 (.bool false)) 46 (e 0)) 45 (.bool false)) 47 (e 5)) 45 (.bool false)) 48 p) 45 (.bool false)) 49 q) 45 (.bool false)) 50 r) 45 (.bool false)) 51 (e 6)) 45 (.bool false)) 52 s) 45 (.bool false)) 53 t) 45 (.bool false)) 54 u) 45 (.bool false)) 55 v) 45 (.bool false)) 56 c) 57 c); condB c (
J .ret ⟨(setV Q3 2 (.bool false)), 89, [], h⟩) (
loopB (EV F.law01_Few.L2) ⟨(setV Q3 7 (.int .i64 0)), 89, [], h⟩ (F.law01_Few.L2k J)))) (
J (.exit 2) ⟨Q1, 89, [], h⟩)) := by kernel_rfl
theorem F.law01_Few.L1_x2_eq : F.law01_Few.L1k J (.exit 2) ⟨e, 89, [], h⟩ = (
bindO (binS .add (e 5) (.int .i64 1)) fun a =>
J .normal ⟨(setV (setV (setV e 12 (e 5)) 13 a) 5 a), 89, [], h⟩) := by kernel_rfl
theorem F.law01_Few.L1_r_eq : F.law01_Few.L1k J .ret ⟨e, 89, [], h⟩ = (
J .ret ⟨e, 89, [], h⟩) := by kernel_rfl
theorem F.law01_Few.L2_eq : EV F.law01_Few.L2 ⟨e, 89, [], h⟩ J = (
bindO (iaS 2 (e 0) (e 5)) fun a =>
bindO (faS 1 a) fun b =>
bindO (loadS none b h) fun c =>
bindO (iaS 3 c (e 6)) fun d =>
bindO (faS 2 d) fun f =>
bindO (loadS none f h) fun g =>
bindO (lenS .slice g h) fun i =>
bindO (binS .lss (e 7) i) fun j =>
let Q1 := (setV (setV (setV (setV (setV (setV (setV (setV (setV (setV (setV (setV e 58 (e 7)) 59 (e 0)) 60 (e 5)) 61 a) 62 b) 63 c) 64 (e 6)) 65 d) 66 f) 67 g) 68 i) 69 j); condB j (
bindO (iaS 2 (e 0) (e 5)) fun k =>
bindO (faS 1 k) fun l =>
bindO (loadS none l h) fun m =>
bindO (iaS 3 m (e 6)) fun n =>
bindO (faS 2 n) fun o =>
bindO (loadS none o h) fun p =>
bindO (iaS 1 p (e 7)) fun q =>
bindO (loadS none q h) fun r =>
bindO (lenS .slice r h) fun s =>
bindO (binS .add (e 4) s) fun t =>
bindO (binS .add (e 7) (.int .i64 1)) fun u =>
J .normal ⟨(setV (setV (setV (setV (setV (setV (setV (setV (setV (setV (setV (setV (setV (setV (setV (setV (setV (setV (setV Q1 72 (e 4)) 73 (e 0)) 74 (e 5)) 75 k) 76 l) 77 m) 78 (e 6)) 79 n) 80 o) 81 p) 82 (e 7)) 83 q) 84 r) 85 s) 86 t) 4 t) 70 (e 7)) 71 u) 7 u), 89, [], h⟩) (
J (.exit 4) ⟨Q1, 89, [], h⟩)) := by kernel_rfl
theorem F.law01_Few.L2_x4_eq : F.law01_Few.L2k J (.exit 4) ⟨e, 89, [], h⟩ = (
bindO (binS .add (e 6) (.int .i64 1)) fun a =>
J .normal ⟨(setV (setV (setV e 29 (e 6)) 30 a) 6 a), 89, [], h⟩) := by kernel_rfl
theorem F.law01_Few_eq : EV (codeOf Tryz.f42) ⟨mkEnv [a0], 89, [], h⟩ (RL Tryz.f42 K) = (
loopB (EV F.law01_Few.L0) ⟨(setV (setV (setV (setV (mkEnv [a0]) 2 (.bool false)) 3 (.int .i64 0)) 4 (.int .i64 0)) 5 (.int .i64 0)), 89, [], h⟩ (F.law01_Few.L0k K)) := by kernel_rfl
theorem F.law01_Few_sem (hh : EV (codeOf Tryz.f42) ⟨mkEnv [a0], 89, [], h⟩ (RL Tryz.f42 K) = true) : Sem TP 42 [a0] h K :=
  SB Tryz.func42 rfl (by decide) (by kernel_rfl) hh
noncomputable def F.ref01_Valid.L0 := partOf (codeOf Tryz.f66) [1, 1, 0, 1, 0, 0]
noncomputable def F.ref01_Valid.L0k (K : Out → Heap → Bool) := (blockK 0 (seqK false (EV (partOf (codeOf Tryz.f66) [1, 1, 1])) (RL Tryz.f66 K)))
noncomputable def F.ref01_Valid.L1 := partOf (codeOf Tryz.f66) [1, 1, 0, 1, 0, 0, 1, 0, 0, 1, 1, 0, 0]
noncomputable def F.ref01_Valid.L1k (J : AX → St → Bool) := (blockK 2 (blockK 1 (seqK false (EV (partOf (codeOf Tryz.f66) [1, 1, 0, 1, 0, 0, 1, 1])) J)))
theorem F.ref01_Valid.L0_eq : EV F.ref01_Valid.L0 ⟨e, 53, [], h⟩ J = (
bindO (faS 1 (e 1)) fun a =>
bindO (loadS none a h) fun b =>
bindO (lenS .slice b h) fun c =>
bindO (binS .lss (e 3) c) fun d =>
let Q1 := (setV (setV (setV (setV (setV e 19 (e 3)) 20 a) 21 b) 22 c) 23 d); condB d (
bindO (faS 0 (e 1)) fun f =>
bindO (loadS none f h) fun g =>
bindO (faS 1 (e 1)) fun i =>
bindO (loadS none i h) fun j =>
bindO (iaS 3 j (e 3)) fun k =>
bindO (loadS (some 3) k h) fun l =>
semCall TP 115 [g, l] h (outK (fun m n =>
bindO (unS .not m) fun o =>
let Q2 := (setV (setV (setV (setV (setV (setV (setV (setV (setV Q1 26 f) 27 g) 28 i) 29 j) 30 (e 3)) 31 k) 32 l) 33 m) 34 o); condB o (
J .ret ⟨(setV Q2 2 (.bool false)), 53, [], n⟩) (
loopB (EV F.ref01_Valid.L1) ⟨(setV Q2 4 (.int .i64 0)), 53, [], n⟩ (F.ref01_Valid.L1k J))) (fun _ _ => false))) (
J (.exit 0) ⟨Q1, 53, [], h⟩)) := by kernel_rfl
theorem F.ref01_Valid.L0_x0_eq : F.ref01_Valid.L0k K (.exit 0) ⟨e, 53, [], h⟩ = (
K (.ret (.bool true)) h) := by kernel_rfl
theorem F.ref01_Valid.L0_r_eq : F.ref01_Valid.L0k K .ret ⟨e, 53, [], h⟩ = (
K (.ret (e 2)) h) := by kernel_rfl
theorem F.ref01_Valid.L1_eq : EV F.ref01_Valid.L1 ⟨e, 53, [], h⟩ J = (
bindO (binS .lss (e 4) (e 3)) fun a =>
let Q1 := (setV (setV (setV e 35 (e 4)) 36 (e 3)) 37 a); condB a (
bindO (faS 1 (e 1)) fun b =>
bindO (loadS none b h) fun c =>
bindO (iaS 3 c (e 4)) fun d =>
bindO (faS 0 d) fun f =>
bindO (loadS none f h) fun g =>
bindO (faS 1 (e 1)) fun i =>
bindO (loadS none i h) fun j =>
bindO (iaS 3 j (e 3)) fun k =>
bindO (faS 0 k) fun l =>
bindO (loadS none l h) fun m =>
bindO (eqV .string g m) fun n =>
let Q2 := (setV (setV (setV (setV (setV (setV (setV (setV (setV (setV (setV (setV (setV Q1 40 b) 41 c) 42 (e 4)) 43 d) 44 f) 45 g) 46 i) 47 j) 48 (e 3)) 49 k) 50 l) 51 m) 52 n); condB n (
J .ret ⟨(setV Q2 2 (.bool false)), 53, [], h⟩) (
bindO (binS .add (e 4) (.int .i64 1)) fun o =>
J .normal ⟨(setV (setV (setV Q2 38 (e 4)) 39 o) 4 o), 53, [], h⟩)) (
J (.exit 2) ⟨Q1, 53, [], h⟩)) := by kernel_rfl
theorem F.ref01_Valid.L1_x2_eq : F.ref01_Valid.L1k J (.exit 2) ⟨e, 53, [], h⟩ = (
bindO (binS .add (e 3) (.int .i64 1)) fun a =>
J .normal ⟨(setV (setV (setV e 24 (e 3)) 25 a) 3 a), 53, [], h⟩) := by kernel_rfl
theorem F.ref01_Valid.L1_r_eq : F.ref01_Valid.L1k J .ret ⟨e, 53, [], h⟩ = (
J .ret ⟨e, 53, [], h⟩) := by kernel_rfl
theorem F.ref01_Valid_eq : EV (codeOf Tryz.f66) ⟨mkEnv [a0], 53, [], h⟩ (RL Tryz.f66 K) = (
bindO (boxS a0) fun a =>
bindO (faS 0 (.ptr (Heap.next h) 0)) fun f =>
bindO (loadS none f (Heap.alloc h (.cells a))) fun g =>
bindO (binS .lss g (.int .i64 1)) fun d =>
condB d (
K (.ret (.bool false)) (Heap.alloc h (.cells a))) (
bindO (faS 0 (.ptr (Heap.next h) 0)) fun i =>
bindO (loadS none i (Heap.alloc h (.cells a))) fun j =>
bindO (binS .gtr j (.int .i64 64)) fun c =>
condB c (
K (.ret (.bool false)) (Heap.alloc h (.cells a))) (
bindO (faS 1 (.ptr (Heap.next h) 0)) fun k =>
bindO (loadS none k (Heap.alloc h (.cells a))) fun l =>
bindO (lenS .slice l (Heap.alloc h (.cells a))) fun m =>
bindO (binS .gtr m (.int .i64 8)) fun b =>
condB b (
K (.ret (.bool false)) (Heap.alloc h (.cells a))) (
loopB (EV F.ref01_Valid.L0) ⟨(setV (setV (setV (setV (setV (setV (setV (setV (setV (setV (setV (setV (setV (setV (setV (setV (setV (setV (setV (setV (setV (setV (setV (setV (mkEnv [a0]) 1 (.ptr (Heap.next h) 0)) 2 (.bool false)) 5 f) 6 g) 7 d) 8 d) 8 (.bool false)) 9 i) 8 (.bool false)) 10 j) 8 (.bool false)) 11 c) 12 c) 13 c) 13 (.bool false)) 14 k) 13 (.bool false)) 15 l) 13 (.bool false)) 16 m) 13 (.bool false)) 17 b) 18 b) 3 (.int .i64 0)), 53, [], (Heap.alloc h (.cells a))⟩ (F.ref01_Valid.L0k K))))) := by kernel_rfl
theorem F.ref01_Valid_sem (hh : EV (codeOf Tryz.f66) ⟨mkEnv [a0], 53, [], h⟩ (RL Tryz.f66 K) = true) : Sem TP 66 [a0] h K :=
  SB Tryz.func66 rfl (by decide) (by kernel_rfl) hh
noncomputable def F.ref01_Fits.L0 := partOf (codeOf Tryz.f67) [1, 0, 1, 0, 0]
noncomputable def F.ref01_Fits.L0k (K : Out → Heap → Bool) := (blockK 0 (seqK false (EV (partOf (codeOf Tryz.f67) [1, 1])) (RL Tryz.f67 K)))
theorem F.ref01_Fits.L0_eq : EV F.ref01_Fits.L0 ⟨e, 36, [], h⟩ J = (
bindO (lenS .slice (e 1) h) fun p =>
bindO (binS .lss (e 5) p) fun q =>
let Q1 := (setV (setV (setV (setV e 7 (e 5)) 8 (e 1)) 9 p) 10 q); condB q (
bindO (loadS (some 2) (e 2) h) fun r =>
bindO (iaS 2 (e 1) (e 5)) fun s =>
bindO (faS 0 s) fun t =>
bindO (loadS none t h) fun u =>
semCall TP 69 [r, u] h (outK (fun b c =>
bindO (binS .lss b (.int .i64 0)) fun o =>
let Q2 := (setV (setV (setV (setV (setV (setV (setV (setV (setV (setV (setV Q1 13 r) 14 (e 1)) 15 (e 5)) 16 s) 17 t) 18 u) 19 b) 6 b) 20 b) 21 o) 22 o); condB o (
J .ret ⟨(setV (setV (setV (setV (setV (setV (setV (setV (setV (setV (setV (setV (setV (setV (setV (setV (setV (setV (setV (setV (setV (setV (setV (setV (setV (setV Q2 22 (.bool true)) 23 noV) 22 (.bool true)) 24 noV) 22 (.bool true)) 25 noV) 22 (.bool true)) 26 noV) 22 (.bool true)) 27 noV) 22 (.bool true)) 28 noV) 22 (.bool true)) 29 noV) 22 (.bool true)) 30 noV) 22 (.bool true)) 31 noV) 22 (.bool true)) 32 noV) 22 (.bool true)) 33 noV) 22 (.bool true)) 34 noV) 35 (.bool true)) 4 (.bool false)), 36, [], c⟩) (
bindO (faS 1 (e 2)) fun d =>
bindO (loadS none d c) fun f =>
bindO (iaS 3 f b) fun g =>
bindO (faS 1 g) fun i =>
bindO (loadS none i c) fun j =>
bindO (iaS 2 (e 1) (e 5)) fun k =>
bindO (faS 1 k) fun l =>
bindO (loadS none l c) fun m =>
bindO (neV (.int .i64) j m) fun a =>
let Q3 := (setV (setV (setV (setV (setV (setV (setV (setV (setV (setV (setV (setV (setV (setV (setV (setV (setV (setV (setV (setV (setV (setV (setV (setV (setV Q2 22 (.bool false)) 23 d) 22 (.bool false)) 24 f) 22 (.bool false)) 25 b) 22 (.bool false)) 26 g) 22 (.bool false)) 27 i) 22 (.bool false)) 28 j) 22 (.bool false)) 29 (e 1)) 22 (.bool false)) 30 (e 5)) 22 (.bool false)) 31 k) 22 (.bool false)) 32 l) 22 (.bool false)) 33 m) 22 (.bool false)) 34 a) 35 a); condB a (
J .ret ⟨(setV Q3 4 (.bool false)), 36, [], c⟩) (
bindO (binS .add (e 5) (.int .i64 1)) fun n =>
J .normal ⟨(setV (setV (setV Q3 11 (e 5)) 12 n) 5 n), 36, [], c⟩))) (fun _ _ => false))) (
J (.exit 0) ⟨Q1, 36, [], h⟩)) := by kernel_rfl
theorem F.ref01_Fits.L0_x0_eq : F.ref01_Fits.L0k K (.exit 0) ⟨e, 36, [], h⟩ = (
K (.ret (.bool true)) h) := by kernel_rfl
theorem F.ref01_Fits.L0_r_eq : F.ref01_Fits.L0k K .ret ⟨e, 36, [], h⟩ = (
K (.ret (e 4)) h) := by kernel_rfl
theorem F.ref01_Fits_eq : EV (codeOf Tryz.f67) ⟨mkEnv [a0, a1], 36, [], h⟩ (RL Tryz.f67 K) = (
bindO (boxS a0) fun a =>
loopB (EV F.ref01_Fits.L0) ⟨(setV (setV (setV (mkEnv [a0, a1]) 2 (.ptr (Heap.next h) 0)) 4 (.bool false)) 5 (.int .i64 0)), 36, [], (Heap.alloc h (.cells a))⟩ (F.ref01_Fits.L0k K)) := by kernel_rfl
theorem F.ref01_Fits_sem (hh : EV (codeOf Tryz.f67) ⟨mkEnv [a0, a1], 36, [], h⟩ (RL Tryz.f67 K) = true) : Sem TP 67 [a0, a1] h K :=
  SB Tryz.func67 rfl (by decide) (by kernel_rfl) hh
noncomputable def F.ref03_Of.L0 := partOf (codeOf Tryz.f160) [1, 1, 0, 1, 0, 0]
noncomputable def F.ref03_Of.L0k (K : Out → Heap → Bool) := (blockK 0 (seqK false (EV (partOf (codeOf Tryz.f160) [1, 1, 1])) (RL Tryz.f160 K)))
theorem F.ref03_Of.L0_eq : EV F.ref03_Of.L0 ⟨e, 50, [], h⟩ J = (
bindO (faS 1 (e 1)) fun M =>
bindO (loadS none M h) fun N =>
bindO (lenS .slice N h) fun d =>
bindO (binS .lss (e 4) d) fun f =>
let Q1 := (setV (setV (setV (setV (setV e 12 (e 4)) 13 M) 14 N) 15 d) 16 f); condB f (
bindO (nilCheckS (e 3)) fun g =>
bindO (faS 2 g) fun b =>
bindO (loadS none b h) fun c =>
bindO (faS 0 (e 1)) fun i =>
bindO (loadS none i h) fun j =>
bindO (faS 1 (e 1)) fun k =>
bindO (loadS none k h) fun l =>
bindO (iaS 3 l (e 4)) fun m =>
bindO (faS 0 m) fun n =>
bindO (loadS none n h) fun o =>
bindO (faS 1 (e 1)) fun p =>
bindO (loadS none p h) fun q =>
bindO (iaS 3 q (e 4)) fun r =>
bindO (faS 1 r) fun s =>
bindO (loadS none s h) fun t =>
bindO (faS 1 (e 1)) fun u =>
bindO (loadS none u h) fun v =>
bindO (iaS 3 v (e 4)) fun w =>
bindO (faS 2 w) fun x =>
bindO (loadS none x h) fun y =>
semCall TP 183 [j, o, t, y] h (outK (fun z a =>
if ((bindO (loadS none b a) fun E =>
AV.beq E c) && true) = true then (
bindO (rowS [(.str []), (.int .i64 0), .nils] [(0, 3)] [z]) fun G =>
bindO2 (appendS 3 48 c (.slice (Heap.next a) 0 1 3) (Heap.alloc a (.cells G))) fun A I =>
bindO (nilCheckS (e 3)) fun B =>
bindO (faS 2 B) fun C =>
bindO (storeS 1 C A I) fun L =>
bindO (binS .add (e 4) (.int .i64 1)) fun D =>
J .normal ⟨(setV (setV (setV (setV (setV (setV (setV (setV (setV (setV (setV (setV (setV (setV (setV (setV (setV (setV (setV (setV (setV (setV (setV (setV (setV (setV (setV (setV (setV (setV (setV (setV (setV Q1 19 (e 3)) 20 (e 3)) 21 g) 22 b) 23 c) 24 i) 25 j) 26 k) 27 l) 28 (e 4)) 29 m) 30 n) 31 o) 32 p) 33 q) 34 (e 4)) 35 r) 36 s) 37 t) 38 u) 39 v) 40 (e 4)) 41 w) 42 x) 43 y) 44 z) 45 (.slice (Heap.next a) 0 1 3)) 46 A) 47 B) 48 C) 17 (e 4)) 18 D) 4 D), 50, [], L⟩) else false) (fun _ _ => false))) (
J (.exit 0) ⟨Q1, 50, [], h⟩)) := by kernel_rfl
theorem F.ref03_Of.L0_x0_eq : F.ref03_Of.L0k K (.exit 0) ⟨e, 50, [], h⟩ = (
K (.ret (e 3)) h) := by kernel_rfl
noncomputable def F.ref03_TableOf.L0 := partOf (codeOf Tryz.f183) [1, 1, 0, 1, 0, 0]
noncomputable def F.ref03_TableOf.L0k (K : Out → Heap → Bool) := (blockK 0 (seqK false (EV (partOf (codeOf Tryz.f183) [1, 1, 1])) (RL Tryz.f183 K)))
theorem F.ref03_TableOf.L0_eq : EV F.ref03_TableOf.L0 ⟨e, 34, [], h⟩ J = (
bindO (lenS .slice (e 3) h) fun m =>
bindO (binS .lss (e 10) m) fun n =>
let Q1 := (setV (setV (setV (setV e 18 (e 10)) 19 (e 3)) 20 m) 21 n); condB n (
bindO (faS 2 (e 9)) fun a =>
bindO (loadS none a h) fun b =>
bindO (iaS 1 (e 3) (e 10)) fun c =>
bindO (loadS none c h) fun d =>
semCall TP 191 [(e 0), d] h (outK (fun f g =>
if ((bindO (loadS none a g) fun k =>
AV.beq k b) && true) = true then (
bindO (iaS 1 b f) fun i =>
bindO (storeS 1 i (.bool true) g) fun l =>
bindO (binS .add (e 10) (.int .i64 1)) fun j =>
J .normal ⟨(setV (setV (setV (setV (setV (setV (setV (setV (setV (setV (setV (setV Q1 24 a) 25 b) 26 (e 0)) 27 (e 3)) 28 (e 10)) 29 c) 30 d) 31 f) 32 i) 22 (e 10)) 23 j) 10 j), 34, [], l⟩) else false) (fun _ _ => false))) (
J (.exit 0) ⟨Q1, 34, [], h⟩)) := by kernel_rfl
theorem F.ref03_TableOf.L0_x0_eq : F.ref03_TableOf.L0k K (.exit 0) ⟨e, 34, [], h⟩ = (
bindO (loadS (some 3) (e 9) h) fun a =>
bindO (storeS 3 (e 8) a h) fun b =>
bindO (resultL TP ⟨(setV e 33 a), 34, [], b⟩ Tryz.f183.results.toList) fun c => K (.ret (oneOf c)) b) := by kernel_rfl
theorem F.ref03_TableOf_eq {a3 : AV} : EV (codeOf Tryz.f183) ⟨mkEnv [a0, a1, a2, a3], 34, [], h⟩ (RL Tryz.f183 K) = (
semCall TP 155 [a0, a2] (Heap.alloc h (.cells [(.str []), (.int .i64 0), .nils])) (outK (fun a f =>
bindO2 (makeSliceS 1 1 [(.bool false)] a a f) fun c b =>
bindO (aggS [(.str []), (.int .i64 0), .nils] [(0, 1), (1, 1), (2, 1)] [a1, a2, c]) fun d =>
bindO (storeS 3 (.ptr (Heap.next b) 0) d (Heap.alloc b (.cells [(.str []), (.int .i64 0), .nils]))) fun g =>
loopB (EV F.ref03_TableOf.L0) ⟨(setV (setV (setV (setV (setV (setV (setV (setV (setV (setV (mkEnv [a0, a1, a2, a3]) 8 (.ptr (Heap.next h) 0)) 11 a1) 12 a2) 13 a0) 14 a2) 15 a) 16 c) 17 d) 9 (.ptr (Heap.next b) 0)) 10 (.int .i64 0)), 34, [], g⟩ (F.ref03_TableOf.L0k K)) (fun i j => K (.panic i) j))) := by kernel_rfl
theorem F.ref03_TableOf_sem {a3 : AV} (hh : EV (codeOf Tryz.f183) ⟨mkEnv [a0, a1, a2, a3], 34, [], h⟩ (RL Tryz.f183 K) = true) : Sem TP 183 [a0, a1, a2, a3] h K :=
  SB Tryz.func183 rfl (by decide) (by kernel_rfl) hh
noncomputable def F.ref03_rank.L0 := partOf (codeOf Tryz.f191) [1, 1, 0, 1, 0, 0]
noncomputable def F.ref03_rank.L0k (K : Out → Heap → Bool) := (blockK 0 (seqK false (EV (partOf (codeOf Tryz.f191) [1, 1, 1])) (RL Tryz.f191 K)))
theorem F.ref03_rank.L0_eq : EV F.ref03_rank.L0 ⟨e, 22, [], h⟩ J = (
bindO (lenS .slice (e 1) h) fun a =>
bindO (binS .lss (e 6) a) fun b =>
let Q1 := (setV (setV (setV (setV e 7 (e 6)) 8 (e 1)) 9 a) 10 b); condB b (
bindO (binS .mul (e 5) (e 0)) fun c =>
bindO (iaS 1 (e 1) (e 6)) fun d =>
bindO (loadS none d h) fun f =>
bindO (binS .add c f) fun g =>
bindO (binS .add (e 6) (.int .i64 1)) fun i =>
J .normal ⟨(setV (setV (setV (setV (setV (setV (setV (setV (setV (setV (setV (setV Q1 13 (e 5)) 14 (e 0)) 15 c) 16 (e 1)) 17 (e 6)) 18 d) 19 f) 20 g) 5 g) 11 (e 6)) 12 i) 6 i), 22, [], h⟩) (
J (.exit 0) ⟨Q1, 22, [], h⟩)) := by kernel_rfl
theorem F.ref03_rank.L0_x0_eq : F.ref03_rank.L0k K (.exit 0) ⟨e, 22, [], h⟩ = (
K (.ret (e 5)) h) := by kernel_rfl
theorem F.ref03_rank_eq : EV (codeOf Tryz.f191) ⟨mkEnv [a0, a1], 22, [], h⟩ (RL Tryz.f191 K) = (
loopB (EV F.ref03_rank.L0) ⟨(setV (setV (setV (mkEnv [a0, a1]) 4 (.int .i64 0)) 5 (.int .i64 0)) 6 (.int .i64 0)), 22, [], h⟩ (F.ref03_rank.L0k K)) := by kernel_rfl
theorem F.ref03_rank_sem (hh : EV (codeOf Tryz.f191) ⟨mkEnv [a0, a1], 22, [], h⟩ (RL Tryz.f191 K) = true) : Sem TP 191 [a0, a1] h K :=
  SB Tryz.func191 rfl (by decide) (by kernel_rfl) hh
noncomputable def F.ref01_Find.L0 := partOf (codeOf Tryz.f69) [1, 0, 1, 0, 0]
noncomputable def F.ref01_Find.L0k (K : Out → Heap → Bool) := (blockK 0 (seqK false (EV (partOf (codeOf Tryz.f69) [1, 1])) (RL Tryz.f69 K)))
theorem F.ref01_Find.L0_eq : EV F.ref01_Find.L0 ⟨e, 22, [], h⟩ J = (
bindO (faS 1 (e 2)) fun c =>
bindO (loadS none c h) fun d =>
bindO (lenS .slice d h) fun f =>
bindO (binS .lss (e 5) f) fun g =>
let Q1 := (setV (setV (setV (setV (setV e 6 (e 5)) 7 c) 8 d) 9 f) 10 g); condB g (
bindO (faS 1 (e 2)) fun i =>
bindO (loadS none i h) fun j =>
bindO (iaS 3 j (e 5)) fun k =>
bindO (faS 0 k) fun l =>
bindO (loadS none l h) fun m =>
bindO (eqV .string m (e 1)) fun a =>
let Q2 := (setV (setV (setV (setV (setV (setV (setV (setV Q1 13 i) 14 j) 15 (e 5)) 16 k) 17 l) 18 m) 19 (e 1)) 20 a); condB a (
J .ret ⟨(setV (setV Q2 21 (e 5)) 4 (e 5)), 22, [], h⟩) (
bindO (binS .add (e 5) (.int .i64 1)) fun b =>
J .normal ⟨(setV (setV (setV Q2 11 (e 5)) 12 b) 5 b), 22, [], h⟩)) (
J (.exit 0) ⟨Q1, 22, [], h⟩)) := by kernel_rfl
theorem F.ref01_Find.L0_x0_eq : F.ref01_Find.L0k K (.exit 0) ⟨e, 22, [], h⟩ = (
K (.ret (.int .i64 (-1))) h) := by kernel_rfl
theorem F.ref01_Find.L0_r_eq : F.ref01_Find.L0k K .ret ⟨e, 22, [], h⟩ = (
K (.ret (e 4)) h) := by kernel_rfl
theorem F.ref01_Find_eq : EV (codeOf Tryz.f69) ⟨mkEnv [a0, a1], 22, [], h⟩ (RL Tryz.f69 K) = (
bindO (boxS a0) fun a =>
loopB (EV F.ref01_Find.L0) ⟨(setV (setV (setV (mkEnv [a0, a1]) 2 (.ptr (Heap.next h) 0)) 4 (.int .i64 0)) 5 (.int .i64 0)), 22, [], (Heap.alloc h (.cells a))⟩ (F.ref01_Find.L0k K)) := by kernel_rfl
theorem F.ref01_Find_sem (hh : EV (codeOf Tryz.f69) ⟨mkEnv [a0, a1], 22, [], h⟩ (RL Tryz.f69 K) = true) : Sem TP 69 [a0, a1] h K :=
  SB Tryz.func69 rfl (by decide) (by kernel_rfl) hh
noncomputable def F.ref01_Pow.L0 := partOf (codeOf Tryz.f155) [1, 1, 0, 1, 0, 0]
noncomputable def F.ref01_Pow.L0k (K : Out → Heap → Bool) := (blockK 0 (seqK false (EV (partOf (codeOf Tryz.f155) [1, 1, 1])) (RL Tryz.f155 K)))
theorem F.ref01_Pow.L0_eq : EV F.ref01_Pow.L0 ⟨e, 20, [], h⟩ J = (
bindO (binS .lss (e 6) (e 1)) fun a =>
let Q1 := (setV (setV (setV (setV e 7 (e 6)) 8 (e 1)) 9 a) 10 a); condB a (
bindO (binS .leq (e 5) (.int .i64 4096)) fun b =>
let Q2 := (setV (setV (setV (setV (setV Q1 10 (.bool true)) 11 (e 5)) 10 (.bool true)) 12 b) 13 b); condB b (
bindO (binS .mul (e 5) (e 0)) fun c =>
bindO (binS .add (e 6) (.int .i64 1)) fun d =>
J .normal ⟨(setV (setV (setV (setV (setV (setV (setV Q2 16 (e 5)) 17 (e 0)) 18 c) 5 c) 14 (e 6)) 15 d) 6 d), 20, [], h⟩) (
J (.exit 0) ⟨Q2, 20, [], h⟩)) (
J (.exit 0) ⟨(setV (setV (setV (setV (setV Q1 10 (.bool false)) 11 noV) 10 (.bool false)) 12 noV) 13 (.bool false)), 20, [], h⟩)) := by kernel_rfl
theorem F.ref01_Pow.L0_x0_eq : F.ref01_Pow.L0k K (.exit 0) ⟨e, 20, [], h⟩ = (
K (.ret (e 5)) h) := by kernel_rfl
theorem F.ref01_Pow_eq : EV (codeOf Tryz.f155) ⟨mkEnv [a0, a1], 20, [], h⟩ (RL Tryz.f155 K) = (
loopB (EV F.ref01_Pow.L0) ⟨(setV (setV (setV (mkEnv [a0, a1]) 4 (.int .i64 0)) 5 (.int .i64 1)) 6 (.int .i64 0)), 20, [], h⟩ (F.ref01_Pow.L0k K)) := by kernel_rfl
theorem F.ref01_Pow_sem (hh : EV (codeOf Tryz.f155) ⟨mkEnv [a0, a1], 20, [], h⟩ (RL Tryz.f155 K) = true) : Sem TP 155 [a0, a1] h K :=
  SB Tryz.func155 rfl (by decide) (by kernel_rfl) hh
noncomputable def F.shape_Valid.L0 := partOf (codeOf Tryz.f64) [1, 1, 0, 1, 0, 0]
noncomputable def F.shape_Valid.L0k (K : Out → Heap → Bool) := (blockK 0 (seqK false (EV (partOf (codeOf Tryz.f64) [1, 1, 1])) (RL Tryz.f64 K)))
theorem F.shape_Valid.L0_eq : EV F.shape_Valid.L0 ⟨e, 63, [], h⟩ J = (
bindO (binS .lss (e 22) (e 21)) fun y =>
let Q1 := (setV e 23 y); condB y (
bindO (iaS 3 (e 20) (e 22)) fun g =>
bindO (loadS (some 3) g h) fun i =>
bindO (storeS 3 (.ptr (Heap.next h) 0) i (Heap.alloc h (.cells [(.str []), (.int .i64 0), .nils]))) fun z =>
bindO (faS 0 (.ptr (Heap.next h) 0)) fun j =>
bindO (loadS none j z) fun k =>
semCall TP 107 [k] z (outK (fun A a =>
bindO (unS .not A) fun l =>
let Q2 := (setV (setV (setV (setV (setV (setV (setV (setV (setV (setV Q1 24 (e 22)) 25 g) 26 i) 4 (.ptr (Heap.next h) 0)) 3 (e 22)) 27 j) 28 k) 29 A) 30 l) 31 l); condB l (
J .ret ⟨(setV (setV (setV (setV (setV (setV (setV (setV (setV (setV (setV (setV (setV (setV (setV (setV (setV (setV (setV (setV (setV (setV (setV (setV (setV (setV (setV (setV (setV (setV (setV (setV (setV (setV (setV (setV (setV (setV (setV (setV (setV (setV Q2 31 (.bool true)) 32 noV) 31 (.bool true)) 33 noV) 31 (.bool true)) 34 noV) 35 (.bool true)) 36 (.bool true)) 36 (.bool true)) 37 noV) 36 (.bool true)) 38 noV) 36 (.bool true)) 39 noV) 40 (.bool true)) 41 (.bool true)) 41 (.bool true)) 42 noV) 41 (.bool true)) 43 noV) 41 (.bool true)) 44 noV) 41 (.bool true)) 45 noV) 41 (.bool true)) 46 noV) 41 (.bool true)) 47 noV) 48 (.bool true)) 49 (.bool true)) 49 (.bool true)) 50 noV) 49 (.bool true)) 51 noV) 49 (.bool true)) 52 noV) 49 (.bool true)) 53 noV) 49 (.bool true)) 54 noV) 55 (.bool true)) 2 (.bool false)), 63, [], a⟩) (
bindO (faS 1 (.ptr (Heap.next h) 0)) fun B =>
bindO (loadS none B a) fun C =>
bindO (binS .lss C (.int .i64 0)) fun b =>
let Q3 := (setV (setV (setV (setV (setV (setV (setV (setV Q2 31 (.bool false)) 32 B) 31 (.bool false)) 33 C) 31 (.bool false)) 34 b) 35 b) 36 b); condB b (
J .ret ⟨(setV (setV (setV (setV (setV (setV (setV (setV (setV (setV (setV (setV (setV (setV (setV (setV (setV (setV (setV (setV (setV (setV (setV (setV (setV (setV (setV (setV (setV (setV (setV (setV (setV (setV Q3 36 (.bool true)) 37 noV) 36 (.bool true)) 38 noV) 36 (.bool true)) 39 noV) 40 (.bool true)) 41 (.bool true)) 41 (.bool true)) 42 noV) 41 (.bool true)) 43 noV) 41 (.bool true)) 44 noV) 41 (.bool true)) 45 noV) 41 (.bool true)) 46 noV) 41 (.bool true)) 47 noV) 48 (.bool true)) 49 (.bool true)) 49 (.bool true)) 50 noV) 49 (.bool true)) 51 noV) 49 (.bool true)) 52 noV) 49 (.bool true)) 53 noV) 49 (.bool true)) 54 noV) 55 (.bool true)) 2 (.bool false)), 63, [], a⟩) (
bindO (faS 1 (.ptr (Heap.next h) 0)) fun D =>
bindO (loadS none D a) fun E =>
bindO (binS .gtr E (.int .i64 12)) fun c =>
let Q4 := (setV (setV (setV (setV (setV (setV (setV (setV Q3 36 (.bool false)) 37 D) 36 (.bool false)) 38 E) 36 (.bool false)) 39 c) 40 c) 41 c); condB c (
J .ret ⟨(setV (setV (setV (setV (setV (setV (setV (setV (setV (setV (setV (setV (setV (setV (setV (setV (setV (setV (setV (setV (setV (setV (setV (setV (setV (setV Q4 41 (.bool true)) 42 noV) 41 (.bool true)) 43 noV) 41 (.bool true)) 44 noV) 41 (.bool true)) 45 noV) 41 (.bool true)) 46 noV) 41 (.bool true)) 47 noV) 48 (.bool true)) 49 (.bool true)) 49 (.bool true)) 50 noV) 49 (.bool true)) 51 noV) 49 (.bool true)) 52 noV) 49 (.bool true)) 53 noV) 49 (.bool true)) 54 noV) 55 (.bool true)) 2 (.bool false)), 63, [], a⟩) (
bindO (faS 0 (e 1)) fun m =>
bindO (loadS none m a) fun n =>
bindO (faS 1 (.ptr (Heap.next h) 0)) fun o =>
bindO (loadS none o a) fun p =>
semCall TP 108 [n, p, (.int .i64 4096)] a (outK (fun G d =>
bindO (binS .lss G (.int .i64 0)) fun f =>
let Q5 := (setV (setV (setV (setV (setV (setV (setV (setV (setV (setV (setV (setV (setV (setV Q4 41 (.bool false)) 42 m) 41 (.bool false)) 43 n) 41 (.bool false)) 44 o) 41 (.bool false)) 45 p) 41 (.bool false)) 46 G) 41 (.bool false)) 47 f) 48 f) 49 f); condB f (
J .ret ⟨(setV (setV (setV (setV (setV (setV (setV (setV (setV (setV (setV (setV Q5 49 (.bool true)) 50 noV) 49 (.bool true)) 51 noV) 49 (.bool true)) 52 noV) 49 (.bool true)) 53 noV) 49 (.bool true)) 54 noV) 55 (.bool true)) 2 (.bool false)), 63, [], d⟩) (
bindO (faS 0 (e 1)) fun q =>
bindO (loadS none q d) fun r =>
bindO (loadS (some 3) (.ptr (Heap.next h) 0) d) fun s =>
semCall TP 109 [r, s] d (outK (fun I t =>
bindO (unS .not I) fun u =>
let Q6 := (setV (setV (setV (setV (setV (setV (setV (setV (setV (setV (setV Q5 49 (.bool false)) 50 q) 49 (.bool false)) 51 r) 49 (.bool false)) 52 s) 49 (.bool false)) 53 I) 49 (.bool false)) 54 u) 55 u); condB u (
J .ret ⟨(setV Q6 2 (.bool false)), 63, [], t⟩) (
bindO (faS 1 (e 1)) fun v =>
bindO (loadS none v t) fun w =>
bindO (sliceS (some 3) w none (some (e 22))) fun x =>
semCall TP 110 [x, (.func 111 [] [(.ptr (Heap.next h) 0)])] t (outK (fun L M =>
let Q7 := (setV (setV (setV (setV (setV (setV Q6 56 v) 57 w) 58 (e 22)) 59 x) 60 (.func 111 [] [(.ptr (Heap.next h) 0)])) 61 L); condB L (
J .ret ⟨(setV Q7 2 (.bool false)), 63, [], M⟩) (
bindO (binS .add (e 22) (.int .i64 1)) fun N =>
J .normal ⟨(setV (setV Q7 62 N) 22 N), 63, [], M⟩)) (fun O P => J (.panic O) ⟨(setV (setV (setV (setV (setV Q6 56 v) 57 w) 58 (e 22)) 59 x) 60 (.func 111 [] [(.ptr (Heap.next h) 0)])), 63, [], P⟩)))) (fun R S => J (.panic R) ⟨(setV (setV (setV (setV (setV (setV (setV Q5 49 (.bool false)) 50 q) 49 (.bool false)) 51 r) 49 (.bool false)) 52 s) 49 (.bool false)), 63, [], S⟩)))) (fun T U => J (.panic T) ⟨(setV (setV (setV (setV (setV (setV (setV (setV (setV Q4 41 (.bool false)) 42 m) 41 (.bool false)) 43 n) 41 (.bool false)) 44 o) 41 (.bool false)) 45 p) 41 (.bool false)), 63, [], U⟩)))))) (fun V W => J (.panic V) ⟨(setV (setV (setV (setV (setV (setV (setV Q1 24 (e 22)) 25 g) 26 i) 4 (.ptr (Heap.next h) 0)) 3 (e 22)) 27 j) 28 k), 63, [], W⟩))) (
J (.exit 0) ⟨Q1, 63, [], h⟩)) := by kernel_rfl
theorem F.shape_Valid.L0_x0_eq : F.shape_Valid.L0k K (.exit 0) ⟨e, 63, [], h⟩ = (
K (.ret (.bool true)) h) := by kernel_rfl
theorem F.shape_Valid.L0_r_eq : F.shape_Valid.L0k K .ret ⟨e, 63, [], h⟩ = (
K (.ret (e 2)) h) := by kernel_rfl
theorem F.shape_Valid_eq : EV (codeOf Tryz.f64) ⟨mkEnv [a0], 63, [], h⟩ (RL Tryz.f64 K) = (
bindO (boxS a0) fun a =>
bindO (faS 0 (.ptr (Heap.next h) 0)) fun j =>
bindO (loadS none j (Heap.alloc h (.cells a))) fun k =>
bindO (binS .lss k (.int .i64 1)) fun g =>
condB g (
K (.ret (.bool false)) (Heap.alloc h (.cells a))) (
bindO (faS 0 (.ptr (Heap.next h) 0)) fun l =>
bindO (loadS none l (Heap.alloc h (.cells a))) fun m =>
bindO (binS .gtr m (.int .i64 64)) fun f =>
condB f (
K (.ret (.bool false)) (Heap.alloc h (.cells a))) (
bindO (faS 1 (.ptr (Heap.next h) 0)) fun n =>
bindO (loadS none n (Heap.alloc h (.cells a))) fun o =>
bindO (lenS .slice o (Heap.alloc h (.cells a))) fun p =>
bindO (binS .gtr p (.int .i64 8)) fun b =>
condB b (
K (.ret (.bool false)) (Heap.alloc h (.cells a))) (
bindO (faS 1 (.ptr (Heap.next h) 0)) fun c =>
bindO (loadS none c (Heap.alloc h (.cells a))) fun d =>
bindO (lenS .slice d (Heap.alloc h (.cells a))) fun i =>
loopB (EV F.shape_Valid.L0) ⟨(setV (setV (setV (setV (setV (setV (setV (setV (setV (setV (setV (setV (setV (setV (setV (setV (setV (setV (setV (setV (setV (setV (setV (setV (setV (setV (setV (mkEnv [a0]) 1 (.ptr (Heap.next h) 0)) 2 (.bool false)) 5 j) 6 k) 7 g) 8 g) 8 (.bool false)) 9 l) 8 (.bool false)) 10 m) 8 (.bool false)) 11 f) 12 f) 13 f) 13 (.bool false)) 14 n) 13 (.bool false)) 15 o) 13 (.bool false)) 16 p) 13 (.bool false)) 17 b) 18 b) 19 c) 20 d) 21 i) 22 (.int .i64 0)), 63, [], (Heap.alloc h (.cells a))⟩ (F.shape_Valid.L0k K))))) := by kernel_rfl
theorem F.shape_Valid_sem (hh : EV (codeOf Tryz.f64) ⟨mkEnv [a0], 63, [], h⟩ (RL Tryz.f64 K) = true) : Sem TP 64 [a0] h K :=
  SB Tryz.func64 rfl (by decide) (by kernel_rfl) hh
noncomputable def F.slices_Compare_S_int_int.L0 := partOf (codeOf Tryz.f55) [1, 0, 1, 0, 0]
noncomputable def F.slices_Compare_S_int_int.L0k (K : Out → Heap → Bool) := (blockK 0 (seqK false (EV (partOf (codeOf Tryz.f55) [1, 1])) (RL Tryz.f55 K)))
theorem F.slices_Compare_S_int_int.L0_eq : EV F.slices_Compare_S_int_int.L0 ⟨e, 36, [], h⟩ J = (
bindO (binS .lss (e 11) (e 10)) fun k =>
let Q1 := (setV e 12 k); condB k (
bindO (iaS 1 (e 9) (e 11)) fun l =>
bindO (loadS none l h) fun c =>
bindO (lenS .slice (e 1) h) fun m =>
bindO (binS .geq (e 11) m) fun n =>
let Q2 := (setV (setV (setV (setV (setV (setV (setV (setV (setV Q1 13 (e 11)) 14 l) 15 c) 5 (e 11)) 6 c) 16 (e 11)) 17 (e 1)) 18 m) 19 n); condB n (
J .ret ⟨(setV Q2 4 (.int .i64 1)), 36, [], h⟩) (
bindO (iaS 1 (e 1) (e 11)) fun g =>
bindO (loadS none g h) fun a =>
semCall TP 95 [c, a] h (outK (fun b o =>
bindO (neV (.int .i64) b (.int .i64 0)) fun d =>
let Q3 := (setV (setV (setV (setV (setV (setV (setV (setV (setV (setV (setV Q2 20 (e 1)) 21 (e 11)) 22 g) 23 a) 7 a) 24 c) 25 a) 26 b) 8 b) 27 b) 28 d); condB d (
J .ret ⟨(setV (setV Q3 29 b) 4 b), 36, [], o⟩) (
bindO (binS .add (e 11) (.int .i64 1)) fun f =>
J .normal ⟨(setV (setV Q3 30 f) 11 f), 36, [], o⟩)) (fun i j => J (.panic i) ⟨(setV (setV (setV (setV (setV (setV (setV Q2 20 (e 1)) 21 (e 11)) 22 g) 23 a) 7 a) 24 c) 25 a), 36, [], j⟩)))) (
J (.exit 0) ⟨Q1, 36, [], h⟩)) := by kernel_rfl
theorem F.slices_Compare_S_int_int.L0_x0_eq : F.slices_Compare_S_int_int.L0k K (.exit 0) ⟨e, 36, [], h⟩ = (
bindO (lenS .slice (e 0) h) fun a =>
bindO (lenS .slice (e 1) h) fun b =>
bindO (binS .lss a b) fun c =>
condB c (
K (.ret (.int .i64 (-1))) h) (
K (.ret (.int .i64 0)) h)) := by kernel_rfl
theorem F.slices_Compare_S_int_int.L0_r_eq : F.slices_Compare_S_int_int.L0k K .ret ⟨e, 36, [], h⟩ = (
K (.ret (e 4)) h) := by kernel_rfl
theorem F.slices_Compare_S_int_int_eq : EV (codeOf Tryz.f55) ⟨mkEnv [a0, a1], 36, [], h⟩ (RL Tryz.f55 K) = (
bindO (lenS .slice a0 h) fun a =>
loopB (EV F.slices_Compare_S_int_int.L0) ⟨(setV (setV (setV (setV (mkEnv [a0, a1]) 4 (.int .i64 0)) 9 a0) 10 a) 11 (.int .i64 0)), 36, [], h⟩ (F.slices_Compare_S_int_int.L0k K)) := by kernel_rfl
theorem F.slices_Compare_S_int_int_sem (hh : EV (codeOf Tryz.f55) ⟨mkEnv [a0, a1], 36, [], h⟩ (RL Tryz.f55 K) = true) : Sem TP 55 [a0, a1] h K :=
  SB Tryz.func55 rfl (by decide) (by kernel_rfl) hh
theorem F.shape_elements_eq : EV (codeOf Tryz.f52) ⟨mkEnv [a0, a1], 9, [], h⟩ (RL Tryz.f52 K) = (
bindO (boxS a0) fun a =>
semCall TP 47 [a1, (.func 93 [] [(.ptr (Heap.next h) 0)])] (Heap.alloc h (.cells a)) (outK (fun b c =>
bindO (unS .not b) fun d =>
K (.ret d) c) (fun f g => K (.panic f) g))) := by kernel_rfl
theorem F.shape_elements_sem (hh : EV (codeOf Tryz.f52) ⟨mkEnv [a0, a1], 9, [], h⟩ (RL Tryz.f52 K) = true) : Sem TP 52 [a0, a1] h K :=
  SB Tryz.func52 rfl (by decide) (by kernel_rfl) hh
theorem F.shape_Power_eq : EV (codeOf Tryz.f99) ⟨mkEnv [a0, a1], 27, [], h⟩ (RL Tryz.f99 K) = (
bindO (binS .lss a0 (.int .i64 1)) fun c =>
condB c (
K (.ret (.tuple [(.int .i64 0), (.int .i64 2)])) h) (
bindO (binS .gtr a0 (.int .i64 64)) fun d =>
condB d (
K (.ret (.tuple [(.int .i64 0), (.int .i64 2)])) h) (
bindO (binS .lss a1 (.int .i64 0)) fun f =>
condB f (
K (.ret (.tuple [(.int .i64 0), (.int .i64 2)])) h) (
bindO (binS .gtr a1 (.int .i64 12)) fun g =>
condB g (
K (.ret (.tuple [(.int .i64 0), (.int .i64 2)])) h) (
semCall TP 108 [a0, a1, (.int .i64 4096)] h (outK (fun a b =>
bindO (binS .lss a (.int .i64 0)) fun i =>
condB i (
K (.ret (.tuple [(.int .i64 0), (.int .i64 5)])) b) (
K (.ret (.tuple [a, (.int .i64 0)])) b)) (fun j k => K (.panic j) k))))))) := by kernel_rfl
theorem F.shape_Power_sem (hh : EV (codeOf Tryz.f99) ⟨mkEnv [a0, a1], 27, [], h⟩ (RL Tryz.f99 K) = true) : Sem TP 99 [a0, a1] h K :=
  SB Tryz.func99 rfl (by decide) (by kernel_rfl) hh
noncomputable def F.ref01_rel.L0 := partOf (codeOf Tryz.f115) [1, 1, 0, 1, 0, 0]
noncomputable def F.ref01_rel.L0k (K : Out → Heap → Bool) := (blockK 0 (seqK false (EV (partOf (codeOf Tryz.f115) [1, 1, 1])) (RL Tryz.f115 K)))
theorem F.ref01_rel.L0_eq : EV F.ref01_rel.L0 ⟨e, 72, [], h⟩ J = (
bindO (faS 2 (e 3)) fun g =>
bindO (loadS none g h) fun i =>
bindO (lenS .slice i h) fun j =>
bindO (binS .lss (e 5) j) fun k =>
let Q1 := (setV (setV (setV (setV (setV e 27 (e 5)) 28 g) 29 i) 30 j) 31 k); condB k (
bindO (faS 2 (e 3)) fun l =>
bindO (loadS none l h) fun m =>
bindO (iaS 1 m (e 5)) fun n =>
bindO (loadS none n h) fun o =>
bindO (lenS .slice o h) fun p =>
bindO (faS 1 (e 3)) fun q =>
bindO (loadS none q h) fun r =>
bindO (neV (.int .i64) p r) fun d =>
let Q2 := (setV (setV (setV (setV (setV (setV (setV (setV (setV (setV Q1 34 l) 35 m) 36 (e 5)) 37 n) 38 o) 39 p) 40 q) 41 r) 42 d) 43 d); condB d (
J .ret ⟨(setV (setV (setV (setV (setV (setV (setV (setV (setV (setV (setV (setV (setV (setV (setV (setV (setV (setV (setV (setV (setV (setV (setV (setV (setV (setV (setV (setV (setV (setV (setV (setV (setV (setV (setV (setV (setV (setV (setV (setV (setV Q2 43 (.bool true)) 44 noV) 43 (.bool true)) 45 noV) 43 (.bool true)) 46 noV) 43 (.bool true)) 47 noV) 43 (.bool true)) 48 noV) 43 (.bool true)) 49 noV) 43 (.bool true)) 50 noV) 43 (.bool true)) 51 noV) 52 (.bool true)) 53 (.bool true)) 53 (.bool true)) 54 noV) 53 (.bool true)) 55 noV) 53 (.bool true)) 56 noV) 57 noV) 58 noV) 59 noV) 60 noV) 61 noV) 62 noV) 63 noV) 64 noV) 65 noV) 66 noV) 67 noV) 68 noV) 69 noV) 53 (.bool true)) 70 noV) 71 (.bool true)) 4 (.bool false)), 72, [], h⟩) (
bindO (faS 2 (e 3)) fun s =>
bindO (loadS none s h) fun t =>
bindO (iaS 1 t (e 5)) fun u =>
bindO (loadS none u h) fun v =>
semCall TP 125 [(e 0), v] h (outK (fun w a =>
bindO (unS .not w) fun b =>
let Q3 := (setV (setV (setV (setV (setV (setV (setV (setV (setV (setV (setV (setV (setV (setV (setV (setV (setV (setV Q2 43 (.bool false)) 44 (e 0)) 43 (.bool false)) 45 s) 43 (.bool false)) 46 t) 43 (.bool false)) 47 (e 5)) 43 (.bool false)) 48 u) 43 (.bool false)) 49 v) 43 (.bool false)) 50 w) 43 (.bool false)) 51 b) 52 b) 53 b); condB b (
J .ret ⟨(setV (setV (setV (setV (setV (setV (setV (setV (setV (setV (setV (setV (setV (setV (setV (setV (setV (setV (setV (setV (setV (setV (setV Q3 53 (.bool true)) 54 noV) 53 (.bool true)) 55 noV) 53 (.bool true)) 56 noV) 57 noV) 58 noV) 59 noV) 60 noV) 61 noV) 62 noV) 63 noV) 64 noV) 65 noV) 66 noV) 67 noV) 68 noV) 69 noV) 53 (.bool true)) 70 noV) 71 (.bool true)) 4 (.bool false)), 72, [], a⟩) (
bindO (binS .gtr (e 5) (.int .i64 0)) fun f =>
let Q4 := (setV (setV (setV (setV (setV (setV Q3 53 (.bool false)) 54 (e 5)) 53 (.bool false)) 55 f) 53 (.bool false)) 56 f); condB f (
bindO (faS 2 (e 3)) fun x =>
bindO (loadS none x a) fun y =>
bindO (binS .sub (e 5) (.int .i64 1)) fun z =>
bindO (iaS 1 y z) fun A =>
bindO (loadS none A a) fun B =>
bindO (faS 2 (e 3)) fun C =>
bindO (loadS none C a) fun D =>
bindO (iaS 1 D (e 5)) fun E =>
bindO (loadS none E a) fun G =>
semCall TP 156 [B, G] a (outK (fun I L =>
bindO (unS .not I) fun c =>
let Q5 := (setV (setV (setV (setV (setV (setV (setV (setV (setV (setV (setV (setV (setV (setV (setV (setV (setV (setV (setV (setV (setV (setV (setV (setV (setV (setV (setV (setV (setV Q4 56 (.bool true)) 57 x) 56 (.bool true)) 58 y) 56 (.bool true)) 59 (e 5)) 56 (.bool true)) 60 z) 56 (.bool true)) 61 A) 56 (.bool true)) 62 B) 56 (.bool true)) 63 C) 56 (.bool true)) 64 D) 56 (.bool true)) 65 (e 5)) 56 (.bool true)) 66 E) 56 (.bool true)) 67 G) 56 (.bool true)) 68 I) 56 (.bool true)) 69 c) 53 (.bool false)) 70 c) 71 c); condB c (
J .ret ⟨(setV Q5 4 (.bool false)), 72, [], L⟩) (
bindO (binS .add (e 5) (.int .i64 1)) fun M =>
J .normal ⟨(setV (setV (setV Q5 32 (e 5)) 33 M) 5 M), 72, [], L⟩)) (fun _ _ => false))) (
bindO (binS .add (e 5) (.int .i64 1)) fun N =>
J .normal ⟨(setV (setV (setV (setV (setV (setV (setV (setV (setV (setV (setV (setV (setV (setV (setV (setV (setV (setV (setV (setV (setV (setV (setV (setV (setV (setV (setV (setV (setV (setV (setV (setV Q4 56 (.bool false)) 57 noV) 56 (.bool false)) 58 noV) 56 (.bool false)) 59 noV) 56 (.bool false)) 60 noV) 56 (.bool false)) 61 noV) 56 (.bool false)) 62 noV) 56 (.bool false)) 63 noV) 56 (.bool false)) 64 noV) 56 (.bool false)) 65 noV) 56 (.bool false)) 66 noV) 56 (.bool false)) 67 noV) 56 (.bool false)) 68 noV) 56 (.bool false)) 69 noV) 53 (.bool false)) 70 (.bool false)) 71 (.bool false)) 32 (e 5)) 33 N) 5 N), 72, [], a⟩))) (fun _ _ => false)))) (
J (.exit 0) ⟨Q1, 72, [], h⟩)) := by kernel_rfl
theorem F.ref01_rel.L0_x0_eq : F.ref01_rel.L0k K (.exit 0) ⟨e, 72, [], h⟩ = (
K (.ret (.bool true)) h) := by kernel_rfl
theorem F.ref01_rel.L0_r_eq : F.ref01_rel.L0k K .ret ⟨e, 72, [], h⟩ = (
K (.ret (e 4)) h) := by kernel_rfl
theorem F.ref01_rel_eq : EV (codeOf Tryz.f115) ⟨mkEnv [a0, a1], 72, [], h⟩ (RL Tryz.f115 K) = (
bindO (boxS a1) fun p =>
bindO (faS 0 (.ptr (Heap.next h) 0)) fun q =>
bindO (loadS none q (Heap.alloc h (.cells p))) fun r =>
semCall TP 153 [r] (Heap.alloc h (.cells p)) (outK (fun s c =>
bindO (unS .not s) fun m =>
condB m (
K (.ret (.bool false)) c) (
bindO (faS 1 (.ptr (Heap.next h) 0)) fun t =>
bindO (loadS none t c) fun u =>
bindO (binS .lss u (.int .i64 0)) fun a =>
condB a (
K (.ret (.bool false)) c) (
bindO (faS 1 (.ptr (Heap.next h) 0)) fun f =>
bindO (loadS none f c) fun g =>
bindO (binS .gtr g (.int .i64 12)) fun b =>
condB b (
K (.ret (.bool false)) c) (
bindO (faS 1 (.ptr (Heap.next h) 0)) fun i =>
bindO (loadS none i c) fun j =>
semCall TP 155 [a0, j] c (outK (fun k l =>
bindO (binS .gtr k (.int .i64 4096)) fun d =>
condB d (
K (.ret (.bool false)) l) (
loopB (EV F.ref01_rel.L0) ⟨(setV (setV (setV (setV (setV (setV (setV (setV (setV (setV (setV (setV (setV (setV (setV (setV (setV (setV (setV (setV (setV (setV (setV (setV (setV (setV (setV (setV (setV (setV (setV (setV (setV (setV (setV (mkEnv [a0, a1]) 3 (.ptr (Heap.next h) 0)) 4 (.bool false)) 6 q) 7 r) 8 s) 9 m) 10 m) 10 (.bool false)) 11 t) 10 (.bool false)) 12 u) 10 (.bool false)) 13 a) 14 a) 15 a) 15 (.bool false)) 16 f) 15 (.bool false)) 17 g) 15 (.bool false)) 18 b) 19 b) 20 b) 20 (.bool false)) 21 a0) 20 (.bool false)) 22 i) 20 (.bool false)) 23 j) 20 (.bool false)) 24 k) 20 (.bool false)) 25 d) 26 d) 5 (.int .i64 0)), 72, [], l⟩ (F.ref01_rel.L0k K))) (fun n o => K (.panic n) o)))))) (fun v w => K (.panic v) w))) := by kernel_rfl
theorem F.ref01_rel_sem (hh : EV (codeOf Tryz.f115) ⟨mkEnv [a0, a1], 72, [], h⟩ (RL Tryz.f115 K) = true) : Sem TP 115 [a0, a1] h K :=
  SB Tryz.func115 rfl (by decide) (by kernel_rfl) hh
noncomputable def F.ref01_Less.L0 := partOf (codeOf Tryz.f156) [1, 0, 1, 0, 0]
noncomputable def F.ref01_Less.L0k (K : Out → Heap → Bool) := (blockK 0 (seqK false (EV (partOf (codeOf Tryz.f156) [1, 1])) (RL Tryz.f156 K)))
theorem F.ref01_Less.L0_eq : EV F.ref01_Less.L0 ⟨e, 30, [], h⟩ J = (
bindO (lenS .slice (e 0) h) fun d =>
bindO (binS .lss (e 5) d) fun f =>
let Q1 := (setV (setV (setV (setV e 6 (e 5)) 7 (e 0)) 8 d) 9 f); condB f (
bindO (iaS 1 (e 0) (e 5)) fun g =>
bindO (loadS none g h) fun i =>
bindO (iaS 1 (e 1) (e 5)) fun j =>
bindO (loadS none j h) fun k =>
bindO (neV (.int .i64) i k) fun l =>
let Q2 := (setV (setV (setV (setV (setV (setV (setV (setV (setV Q1 12 (e 0)) 13 (e 5)) 14 g) 15 i) 16 (e 1)) 17 (e 5)) 18 j) 19 k) 20 l); condB l (
bindO (iaS 1 (e 0) (e 5)) fun m =>
bindO (loadS none m h) fun n =>
bindO (iaS 1 (e 1) (e 5)) fun o =>
bindO (loadS none o h) fun a =>
bindO (binS .lss n a) fun b =>
J .ret ⟨(setV (setV (setV (setV (setV (setV (setV (setV (setV (setV Q2 21 (e 0)) 22 (e 5)) 23 m) 24 n) 25 (e 1)) 26 (e 5)) 27 o) 28 a) 29 b) 4 b), 30, [], h⟩) (
bindO (binS .add (e 5) (.int .i64 1)) fun c =>
J .normal ⟨(setV (setV (setV Q2 10 (e 5)) 11 c) 5 c), 30, [], h⟩)) (
J (.exit 0) ⟨Q1, 30, [], h⟩)) := by kernel_rfl
theorem F.ref01_Less.L0_x0_eq : F.ref01_Less.L0k K (.exit 0) ⟨e, 30, [], h⟩ = (
K (.ret (.bool false)) h) := by kernel_rfl
theorem F.ref01_Less.L0_r_eq : F.ref01_Less.L0k K .ret ⟨e, 30, [], h⟩ = (
K (.ret (e 4)) h) := by kernel_rfl
theorem F.ref01_Less_eq : EV (codeOf Tryz.f156) ⟨mkEnv [a0, a1], 30, [], h⟩ (RL Tryz.f156 K) = (
loopB (EV F.ref01_Less.L0) ⟨(setV (setV (mkEnv [a0, a1]) 4 (.bool false)) 5 (.int .i64 0)), 30, [], h⟩ (F.ref01_Less.L0k K)) := by kernel_rfl
theorem F.ref01_Less_sem (hh : EV (codeOf Tryz.f156) ⟨mkEnv [a0, a1], 30, [], h⟩ (RL Tryz.f156 K) = true) : Sem TP 156 [a0, a1] h K :=
  SB Tryz.func156 rfl (by decide) (by kernel_rfl) hh
noncomputable def F.shape_power.L0 := partOf (codeOf Tryz.f108) [1, 1, 0, 1, 0, 0]
noncomputable def F.shape_power.L0k (K : Out → Heap → Bool) := (blockK 0 (seqK false (EV (partOf (codeOf Tryz.f108) [1, 1, 1])) (RL Tryz.f108 K)))
theorem F.shape_power.L0_eq : EV F.shape_power.L0 ⟨e, 19, [], h⟩ J = (
bindO (binS .lss (e 9) (e 8)) fun b =>
condB b (
bindO (binS .mul (e 7) (e 0)) fun a =>
bindO (binS .gtr a (e 2)) fun c =>
let Q1 := (setV (setV (setV (setV (setV (setV (setV (setV e 10 b) 11 (e 7)) 12 (e 0)) 13 a) 7 a) 14 a) 15 (e 2)) 16 c); condB c (
J .ret ⟨(setV Q1 6 (.int .i64 (-1))), 19, [], h⟩) (
bindO (binS .add (e 9) (.int .i64 1)) fun d =>
J .normal ⟨(setV (setV Q1 17 d) 9 d), 19, [], h⟩)) (
J (.exit 0) ⟨(setV e 10 b), 19, [], h⟩)) := by kernel_rfl
theorem F.shape_power.L0_x0_eq : F.shape_power.L0k K (.exit 0) ⟨e, 19, [], h⟩ = (
K (.ret (e 7)) h) := by kernel_rfl
theorem F.shape_power.L0_r_eq : F.shape_power.L0k K .ret ⟨e, 19, [], h⟩ = (
K (.ret (e 6)) h) := by kernel_rfl
theorem F.shape_power_eq : EV (codeOf Tryz.f108) ⟨mkEnv [a0, a1, a2], 19, [], h⟩ (RL Tryz.f108 K) = (
loopB (EV F.shape_power.L0) ⟨(setV (setV (setV (setV (mkEnv [a0, a1, a2]) 6 (.int .i64 0)) 7 (.int .i64 1)) 8 a1) 9 (.int .i64 0)), 19, [], h⟩ (F.shape_power.L0k K)) := by kernel_rfl
theorem F.shape_power_sem (hh : EV (codeOf Tryz.f108) ⟨mkEnv [a0, a1, a2], 19, [], h⟩ (RL Tryz.f108 K) = true) : Sem TP 108 [a0, a1, a2] h K :=
  SB Tryz.func108 rfl (by decide) (by kernel_rfl) hh
noncomputable def F.shape_tuples.L0 := partOf (codeOf Tryz.f109) [1, 0, 1, 0, 0]
noncomputable def F.shape_tuples.L0k (K : Out → Heap → Bool) := (blockK 0 (seqK false (EV (partOf (codeOf Tryz.f109) [1, 1])) (RL Tryz.f109 K)))
theorem F.shape_tuples.L0_eq : EV F.shape_tuples.L0 ⟨e, 42, [], h⟩ J = (
bindO (binS .lss (e 10) (e 9)) fun w =>
let Q1 := (setV e 11 w); condB w (
bindO (iaS 1 (e 8) (e 10)) fun x =>
bindO (loadS none x h) fun b =>
bindO (lenS .slice b h) fun y =>
bindO (faS 1 (e 3)) fun z =>
bindO (loadS none z h) fun A =>
bindO (neV (.int .i64) y A) fun f =>
let Q2 := (setV (setV (setV (setV (setV (setV (setV (setV (setV (setV (setV Q1 12 (e 10)) 13 x) 14 b) 5 (e 10)) 6 b) 15 b) 16 y) 17 z) 18 A) 19 f) 20 f); condB f (
J .ret ⟨(setV (setV (setV (setV (setV (setV (setV (setV (setV (setV (setV (setV (setV (setV (setV (setV (setV (setV (setV (setV (setV (setV (setV (setV (setV (setV (setV (setV (setV Q2 20 (.bool true)) 21 noV) 20 (.bool true)) 22 noV) 20 (.bool true)) 23 noV) 20 (.bool true)) 24 noV) 25 (.bool true)) 26 (.bool true)) 26 (.bool true)) 27 noV) 26 (.bool true)) 28 noV) 26 (.bool true)) 29 noV) 30 noV) 31 noV) 32 noV) 33 noV) 34 noV) 35 noV) 36 noV) 37 noV) 38 noV) 26 (.bool true)) 39 noV) 40 (.bool true)) 4 (.bool false)), 42, [], h⟩) (
semCall TP 52 [(e 0), b] h (outK (fun n a =>
bindO (unS .not n) fun c =>
let Q3 := (setV (setV (setV (setV (setV (setV (setV (setV (setV (setV Q2 20 (.bool false)) 21 (e 0)) 20 (.bool false)) 22 b) 20 (.bool false)) 23 n) 20 (.bool false)) 24 c) 25 c) 26 c); condB c (
J .ret ⟨(setV (setV (setV (setV (setV (setV (setV (setV (setV (setV (setV (setV (setV (setV (setV (setV (setV (setV (setV Q3 26 (.bool true)) 27 noV) 26 (.bool true)) 28 noV) 26 (.bool true)) 29 noV) 30 noV) 31 noV) 32 noV) 33 noV) 34 noV) 35 noV) 36 noV) 37 noV) 38 noV) 26 (.bool true)) 39 noV) 40 (.bool true)) 4 (.bool false)), 42, [], a⟩) (
bindO (binS .gtr (e 10) (.int .i64 0)) fun g =>
let Q4 := (setV (setV (setV (setV (setV (setV Q3 26 (.bool false)) 27 (e 10)) 26 (.bool false)) 28 g) 26 (.bool false)) 29 g); condB g (
bindO (faS 2 (e 3)) fun i =>
bindO (loadS none i a) fun j =>
bindO (binS .sub (e 10) (.int .i64 1)) fun k =>
bindO (iaS 1 j k) fun l =>
bindO (loadS none l a) fun m =>
semCall TP 55 [m, b] a (outK (fun o p =>
bindO (binS .geq o (.int .i64 0)) fun d =>
let Q5 := (setV (setV (setV (setV (setV (setV (setV (setV (setV (setV (setV (setV (setV (setV (setV (setV (setV (setV (setV (setV (setV Q4 29 (.bool true)) 30 i) 29 (.bool true)) 31 j) 29 (.bool true)) 32 (e 10)) 29 (.bool true)) 33 k) 29 (.bool true)) 34 l) 29 (.bool true)) 35 m) 29 (.bool true)) 36 b) 29 (.bool true)) 37 o) 29 (.bool true)) 38 d) 26 (.bool false)) 39 d) 40 d); condB d (
J .ret ⟨(setV Q5 4 (.bool false)), 42, [], p⟩) (
bindO (binS .add (e 10) (.int .i64 1)) fun q =>
J .normal ⟨(setV (setV Q5 41 q) 10 q), 42, [], p⟩)) (fun s t => J (.panic s) ⟨(setV (setV (setV (setV (setV (setV (setV (setV (setV (setV (setV (setV (setV (setV (setV Q4 29 (.bool true)) 30 i) 29 (.bool true)) 31 j) 29 (.bool true)) 32 (e 10)) 29 (.bool true)) 33 k) 29 (.bool true)) 34 l) 29 (.bool true)) 35 m) 29 (.bool true)) 36 b) 29 (.bool true)), 42, [], t⟩))) (
bindO (binS .add (e 10) (.int .i64 1)) fun r =>
J .normal ⟨(setV (setV (setV (setV (setV (setV (setV (setV (setV (setV (setV (setV (setV (setV (setV (setV (setV (setV (setV (setV (setV (setV (setV Q4 29 (.bool false)) 30 noV) 29 (.bool false)) 31 noV) 29 (.bool false)) 32 noV) 29 (.bool false)) 33 noV) 29 (.bool false)) 34 noV) 29 (.bool false)) 35 noV) 29 (.bool false)) 36 noV) 29 (.bool false)) 37 noV) 29 (.bool false)) 38 noV) 26 (.bool false)) 39 (.bool false)) 40 (.bool false)) 41 r) 10 r), 42, [], a⟩))) (fun u v => J (.panic u) ⟨(setV (setV (setV (setV (setV Q2 20 (.bool false)) 21 (e 0)) 20 (.bool false)) 22 b) 20 (.bool false)), 42, [], v⟩)))) (
J (.exit 0) ⟨Q1, 42, [], h⟩)) := by kernel_rfl
theorem F.shape_tuples.L0_x0_eq : F.shape_tuples.L0k K (.exit 0) ⟨e, 42, [], h⟩ = (
K (.ret (.bool true)) h) := by kernel_rfl
theorem F.shape_tuples.L0_r_eq : F.shape_tuples.L0k K .ret ⟨e, 42, [], h⟩ = (
K (.ret (e 4)) h) := by kernel_rfl
theorem F.shape_tuples_eq : EV (codeOf Tryz.f109) ⟨mkEnv [a0, a1], 42, [], h⟩ (RL Tryz.f109 K) = (
bindO (boxS a1) fun a =>
bindO (faS 2 (.ptr (Heap.next h) 0)) fun b =>
bindO (loadS none b (Heap.alloc h (.cells a))) fun c =>
bindO (lenS .slice c (Heap.alloc h (.cells a))) fun d =>
loopB (EV F.shape_tuples.L0) ⟨(setV (setV (setV (setV (setV (setV (mkEnv [a0, a1]) 3 (.ptr (Heap.next h) 0)) 4 (.bool false)) 7 b) 8 c) 9 d) 10 (.int .i64 0)), 42, [], (Heap.alloc h (.cells a))⟩ (F.shape_tuples.L0k K)) := by kernel_rfl
theorem F.shape_tuples_sem (hh : EV (codeOf Tryz.f109) ⟨mkEnv [a0, a1], 42, [], h⟩ (RL Tryz.f109 K) = true) : Sem TP 109 [a0, a1] h K :=
  SB Tryz.func109 rfl (by decide) (by kernel_rfl) hh
theorem F.slices_ContainsFunc_S_api_Rel_api_Rel_eq : EV (codeOf Tryz.f110) ⟨mkEnv [a0, a1], 9, [], h⟩ (RL Tryz.f110 K) = (
semCall TP 76 [a0, a1] h (outK (fun a b =>
bindO (binS .geq a (.int .i64 0)) fun c =>
K (.ret c) b) (fun d f => K (.panic d) f))) := by kernel_rfl
theorem F.slices_ContainsFunc_S_api_Rel_api_Rel_sem (hh : EV (codeOf Tryz.f110) ⟨mkEnv [a0, a1], 9, [], h⟩ (RL Tryz.f110 K) = true) : Sem TP 110 [a0, a1] h K :=
  SB Tryz.func110 rfl (by decide) (by kernel_rfl) hh
theorem F.shape_Valid_1_eq : EV (codeOf Tryz.f111) ⟨mkEnv [a0, a1], 9, [], h⟩ (RL Tryz.f111 K) = (
bindO (boxS a0) fun a =>
bindO (faS 0 (.ptr (Heap.next h) 0)) fun b =>
bindO (loadS none b (Heap.alloc h (.cells a))) fun c =>
bindO (faS 0 a1) fun d =>
bindO (loadS none d (Heap.alloc h (.cells a))) fun f =>
bindO (eqV .string c f) fun g =>
K (.ret g) (Heap.alloc h (.cells a))) := by kernel_rfl
theorem F.shape_Valid_1_sem (hh : EV (codeOf Tryz.f111) ⟨mkEnv [a0, a1], 9, [], h⟩ (RL Tryz.f111 K) = true) : Sem TP 111 [a0, a1] h K :=
  SB Tryz.func111 rfl (by decide) (by kernel_rfl) hh
noncomputable def F.slices_IndexFunc_S_api_Rel_api_Rel.L0 := partOf (codeOf Tryz.f76) [1, 0, 1, 0, 0]
noncomputable def F.slices_IndexFunc_S_api_Rel_api_Rel.L0k (K : Out → Heap → Bool) := (blockK 0 (seqK false (EV (partOf (codeOf Tryz.f76) [1, 1])) (RL Tryz.f76 K)))
theorem F.slices_IndexFunc_S_api_Rel_api_Rel.L0_eq : EV F.slices_IndexFunc_S_api_Rel_api_Rel.L0 ⟨e, 19, [], h⟩ J = (
bindO (binS .lss (e 8) (e 7)) fun c =>
let Q1 := (setV e 9 c); condB c (
bindO (iaS 3 (e 0) (e 8)) fun a =>
bindO (loadS (some 3) a h) fun b =>
callV (e 1) fun f9 a10 a11 => semCall TP f9 (a10 ++ ([b] ++ a11)) h (outK (fun d f =>
let Q2 := (setV (setV (setV (setV (setV (setV (setV (setV Q1 10 (e 8)) 5 (e 8)) 11 (e 1)) 12 (e 0)) 13 (e 8)) 14 a) 15 b) 16 d); condB d (
J .ret ⟨(setV (setV Q2 17 (e 8)) 4 (e 8)), 19, [], f⟩) (
bindO (binS .add (e 8) (.int .i64 1)) fun g =>
J .normal ⟨(setV (setV Q2 18 g) 8 g), 19, [], f⟩)) (fun i j => J (.panic i) ⟨(setV (setV (setV (setV (setV (setV (setV Q1 10 (e 8)) 5 (e 8)) 11 (e 1)) 12 (e 0)) 13 (e 8)) 14 a) 15 b), 19, [], j⟩))) (
J (.exit 0) ⟨Q1, 19, [], h⟩)) := by kernel_rfl
theorem F.slices_IndexFunc_S_api_Rel_api_Rel.L0_x0_eq : F.slices_IndexFunc_S_api_Rel_api_Rel.L0k K (.exit 0) ⟨e, 19, [], h⟩ = (
K (.ret (.int .i64 (-1))) h) := by kernel_rfl
theorem F.slices_IndexFunc_S_api_Rel_api_Rel.L0_r_eq : F.slices_IndexFunc_S_api_Rel_api_Rel.L0k K .ret ⟨e, 19, [], h⟩ = (
K (.ret (e 4)) h) := by kernel_rfl
theorem F.slices_IndexFunc_S_api_Rel_api_Rel_eq : EV (codeOf Tryz.f76) ⟨mkEnv [a0, a1], 19, [], h⟩ (RL Tryz.f76 K) = (
bindO (lenS .slice a0 h) fun a =>
loopB (EV F.slices_IndexFunc_S_api_Rel_api_Rel.L0) ⟨(setV (setV (setV (setV (mkEnv [a0, a1]) 4 (.int .i64 0)) 6 a0) 7 a) 8 (.int .i64 0)), 19, [], h⟩ (F.slices_IndexFunc_S_api_Rel_api_Rel.L0k K)) := by kernel_rfl
theorem F.slices_IndexFunc_S_api_Rel_api_Rel_sem (hh : EV (codeOf Tryz.f76) ⟨mkEnv [a0, a1], 19, [], h⟩ (RL Tryz.f76 K) = true) : Sem TP 76 [a0, a1] h K :=
  SB Tryz.func76 rfl (by decide) (by kernel_rfl) hh
theorem F.cmp_Compare_int_eq : EV (codeOf Tryz.f95) ⟨mkEnv [a0, a1], 20, [], h⟩ (RL Tryz.f95 K) = (
semCall TP 136 [a0] h (outK (fun c d =>
semCall TP 136 [a1] d (outK (fun b a =>
condB c (
condB b (
K (.ret (.int .i64 0)) a) (
K (.ret (.int .i64 (-1))) a)) (
condB b (
K (.ret (.int .i64 1)) a) (
bindO (binS .lss a0 a1) fun f =>
condB f (
K (.ret (.int .i64 (-1))) a) (
bindO (binS .gtr a0 a1) fun g =>
condB g (
K (.ret (.int .i64 1)) a) (
K (.ret (.int .i64 0)) a))))) (fun i j => K (.panic i) j))) (fun k l => K (.panic k) l))) := by kernel_rfl
theorem F.cmp_Compare_int_sem (hh : EV (codeOf Tryz.f95) ⟨mkEnv [a0, a1], 20, [], h⟩ (RL Tryz.f95 K) = true) : Sem TP 95 [a0, a1] h K :=
  SB Tryz.func95 rfl (by decide) (by kernel_rfl) hh
theorem F.shape_elements_1_eq : EV (codeOf Tryz.f93) ⟨mkEnv [a0, a1], 11, [], h⟩ (RL Tryz.f93 K) = (
bindO (binS .lss a0 (.int .i64 0)) fun a =>
condB a (
K (.ret (.bool true)) h) (
bindO (loadS none a1 h) fun b =>
bindO (binS .geq a0 b) fun c =>
K (.ret c) h)) := by kernel_rfl
theorem F.shape_elements_1_sem (hh : EV (codeOf Tryz.f93) ⟨mkEnv [a0, a1], 11, [], h⟩ (RL Tryz.f93 K) = true) : Sem TP 93 [a0, a1] h K :=
  SB Tryz.func93 rfl (by decide) (by kernel_rfl) hh
theorem F.cmp_isNaN_int_eq : EV (codeOf Tryz.f136) ⟨mkEnv [a0], 6, [], h⟩ (RL Tryz.f136 K) = (
bindO (neV (.int .i64) a0 a0) fun a =>
K (.ret a) h) := by kernel_rfl
theorem F.cmp_isNaN_int_sem (hh : EV (codeOf Tryz.f136) ⟨mkEnv [a0], 6, [], h⟩ (RL Tryz.f136 K) = true) : Sem TP 136 [a0] h K :=
  SB Tryz.func136 rfl (by decide) (by kernel_rfl) hh
noncomputable def F.ref01_In.L0 := partOf (codeOf Tryz.f125) [1, 0, 1, 0, 0]
noncomputable def F.ref01_In.L0k (K : Out → Heap → Bool) := (blockK 0 (seqK false (EV (partOf (codeOf Tryz.f125) [1, 1])) (RL Tryz.f125 K)))
theorem F.ref01_In.L0_eq : EV F.ref01_In.L0 ⟨e, 25, [], h⟩ J = (
bindO (lenS .slice (e 1) h) fun c =>
bindO (binS .lss (e 5) c) fun d =>
let Q1 := (setV (setV (setV (setV e 6 (e 5)) 7 (e 1)) 8 c) 9 d); condB d (
bindO (iaS 1 (e 1) (e 5)) fun f =>
bindO (loadS none f h) fun g =>
bindO (binS .lss g (.int .i64 0)) fun a =>
let Q2 := (setV (setV (setV (setV (setV (setV Q1 12 (e 1)) 13 (e 5)) 14 f) 15 g) 16 a) 17 a); condB a (
J .ret ⟨(setV (setV (setV (setV (setV (setV (setV (setV (setV (setV (setV (setV (setV (setV Q2 17 (.bool true)) 18 noV) 17 (.bool true)) 19 noV) 17 (.bool true)) 20 noV) 17 (.bool true)) 21 noV) 17 (.bool true)) 22 noV) 17 (.bool true)) 23 noV) 24 (.bool true)) 4 (.bool false)), 25, [], h⟩) (
bindO (iaS 1 (e 1) (e 5)) fun i =>
bindO (loadS none i h) fun j =>
bindO (binS .geq j (e 0)) fun b =>
let Q3 := (setV (setV (setV (setV (setV (setV (setV (setV (setV (setV (setV (setV (setV Q2 17 (.bool false)) 18 (e 1)) 17 (.bool false)) 19 (e 5)) 17 (.bool false)) 20 i) 17 (.bool false)) 21 j) 17 (.bool false)) 22 (e 0)) 17 (.bool false)) 23 b) 24 b); condB b (
J .ret ⟨(setV Q3 4 (.bool false)), 25, [], h⟩) (
bindO (binS .add (e 5) (.int .i64 1)) fun k =>
J .normal ⟨(setV (setV (setV Q3 10 (e 5)) 11 k) 5 k), 25, [], h⟩))) (
J (.exit 0) ⟨Q1, 25, [], h⟩)) := by kernel_rfl
theorem F.ref01_In.L0_x0_eq : F.ref01_In.L0k K (.exit 0) ⟨e, 25, [], h⟩ = (
K (.ret (.bool true)) h) := by kernel_rfl
theorem F.ref01_In.L0_r_eq : F.ref01_In.L0k K .ret ⟨e, 25, [], h⟩ = (
K (.ret (e 4)) h) := by kernel_rfl
theorem F.ref01_In_eq : EV (codeOf Tryz.f125) ⟨mkEnv [a0, a1], 25, [], h⟩ (RL Tryz.f125 K) = (
loopB (EV F.ref01_In.L0) ⟨(setV (setV (mkEnv [a0, a1]) 4 (.bool false)) 5 (.int .i64 0)), 25, [], h⟩ (F.ref01_In.L0k K)) := by kernel_rfl
theorem F.ref01_In_sem (hh : EV (codeOf Tryz.f125) ⟨mkEnv [a0, a1], 25, [], h⟩ (RL Tryz.f125 K) = true) : Sem TP 125 [a0, a1] h K :=
  SB Tryz.func125 rfl (by decide) (by kernel_rfl) hh
noncomputable def F.slices_IndexFunc_S_int_int.L0 := partOf (codeOf Tryz.f91) [1, 0, 1, 0, 0]
noncomputable def F.slices_IndexFunc_S_int_int.L0k (K : Out → Heap → Bool) := (blockK 0 (seqK false (EV (partOf (codeOf Tryz.f91) [1, 1])) (RL Tryz.f91 K)))
theorem F.slices_IndexFunc_S_int_int.L0_eq : EV F.slices_IndexFunc_S_int_int.L0 ⟨e, 19, [], h⟩ J = (
bindO (binS .lss (e 8) (e 7)) fun c =>
let Q1 := (setV e 9 c); condB c (
bindO (iaS 1 (e 0) (e 8)) fun a =>
bindO (loadS none a h) fun b =>
callV (e 1) fun f9 a10 a11 => semCall TP f9 (a10 ++ ([b] ++ a11)) h (outK (fun d f =>
let Q2 := (setV (setV (setV (setV (setV (setV (setV (setV Q1 10 (e 8)) 5 (e 8)) 11 (e 1)) 12 (e 0)) 13 (e 8)) 14 a) 15 b) 16 d); condB d (
J .ret ⟨(setV (setV Q2 17 (e 8)) 4 (e 8)), 19, [], f⟩) (
bindO (binS .add (e 8) (.int .i64 1)) fun g =>
J .normal ⟨(setV (setV Q2 18 g) 8 g), 19, [], f⟩)) (fun i j => J (.panic i) ⟨(setV (setV (setV (setV (setV (setV (setV Q1 10 (e 8)) 5 (e 8)) 11 (e 1)) 12 (e 0)) 13 (e 8)) 14 a) 15 b), 19, [], j⟩))) (
J (.exit 0) ⟨Q1, 19, [], h⟩)) := by kernel_rfl
theorem F.slices_IndexFunc_S_int_int.L0_x0_eq : F.slices_IndexFunc_S_int_int.L0k K (.exit 0) ⟨e, 19, [], h⟩ = (
K (.ret (.int .i64 (-1))) h) := by kernel_rfl
theorem F.slices_IndexFunc_S_int_int.L0_r_eq : F.slices_IndexFunc_S_int_int.L0k K .ret ⟨e, 19, [], h⟩ = (
K (.ret (e 4)) h) := by kernel_rfl
theorem F.slices_IndexFunc_S_int_int_eq : EV (codeOf Tryz.f91) ⟨mkEnv [a0, a1], 19, [], h⟩ (RL Tryz.f91 K) = (
bindO (lenS .slice a0 h) fun a =>
loopB (EV F.slices_IndexFunc_S_int_int.L0) ⟨(setV (setV (setV (setV (mkEnv [a0, a1]) 4 (.int .i64 0)) 6 a0) 7 a) 8 (.int .i64 0)), 19, [], h⟩ (F.slices_IndexFunc_S_int_int.L0k K)) := by kernel_rfl
theorem F.slices_IndexFunc_S_int_int_sem (hh : EV (codeOf Tryz.f91) ⟨mkEnv [a0, a1], 19, [], h⟩ (RL Tryz.f91 K) = true) : Sem TP 91 [a0, a1] h K :=
  SB Tryz.func91 rfl (by decide) (by kernel_rfl) hh
theorem F.slices_ContainsFunc_S_int_int_eq : EV (codeOf Tryz.f47) ⟨mkEnv [a0, a1], 9, [], h⟩ (RL Tryz.f47 K) = (
semCall TP 91 [a0, a1] h (outK (fun a b =>
bindO (binS .geq a (.int .i64 0)) fun c =>
K (.ret c) b) (fun d f => K (.panic d) f))) := by kernel_rfl
theorem F.slices_ContainsFunc_S_int_int_sem (hh : EV (codeOf Tryz.f47) ⟨mkEnv [a0, a1], 9, [], h⟩ (RL Tryz.f47 K) = true) : Sem TP 47 [a0, a1] h K :=
  SB Tryz.func47 rfl (by decide) (by kernel_rfl) hh
noncomputable def F.ref01_Tuples.L0 := partOf (codeOf Tryz.f32) [1, 1, 0, 1, 0, 0]
noncomputable def F.ref01_Tuples.L0k (K : Out → Heap → Bool) := (blockK 0 (seqK false (EV (partOf (codeOf Tryz.f32) [1, 1, 1])) (RL Tryz.f32 K)))
noncomputable def F.ref01_Tuples.L1 := partOf (codeOf Tryz.f32) [1, 1, 0, 1, 0, 0, 1, 0, 0, 1, 0, 1, 0, 0]
noncomputable def F.ref01_Tuples.L1k (J : AX → St → Bool) := (blockK 2 (seqK false (EV (partOf (codeOf Tryz.f32) [1, 1, 0, 1, 0, 0, 1, 0, 0, 1, 1])) (blockK 1 (seqK false (EV (partOf (codeOf Tryz.f32) [1, 1, 0, 1, 0, 0, 1, 1])) J))))
noncomputable def F.ref01_Tuples.L2 := partOf (codeOf Tryz.f32) [1, 1, 0, 1, 0, 0, 1, 0, 0, 1, 0, 1, 0, 0, 1, 0, 0, 1, 0, 0]
noncomputable def F.ref01_Tuples.L2k (J : AX → St → Bool) := (blockK 4 (blockK 3 (seqK false (EV (partOf (codeOf Tryz.f32) [1, 1, 0, 1, 0, 0, 1, 0, 0, 1, 0, 1, 0, 0, 1, 1])) J)))
theorem F.ref01_Tuples.L0_eq : EV F.ref01_Tuples.L0 ⟨e, 42, [], h⟩ J = (
bindO (binS .lss (e 6) (e 1)) fun a =>
let Q1 := (setV (setV (setV e 12 (e 6)) 13 (e 1)) 14 a); condB a (
loopB (EV F.ref01_Tuples.L1) ⟨(setV (setV Q1 7 .nils) 8 (.int .i64 0)), 42, [], h⟩ (F.ref01_Tuples.L1k J)) (
J (.exit 0) ⟨Q1, 42, [], h⟩)) := by kernel_rfl
theorem F.ref01_Tuples.L0_x0_eq : F.ref01_Tuples.L0k K (.exit 0) ⟨e, 42, [], h⟩ = (
K (.ret (e 5)) h) := by kernel_rfl
theorem F.ref01_Tuples.L1_eq : EV F.ref01_Tuples.L1 ⟨e, 42, [], h⟩ J = (
bindO (lenS .slice (e 5) h) fun a =>
bindO (binS .lss (e 8) a) fun b =>
let Q1 := (setV (setV (setV (setV e 17 (e 8)) 18 (e 5)) 19 a) 20 b); condB b (
loopB (EV F.ref01_Tuples.L2) ⟨(setV Q1 9 (.int .i64 0)), 42, [], h⟩ (F.ref01_Tuples.L2k J)) (
J (.exit 2) ⟨Q1, 42, [], h⟩)) := by kernel_rfl
theorem F.ref01_Tuples.L1_x2_eq : F.ref01_Tuples.L1k J (.exit 2) ⟨e, 42, [], h⟩ = (
bindO (binS .add (e 6) (.int .i64 1)) fun a =>
J .normal ⟨(setV (setV (setV (setV (setV e 40 (e 7)) 5 (e 7)) 15 (e 6)) 16 a) 6 a), 42, [], h⟩) := by kernel_rfl
theorem F.ref01_Tuples.L2_eq : EV F.ref01_Tuples.L2 ⟨e, 42, [], h⟩ J = (
bindO (binS .lss (e 9) (e 0)) fun l =>
let Q1 := (setV (setV (setV e 23 (e 9)) 24 (e 0)) 25 l); condB l (
bindO (rowS [] [] []) fun m =>
bindO (iaS 1 (e 5) (e 8)) fun n =>
bindO (loadS none n (Heap.alloc h (.cells m))) fun o =>
bindO2 (appendS 1 8 (.slice (Heap.next h) 0 0 1) o (Heap.alloc h (.cells m))) fun c a =>
bindO (rowS [(.int .i64 0)] [(0, 1)] [(e 9)]) fun i =>
bindO2 (appendS 1 8 c (.slice (Heap.next a) 0 1 1) (Heap.alloc a (.cells i))) fun d b =>
bindO (rowS [.nils] [(0, 1)] [d]) fun j =>
bindO2 (appendS 1 24 (e 7) (.slice (Heap.next b) 0 1 1) (Heap.alloc b (.cells j))) fun f k =>
bindO (binS .add (e 9) (.int .i64 1)) fun g =>
J .normal ⟨(setV (setV (setV (setV (setV (setV (setV (setV (setV (setV (setV (setV (setV (setV (setV (setV Q1 28 (e 7)) 29 (.slice (Heap.next h) 0 0 1)) 30 (e 5)) 31 (e 8)) 32 n) 33 o) 34 c) 35 (e 9)) 36 (.slice (Heap.next a) 0 1 1)) 37 d) 38 (.slice (Heap.next b) 0 1 1)) 39 f) 7 f) 26 (e 9)) 27 g) 9 g), 42, [], k⟩) (
J (.exit 4) ⟨Q1, 42, [], h⟩)) := by kernel_rfl
theorem F.ref01_Tuples.L2_x4_eq : F.ref01_Tuples.L2k J (.exit 4) ⟨e, 42, [], h⟩ = (
bindO (binS .add (e 8) (.int .i64 1)) fun a =>
J .normal ⟨(setV (setV (setV e 21 (e 8)) 22 a) 8 a), 42, [], h⟩) := by kernel_rfl
theorem F.ref01_Tuples_eq : EV (codeOf Tryz.f32) ⟨mkEnv [a0, a1], 42, [], h⟩ (RL Tryz.f32 K) = (
bindO (rowS [] [] []) fun a =>
bindO (rowS [.nils] [(0, 1)] [(.slice (Heap.next h) 0 0 1)]) fun b =>
loopB (EV F.ref01_Tuples.L0) ⟨(setV (setV (setV (setV (setV (mkEnv [a0, a1]) 4 .nils) 10 (.slice (Heap.next h) 0 0 1)) 11 (.slice (Heap.next (Heap.alloc h (.cells a))) 0 1 1)) 5 (.slice (Heap.next (Heap.alloc h (.cells a))) 0 1 1)) 6 (.int .i64 0)), 42, [], (Heap.alloc (Heap.alloc h (.cells a)) (.cells b))⟩ (F.ref01_Tuples.L0k K)) := by kernel_rfl
theorem F.ref01_Tuples_sem (hh : EV (codeOf Tryz.f32) ⟨mkEnv [a0, a1], 42, [], h⟩ (RL Tryz.f32 K) = true) : Sem TP 32 [a0, a1] h K :=
  SB Tryz.func32 rfl (by decide) (by kernel_rfl) hh
noncomputable def F.ref01_Copy.L0 := partOf (codeOf Tryz.f25) [1, 1, 0, 1, 0, 0]
noncomputable def F.ref01_Copy.L0k (K : Out → Heap → Bool) := (blockK 0 (seqK false (EV (partOf (codeOf Tryz.f25) [1, 1, 1])) (RL Tryz.f25 K)))
theorem F.ref01_Copy.L0_eq : EV F.ref01_Copy.L0 ⟨e, 41, [], h⟩ J = (
bindO (faS 1 (e 1)) fun L =>
bindO (loadS none L h) fun M =>
bindO (lenS .slice M h) fun N =>
bindO (binS .lss (e 4) N) fun O =>
let Q1 := (setV (setV (setV (setV (setV e 8 (e 4)) 9 L) 10 M) 11 N) 12 O); condB O (
bindO (faS 1 (e 3)) fun y =>
bindO (loadS none y h) fun b =>
bindO (faS 1 (e 1)) fun c =>
bindO (loadS none c h) fun d =>
bindO (iaS 3 d (e 4)) fun m =>
bindO (faS 0 m) fun f =>
bindO (loadS none f h) fun g =>
bindO (faS 1 (e 1)) fun i =>
bindO (loadS none i h) fun j =>
bindO (iaS 3 j (e 4)) fun n =>
bindO (faS 1 n) fun k =>
bindO (loadS none k h) fun l =>
bindO (faS 1 (e 1)) fun o =>
bindO (loadS none o h) fun p =>
bindO (iaS 3 p (e 4)) fun q =>
bindO (faS 2 q) fun r =>
bindO (loadS none r h) fun s =>
semCall TP 72 [s] h (outK (fun t a =>
if ((bindO (loadS none k a) fun z =>
AV.beq z l) && ((bindO (loadS none i a) fun A =>
AV.beq A j) && ((bindO (loadS none f a) fun B =>
AV.beq B g) && ((bindO (loadS none c a) fun C =>
AV.beq C d) && ((bindO (loadS none y a) fun D =>
AV.beq D b) && true))))) = true then (
bindO (aggS [(.str []), (.int .i64 0), .nils] [(0, 1), (1, 1), (2, 1)] [g, l, t]) fun u =>
bindO (rowS [(.str []), (.int .i64 0), .nils] [(0, 3)] [u]) fun E =>
bindO2 (appendS 3 48 b (.slice (Heap.next a) 0 1 3) (Heap.alloc a (.cells E))) fun v G =>
bindO (faS 1 (e 3)) fun w =>
bindO (storeS 1 w v G) fun I =>
bindO (binS .add (e 4) (.int .i64 1)) fun x =>
J .normal ⟨(setV (setV (setV (setV (setV (setV (setV (setV (setV (setV (setV (setV (setV (setV (setV (setV (setV (setV (setV (setV (setV (setV (setV (setV (setV (setV (setV (setV Q1 15 y) 16 b) 17 c) 18 d) 19 (e 4)) 20 m) 21 f) 22 g) 23 i) 24 j) 25 (e 4)) 26 n) 27 k) 28 l) 29 o) 30 p) 31 (e 4)) 32 q) 33 r) 34 s) 35 t) 36 u) 37 (.slice (Heap.next a) 0 1 3)) 38 v) 39 w) 13 (e 4)) 14 x) 4 x), 41, [], I⟩) else false) (fun _ _ => false))) (
J (.exit 0) ⟨Q1, 41, [], h⟩)) := by kernel_rfl
theorem F.ref01_Copy.L0_x0_eq : F.ref01_Copy.L0k K (.exit 0) ⟨e, 41, [], h⟩ = (
bindO (loadS (some 2) (e 3) h) fun a =>
bindO (storeS 2 (e 2) a h) fun b =>
bindO (resultL TP ⟨(setV e 40 a), 41, [], b⟩ Tryz.f25.results.toList) fun c => K (.ret (oneOf c)) b) := by kernel_rfl
theorem F.ref01_Copy_eq : EV (codeOf Tryz.f25) ⟨mkEnv [a0], 41, [], h⟩ (RL Tryz.f25 K) = (
bindO (boxS a0) fun a =>
bindO (faS 0 (.ptr (Heap.next h) 0)) fun b =>
bindO (loadS none b (Heap.alloc (Heap.alloc h (.cells a)) (.cells [(.int .i64 0), .nils]))) fun c =>
bindO (aggS [(.int .i64 0), .nils] [(0, 1)] [c]) fun d =>
bindO (storeS 2 (.ptr (Heap.next (Heap.alloc (Heap.alloc h (.cells a)) (.cells [(.int .i64 0), .nils]))) 0) d (Heap.alloc (Heap.alloc (Heap.alloc h (.cells a)) (.cells [(.int .i64 0), .nils])) (.cells [(.int .i64 0), .nils]))) fun f =>
loopB (EV F.ref01_Copy.L0) ⟨(setV (setV (setV (setV (setV (setV (setV (mkEnv [a0]) 1 (.ptr (Heap.next h) 0)) 2 (.ptr (Heap.next (Heap.alloc h (.cells a))) 0)) 5 b) 6 c) 7 d) 3 (.ptr (Heap.next (Heap.alloc (Heap.alloc h (.cells a)) (.cells [(.int .i64 0), .nils]))) 0)) 4 (.int .i64 0)), 41, [], f⟩ (F.ref01_Copy.L0k K)) := by kernel_rfl
theorem F.ref01_Copy_sem (hh : EV (codeOf Tryz.f25) ⟨mkEnv [a0], 41, [], h⟩ (RL Tryz.f25 K) = true) : Sem TP 25 [a0] h K :=
  SB Tryz.func25 rfl (by decide) (by kernel_rfl) hh
noncomputable def F.ref01_copied.L0 := partOf (codeOf Tryz.f72) [1, 1, 0, 1, 0, 0]
noncomputable def F.ref01_copied.L0k (K : Out → Heap → Bool) := (blockK 0 (seqK false (EV (partOf (codeOf Tryz.f72) [1, 1, 1])) (RL Tryz.f72 K)))
theorem F.ref01_copied.L0_eq : EV F.ref01_copied.L0 ⟨e, 21, [], h⟩ J = (
bindO (lenS .slice (e 0) h) fun c =>
bindO (binS .lss (e 4) c) fun d =>
let Q1 := (setV (setV (setV (setV e 5 (e 4)) 6 (e 0)) 7 c) 8 d); condB d (
bindO (rowS [] [] []) fun f =>
bindO (iaS 1 (e 0) (e 4)) fun g =>
bindO (loadS none g (Heap.alloc h (.cells f))) fun i =>
bindO2 (appendS 1 8 (.slice (Heap.next h) 0 0 1) i (Heap.alloc h (.cells f))) fun j b =>
bindO (rowS [.nils] [(0, 1)] [j]) fun l =>
bindO2 (appendS 1 24 (e 3) (.slice (Heap.next b) 0 1 1) (Heap.alloc b (.cells l))) fun k m =>
bindO (binS .add (e 4) (.int .i64 1)) fun a =>
J .normal ⟨(setV (setV (setV (setV (setV (setV (setV (setV (setV (setV (setV (setV (setV Q1 11 (e 3)) 12 (.slice (Heap.next h) 0 0 1)) 13 (e 0)) 14 (e 4)) 15 g) 16 i) 17 j) 18 (.slice (Heap.next b) 0 1 1)) 19 k) 3 k) 9 (e 4)) 10 a) 4 a), 21, [], m⟩) (
J (.exit 0) ⟨Q1, 21, [], h⟩)) := by kernel_rfl
theorem F.ref01_copied.L0_x0_eq : F.ref01_copied.L0k K (.exit 0) ⟨e, 21, [], h⟩ = (
K (.ret (e 3)) h) := by kernel_rfl
theorem F.ref01_copied_eq : EV (codeOf Tryz.f72) ⟨mkEnv [a0], 21, [], h⟩ (RL Tryz.f72 K) = (
loopB (EV F.ref01_copied.L0) ⟨(setV (setV (setV (mkEnv [a0]) 2 .nils) 3 .nils) 4 (.int .i64 0)), 21, [], h⟩ (F.ref01_copied.L0k K)) := by kernel_rfl
theorem F.ref01_copied_sem (hh : EV (codeOf Tryz.f72) ⟨mkEnv [a0], 21, [], h⟩ (RL Tryz.f72 K) = true) : Sem TP 72 [a0] h K :=
  SB Tryz.func72 rfl (by decide) (by kernel_rfl) hh
noncomputable def F.ref01_Among.L0 := partOf (codeOf Tryz.f34) [1, 0, 1, 0, 0]
noncomputable def F.ref01_Among.L0k (K : Out → Heap → Bool) := (blockK 0 (seqK false (EV (partOf (codeOf Tryz.f34) [1, 1])) (RL Tryz.f34 K)))
theorem F.ref01_Among.L0_eq : EV F.ref01_Among.L0 ⟨e, 18, [], h⟩ J = (
bindO (lenS .slice (e 0) h) fun c =>
bindO (binS .lss (e 5) c) fun d =>
let Q1 := (setV (setV (setV (setV e 6 (e 5)) 7 (e 0)) 8 c) 9 d); condB d (
bindO (iaS 1 (e 0) (e 5)) fun a =>
bindO (loadS none a h) fun b =>
semCall TP 20 [b, (e 1)] h (outK (fun f g =>
let Q2 := (setV (setV (setV (setV (setV (setV Q1 12 (e 0)) 13 (e 5)) 14 a) 15 b) 16 (e 1)) 17 f); condB f (
J .ret ⟨(setV Q2 4 (.bool true)), 18, [], g⟩) (
bindO (binS .add (e 5) (.int .i64 1)) fun i =>
J .normal ⟨(setV (setV (setV Q2 10 (e 5)) 11 i) 5 i), 18, [], g⟩)) (fun j k => J (.panic j) ⟨(setV (setV (setV (setV (setV Q1 12 (e 0)) 13 (e 5)) 14 a) 15 b) 16 (e 1)), 18, [], k⟩))) (
J (.exit 0) ⟨Q1, 18, [], h⟩)) := by kernel_rfl
theorem F.ref01_Among.L0_x0_eq : F.ref01_Among.L0k K (.exit 0) ⟨e, 18, [], h⟩ = (
K (.ret (.bool false)) h) := by kernel_rfl
theorem F.ref01_Among.L0_r_eq : F.ref01_Among.L0k K .ret ⟨e, 18, [], h⟩ = (
K (.ret (e 4)) h) := by kernel_rfl
theorem F.ref01_Among_eq : EV (codeOf Tryz.f34) ⟨mkEnv [a0, a1], 18, [], h⟩ (RL Tryz.f34 K) = (
loopB (EV F.ref01_Among.L0) ⟨(setV (setV (mkEnv [a0, a1]) 4 (.bool false)) 5 (.int .i64 0)), 18, [], h⟩ (F.ref01_Among.L0k K)) := by kernel_rfl
theorem F.ref01_Among_sem (hh : EV (codeOf Tryz.f34) ⟨mkEnv [a0, a1], 18, [], h⟩ (RL Tryz.f34 K) = true) : Sem TP 34 [a0, a1] h K :=
  SB Tryz.func34 rfl (by decide) (by kernel_rfl) hh
noncomputable def F.shape_Tuple.L0 := partOf (codeOf Tryz.f63) [1, 1, 1, 1, 1, 0, 1, 0, 0]
noncomputable def F.shape_Tuple.L0k (K : Out → Heap → Bool) := (blockK 0 (seqK false (EV (partOf (codeOf Tryz.f63) [1, 1, 1, 1, 1, 1])) (RL Tryz.f63 K)))
theorem F.shape_Tuple.L0_eq : EV F.shape_Tuple.L0 ⟨e, 46, [], h⟩ J = (
bindO (binS .geq (e 11) (.int .i64 0)) fun a =>
let Q1 := (setV (setV e 32 (e 11)) 33 a); condB a (
bindO (binS .rem (e 2) (e 0)) fun b =>
bindO (binS .quo (e 2) (e 0)) fun c =>
bindO (iaS 1 (e 10) (e 11)) fun d =>
bindO (storeS 1 d b h) fun g =>
bindO (binS .sub (e 11) (.int .i64 1)) fun f =>
J .normal ⟨(setV (setV (setV (setV (setV (setV (setV (setV (setV (setV (setV (setV (setV Q1 36 (e 10)) 37 (e 11)) 38 (e 2)) 39 (e 0)) 40 b) 41 (e 2)) 42 (e 0)) 43 c) 44 d) 2 c) 34 (e 11)) 35 f) 11 f), 46, [], g⟩) (
J (.exit 0) ⟨Q1, 46, [], h⟩)) := by kernel_rfl
theorem F.shape_Tuple.L0_x0_eq : F.shape_Tuple.L0k K (.exit 0) ⟨e, 46, [], h⟩ = (
K (.ret (.tuple [(e 10), (.int .i64 0)])) h) := by kernel_rfl
theorem F.shape_Tuple_eq : EV (codeOf Tryz.f63) ⟨mkEnv [a0, a1, a2], 46, [], h⟩ (RL Tryz.f63 K) = (
semCall TP 99 [a0, a1] h (outK (fun c d =>
bindO (extractS c 0) fun f =>
bindO (extractS c 1) fun a =>
bindO (neV (.int .i64) a (.int .i64 0)) fun k =>
condB k (
K (.ret (.tuple [.nils, a])) d) (
bindO (binS .lss a2 (.int .i64 0)) fun g =>
condB g (
K (.ret (.tuple [.nils, (.int .i64 2)])) d) (
bindO (binS .geq a2 f) fun i =>
condB i (
K (.ret (.tuple [.nils, (.int .i64 2)])) d) (
bindO2 (makeSliceS 1 8 [(.int .i64 0)] a1 a1 d) fun l j =>
bindO (binS .sub a1 (.int .i64 1)) fun b =>
loopB (EV F.shape_Tuple.L0) ⟨(setV (setV (setV (setV (setV (setV (setV (setV (setV (setV (setV (setV (setV (setV (setV (setV (setV (setV (setV (setV (setV (setV (setV (setV (setV (setV (setV (setV (mkEnv [a0, a1, a2]) 6 .nils) 7 (.int .i64 0)) 13 a0) 14 a1) 15 c) 12 c) 16 f) 17 a) 8 f) 9 a) 18 a) 19 k) 21 a2) 22 g) 23 g) 23 (.bool false)) 24 a2) 23 (.bool false)) 25 f) 23 (.bool false)) 26 i) 27 i) 28 a1) 29 l) 10 l) 30 a1) 31 b) 11 b), 46, [], j⟩ (F.shape_Tuple.L0k K))))) (fun m n => K (.panic m) n))) := by kernel_rfl
theorem F.shape_Tuple_sem (hh : EV (codeOf Tryz.f63) ⟨mkEnv [a0, a1, a2], 46, [], h⟩ (RL Tryz.f63 K) = true) : Sem TP 63 [a0, a1, a2] h K :=
  SB Tryz.func63 rfl (by decide) (by kernel_rfl) hh
noncomputable def F.shape_Copy.L0 := partOf (codeOf Tryz.f46) [1, 1, 0, 1, 0, 0]
noncomputable def F.shape_Copy.L0k (K : Out → Heap → Bool) := (blockK 0 (seqK false (EV (partOf (codeOf Tryz.f46) [1, 1, 1])) (RL Tryz.f46 K)))
noncomputable def F.shape_Copy.L1 := partOf (codeOf Tryz.f46) [1, 1, 0, 1, 0, 0, 1, 1, 0, 0, 1, 1, 0, 1, 0, 0]
noncomputable def F.shape_Copy.L1k (J : AX → St → Bool) := (blockK 2 (seqK false (EV (partOf (codeOf Tryz.f46) [1, 1, 0, 1, 0, 0, 1, 1, 0, 0, 1, 1, 1])) (blockK 1 (seqK false (EV (partOf (codeOf Tryz.f46) [1, 1, 0, 1, 0, 0, 1, 1, 1])) J))))
theorem F.shape_Copy.L0_eq : EV F.shape_Copy.L0 ⟨e, 47, [], h⟩ J = (
bindO (binS .lss (e 15) (e 14)) fun m =>
condB m (
bindO (iaS 3 (e 13) (e 15)) fun o =>
bindO (loadS (some 3) o h) fun c =>
bindO (storeS 3 (.ptr (Heap.next h) 0) c (Heap.alloc h (.cells [(.str []), (.int .i64 0), .nils]))) fun a =>
bindO (faS 0 (.ptr (Heap.next h) 0)) fun d =>
bindO (loadS none d a) fun f =>
bindO (faS 1 (.ptr (Heap.next h) 0)) fun g =>
bindO (loadS none g a) fun i =>
bindO (aggS [(.str []), (.int .i64 0), .nils] [(0, 1), (1, 1)] [f, i]) fun j =>
bindO (storeS 3 (.ptr (Heap.next a) 0) j (Heap.alloc a (.cells [(.str []), (.int .i64 0), .nils]))) fun b =>
bindO (faS 2 (.ptr (Heap.next h) 0)) fun k =>
bindO (loadS none k b) fun l =>
bindO (lenS .slice l b) fun n =>
loopB (EV F.shape_Copy.L1) ⟨(setV (setV (setV (setV (setV (setV (setV (setV (setV (setV (setV (setV (setV (setV e 16 m) 17 o) 18 c) 5 (.ptr (Heap.next h) 0)) 19 d) 20 f) 21 g) 22 i) 23 j) 6 (.ptr (Heap.next a) 0)) 24 k) 25 l) 26 n) 27 (.int .i64 0)), 47, [], b⟩ (F.shape_Copy.L1k J)) (
J (.exit 0) ⟨(setV e 16 m), 47, [], h⟩)) := by kernel_rfl
theorem F.shape_Copy.L0_x0_eq : F.shape_Copy.L0k K (.exit 0) ⟨e, 47, [], h⟩ = (
bindO (loadS (some 2) (e 3) h) fun a =>
bindO (storeS 2 (e 2) a h) fun b =>
bindO (resultL TP ⟨(setV e 46 a), 47, [], b⟩ Tryz.f46.results.toList) fun c => K (.ret (oneOf c)) b) := by kernel_rfl
theorem F.shape_Copy.L1_eq : EV F.shape_Copy.L1 ⟨e, 47, [], h⟩ J = (
bindO (binS .lss (e 27) (e 26)) fun c =>
condB c (
bindO (iaS 1 (e 25) (e 27)) fun g =>
bindO (loadS none g h) fun a =>
bindO (faS 2 (e 6)) fun d =>
bindO (loadS none d h) fun f =>
semCall TP 49 [a] h (outK (fun i b =>
if ((bindO (loadS none d b) fun m =>
AV.beq m f) && true) = true then (
bindO (rowS [.nils] [(0, 1)] [i]) fun n =>
bindO2 (appendS 1 24 f (.slice (Heap.next b) 0 1 1) (Heap.alloc b (.cells n))) fun j o =>
bindO (faS 2 (e 6)) fun k =>
bindO (storeS 1 k j o) fun p =>
bindO (binS .add (e 27) (.int .i64 1)) fun l =>
J .normal ⟨(setV (setV (setV (setV (setV (setV (setV (setV (setV (setV (setV (setV (setV e 28 c) 29 g) 30 a) 8 a) 31 d) 32 f) 33 a) 34 i) 35 (.slice (Heap.next b) 0 1 1)) 36 j) 37 k) 38 l) 27 l), 47, [], p⟩) else false) (fun _ _ => false))) (
J (.exit 2) ⟨(setV e 28 c), 47, [], h⟩)) := by kernel_rfl
theorem F.shape_Copy.L1_x2_eq : F.shape_Copy.L1k J (.exit 2) ⟨e, 47, [], h⟩ = (
bindO (faS 1 (e 3)) fun a =>
bindO (loadS none a h) fun b =>
bindO (loadS (some 3) (e 6) h) fun c =>
bindO (rowS [(.str []), (.int .i64 0), .nils] [(0, 3)] [c]) fun i =>
bindO2 (appendS 3 48 b (.slice (Heap.next h) 0 1 3) (Heap.alloc h (.cells i))) fun d j =>
bindO (faS 1 (e 3)) fun f =>
bindO (storeS 1 f d j) fun k =>
bindO (binS .add (e 15) (.int .i64 1)) fun g =>
J .normal ⟨(setV (setV (setV (setV (setV (setV (setV (setV e 39 a) 40 b) 41 c) 42 (.slice (Heap.next h) 0 1 3)) 43 d) 44 f) 45 g) 15 g), 47, [], k⟩) := by kernel_rfl
noncomputable def F.ref07_Check.L0 := partOf (codeOf Tryz.f23) [1, 1, 1, 1, 0, 1, 0, 0]
noncomputable def F.ref07_Check.L0k (K : Out → Heap → Bool) := (blockK 0 (seqK false (EV (partOf (codeOf Tryz.f23) [1, 1, 1, 1, 1])) (RL Tryz.f23 K)))
noncomputable def F.ref07_Check.L1 := partOf (codeOf Tryz.f23) [1, 1, 1, 1, 1, 0, 1, 0, 0]
noncomputable def F.ref07_Check.L1k (K : Out → Heap → Bool) := (blockK 2 (seqK false (EV (partOf (codeOf Tryz.f23) [1, 1, 1, 1, 1, 1])) (RL Tryz.f23 K)))
noncomputable def F.ref07_Check.L2 := partOf (codeOf Tryz.f23) [1, 1, 1, 1, 1, 0, 1, 0, 0, 1, 0, 0, 1, 0, 1, 0, 0]
noncomputable def F.ref07_Check.L2k (J : AX → St → Bool) := (blockK 4 (seqK false (EV (partOf (codeOf Tryz.f23) [1, 1, 1, 1, 1, 0, 1, 0, 0, 1, 0, 0, 1, 1])) (blockK 3 (seqK false (EV (partOf (codeOf Tryz.f23) [1, 1, 1, 1, 1, 0, 1, 0, 0, 1, 1])) J))))
theorem F.ref07_Check.L0_eq : EV F.ref07_Check.L0 ⟨e, 69, [], h⟩ J = (
bindO (lenS .slice (e 5) h) fun a =>
bindO (binS .lss (e 6) a) fun b =>
let Q1 := (setV (setV (setV (setV e 25 (e 6)) 26 (e 5)) 27 a) 28 b); condB b (
bindO (loadS (some 2) (e 3) h) fun c =>
bindO (iaS 1 (e 5) (e 6)) fun d =>
bindO (loadS none d h) fun f =>
semCall TP 69 [c, f] h (outK (fun g i =>
bindO (binS .geq g (.int .i64 0)) fun j =>
let Q2 := (setV (setV (setV (setV (setV (setV (setV Q1 31 c) 32 (e 5)) 33 (e 6)) 34 d) 35 f) 36 g) 37 j); condB j (
J .ret ⟨(setV Q2 4 (.int .i64 4)), 69, [], i⟩) (
bindO (binS .add (e 6) (.int .i64 1)) fun k =>
J .normal ⟨(setV (setV (setV Q2 29 (e 6)) 30 k) 6 k), 69, [], i⟩)) (fun _ _ => false))) (
J (.exit 0) ⟨Q1, 69, [], h⟩)) := by kernel_rfl
theorem F.ref07_Check.L0_x0_eq : F.ref07_Check.L0k K (.exit 0) ⟨e, 69, [], h⟩ = (
loopB (EV F.ref07_Check.L1) ⟨(setV e 7 (.int .i64 0)), 69, [], h⟩ (F.ref07_Check.L1k K)) := by kernel_rfl
theorem F.ref07_Check.L0_r_eq : F.ref07_Check.L0k K .ret ⟨e, 69, [], h⟩ = (
K (.ret (e 4)) h) := by kernel_rfl
theorem F.ref07_Check.L1_eq : EV F.ref07_Check.L1 ⟨e, 69, [], h⟩ J = (
bindO (lenS .slice (e 0) h) fun a =>
bindO (binS .lss (e 7) a) fun b =>
let Q1 := (setV (setV (setV (setV e 38 (e 7)) 39 (e 0)) 40 a) 41 b); condB b (
loopB (EV F.ref07_Check.L2) ⟨(setV (setV Q1 8 (.int .i64 1)) 9 (.int .i64 0)), 69, [], h⟩ (F.ref07_Check.L2k J)) (
J (.exit 2) ⟨Q1, 69, [], h⟩)) := by kernel_rfl
theorem F.ref07_Check.L1_x2_eq : F.ref07_Check.L1k K (.exit 2) ⟨e, 69, [], h⟩ = (
bindO (loadS (some 2) (e 3) h) fun b =>
semCall TP 70 [(e 0), b] h (outK (fun c d =>
semCall TP 66 [c] d (outK (fun f a =>
bindO (unS .not f) fun g =>
condB g (
K (.ret (.int .i64 5)) a) (
K (.ret (.int .i64 0)) a)) (fun i j => K (.panic i) j))) (fun k l => K (.panic k) l))) := by kernel_rfl
theorem F.ref07_Check.L1_r_eq : F.ref07_Check.L1k K .ret ⟨e, 69, [], h⟩ = (
K (.ret (e 4)) h) := by kernel_rfl
theorem F.ref07_Check.L2_eq : EV F.ref07_Check.L2 ⟨e, 69, [], h⟩ J = (
bindO (iaS 3 (e 0) (e 7)) fun b =>
bindO (loadS (some 3) b h) fun c =>
semCall TP 43 [c] h (outK (fun g a =>
bindO (lenS .slice g a) fun i =>
bindO (binS .lss (e 9) i) fun d =>
let Q1 := (setV (setV (setV (setV (setV (setV (setV (setV (setV e 44 (e 9)) 45 (e 0)) 46 (e 7)) 47 b) 48 c) 49 g) 50 i) 51 d) 52 d); condB d (
bindO (binS .leq (e 8) (.int .i64 65536)) fun f =>
let Q2 := (setV (setV (setV (setV (setV Q1 52 (.bool true)) 53 (e 8)) 52 (.bool true)) 54 f) 55 f); condB f (
bindO (faS 0 (e 3)) fun j =>
bindO (loadS none j a) fun k =>
bindO (binS .mul (e 8) k) fun l =>
bindO (binS .add (e 9) (.int .i64 1)) fun m =>
J .normal ⟨(setV (setV (setV (setV (setV (setV (setV (setV Q2 58 (e 8)) 59 j) 60 k) 61 l) 8 l) 56 (e 9)) 57 m) 9 m), 69, [], a⟩) (
J (.exit 4) ⟨Q2, 69, [], a⟩)) (
J (.exit 4) ⟨(setV (setV (setV (setV (setV Q1 52 (.bool false)) 53 noV) 52 (.bool false)) 54 noV) 55 (.bool false)), 69, [], a⟩)) (fun n o => J (.panic n) ⟨(setV (setV (setV (setV (setV e 44 (e 9)) 45 (e 0)) 46 (e 7)) 47 b) 48 c), 69, [], o⟩))) := by kernel_rfl
theorem F.ref07_Check.L2_x4_eq : F.ref07_Check.L2k J (.exit 4) ⟨e, 69, [], h⟩ = (
bindO (binS .gtr (e 8) (.int .i64 65536)) fun a =>
condB a (
J .ret ⟨(setV (setV (setV e 62 (e 8)) 63 a) 4 (.int .i64 5)), 69, [], h⟩) (
bindO (binS .add (e 7) (.int .i64 1)) fun b =>
J .normal ⟨(setV (setV (setV (setV (setV e 62 (e 8)) 63 a) 42 (e 7)) 43 b) 7 b), 69, [], h⟩)) := by kernel_rfl
noncomputable def F.ref07_Symbols.L0 := partOf (codeOf Tryz.f68) [1, 1, 1, 1, 0, 1, 0, 0]
noncomputable def F.ref07_Symbols.L0k (K : Out → Heap → Bool) := (blockK 0 (seqK false (EV (partOf (codeOf Tryz.f68) [1, 1, 1, 1, 1])) (RL Tryz.f68 K)))
noncomputable def F.ref07_Symbols.L1 := partOf (codeOf Tryz.f68) [1, 1, 1, 1, 1, 1, 0, 1, 0, 0]
noncomputable def F.ref07_Symbols.L1k (K : Out → Heap → Bool) := (blockK 2 (seqK false (EV (partOf (codeOf Tryz.f68) [1, 1, 1, 1, 1, 1, 1])) (RL Tryz.f68 K)))
theorem F.ref07_Symbols.L0_eq : EV F.ref07_Symbols.L0 ⟨e, 55, [], h⟩ J = (
bindO (lenS .slice (e 5) h) fun t =>
bindO (binS .lss (e 6) t) fun u =>
let Q1 := (setV (setV (setV (setV e 13 (e 6)) 14 (e 5)) 15 t) 16 u); condB u (
bindO (iaS 2 (e 5) (e 6)) fun a =>
bindO (faS 0 a) fun b =>
bindO (loadS none b h) fun c =>
semCall TP 86 [(e 3), c] h (outK (fun j d =>
bindO (unS .not j) fun k =>
let Q2 := (setV (setV (setV (setV (setV (setV (setV (setV Q1 19 (e 3)) 20 (e 5)) 21 (e 6)) 22 a) 23 b) 24 c) 25 j) 26 k); condB k (
bindO (iaS 2 (e 5) (e 6)) fun f =>
bindO (faS 0 f) fun g =>
bindO (loadS none g d) fun i =>
semCall TP 79 [(e 4), i] d (outK (fun l o =>
bindO (binS .add (e 6) (.int .i64 1)) fun m =>
J .normal ⟨(setV (setV (setV (setV (setV (setV (setV (setV (setV (setV (setV Q2 27 (e 4)) 28 (e 5)) 29 (e 6)) 30 f) 31 g) 32 i) 33 l) 4 l) 17 (e 6)) 18 m) 6 m), 55, [], o⟩) (fun p q => J (.panic p) ⟨(setV (setV (setV (setV (setV (setV Q2 27 (e 4)) 28 (e 5)) 29 (e 6)) 30 f) 31 g) 32 i), 55, [], q⟩))) (
bindO (binS .add (e 6) (.int .i64 1)) fun n =>
J .normal ⟨(setV (setV (setV Q2 17 (e 6)) 18 n) 6 n), 55, [], d⟩)) (fun r s => J (.panic r) ⟨(setV (setV (setV (setV (setV (setV Q1 19 (e 3)) 20 (e 5)) 21 (e 6)) 22 a) 23 b) 24 c), 55, [], s⟩))) (
J (.exit 0) ⟨Q1, 55, [], h⟩)) := by kernel_rfl
theorem F.ref07_Symbols.L0_x0_eq : F.ref07_Symbols.L0k K (.exit 0) ⟨e, 55, [], h⟩ = (
loopB (EV F.ref07_Symbols.L1) ⟨(setV (setV e 7 .nils) 8 (.int .i64 0)), 55, [], h⟩ (F.ref07_Symbols.L1k K)) := by kernel_rfl
theorem F.ref07_Symbols.L1_eq : EV F.ref07_Symbols.L1 ⟨e, 55, [], h⟩ J = (
bindO (lenS .slice (e 4) h) fun d =>
bindO (binS .lss (e 8) d) fun f =>
let Q1 := (setV (setV (setV (setV e 34 (e 8)) 35 (e 4)) 36 d) 37 f); condB f (
bindO (iaS 1 (e 4) (e 8)) fun b =>
bindO (loadS none b h) fun c =>
bindO (iaS 1 (e 4) (e 8)) fun g =>
bindO (loadS none g h) fun i =>
semCall TP 116 [(e 0), i] h (outK (fun j a =>
if ((bindO (loadS none b a) fun n =>
AV.beq n c) && true) = true then (
bindO (aggS [(.str []), (.int .i64 0)] [(0, 1), (1, 1)] [c, j]) fun k =>
bindO (rowS [(.str []), (.int .i64 0)] [(0, 2)] [k]) fun o =>
bindO2 (appendS 2 24 (e 7) (.slice (Heap.next a) 0 1 2) (Heap.alloc a (.cells o))) fun l p =>
bindO (binS .add (e 8) (.int .i64 1)) fun m =>
J .normal ⟨(setV (setV (setV (setV (setV (setV (setV (setV (setV (setV (setV (setV (setV (setV (setV (setV (setV (setV Q1 40 (e 7)) 41 (e 4)) 42 (e 8)) 43 b) 44 c) 45 (e 0)) 46 (e 4)) 47 (e 8)) 48 g) 49 i) 50 j) 51 k) 52 (.slice (Heap.next a) 0 1 2)) 53 l) 7 l) 38 (e 8)) 39 m) 8 m), 55, [], p⟩) else false) (fun _ _ => false))) (
J (.exit 2) ⟨Q1, 55, [], h⟩)) := by kernel_rfl
theorem F.ref07_Symbols.L1_x2_eq : F.ref07_Symbols.L1k K (.exit 2) ⟨e, 55, [], h⟩ = (
K (.ret (e 7)) h) := by kernel_rfl
noncomputable def F.ref07_Arity.L0 := partOf (codeOf Tryz.f116) [1, 1, 0, 1, 0, 0]
noncomputable def F.ref07_Arity.L0k (K : Out → Heap → Bool) := (blockK 0 (seqK false (EV (partOf (codeOf Tryz.f116) [1, 1, 1])) (RL Tryz.f116 K)))
theorem F.ref07_Arity.L0_eq : EV F.ref07_Arity.L0 ⟨e, 27, [], h⟩ J = (
bindO (lenS .slice (e 5) h) fun f =>
bindO (binS .lss (e 6) f) fun g =>
let Q1 := (setV (setV (setV (setV e 9 (e 6)) 10 (e 5)) 11 f) 12 g); condB g (
bindO (iaS 2 (e 5) (e 6)) fun i =>
bindO (faS 0 i) fun j =>
bindO (loadS none j h) fun k =>
bindO (eqV .string k (e 1)) fun l =>
let Q2 := (setV (setV (setV (setV (setV (setV (setV Q1 15 (e 5)) 16 (e 6)) 17 i) 18 j) 19 k) 20 (e 1)) 21 l); condB l (
bindO (iaS 2 (e 5) (e 6)) fun a =>
bindO (faS 1 a) fun b =>
bindO (loadS none b h) fun c =>
J .ret ⟨(setV (setV (setV (setV (setV (setV Q2 22 (e 5)) 23 (e 6)) 24 a) 25 b) 26 c) 4 c), 27, [], h⟩) (
bindO (binS .add (e 6) (.int .i64 1)) fun d =>
J .normal ⟨(setV (setV (setV Q2 13 (e 6)) 14 d) 6 d), 27, [], h⟩)) (
J (.exit 0) ⟨Q1, 27, [], h⟩)) := by kernel_rfl
theorem F.ref07_Arity.L0_x0_eq : F.ref07_Arity.L0k K (.exit 0) ⟨e, 27, [], h⟩ = (
K (.ret (.int .i64 (-1))) h) := by kernel_rfl
theorem F.ref07_Arity.L0_r_eq : F.ref07_Arity.L0k K .ret ⟨e, 27, [], h⟩ = (
K (.ret (e 4)) h) := by kernel_rfl
noncomputable def F.ref07_Empty.L0 := partOf (codeOf Tryz.f70) [1, 1, 1, 0, 1, 0, 0]
noncomputable def F.ref07_Empty.L0k (K : Out → Heap → Bool) := (blockK 0 (seqK false (EV (partOf (codeOf Tryz.f70) [1, 1, 1, 1])) (RL Tryz.f70 K)))
theorem F.ref07_Empty.L0_eq : EV F.ref07_Empty.L0 ⟨e, 35, [], h⟩ J = (
bindO (lenS .slice (e 6) h) fun g =>
bindO (binS .lss (e 7) g) fun i =>
let Q1 := (setV (setV (setV (setV e 12 (e 7)) 13 (e 6)) 14 g) 15 i); condB i (
bindO (faS 1 (e 5)) fun b =>
bindO (loadS none b h) fun c =>
bindO (iaS 1 (e 6) (e 7)) fun d =>
bindO (loadS none d h) fun f =>
bindO (iaS 1 (e 6) (e 7)) fun j =>
bindO (loadS none j h) fun k =>
semCall TP 116 [(e 0), k] h (outK (fun l a =>
if ((bindO (loadS none d a) fun q =>
AV.beq q f) && ((bindO (loadS none b a) fun r =>
AV.beq r c) && true)) = true then (
bindO (aggS [(.str []), (.int .i64 0), .nils] [(0, 1), (1, 1)] [f, l]) fun m =>
bindO (rowS [(.str []), (.int .i64 0), .nils] [(0, 3)] [m]) fun s =>
bindO2 (appendS 3 48 c (.slice (Heap.next a) 0 1 3) (Heap.alloc a (.cells s))) fun n t =>
bindO (faS 1 (e 5)) fun o =>
bindO (storeS 1 o n t) fun u =>
bindO (binS .add (e 7) (.int .i64 1)) fun p =>
J .normal ⟨(setV (setV (setV (setV (setV (setV (setV (setV (setV (setV (setV (setV (setV (setV (setV (setV (setV (setV (setV Q1 18 b) 19 c) 20 (e 6)) 21 (e 7)) 22 d) 23 f) 24 (e 0)) 25 (e 6)) 26 (e 7)) 27 j) 28 k) 29 l) 30 m) 31 (.slice (Heap.next a) 0 1 3)) 32 n) 33 o) 16 (e 7)) 17 p) 7 p), 35, [], u⟩) else false) (fun _ _ => false))) (
J (.exit 0) ⟨Q1, 35, [], h⟩)) := by kernel_rfl
theorem F.ref07_Empty.L0_x0_eq : F.ref07_Empty.L0k K (.exit 0) ⟨e, 35, [], h⟩ = (
bindO (loadS (some 2) (e 5) h) fun a =>
bindO (storeS 2 (e 4) a h) fun b =>
bindO (resultL TP ⟨(setV e 34 a), 35, [], b⟩ Tryz.f70.results.toList) fun c => K (.ret (oneOf c)) b) := by kernel_rfl
noncomputable def F.ref07_Run.L0 := partOf (codeOf Tryz.f84) [1, 1, 1, 1, 1, 0, 1, 0, 0]
noncomputable def F.ref07_Run.L0k (K : Out → Heap → Bool) := (blockK 0 (seqK false (EV (partOf (codeOf Tryz.f84) [1, 1, 1, 1, 1, 1])) (RL Tryz.f84 K)))
noncomputable def F.ref07_Run.L1 := partOf (codeOf Tryz.f84) [1, 1, 1, 1, 1, 0, 1, 0, 0, 1, 0, 0, 1, 0, 0]
noncomputable def F.ref07_Run.L1k (J : AX → St → Bool) := (blockK 2 (blockK 1 (seqK false (EV (partOf (codeOf Tryz.f84) [1, 1, 1, 1, 1, 0, 1, 0, 0, 1, 1])) J)))
noncomputable def F.ref07_Run.L2 := partOf (codeOf Tryz.f84) [1, 1, 1, 1, 1, 1, 0, 1, 0, 0]
noncomputable def F.ref07_Run.L2k (K : Out → Heap → Bool) := (blockK 6 (seqK false (EV (partOf (codeOf Tryz.f84) [1, 1, 1, 1, 1, 1, 1])) (RL Tryz.f84 K)))
noncomputable def F.ref07_Run.L3 := partOf (codeOf Tryz.f84) [1, 1, 1, 1, 1, 0, 1, 0, 0, 1, 0, 0, 1, 0, 0, 1, 0, 1, 1, 0, 0]
noncomputable def F.ref07_Run.L3k (J : AX → St → Bool) := (blockK 4 (blockK 3 J))
noncomputable def F.ref07_Run.L4 := partOf (codeOf Tryz.f84) [1, 1, 1, 1, 1, 1, 0, 1, 0, 0, 1, 0, 0, 1, 1, 0, 0]
noncomputable def F.ref07_Run.L4k (J : AX → St → Bool) := (blockK 8 (blockK 7 (seqK false (EV (partOf (codeOf Tryz.f84) [1, 1, 1, 1, 1, 1, 0, 1, 0, 0, 1, 1])) J)))
theorem F.ref07_Run.L0_eq : EV F.ref07_Run.L0 ⟨e, 122, [], h⟩ J = (
bindO (lenS .slice (e 7) h) fun a =>
bindO (binS .leq (e 10) a) fun b =>
let Q1 := (setV (setV (setV (setV e 29 (e 10)) 30 (e 7)) 31 a) 32 b); condB b (
loopB (EV F.ref07_Run.L1) ⟨(setV Q1 11 (.bool true)), 122, [], h⟩ (F.ref07_Run.L1k J)) (
J (.exit 0) ⟨Q1, 122, [], h⟩)) := by kernel_rfl
theorem F.ref07_Run.L0_x0_eq : F.ref07_Run.L0k K (.exit 0) ⟨e, 122, [], h⟩ = (
bindO (faS 1 (e 3)) fun a =>
bindO (loadS none a h) fun b =>
bindO (lenS .slice b h) fun c =>
loopB (EV F.ref07_Run.L2) ⟨(setV (setV (setV (setV e 71 a) 72 b) 73 c) 14 c), 122, [], h⟩ (F.ref07_Run.L2k K)) := by kernel_rfl
theorem F.ref07_Run.L1_eq : EV F.ref07_Run.L1 ⟨e, 122, [], h⟩ J = (
condB (e 11) (
loopB (EV F.ref07_Run.L3) ⟨(setV (setV (setV e 35 (e 11)) 11 (.bool false)) 12 (.int .i64 0)), 122, [], h⟩ (F.ref07_Run.L3k J)) (
J (.exit 2) ⟨(setV e 35 (e 11)), 122, [], h⟩)) := by kernel_rfl
theorem F.ref07_Run.L1_x2_eq : F.ref07_Run.L1k J (.exit 2) ⟨e, 122, [], h⟩ = (
bindO (binS .add (e 10) (.int .i64 1)) fun a =>
J .normal ⟨(setV (setV (setV e 33 (e 10)) 34 a) 10 a), 122, [], h⟩) := by kernel_rfl
theorem F.ref07_Run.L2_eq : EV F.ref07_Run.L2 ⟨e, 122, [], h⟩ J = (
bindO (faS 1 (e 5)) fun a =>
bindO (loadS none a h) fun b =>
bindO (lenS .slice b h) fun c =>
bindO (binS .lss (e 14) c) fun d =>
let Q1 := (setV (setV (setV (setV (setV e 74 (e 14)) 75 a) 76 b) 77 c) 78 d); condB d (
bindO (faS 0 (e 3)) fun f =>
bindO (loadS none f h) fun g =>
bindO (faS 1 (e 5)) fun i =>
bindO (loadS none i h) fun j =>
bindO (iaS 3 j (e 14)) fun k =>
bindO (faS 1 k) fun l =>
bindO (loadS none l h) fun m =>
semCall TP 32 [g, m] h (outK (fun n o =>
loopB (EV F.ref07_Run.L4) ⟨(setV (setV (setV (setV (setV (setV (setV (setV (setV (setV (setV Q1 81 f) 82 g) 83 i) 84 j) 85 (e 14)) 86 k) 87 l) 88 m) 89 n) 15 n) 16 (.int .i64 0)), 122, [], o⟩ (F.ref07_Run.L4k J)) (fun _ _ => false))) (
J (.exit 6) ⟨Q1, 122, [], h⟩)) := by kernel_rfl
noncomputable def F.ref07_apply.L0 := partOf (codeOf Tryz.f129) [1, 1, 1, 1, 0, 0]
noncomputable def F.ref07_apply.L0k (K : Out → Heap → Bool) := (blockK 0 (RL Tryz.f129 K))
theorem F.ref07_apply.L0_eq : EV F.ref07_apply.L0 ⟨e, 55, [], h⟩ J = (
bindO (faS 0 (e 4)) fun D =>
bindO (faS 1 D) fun c =>
bindO (loadS none c h) fun d =>
semCall TP 161 [(e 9), d, (e 10)] h (outK (fun f E =>
semCall TP 164 [(e 3), f] E (outK (fun a b =>
bindO (iaS 3 (e 1) (e 2)) fun p =>
bindO (faS 2 p) fun q =>
bindO (loadS none q b) fun r =>
bindO (iaS 1 r a) fun s =>
bindO (loadS none s b) fun t =>
bindO (unS .not t) fun g =>
let Q1 := (setV (setV (setV (setV (setV (setV (setV (setV (setV (setV (setV (setV (setV (setV (setV (setV (setV (setV (setV e 18 (e 3)) 19 (e 9)) 20 D) 21 c) 22 d) 23 (e 10)) 24 f) 25 a) 12 a) 26 (e 1)) 27 (e 2)) 28 p) 29 q) 30 r) 31 a) 32 s) 33 t) 34 g) 35 g); condB g (
bindO (loadS (some 3) (e 4) b) fun i =>
semCall TP 124 [i, (e 9), (e 10), (e 1), (e 3)] b (outK (fun j k =>
let Q2 := (setV (setV (setV (setV (setV (setV (setV (setV (setV (setV (setV (setV (setV Q1 35 (.bool true)) 36 i) 35 (.bool true)) 37 (e 9)) 35 (.bool true)) 38 (e 10)) 35 (.bool true)) 39 (e 1)) 35 (.bool true)) 40 (e 3)) 35 (.bool true)) 41 j) 42 j); condB j (
bindO (iaS 3 (e 1) (e 2)) fun l =>
bindO (faS 2 l) fun m =>
bindO (loadS none m k) fun n =>
bindO (iaS 1 n a) fun o =>
bindO (storeS 1 o (.bool true) k) fun G =>
semCall TP 165 [(e 10), (e 3)] G (outK (fun u v =>
bindO (unS .not u) fun w =>
let Q3 := (setV (setV (setV (setV (setV (setV (setV (setV (setV (setV (setV (setV Q2 43 (e 1)) 44 (e 2)) 45 l) 46 m) 47 n) 48 a) 49 o) 11 (.bool true)) 50 (e 10)) 51 (e 3)) 52 u) 53 w); condB w (
J .ret ⟨(setV (setV Q3 54 (.bool true)) 8 (.bool true)), 55, [], v⟩) (
J .normal ⟨Q3, 55, [], v⟩)) (fun I L => J (.panic I) ⟨(setV (setV (setV (setV (setV (setV (setV (setV (setV (setV Q2 43 (e 1)) 44 (e 2)) 45 l) 46 m) 47 n) 48 a) 49 o) 11 (.bool true)) 50 (e 10)) 51 (e 3)), 55, [], L⟩))) (
semCall TP 165 [(e 10), (e 3)] k (outK (fun x y =>
bindO (unS .not x) fun z =>
let Q4 := (setV (setV (setV (setV Q2 50 (e 10)) 51 (e 3)) 52 x) 53 z); condB z (
J .ret ⟨(setV (setV Q4 54 (e 11)) 8 (e 11)), 55, [], y⟩) (
J .normal ⟨Q4, 55, [], y⟩)) (fun M N => J (.panic M) ⟨(setV (setV Q2 50 (e 10)) 51 (e 3)), 55, [], N⟩)))) (fun O P => J (.panic O) ⟨(setV (setV (setV (setV (setV (setV (setV (setV (setV (setV (setV Q1 35 (.bool true)) 36 i) 35 (.bool true)) 37 (e 9)) 35 (.bool true)) 38 (e 10)) 35 (.bool true)) 39 (e 1)) 35 (.bool true)) 40 (e 3)) 35 (.bool true)), 55, [], P⟩))) (
semCall TP 165 [(e 10), (e 3)] b (outK (fun A B =>
bindO (unS .not A) fun C =>
let Q5 := (setV (setV (setV (setV (setV (setV (setV (setV (setV (setV (setV (setV (setV (setV (setV (setV (setV Q1 35 (.bool false)) 36 noV) 35 (.bool false)) 37 noV) 35 (.bool false)) 38 noV) 35 (.bool false)) 39 noV) 35 (.bool false)) 40 noV) 35 (.bool false)) 41 noV) 42 (.bool false)) 50 (e 10)) 51 (e 3)) 52 A) 53 C); condB C (
J .ret ⟨(setV (setV Q5 54 (e 11)) 8 (e 11)), 55, [], B⟩) (
J .normal ⟨Q5, 55, [], B⟩)) (fun R S => J (.panic R) ⟨(setV (setV (setV (setV (setV (setV (setV (setV (setV (setV (setV (setV (setV (setV (setV Q1 35 (.bool false)) 36 noV) 35 (.bool false)) 37 noV) 35 (.bool false)) 38 noV) 35 (.bool false)) 39 noV) 35 (.bool false)) 40 noV) 35 (.bool false)) 41 noV) 42 (.bool false)) 50 (e 10)) 51 (e 3)), 55, [], S⟩)))) (fun T U => J (.panic T) ⟨(setV (setV (setV (setV (setV (setV (setV e 18 (e 3)) 19 (e 9)) 20 D) 21 c) 22 d) 23 (e 10)) 24 f), 55, [], U⟩))) (fun V W => J (.panic V) ⟨(setV (setV (setV (setV (setV (setV e 18 (e 3)) 19 (e 9)) 20 D) 21 c) 22 d) 23 (e 10)), 55, [], W⟩))) := by kernel_rfl
theorem F.ref07_apply.L0_r_eq : F.ref07_apply.L0k K .ret ⟨e, 55, [], h⟩ = (
K (.ret (e 8)) h) := by kernel_rfl
noncomputable def F.ref07_next.L0 := partOf (codeOf Tryz.f165) [1, 0, 1, 0, 0]
noncomputable def F.ref07_next.L0k (K : Out → Heap → Bool) := (blockK 0 (seqK false (EV (partOf (codeOf Tryz.f165) [1, 1])) (RL Tryz.f165 K)))
theorem F.ref07_next.L0_eq : EV F.ref07_next.L0 ⟨e, 28, [], h⟩ J = (
bindO (binS .geq (e 5) (.int .i64 0)) fun g =>
let Q1 := (setV (setV e 9 (e 5)) 10 g); condB g (
bindO (iaS 1 (e 0) (e 5)) fun i =>
bindO (loadS none i h) fun j =>
bindO (binS .add j (.int .i64 1)) fun k =>
bindO (iaS 1 (e 0) (e 5)) fun l =>
bindO (storeS 1 l k h) fun d =>
bindO (iaS 1 (e 0) (e 5)) fun m =>
bindO (loadS none m d) fun n =>
bindO (binS .lss n (e 1)) fun a =>
let Q2 := (setV (setV (setV (setV (setV (setV (setV (setV (setV (setV (setV (setV Q1 13 (e 0)) 14 (e 5)) 15 i) 16 j) 17 k) 18 l) 19 (e 0)) 20 (e 5)) 21 m) 22 n) 23 (e 1)) 24 a); condB a (
J .ret ⟨(setV Q2 4 (.bool true)), 28, [], d⟩) (
bindO (iaS 1 (e 0) (e 5)) fun b =>
bindO (storeS 1 b (.int .i64 0) d) fun f =>
bindO (binS .sub (e 5) (.int .i64 1)) fun c =>
J .normal ⟨(setV (setV (setV (setV (setV (setV Q2 25 (e 0)) 26 (e 5)) 27 b) 11 (e 5)) 12 c) 5 c), 28, [], f⟩)) (
J (.exit 0) ⟨Q1, 28, [], h⟩)) := by kernel_rfl
theorem F.ref07_next.L0_x0_eq : F.ref07_next.L0k K (.exit 0) ⟨e, 28, [], h⟩ = (
K (.ret (.bool false)) h) := by kernel_rfl
theorem F.ref07_next.L0_r_eq : F.ref07_next.L0k K .ret ⟨e, 28, [], h⟩ = (
K (.ret (e 4)) h) := by kernel_rfl
noncomputable def F.ref07_rank.L0 := partOf (codeOf Tryz.f164) [1, 1, 0, 1, 0, 0]
noncomputable def F.ref07_rank.L0k (K : Out → Heap → Bool) := (blockK 0 (seqK false (EV (partOf (codeOf Tryz.f164) [1, 1, 1])) (RL Tryz.f164 K)))
theorem F.ref07_rank.L0_eq : EV F.ref07_rank.L0 ⟨e, 22, [], h⟩ J = (
bindO (lenS .slice (e 1) h) fun a =>
bindO (binS .lss (e 6) a) fun b =>
let Q1 := (setV (setV (setV (setV e 7 (e 6)) 8 (e 1)) 9 a) 10 b); condB b (
bindO (binS .mul (e 5) (e 0)) fun c =>
bindO (iaS 1 (e 1) (e 6)) fun d =>
bindO (loadS none d h) fun f =>
bindO (binS .add c f) fun g =>
bindO (binS .add (e 6) (.int .i64 1)) fun i =>
J .normal ⟨(setV (setV (setV (setV (setV (setV (setV (setV (setV (setV (setV (setV Q1 13 (e 5)) 14 (e 0)) 15 c) 16 (e 1)) 17 (e 6)) 18 d) 19 f) 20 g) 5 g) 11 (e 6)) 12 i) 6 i), 22, [], h⟩) (
J (.exit 0) ⟨Q1, 22, [], h⟩)) := by kernel_rfl
theorem F.ref07_rank.L0_x0_eq : F.ref07_rank.L0k K (.exit 0) ⟨e, 22, [], h⟩ = (
K (.ret (e 5)) h) := by kernel_rfl
noncomputable def F.ref07_values.L0 := partOf (codeOf Tryz.f161) [1, 1, 0, 1, 0, 0]
noncomputable def F.ref07_values.L0k (K : Out → Heap → Bool) := (blockK 0 (seqK false (EV (partOf (codeOf Tryz.f161) [1, 1, 1])) (RL Tryz.f161 K)))
theorem F.ref07_values.L0_eq : EV F.ref07_values.L0 ⟨e, 31, [], h⟩ J = (
bindO (lenS .slice (e 1) h) fun k =>
bindO (binS .lss (e 8) k) fun l =>
let Q1 := (setV (setV (setV (setV e 12 (e 8)) 13 (e 1)) 14 k) 15 l); condB l (
bindO (iaS 1 (e 1) (e 8)) fun f =>
bindO (loadS none f h) fun g =>
semCall TP 128 [(e 0), g] h (outK (fun m n =>
bindO (iaS 1 (e 2) m) fun a =>
bindO (loadS none a n) fun b =>
bindO (iaS 1 (e 7) (e 8)) fun c =>
bindO (storeS 1 c b n) fun i =>
bindO (binS .add (e 8) (.int .i64 1)) fun d =>
J .normal ⟨(setV (setV (setV (setV (setV (setV (setV (setV (setV (setV (setV (setV (setV (setV (setV Q1 18 (e 7)) 19 (e 8)) 20 (e 2)) 21 (e 0)) 22 (e 1)) 23 (e 8)) 24 f) 25 g) 26 m) 27 a) 28 b) 29 c) 16 (e 8)) 17 d) 8 d), 31, [], i⟩) (fun o j => J (.panic o) ⟨(setV (setV (setV (setV (setV (setV (setV (setV Q1 18 (e 7)) 19 (e 8)) 20 (e 2)) 21 (e 0)) 22 (e 1)) 23 (e 8)) 24 f) 25 g), 31, [], j⟩))) (
J (.exit 0) ⟨Q1, 31, [], h⟩)) := by kernel_rfl
theorem F.ref07_values.L0_x0_eq : F.ref07_values.L0k K (.exit 0) ⟨e, 31, [], h⟩ = (
K (.ret (e 7)) h) := by kernel_rfl
noncomputable def F.ref07_in.L0 := partOf (codeOf Tryz.f162) [1, 0, 1, 0, 0]
noncomputable def F.ref07_in.L0k (K : Out → Heap → Bool) := (blockK 0 (seqK false (EV (partOf (codeOf Tryz.f162) [1, 1])) (RL Tryz.f162 K)))
theorem F.ref07_in.L0_eq : EV F.ref07_in.L0 ⟨e, 33, [], h⟩ J = (
bindO (lenS .slice (e 0) h) fun j =>
bindO (binS .lss (e 9) j) fun k =>
let Q1 := (setV (setV (setV (setV e 10 (e 9)) 11 (e 0)) 12 j) 13 k); condB k (
bindO (iaS 3 (e 0) (e 9)) fun l =>
bindO (faS 0 l) fun m =>
bindO (loadS none m h) fun n =>
bindO (eqV .string n (e 2)) fun o =>
let Q2 := (setV (setV (setV (setV (setV (setV (setV Q1 16 (e 0)) 17 (e 9)) 18 l) 19 m) 20 n) 21 (e 2)) 22 o); condB o (
bindO (iaS 3 (e 0) (e 9)) fun p =>
bindO (faS 2 p) fun f =>
bindO (loadS none f h) fun g =>
semCall TP 164 [(e 1), (e 3)] h (outK (fun q a =>
if ((bindO (loadS none f a) fun i =>
AV.beq i g) && true) = true then (
bindO (iaS 1 g q) fun b =>
bindO (loadS none b a) fun c =>
J .ret ⟨(setV (setV (setV (setV (setV (setV (setV (setV (setV (setV (setV Q2 23 (e 0)) 24 (e 9)) 25 p) 26 f) 27 g) 28 (e 1)) 29 (e 3)) 30 q) 31 b) 32 c) 8 c), 33, [], a⟩) else false) (fun _ _ => false))) (
bindO (binS .add (e 9) (.int .i64 1)) fun d =>
J .normal ⟨(setV (setV (setV Q2 14 (e 9)) 15 d) 9 d), 33, [], h⟩)) (
J (.exit 0) ⟨Q1, 33, [], h⟩)) := by kernel_rfl
theorem F.ref07_in.L0_x0_eq : F.ref07_in.L0k K (.exit 0) ⟨e, 33, [], h⟩ = (
K (.ret (.bool false)) h) := by kernel_rfl
theorem F.ref07_in.L0_r_eq : F.ref07_in.L0k K .ret ⟨e, 33, [], h⟩ = (
K (.ret (e 8)) h) := by kernel_rfl
noncomputable def F.ref07_Applies.L0 := partOf (codeOf Tryz.f124) [1, 0, 1, 0, 0]
noncomputable def F.ref07_Applies.L0k (K : Out → Heap → Bool) := (blockK 0 (seqK false (EV (partOf (codeOf Tryz.f124) [1, 1])) (RL Tryz.f124 K)))
theorem F.ref07_Applies.L0_eq : EV F.ref07_Applies.L0 ⟨e, 64, [], h⟩ J = (
bindO (faS 2 (e 5)) fun Z =>
bindO (loadS none Z h) fun x2 =>
bindO (lenS .slice x2 h) fun x3 =>
bindO (binS .lss (e 11) x3) fun x4 =>
let Q1 := (setV (setV (setV (setV (setV e 15 (e 11)) 16 Z) 17 x2) 18 x3) 19 x4); condB x4 (
bindO (faS 2 (e 5)) fun R =>
bindO (loadS none R h) fun S =>
bindO (iaS 4 S (e 11)) fun T =>
bindO (loadS (some 4) T h) fun U =>
bindO (storeS 4 (.ptr (Heap.next h) 0) U (Heap.alloc h (.cells [(.int .i64 0), (.bool false), (.str []), .nils]))) fun h9 =>
bindO (faS 2 (.ptr (Heap.next h) 0)) fun g =>
bindO (faS 1 g) fun i =>
bindO (loadS none i h9) fun j =>
semCall TP 161 [(e 1), j, (e 2)] h9 (outK (fun a b =>
bindO (faS 0 (.ptr (Heap.next h) 0)) fun r =>
bindO (loadS none r b) fun k =>
bindO (eqV (.int .i64) k (.int .i64 0)) fun l =>
let Q2 := (setV (setV (setV (setV (setV (setV (setV (setV (setV (setV (setV (setV (setV (setV (setV (setV (setV (setV Q1 22 R) 23 S) 24 (e 11)) 25 T) 26 U) 12 (.ptr (Heap.next h) 0)) 27 (e 1)) 28 g) 29 i) 30 j) 31 (e 2)) 32 a) 13 a) 14 (.bool false)) 33 r) 34 k) 43 l) 42 l); condB l (
bindO (faS 2 (.ptr (Heap.next h) 0)) fun m =>
bindO (faS 0 m) fun n =>
bindO (loadS none n b) fun o =>
semCall TP 162 [(e 3), (e 4), o, a] b (outK (fun c p =>
bindO (faS 1 (.ptr (Heap.next h) 0)) fun s =>
bindO (loadS none s p) fun t =>
bindO (eqV .bool c t) fun u =>
let Q3 := (setV (setV (setV (setV (setV (setV (setV (setV (setV (setV (setV (setV Q2 44 (e 3)) 45 (e 4)) 46 m) 47 n) 48 o) 49 a) 50 c) 14 c) 60 c) 61 s) 62 t) 63 u); condB u (
J .ret ⟨(setV Q3 10 (.bool false)), 64, [], p⟩) (
bindO (binS .add (e 11) (.int .i64 1)) fun v =>
J .normal ⟨(setV (setV (setV Q3 20 (e 11)) 21 v) 11 v), 64, [], p⟩)) (fun V W => J (.panic V) ⟨(setV (setV (setV (setV (setV (setV Q2 44 (e 3)) 45 (e 4)) 46 m) 47 n) 48 o) 49 a), 64, [], W⟩))) (
bindO (eqV (.int .i64) k (.int .i64 1)) fun q =>
let Q4 := (setV (setV Q2 52 q) 51 q); condB q (
bindO (iaS 1 a (.int .i64 0)) fun w =>
bindO (loadS none w b) fun x =>
bindO (iaS 1 a (.int .i64 1)) fun y =>
bindO (loadS none y b) fun z =>
bindO (eqV (.int .i64) x z) fun d =>
bindO (faS 1 (.ptr (Heap.next h) 0)) fun A =>
bindO (loadS none A b) fun B =>
bindO (eqV .bool d B) fun C =>
let Q5 := (setV (setV (setV (setV (setV (setV (setV (setV (setV (setV (setV (setV Q4 53 a) 54 w) 55 x) 56 a) 57 y) 58 z) 59 d) 14 d) 60 d) 61 A) 62 B) 63 C); condB C (
J .ret ⟨(setV Q5 10 (.bool false)), 64, [], b⟩) (
bindO (binS .add (e 11) (.int .i64 1)) fun D =>
J .normal ⟨(setV (setV (setV Q5 20 (e 11)) 21 D) 11 D), 64, [], b⟩)) (
bindO (iaS 1 a (.int .i64 0)) fun E =>
bindO (loadS none E b) fun G =>
bindO (iaS 1 a (.int .i64 1)) fun I =>
bindO (loadS none I b) fun L =>
bindO (binS .lss G L) fun f =>
bindO (faS 1 (.ptr (Heap.next h) 0)) fun M =>
bindO (loadS none M b) fun N =>
bindO (eqV .bool f N) fun O =>
let Q6 := (setV (setV (setV (setV (setV (setV (setV (setV (setV (setV (setV (setV Q4 35 a) 36 E) 37 G) 38 a) 39 I) 40 L) 41 f) 14 f) 60 f) 61 M) 62 N) 63 O); condB O (
J .ret ⟨(setV Q6 10 (.bool false)), 64, [], b⟩) (
bindO (binS .add (e 11) (.int .i64 1)) fun P =>
J .normal ⟨(setV (setV (setV Q6 20 (e 11)) 21 P) 11 P), 64, [], b⟩)))) (fun X Y => J (.panic X) ⟨(setV (setV (setV (setV (setV (setV (setV (setV (setV (setV (setV Q1 22 R) 23 S) 24 (e 11)) 25 T) 26 U) 12 (.ptr (Heap.next h) 0)) 27 (e 1)) 28 g) 29 i) 30 j) 31 (e 2)), 64, [], Y⟩))) (
J (.exit 0) ⟨Q1, 64, [], h⟩)) := by kernel_rfl
theorem F.ref07_Applies.L0_x0_eq : F.ref07_Applies.L0k K (.exit 0) ⟨e, 64, [], h⟩ = (
K (.ret (.bool true)) h) := by kernel_rfl
theorem F.ref07_Applies.L0_r_eq : F.ref07_Applies.L0k K .ret ⟨e, 64, [], h⟩ = (
K (.ret (e 10)) h) := by kernel_rfl
noncomputable def F.ref01_Same.L0 := partOf (codeOf Tryz.f16) [1, 1, 0, 1, 0, 0]
noncomputable def F.ref01_Same.L0k (K : Out → Heap → Bool) := (blockK 0 (seqK false (EV (partOf (codeOf Tryz.f16) [1, 1, 1])) (RL Tryz.f16 K)))
theorem F.ref01_Same.L0_eq : EV F.ref01_Same.L0 ⟨e, 59, [], h⟩ J = (
bindO (faS 1 (e 2)) fun p =>
bindO (loadS none p h) fun q =>
bindO (lenS .slice q h) fun r =>
bindO (binS .lss (e 5) r) fun s =>
let Q1 := (setV (setV (setV (setV (setV e 22 (e 5)) 23 p) 24 q) 25 r) 26 s); condB s (
bindO (faS 1 (e 2)) fun t =>
bindO (loadS none t h) fun u =>
bindO (iaS 3 u (e 5)) fun v =>
bindO (loadS (some 3) v h) fun w =>
bindO (faS 1 (e 3)) fun c =>
bindO (loadS none c h) fun d =>
bindO (iaS 3 d (e 5)) fun f =>
bindO (loadS (some 3) f h) fun g =>
bindO (storeS 3 (.ptr (Heap.next h) 0) w (Heap.alloc (Heap.alloc h (.cells [(.str []), (.int .i64 0), .nils])) (.cells [(.str []), (.int .i64 0), .nils]))) fun i =>
if ((bindO (loadS (some 3) f i) fun M =>
AV.beq M g) && ((bindO (loadS none c i) fun N =>
AV.beq N d) && true)) = true then (
bindO (storeS 3 (.ptr (Heap.next (Heap.alloc h (.cells [(.str []), (.int .i64 0), .nils]))) 0) g i) fun a =>
bindO (faS 0 (.ptr (Heap.next h) 0)) fun x =>
bindO (loadS none x a) fun y =>
bindO (faS 0 (.ptr (Heap.next (Heap.alloc h (.cells [(.str []), (.int .i64 0), .nils]))) 0)) fun z =>
bindO (loadS none z a) fun A =>
bindO (neV .string y A) fun j =>
let Q2 := (setV (setV (setV (setV (setV (setV (setV (setV (setV (setV (setV (setV (setV (setV (setV (setV (setV (setV Q1 29 t) 30 u) 31 (e 5)) 32 v) 33 w) 34 c) 35 d) 36 (e 5)) 37 f) 38 g) 6 (.ptr (Heap.next h) 0)) 7 (.ptr (Heap.next (Heap.alloc h (.cells [(.str []), (.int .i64 0), .nils]))) 0)) 39 x) 40 y) 41 z) 42 A) 43 j) 44 j); condB j (
J .ret ⟨(setV (setV (setV (setV (setV (setV (setV (setV (setV (setV (setV (setV (setV (setV (setV (setV (setV (setV (setV (setV (setV (setV (setV (setV (setV (setV Q2 44 (.bool true)) 45 noV) 44 (.bool true)) 46 noV) 44 (.bool true)) 47 noV) 44 (.bool true)) 48 noV) 44 (.bool true)) 49 noV) 50 (.bool true)) 51 (.bool true)) 51 (.bool true)) 52 noV) 51 (.bool true)) 53 noV) 51 (.bool true)) 54 noV) 51 (.bool true)) 55 noV) 51 (.bool true)) 56 noV) 51 (.bool true)) 57 noV) 58 (.bool true)) 4 (.bool false)), 59, [], a⟩) (
bindO (faS 1 (.ptr (Heap.next h) 0)) fun B =>
bindO (loadS none B a) fun C =>
bindO (faS 1 (.ptr (Heap.next (Heap.alloc h (.cells [(.str []), (.int .i64 0), .nils]))) 0)) fun D =>
bindO (loadS none D a) fun E =>
bindO (neV (.int .i64) C E) fun b =>
let Q3 := (setV (setV (setV (setV (setV (setV (setV (setV (setV (setV (setV (setV Q2 44 (.bool false)) 45 B) 44 (.bool false)) 46 C) 44 (.bool false)) 47 D) 44 (.bool false)) 48 E) 44 (.bool false)) 49 b) 50 b) 51 b); condB b (
J .ret ⟨(setV (setV (setV (setV (setV (setV (setV (setV (setV (setV (setV (setV (setV (setV Q3 51 (.bool true)) 52 noV) 51 (.bool true)) 53 noV) 51 (.bool true)) 54 noV) 51 (.bool true)) 55 noV) 51 (.bool true)) 56 noV) 51 (.bool true)) 57 noV) 58 (.bool true)) 4 (.bool false)), 59, [], a⟩) (
bindO (faS 2 (.ptr (Heap.next h) 0)) fun k =>
bindO (loadS none k a) fun l =>
bindO (faS 2 (.ptr (Heap.next (Heap.alloc h (.cells [(.str []), (.int .i64 0), .nils]))) 0)) fun m =>
bindO (loadS none m a) fun n =>
semCall TP 51 [l, n] a (outK (fun G I =>
bindO (unS .not G) fun o =>
let Q4 := (setV (setV (setV (setV (setV (setV (setV (setV (setV (setV (setV (setV (setV Q3 51 (.bool false)) 52 k) 51 (.bool false)) 53 l) 51 (.bool false)) 54 m) 51 (.bool false)) 55 n) 51 (.bool false)) 56 G) 51 (.bool false)) 57 o) 58 o); condB o (
J .ret ⟨(setV Q4 4 (.bool false)), 59, [], I⟩) (
bindO (binS .add (e 5) (.int .i64 1)) fun L =>
J .normal ⟨(setV (setV (setV Q4 27 (e 5)) 28 L) 5 L), 59, [], I⟩)) (fun O P => J (.panic O) ⟨(setV (setV (setV (setV (setV (setV (setV (setV (setV Q3 51 (.bool false)) 52 k) 51 (.bool false)) 53 l) 51 (.bool false)) 54 m) 51 (.bool false)) 55 n) 51 (.bool false)), 59, [], P⟩))))) else false) (
J (.exit 0) ⟨Q1, 59, [], h⟩)) := by kernel_rfl
theorem F.ref01_Same.L0_x0_eq : F.ref01_Same.L0k K (.exit 0) ⟨e, 59, [], h⟩ = (
K (.ret (.bool true)) h) := by kernel_rfl
theorem F.ref01_Same.L0_r_eq : F.ref01_Same.L0k K .ret ⟨e, 59, [], h⟩ = (
K (.ret (e 4)) h) := by kernel_rfl
theorem F.ref01_Same_eq : EV (codeOf Tryz.f16) ⟨mkEnv [a0, a1], 59, [], h⟩ (RL Tryz.f16 K) = (
bindO (boxS a0) fun a =>
bindO (boxS a1) fun b =>
bindO (faS 0 (.ptr (Heap.next h) 0)) fun j =>
bindO (loadS none j (Heap.alloc (Heap.alloc h (.cells a)) (.cells b))) fun k =>
bindO (faS 0 (.ptr (Heap.next (Heap.alloc h (.cells a))) 0)) fun l =>
bindO (loadS none l (Heap.alloc (Heap.alloc h (.cells a)) (.cells b))) fun m =>
bindO (neV (.int .i64) k m) fun i =>
condB i (
K (.ret (.bool false)) (Heap.alloc (Heap.alloc h (.cells a)) (.cells b))) (
bindO (faS 1 (.ptr (Heap.next h) 0)) fun n =>
bindO (loadS none n (Heap.alloc (Heap.alloc h (.cells a)) (.cells b))) fun o =>
bindO (lenS .slice o (Heap.alloc (Heap.alloc h (.cells a)) (.cells b))) fun p =>
bindO (faS 1 (.ptr (Heap.next (Heap.alloc h (.cells a))) 0)) fun d =>
bindO (loadS none d (Heap.alloc (Heap.alloc h (.cells a)) (.cells b))) fun f =>
bindO (lenS .slice f (Heap.alloc (Heap.alloc h (.cells a)) (.cells b))) fun g =>
bindO (neV (.int .i64) p g) fun c =>
condB c (
K (.ret (.bool false)) (Heap.alloc (Heap.alloc h (.cells a)) (.cells b))) (
loopB (EV F.ref01_Same.L0) ⟨(setV (setV (setV (setV (setV (setV (setV (setV (setV (setV (setV (setV (setV (setV (setV (setV (setV (setV (setV (setV (setV (setV (setV (setV (setV (mkEnv [a0, a1]) 2 (.ptr (Heap.next h) 0)) 3 (.ptr (Heap.next (Heap.alloc h (.cells a))) 0)) 4 (.bool false)) 8 j) 9 k) 10 l) 11 m) 12 i) 13 i) 13 (.bool false)) 14 n) 13 (.bool false)) 15 o) 13 (.bool false)) 16 p) 13 (.bool false)) 17 d) 13 (.bool false)) 18 f) 13 (.bool false)) 19 g) 13 (.bool false)) 20 c) 21 c) 5 (.int .i64 0)), 59, [], (Heap.alloc (Heap.alloc h (.cells a)) (.cells b))⟩ (F.ref01_Same.L0k K)))) := by kernel_rfl
theorem F.ref01_Same_sem (hh : EV (codeOf Tryz.f16) ⟨mkEnv [a0, a1], 59, [], h⟩ (RL Tryz.f16 K) = true) : Sem TP 16 [a0, a1] h K :=
  SB Tryz.func16 rfl (by decide) (by kernel_rfl) hh
noncomputable def F.ref01_SameTuples.L0 := partOf (codeOf Tryz.f51) [1, 1, 0, 1, 0, 0]
noncomputable def F.ref01_SameTuples.L0k (K : Out → Heap → Bool) := (blockK 0 (seqK false (EV (partOf (codeOf Tryz.f51) [1, 1, 1])) (RL Tryz.f51 K)))
theorem F.ref01_SameTuples.L0_eq : EV F.ref01_SameTuples.L0 ⟨e, 27, [], h⟩ J = (
bindO (lenS .slice (e 0) h) fun d =>
bindO (binS .lss (e 5) d) fun f =>
let Q1 := (setV (setV (setV (setV e 11 (e 5)) 12 (e 0)) 13 d) 14 f); condB f (
bindO (iaS 1 (e 0) (e 5)) fun g =>
bindO (loadS none g h) fun i =>
bindO (iaS 1 (e 1) (e 5)) fun j =>
bindO (loadS none j h) fun k =>
semCall TP 20 [i, k] h (outK (fun l a =>
bindO (unS .not l) fun b =>
let Q2 := (setV (setV (setV (setV (setV (setV (setV (setV (setV (setV Q1 17 (e 0)) 18 (e 5)) 19 g) 20 i) 21 (e 1)) 22 (e 5)) 23 j) 24 k) 25 l) 26 b); condB b (
J .ret ⟨(setV Q2 4 (.bool false)), 27, [], a⟩) (
bindO (binS .add (e 5) (.int .i64 1)) fun c =>
J .normal ⟨(setV (setV (setV Q2 15 (e 5)) 16 c) 5 c), 27, [], a⟩)) (fun _ _ => false))) (
J (.exit 0) ⟨Q1, 27, [], h⟩)) := by kernel_rfl
theorem F.ref01_SameTuples.L0_x0_eq : F.ref01_SameTuples.L0k K (.exit 0) ⟨e, 27, [], h⟩ = (
K (.ret (.bool true)) h) := by kernel_rfl
theorem F.ref01_SameTuples.L0_r_eq : F.ref01_SameTuples.L0k K .ret ⟨e, 27, [], h⟩ = (
K (.ret (e 4)) h) := by kernel_rfl
noncomputable def F.law07_Cheap.L0 := partOf (codeOf Tryz.f10) [1, 1, 1, 1, 0, 1, 0, 0]
noncomputable def F.law07_Cheap.L0k (K : Out → Heap → Bool) := (blockK 0 (seqK false (EV (partOf (codeOf Tryz.f10) [1, 1, 1, 1, 1])) (RL Tryz.f10 K)))
noncomputable def F.law07_Cheap.L1 := partOf (codeOf Tryz.f10) [1, 1, 1, 1, 0, 1, 0, 0, 1, 0, 0, 1, 0, 1, 0, 0]
noncomputable def F.law07_Cheap.L1k (J : AX → St → Bool) := (blockK 2 (seqK false (EV (partOf (codeOf Tryz.f10) [1, 1, 1, 1, 0, 1, 0, 0, 1, 0, 0, 1, 1])) (blockK 1 (seqK false (EV (partOf (codeOf Tryz.f10) [1, 1, 1, 1, 0, 1, 0, 0, 1, 1])) J))))
theorem F.law07_Cheap.L0_eq : EV F.law07_Cheap.L0 ⟨e, 50, [], h⟩ J = (
bindO (lenS .slice (e 0) h) fun a =>
bindO (binS .lss (e 8) a) fun b =>
let Q1 := (setV (setV (setV (setV e 24 (e 8)) 25 (e 0)) 26 a) 27 b); condB b (
loopB (EV F.law07_Cheap.L1) ⟨(setV (setV Q1 9 (.int .i64 1)) 10 (.int .i64 0)), 50, [], h⟩ (F.law07_Cheap.L1k J)) (
J (.exit 0) ⟨Q1, 50, [], h⟩)) := by kernel_rfl
theorem F.law07_Cheap.L0_x0_eq : F.law07_Cheap.L0k K (.exit 0) ⟨e, 50, [], h⟩ = (
bindO (binS .leq (e 7) (e 2)) fun a =>
K (.ret a) h) := by kernel_rfl
theorem F.law07_Cheap.L1_eq : EV F.law07_Cheap.L1 ⟨e, 50, [], h⟩ J = (
bindO (iaS 3 (e 0) (e 8)) fun b =>
bindO (loadS (some 3) b h) fun c =>
semCall TP 43 [c] h (outK (fun d a =>
bindO (lenS .slice d a) fun f =>
bindO (binS .lss (e 10) f) fun g =>
let Q1 := (setV (setV (setV (setV (setV (setV (setV (setV e 30 (e 10)) 31 (e 0)) 32 (e 8)) 33 b) 34 c) 35 d) 36 f) 37 g); condB g (
bindO (faS 0 (e 4)) fun i =>
bindO (loadS none i a) fun j =>
bindO (binS .mul (e 9) j) fun k =>
bindO (binS .add (e 10) (.int .i64 1)) fun l =>
J .normal ⟨(setV (setV (setV (setV (setV (setV (setV (setV Q1 40 (e 9)) 41 i) 42 j) 43 k) 9 k) 38 (e 10)) 39 l) 10 l), 50, [], a⟩) (
J (.exit 2) ⟨Q1, 50, [], a⟩)) (fun m n => J (.panic m) ⟨(setV (setV (setV (setV (setV e 30 (e 10)) 31 (e 0)) 32 (e 8)) 33 b) 34 c), 50, [], n⟩))) := by kernel_rfl
theorem F.law07_Cheap.L1_x2_eq : F.law07_Cheap.L1k J (.exit 2) ⟨e, 50, [], h⟩ = (
bindO (binS .add (e 7) (e 9)) fun a =>
bindO (binS .add (e 8) (.int .i64 1)) fun b =>
J .normal ⟨(setV (setV (setV (setV (setV (setV (setV e 44 (e 7)) 45 (e 9)) 46 a) 7 a) 28 (e 8)) 29 b) 8 b), 50, [], h⟩) := by kernel_rfl
end
end Go.AM
