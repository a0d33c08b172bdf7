/- What functions of the program do, as terms: printed by a program. Conditions: none. -/
import Derived.Test.YtfdanacohcffmaaGreatKn18
namespace Go.AM
open Go Go.Proofs
set_option linter.unusedVariables false
noncomputable section
variable {K : Out → Heap → Bool} {J : AX → St → Bool} {h : Heap} {e : Env} {a0 a1 a2 : AV}
noncomputable def F.law08_KeepFacts.L0 := partOf (codeOf Tryz.f3) [1, 1, 1, 1, 0, 1, 0, 0]
noncomputable def F.law08_KeepFacts.L0k (K : Out → Heap → Bool) := (blockK 0 (seqK false (EV (partOf (codeOf Tryz.f3) [1, 1, 1, 1, 1])) (RL Tryz.f3 K)))
theorem F.law08_KeepFacts.L0_eq : EV F.law08_KeepFacts.L0 ⟨e, 120, [], h⟩ J = (
bindO (lenS .slice (e 2) h) fun W =>
bindO (binS .lss (e 8) W) fun X =>
let Q1 := (setV (setV (setV (setV e 33 (e 8)) 34 (e 2)) 35 W) 36 X); condB X (
semCall TP 14 [(e 7)] h (outK (fun Y a =>
bindO (storeS 2 (.ptr (Heap.next a) 0) Y (Heap.alloc a (.cells [(.int .i64 0), .nils]))) fun m =>
bindO (iaS 4 (e 2) (e 8)) fun Z =>
bindO (faS 1 Z) fun x38 =>
bindO (loadS none x38 m) fun x39 =>
bindO (iaS 4 (e 2) (e 8)) fun x40 =>
bindO (faS 2 x40) fun x41 =>
bindO (loadS none x41 m) fun x42 =>
bindO (iaS 4 (e 2) (e 8)) fun x43 =>
bindO (faS 3 x43) fun x44 =>
bindO (loadS none x44 m) fun x45 =>
semCall TP 15 [(e 7), x39, x42, x45] m (outK (fun f n =>
bindO (extractS f 0) fun g =>
bindO (extractS f 1) fun i =>
bindO (extractS f 2) fun o =>
bindO (neV (.int .i64) o (.int .i64 0)) fun x51 =>
let Q2 := (setV (setV (setV (setV (setV (setV (setV (setV (setV (setV (setV (setV (setV (setV (setV (setV (setV (setV (setV (setV (setV (setV (setV (setV (setV (setV (setV (setV (setV Q1 39 (e 7)) 40 Y) 9 (.ptr (Heap.next a) 0)) 42 (e 7)) 43 (e 2)) 44 (e 8)) 45 Z) 46 x38) 47 x39) 48 (e 2)) 49 (e 8)) 50 x40) 51 x41) 52 x42) 53 (e 2)) 54 (e 8)) 55 x43) 56 x44) 57 x45) 58 f) 41 f) 59 g) 60 i) 61 o) 10 g) 11 i) 12 o) 62 o) 63 x51); condB x51 (
bindO (loadS (some 2) (.ptr (Heap.next a) 0) n) fun y =>
semCall TP 14 [(e 7)] n (outK (fun x53 h54 =>
if ((bindO (loadS (some 2) (.ptr (Heap.next a) 0) h54) fun x55 =>
AV.beq x55 y) && true) = true then (
semCall TP 16 [x53, y] h54 (outK (fun x56 h57 =>
bindO (unS .not x56) fun x58 =>
let Q3 := (setV (setV (setV (setV (setV Q2 64 (e 7)) 66 y) 65 x53) 67 x56) 68 x58); condB x58 (
J .ret ⟨(setV Q3 6 (.bool false)), 120, [], h57⟩) (
bindO (binS .add (e 8) (.int .i64 1)) fun x59 =>
J .normal ⟨(setV (setV (setV Q3 37 (e 8)) 38 x59) 8 x59), 120, [], h57⟩)) (fun _ _ => false))) else false) (fun _ _ => false))) (
bindO (loadS (some 2) (.ptr (Heap.next a) 0) n) fun z =>
semCall TP 17 [z, g, i] n (outK (fun p b =>
bindO (extractS p 0) fun x65 =>
bindO (extractS p 1) fun q =>
bindO (storeS 2 (.ptr (Heap.next b) 0) x65 (Heap.alloc b (.cells [(.int .i64 0), .nils]))) fun A =>
bindO (unS .not q) fun B =>
let Q4 := (setV (setV (setV (setV (setV (setV (setV (setV (setV (setV (setV (setV Q2 70 z) 71 g) 72 i) 73 p) 69 p) 74 x65) 75 q) 13 (.ptr (Heap.next b) 0)) 14 q) 76 q) 77 B) 78 B); condB B (
J .ret ⟨(setV (setV (setV (setV (setV (setV (setV (setV (setV (setV (setV (setV Q4 78 (.bool true)) 79 noV) 78 (.bool true)) 81 noV) 78 (.bool true)) 80 noV) 78 (.bool true)) 82 noV) 78 (.bool true)) 83 noV) 84 (.bool true)) 6 (.bool false)), 120, [], A⟩) (
bindO (loadS (some 2) (.ptr (Heap.next b) 0) A) fun C =>
semCall TP 14 [(e 7)] A (outK (fun x70 h71 =>
if ((bindO (loadS (some 2) (.ptr (Heap.next b) 0) h71) fun x72 =>
AV.beq x72 C) && true) = true then (
semCall TP 16 [x70, C] h71 (outK (fun x73 c =>
bindO (unS .not x73) fun D =>
let Q5 := (setV (setV (setV (setV (setV (setV (setV (setV (setV (setV (setV Q4 78 (.bool false)) 79 (e 7)) 78 (.bool false)) 81 C) 78 (.bool false)) 80 x70) 78 (.bool false)) 82 x73) 78 (.bool false)) 83 D) 84 D); condB D (
J .ret ⟨(setV Q5 6 (.bool false)), 120, [], c⟩) (
bindO (loadS (some 2) (e 4) c) fun E =>
bindO (iaS 4 (e 2) (e 8)) fun G =>
bindO (faS 1 G) fun I =>
bindO (loadS none I c) fun L =>
bindO (iaS 4 (e 2) (e 8)) fun M =>
bindO (faS 2 M) fun N =>
bindO (loadS none N c) fun O =>
bindO (iaS 4 (e 2) (e 8)) fun P =>
bindO (faS 3 P) fun R =>
bindO (loadS none R c) fun S =>
semCall TP 18 [E, L, O, S] c (outK (fun d h87 =>
bindO (extractS d 0) fun T =>
bindO (extractS d 1) fun x89 =>
bindO (storeS 2 (e 4) T h87) fun h90 =>
bindO (loadS (some 2) (e 4) h90) fun U =>
semCall TP 19 [(e 0), U] h90 (outK (fun r s =>
bindO (extractS r 0) fun x96 =>
bindO (extractS r 1) fun t =>
bindO (storeS 2 (.ptr (Heap.next s) 0) x96 (Heap.alloc s (.cells [(.int .i64 0), .nils]))) fun u =>
bindO (neV (.int .i64) t (.int .i64 0)) fun V =>
let Q6 := (setV (setV (setV (setV (setV (setV (setV (setV (setV (setV (setV (setV (setV (setV (setV (setV (setV (setV (setV (setV (setV (setV (setV (setV (setV (setV (setV (setV (setV (setV (setV Q5 86 E) 87 (e 2)) 88 (e 8)) 89 G) 90 I) 91 L) 92 (e 2)) 93 (e 8)) 94 M) 95 N) 96 O) 97 (e 2)) 98 (e 8)) 99 P) 100 R) 101 S) 102 d) 85 d) 103 T) 104 x89) 106 (e 0)) 107 U) 108 r) 105 r) 109 x96) 110 t) 15 (.ptr (Heap.next s) 0)) 16 t) 111 t) 112 V) 113 V); condB V (
J .ret ⟨(setV (setV (setV (setV (setV (setV (setV (setV (setV (setV Q6 113 (.bool true)) 114 noV) 113 (.bool true)) 115 noV) 113 (.bool true)) 116 noV) 113 (.bool true)) 117 noV) 118 (.bool true)) 6 (.bool false)), 120, [], u⟩) (
bindO (loadS (some 2) (.ptr (Heap.next s) 0) u) fun j =>
bindO (loadS (some 2) (.ptr (Heap.next b) 0) u) fun k =>
semCall TP 16 [j, k] u (outK (fun v w =>
bindO (unS .not v) fun l =>
let Q7 := (setV (setV (setV (setV (setV (setV (setV (setV (setV Q6 113 (.bool false)) 114 j) 113 (.bool false)) 115 k) 113 (.bool false)) 116 v) 113 (.bool false)) 117 l) 118 l); condB l (
J .ret ⟨(setV Q7 6 (.bool false)), 120, [], w⟩) (
bindO (binS .add (e 8) (.int .i64 1)) fun x =>
J .normal ⟨(setV (setV (setV Q7 37 (e 8)) 38 x) 8 x), 120, [], w⟩)) (fun v104 h105 => J (.panic v104) ⟨(setV (setV (setV (setV (setV Q6 113 (.bool false)) 114 j) 113 (.bool false)) 115 k) 113 (.bool false)), 120, [], h105⟩)))) (fun v94 h95 => J (.panic v94) ⟨(setV (setV (setV (setV (setV (setV (setV (setV (setV (setV (setV (setV (setV (setV (setV (setV (setV (setV (setV (setV (setV (setV Q5 86 E) 87 (e 2)) 88 (e 8)) 89 G) 90 I) 91 L) 92 (e 2)) 93 (e 8)) 94 M) 95 N) 96 O) 97 (e 2)) 98 (e 8)) 99 P) 100 R) 101 S) 102 d) 85 d) 103 T) 104 x89) 106 (e 0)) 107 U), 120, [], h95⟩))) (fun _ _ => false)))) (fun _ _ => false))) else false) (fun _ _ => false)))) (fun v63 h64 => J (.panic v63) ⟨(setV (setV (setV Q2 70 z) 71 g) 72 i), 120, [], h64⟩)))) (fun _ _ => false))) (fun v34 h35 => J (.panic v34) ⟨(setV Q1 39 (e 7)), 120, [], h35⟩))) (
J (.exit 0) ⟨Q1, 120, [], h⟩)) := by kernel_rfl
theorem F.law08_KeepFacts.L0_x0_eq : F.law08_KeepFacts.L0k K (.exit 0) ⟨e, 120, [], h⟩ = (
semCall TP 12 [] h (outK (fun a b =>
K (.ret a) b) (fun c d => K (.panic c) d))) := by kernel_rfl
theorem F.law08_KeepFacts.L0_r_eq : F.law08_KeepFacts.L0k K .ret ⟨e, 120, [], h⟩ = (
K (.ret (e 6)) h) := by kernel_rfl
noncomputable def F.law08_KeepOrder.L0 := partOf (codeOf Tryz.f4) [1, 1, 1, 1, 0, 1, 0, 0]
noncomputable def F.law08_KeepOrder.L0k (K : Out → Heap → Bool) := (blockK 0 (seqK false (EV (partOf (codeOf Tryz.f4) [1, 1, 1, 1, 1])) (RL Tryz.f4 K)))
noncomputable def F.law08_KeepOrder.L1 := partOf (codeOf Tryz.f4) [1, 1, 1, 1, 0, 1, 0, 0, 1, 0, 0, 1, 0, 0]
noncomputable def F.law08_KeepOrder.L1k (J : AX → St → Bool) := (blockK 2 (blockK 1 (seqK false (EV (partOf (codeOf Tryz.f4) [1, 1, 1, 1, 0, 1, 0, 0, 1, 1])) J)))
noncomputable def F.law08_KeepOrder.L2 := partOf (codeOf Tryz.f4) [1, 1, 1, 1, 1, 0, 1, 0, 0]
noncomputable def F.law08_KeepOrder.L2k (K : Out → Heap → Bool) := (blockK 4 (seqK false (EV (partOf (codeOf Tryz.f4) [1, 1, 1, 1, 1, 1])) (RL Tryz.f4 K)))
theorem F.law08_KeepOrder.L0_eq : EV F.law08_KeepOrder.L0 ⟨e, 115, [], h⟩ J = (
bindO (lenS .slice (e 2) h) fun a =>
bindO (binS .lss (e 9) a) fun b =>
let Q1 := (setV (setV (setV (setV e 37 (e 9)) 38 (e 2)) 39 a) 40 b); condB b (
loopB (EV F.law08_KeepOrder.L1) ⟨(setV Q1 10 (.int .i64 0)), 115, [], h⟩ (F.law08_KeepOrder.L1k J)) (
J (.exit 0) ⟨Q1, 115, [], h⟩)) := by kernel_rfl
theorem F.law08_KeepOrder.L0_x0_eq : F.law08_KeepOrder.L0k K (.exit 0) ⟨e, 115, [], h⟩ = (
loopB (EV F.law08_KeepOrder.L2) ⟨(setV e 11 (.int .i64 0)), 115, [], h⟩ (F.law08_KeepOrder.L2k K)) := by kernel_rfl
theorem F.law08_KeepOrder.L0_r_eq : F.law08_KeepOrder.L0k K .ret ⟨e, 115, [], h⟩ = (
K (.ret (e 6)) h) := by kernel_rfl
theorem F.law08_KeepOrder.L1_eq : EV F.law08_KeepOrder.L1 ⟨e, 115, [], h⟩ J = (
bindO (binS .lss (e 10) (e 9)) fun c =>
let Q1 := (setV (setV (setV e 43 (e 10)) 44 (e 9)) 45 c); condB c (
bindO (iaS 4 (e 2) (e 10)) fun d =>
bindO (faS 1 d) fun f =>
bindO (loadS none f h) fun g =>
bindO (iaS 4 (e 2) (e 9)) fun i =>
bindO (faS 1 i) fun j =>
bindO (loadS none j h) fun k =>
bindO (eqV .string g k) fun a =>
let Q2 := (setV (setV (setV (setV (setV (setV (setV (setV (setV (setV (setV (setV Q1 48 (e 2)) 49 (e 10)) 50 d) 51 f) 52 g) 53 (e 2)) 54 (e 9)) 55 i) 56 j) 57 k) 58 a) 59 a); condB a (
bindO (iaS 4 (e 2) (e 10)) fun l =>
bindO (faS 2 l) fun m =>
bindO (loadS none m h) fun n =>
bindO (iaS 4 (e 2) (e 9)) fun o =>
bindO (faS 2 o) fun p =>
bindO (loadS none p h) fun q =>
semCall TP 20 [n, q] h (outK (fun b r =>
let Q3 := (setV (setV (setV (setV (setV (setV (setV (setV (setV (setV (setV (setV (setV (setV (setV (setV (setV (setV (setV (setV (setV (setV (setV Q2 59 (.bool true)) 60 (e 2)) 59 (.bool true)) 61 (e 10)) 59 (.bool true)) 62 l) 59 (.bool true)) 63 m) 59 (.bool true)) 64 n) 59 (.bool true)) 65 (e 2)) 59 (.bool true)) 66 (e 9)) 59 (.bool true)) 67 o) 59 (.bool true)) 68 p) 59 (.bool true)) 69 q) 59 (.bool true)) 70 b) 71 b); condB b (
semCall TP 12 [] r (outK (fun s v =>
J .ret ⟨(setV (setV Q3 72 s) 6 s), 115, [], v⟩) (fun w x => J (.panic w) ⟨Q3, 115, [], x⟩))) (
bindO (binS .add (e 10) (.int .i64 1)) fun t =>
J .normal ⟨(setV (setV (setV Q3 46 (e 10)) 47 t) 10 t), 115, [], r⟩)) (fun _ _ => false))) (
bindO (binS .add (e 10) (.int .i64 1)) fun u =>
J .normal ⟨(setV (setV (setV (setV (setV (setV (setV (setV (setV (setV (setV (setV (setV (setV (setV (setV (setV (setV (setV (setV (setV (setV (setV (setV (setV (setV Q2 59 (.bool false)) 60 noV) 59 (.bool false)) 61 noV) 59 (.bool false)) 62 noV) 59 (.bool false)) 63 noV) 59 (.bool false)) 64 noV) 59 (.bool false)) 65 noV) 59 (.bool false)) 66 noV) 59 (.bool false)) 67 noV) 59 (.bool false)) 68 noV) 59 (.bool false)) 69 noV) 59 (.bool false)) 70 noV) 71 (.bool false)) 46 (e 10)) 47 u) 10 u), 115, [], h⟩)) (
J (.exit 2) ⟨Q1, 115, [], h⟩)) := by kernel_rfl
theorem F.law08_KeepOrder.L1_x2_eq : F.law08_KeepOrder.L1k J (.exit 2) ⟨e, 115, [], h⟩ = (
bindO (binS .add (e 9) (.int .i64 1)) fun a =>
J .normal ⟨(setV (setV (setV e 41 (e 9)) 42 a) 9 a), 115, [], h⟩) := by kernel_rfl
theorem F.law08_KeepOrder.L1_r_eq : F.law08_KeepOrder.L1k J .ret ⟨e, 115, [], h⟩ = (
J .ret ⟨e, 115, [], h⟩) := by kernel_rfl
theorem F.law08_KeepOrder.L2_eq : EV F.law08_KeepOrder.L2 ⟨e, 115, [], h⟩ J = (
bindO (lenS .slice (e 2) h) fun y =>
bindO (binS .lss (e 11) y) fun z =>
let Q1 := (setV (setV (setV (setV e 73 (e 11)) 74 (e 2)) 75 y) 76 z); condB z (
bindO (iaS 4 (e 2) (e 11)) fun d =>
bindO (loadS (some 4) d h) fun f =>
bindO (lenS .slice (e 2) h) fun a =>
bindO (binS .sub a (.int .i64 1)) fun g =>
bindO (binS .sub g (e 11)) fun i =>
bindO (iaS 4 (e 2) i) fun b =>
bindO (loadS (some 4) b h) fun c =>
bindO (storeS 4 (.ptr (Heap.next h) 0) f (Heap.alloc (Heap.alloc h (.cells [(.int .i64 0), (.str []), .nils, (.bool false)])) (.cells [(.int .i64 0), (.str []), .nils, (.bool false)]))) fun r =>
if ((bindO (loadS (some 4) b r) fun C =>
AV.beq C c) && ((bindO (lenS .slice (e 2) r) fun D =>
AV.beq D a) && true)) = true then (
bindO (storeS 4 (.ptr (Heap.next (Heap.alloc h (.cells [(.int .i64 0), (.str []), .nils, (.bool false)]))) 0) c r) fun j =>
bindO (faS 1 (.ptr (Heap.next h) 0)) fun k =>
bindO (loadS none k j) fun l =>
bindO (faS 2 (.ptr (Heap.next h) 0)) fun m =>
bindO (loadS none m j) fun n =>
bindO (faS 3 (.ptr (Heap.next h) 0)) fun o =>
bindO (loadS none o j) fun p =>
semCall TP 15 [(e 7), l, n, p] j (outK (fun A q =>
bindO (faS 1 (.ptr (Heap.next (Heap.alloc h (.cells [(.int .i64 0), (.str []), .nils, (.bool false)]))) 0)) fun s =>
bindO (loadS none s q) fun t =>
bindO (faS 2 (.ptr (Heap.next (Heap.alloc h (.cells [(.int .i64 0), (.str []), .nils, (.bool false)]))) 0)) fun u =>
bindO (loadS none u q) fun v =>
bindO (faS 3 (.ptr (Heap.next (Heap.alloc h (.cells [(.int .i64 0), (.str []), .nils, (.bool false)]))) 0)) fun w =>
bindO (loadS none w q) fun x =>
semCall TP 15 [(e 8), t, v, x] q (outK (fun E G =>
bindO (binS .add (e 11) (.int .i64 1)) fun B =>
J .normal ⟨(setV (setV (setV (setV (setV (setV (setV (setV (setV (setV (setV (setV (setV (setV (setV (setV (setV (setV (setV (setV (setV (setV (setV (setV (setV (setV (setV (setV (setV (setV (setV (setV (setV Q1 79 (e 2)) 80 (e 11)) 81 d) 82 f) 83 (e 2)) 84 (e 2)) 85 a) 86 g) 87 (e 11)) 88 i) 89 b) 90 c) 12 (.ptr (Heap.next h) 0)) 13 (.ptr (Heap.next (Heap.alloc h (.cells [(.int .i64 0), (.str []), .nils, (.bool false)]))) 0)) 91 (e 7)) 92 k) 93 l) 94 m) 95 n) 96 o) 97 p) 98 A) 99 (e 8)) 100 s) 101 t) 102 u) 103 v) 104 w) 105 x) 106 E) 77 (e 11)) 78 B) 11 B), 115, [], G⟩) (fun I L => J (.panic I) ⟨(setV (setV (setV (setV (setV (setV (setV (setV (setV (setV (setV (setV (setV (setV (setV (setV (setV (setV (setV (setV (setV (setV (setV (setV (setV (setV (setV (setV (setV Q1 79 (e 2)) 80 (e 11)) 81 d) 82 f) 83 (e 2)) 84 (e 2)) 85 a) 86 g) 87 (e 11)) 88 i) 89 b) 90 c) 12 (.ptr (Heap.next h) 0)) 13 (.ptr (Heap.next (Heap.alloc h (.cells [(.int .i64 0), (.str []), .nils, (.bool false)]))) 0)) 91 (e 7)) 92 k) 93 l) 94 m) 95 n) 96 o) 97 p) 98 A) 99 (e 8)) 100 s) 101 t) 102 u) 103 v) 104 w) 105 x), 115, [], L⟩))) (fun M N => J (.panic M) ⟨(setV (setV (setV (setV (setV (setV (setV (setV (setV (setV (setV (setV (setV (setV (setV (setV (setV (setV (setV (setV (setV Q1 79 (e 2)) 80 (e 11)) 81 d) 82 f) 83 (e 2)) 84 (e 2)) 85 a) 86 g) 87 (e 11)) 88 i) 89 b) 90 c) 12 (.ptr (Heap.next h) 0)) 13 (.ptr (Heap.next (Heap.alloc h (.cells [(.int .i64 0), (.str []), .nils, (.bool false)]))) 0)) 91 (e 7)) 92 k) 93 l) 94 m) 95 n) 96 o) 97 p), 115, [], N⟩))) else false) (
J (.exit 4) ⟨Q1, 115, [], h⟩)) := by kernel_rfl
theorem F.law08_KeepOrder.L2_x4_eq : F.law08_KeepOrder.L2k K (.exit 4) ⟨e, 115, [], h⟩ = (
semCall TP 14 [(e 7)] h (outK (fun o p =>
semCall TP 14 [(e 8)] p (outK (fun b c =>
semCall TP 16 [o, b] c (outK (fun d a =>
condB d (
semCall TP 12 [] a (outK (fun f g =>
K (.ret f) g) (fun i j => K (.panic i) j))) (
K (.ret (.bool false)) a)) (fun k l => K (.panic k) l))) (fun m n => K (.panic m) n))) (fun q r => K (.panic q) r))) := by kernel_rfl
noncomputable def F.law08_KeepUndone.L0 := partOf (codeOf Tryz.f5) [1, 1, 1, 1, 1, 0, 1, 0, 0]
noncomputable def F.law08_KeepUndone.L0k (K : Out → Heap → Bool) := (blockK 0 (seqK false (EV (partOf (codeOf Tryz.f5) [1, 1, 1, 1, 1, 1])) (RL Tryz.f5 K)))
noncomputable def F.law08_KeepUndone.L1 := partOf (codeOf Tryz.f5) [1, 1, 1, 1, 1, 1, 0, 1, 0, 0]
noncomputable def F.law08_KeepUndone.L1k (K : Out → Heap → Bool) := (blockK 2 (seqK false (EV (partOf (codeOf Tryz.f5) [1, 1, 1, 1, 1, 1, 1])) (RL Tryz.f5 K)))
theorem F.law08_KeepUndone.L0_eq : EV F.law08_KeepUndone.L0 ⟨e, 159, [], h⟩ J = (
bindO (lenS .slice (e 2) h) fun B =>
bindO (binS .lss (e 9) B) fun C =>
let Q1 := (setV (setV (setV (setV e 41 (e 9)) 42 (e 2)) 43 B) 44 C); condB C (
bindO (lenS .slice (e 8) h) fun D =>
bindO (binS .sub D (.int .i64 1)) fun E =>
bindO (iaS 2 (e 8) E) fun G =>
bindO (loadS (some 2) G h) fun I =>
bindO (storeS 2 (.ptr (Heap.next h) 0) I (Heap.alloc h (.cells [(.int .i64 0), .nils]))) fun g =>
bindO (loadS (some 2) (.ptr (Heap.next h) 0) g) fun L =>
bindO (iaS 4 (e 2) (e 9)) fun M =>
bindO (faS 1 M) fun N =>
bindO (loadS none N g) fun O =>
bindO (iaS 4 (e 2) (e 9)) fun P =>
bindO (faS 2 P) fun R =>
bindO (loadS none R g) fun S =>
semCall TP 21 [L, O, S] g (outK (fun i j =>
bindO (extractS i 0) fun k =>
bindO (extractS i 1) fun l =>
bindO (iaS 4 (e 2) (e 9)) fun T =>
bindO (faS 1 T) fun U =>
bindO (loadS none U j) fun V =>
bindO (iaS 4 (e 2) (e 9)) fun W =>
bindO (faS 2 W) fun X =>
bindO (loadS none X j) fun Y =>
bindO (iaS 4 (e 2) (e 9)) fun Z =>
bindO (faS 3 Z) fun x60 =>
bindO (loadS none x60 j) fun x61 =>
semCall TP 15 [(e 7), V, Y, x61] j (outK (fun c u =>
bindO (extractS c 0) fun x64 =>
bindO (extractS c 1) fun x65 =>
bindO (extractS c 2) fun m =>
bindO (neV (.int .i64) m (.int .i64 0)) fun x67 =>
let Q2 := (setV (setV (setV (setV (setV (setV (setV (setV (setV (setV (setV (setV (setV (setV (setV (setV (setV (setV (setV (setV (setV (setV (setV (setV (setV (setV (setV (setV (setV (setV (setV (setV (setV (setV (setV (setV (setV (setV (setV (setV (setV (setV (setV (setV (setV (setV (setV (setV (setV (setV Q1 47 (e 8)) 48 (e 8)) 49 D) 50 E) 51 G) 52 I) 10 (.ptr (Heap.next h) 0)) 54 L) 55 (e 2)) 56 (e 9)) 57 M) 58 N) 59 O) 60 (e 2)) 61 (e 9)) 62 P) 63 R) 64 S) 65 i) 53 i) 66 k) 67 l) 11 k) 12 l) 69 (e 7)) 70 (e 2)) 71 (e 9)) 72 T) 73 U) 74 V) 75 (e 2)) 76 (e 9)) 77 W) 78 X) 79 Y) 80 (e 2)) 81 (e 9)) 82 Z) 83 x60) 84 x61) 85 c) 68 c) 86 x64) 87 x65) 88 m) 13 x64) 14 x65) 15 m) 89 m) 90 x67); condB x67 (
bindO (binS .add (e 9) (.int .i64 1)) fun x68 =>
J .normal ⟨(setV (setV (setV Q2 45 (e 9)) 46 x68) 9 x68), 159, [], u⟩) (
bindO (neV (.int .i64) l (.int .i64 0)) fun x69 =>
let Q3 := (setV (setV Q2 91 l) 92 x69); condB x69 (
J .ret ⟨(setV Q3 6 (.bool false)), 159, [], u⟩) (
semCall TP 14 [(e 7)] u (outK (fun x70 b =>
bindO (storeS 2 (.ptr (Heap.next b) 0) x70 (Heap.alloc b (.cells [(.int .i64 0), .nils]))) fun v =>
bindO (iaS 4 (e 2) (e 9)) fun x75 =>
bindO (faS 1 x75) fun x76 =>
bindO (loadS none x76 v) fun x77 =>
bindO (iaS 4 (e 2) (e 9)) fun x78 =>
bindO (faS 2 x78) fun x79 =>
bindO (loadS none x79 v) fun x80 =>
semCall TP 15 [(e 7), x77, x80, k] v (outK (fun d w =>
bindO (extractS d 0) fun x83 =>
bindO (extractS d 1) fun x84 =>
bindO (extractS d 2) fun n =>
bindO (neV (.int .i64) n (.int .i64 0)) fun x =>
let Q4 := (setV (setV (setV (setV (setV (setV (setV (setV (setV (setV (setV (setV (setV (setV (setV (setV (setV (setV (setV (setV (setV (setV (setV (setV (setV (setV Q3 93 (e 7)) 94 x70) 16 (.ptr (Heap.next b) 0)) 96 (e 7)) 97 (e 2)) 98 (e 9)) 99 x75) 100 x76) 101 x77) 102 (e 2)) 103 (e 9)) 104 x78) 105 x79) 106 x80) 107 k) 108 d) 95 d) 109 x83) 110 x84) 111 n) 17 x83) 18 x84) 19 n) 112 n) 113 x) 114 x); condB x (
J .ret ⟨(setV (setV (setV (setV (setV (setV (setV (setV (setV (setV (setV (setV (setV (setV (setV (setV (setV (setV (setV (setV (setV (setV (setV (setV (setV (setV (setV (setV (setV (setV (setV (setV Q4 114 (.bool true)) 115 noV) 114 (.bool true)) 117 noV) 114 (.bool true)) 116 noV) 114 (.bool true)) 118 noV) 114 (.bool true)) 119 noV) 120 (.bool true)) 121 (.bool true)) 121 (.bool true)) 122 noV) 121 (.bool true)) 123 noV) 121 (.bool true)) 124 noV) 125 (.bool true)) 126 (.bool true)) 126 (.bool true)) 127 noV) 126 (.bool true)) 129 noV) 126 (.bool true)) 128 noV) 126 (.bool true)) 130 noV) 126 (.bool true)) 131 noV) 132 (.bool true)) 6 (.bool false)), 159, [], w⟩) (
bindO (loadS (some 2) (.ptr (Heap.next h) 0) w) fun y =>
semCall TP 14 [(e 7)] w (outK (fun x88 h89 =>
if ((bindO (loadS (some 2) (.ptr (Heap.next h) 0) h89) fun x90 =>
AV.beq x90 y) && true) = true then (
semCall TP 16 [x88, y] h89 (outK (fun x91 h92 =>
bindO (unS .not x91) fun o =>
let Q5 := (setV (setV (setV (setV (setV (setV (setV (setV (setV (setV (setV (setV Q4 114 (.bool false)) 115 (e 7)) 114 (.bool false)) 117 y) 114 (.bool false)) 116 x88) 114 (.bool false)) 118 x91) 114 (.bool false)) 119 o) 120 o) 121 o); condB o (
J .ret ⟨(setV (setV (setV (setV (setV (setV (setV (setV (setV (setV (setV (setV (setV (setV (setV (setV (setV (setV (setV (setV Q5 121 (.bool true)) 122 noV) 121 (.bool true)) 123 noV) 121 (.bool true)) 124 noV) 125 (.bool true)) 126 (.bool true)) 126 (.bool true)) 127 noV) 126 (.bool true)) 129 noV) 126 (.bool true)) 128 noV) 126 (.bool true)) 130 noV) 126 (.bool true)) 131 noV) 132 (.bool true)) 6 (.bool false)), 159, [], h92⟩) (
semCall TP 22 [(e 7)] h92 (outK (fun x94 z =>
bindO (neV (.int .i64) x94 (.int .i64 0)) fun p =>
let Q6 := (setV (setV (setV (setV (setV (setV (setV (setV Q5 121 (.bool false)) 122 (e 7)) 121 (.bool false)) 123 x94) 121 (.bool false)) 124 p) 125 p) 126 p); condB p (
J .ret ⟨(setV (setV (setV (setV (setV (setV (setV (setV (setV (setV (setV (setV Q6 126 (.bool true)) 127 noV) 126 (.bool true)) 129 noV) 126 (.bool true)) 128 noV) 126 (.bool true)) 130 noV) 126 (.bool true)) 131 noV) 132 (.bool true)) 6 (.bool false)), 159, [], z⟩) (
bindO (loadS (some 2) (.ptr (Heap.next b) 0) z) fun A =>
semCall TP 14 [(e 7)] z (outK (fun x98 h99 =>
if ((bindO (loadS (some 2) (.ptr (Heap.next b) 0) h99) fun x100 =>
AV.beq x100 A) && true) = true then (
semCall TP 16 [x98, A] h99 (outK (fun q a =>
bindO (unS .not q) fun f =>
let Q7 := (setV (setV (setV (setV (setV (setV (setV (setV (setV (setV (setV Q6 126 (.bool false)) 127 (e 7)) 126 (.bool false)) 129 A) 126 (.bool false)) 128 x98) 126 (.bool false)) 130 q) 126 (.bool false)) 131 f) 132 f); condB f (
J .ret ⟨(setV Q7 6 (.bool false)), 159, [], a⟩) (
bindO (loadS (some 2) (.ptr (Heap.next b) 0) a) fun r =>
bindO (rowS [(.int .i64 0), .nils] [(0, 2)] [r]) fun c105 =>
bindO2 (appendS 2 32 (e 8) (.slice (Heap.next a) 0 1 2) (Heap.alloc a (.cells c105))) fun s h107 =>
bindO (binS .add (e 9) (.int .i64 1)) fun t =>
J .normal ⟨(setV (setV (setV (setV (setV (setV (setV (setV Q7 133 (e 8)) 134 r) 135 (.slice (Heap.next a) 0 1 2)) 136 s) 8 s) 45 (e 9)) 46 t) 9 t), 159, [], h107⟩)) (fun _ _ => false))) else false) (fun _ _ => false)))) (fun _ _ => false)))) (fun _ _ => false))) else false) (fun _ _ => false)))) (fun _ _ => false))) (fun v72 h73 => J (.panic v72) ⟨(setV Q3 93 (e 7)), 159, [], h73⟩))))) (fun _ _ => false))) (fun _ _ => false))) (
J (.exit 0) ⟨Q1, 159, [], h⟩)) := by kernel_rfl
theorem F.law08_KeepUndone.L0_x0_eq : F.law08_KeepUndone.L0k K (.exit 0) ⟨e, 159, [], h⟩ = (
bindO (lenS .slice (e 8) h) fun a =>
bindO (binS .sub a (.int .i64 1)) fun b =>
loopB (EV F.law08_KeepUndone.L1) ⟨(setV (setV (setV (setV e 137 (e 8)) 138 a) 139 b) 20 b), 159, [], h⟩ (F.law08_KeepUndone.L1k K)) := by kernel_rfl
theorem F.law08_KeepUndone.L0_r_eq : F.law08_KeepUndone.L0k K .ret ⟨e, 159, [], h⟩ = (
K (.ret (e 6)) h) := by kernel_rfl
theorem F.law08_KeepUndone.L1_eq : EV F.law08_KeepUndone.L1 ⟨e, 159, [], h⟩ J = (
bindO (binS .geq (e 20) (.int .i64 0)) fun d =>
let Q1 := (setV (setV e 140 (e 20)) 141 d); condB d (
bindO (iaS 2 (e 8) (e 20)) fun a =>
bindO (loadS (some 2) a h) fun b =>
semCall TP 14 [(e 7)] h (outK (fun f g =>
if ((bindO (loadS (some 2) a g) fun t =>
AV.beq t b) && true) = true then (
semCall TP 16 [f, b] g (outK (fun i c =>
bindO (unS .not i) fun j =>
let Q2 := (setV (setV (setV (setV (setV (setV (setV (setV Q1 144 (e 7)) 146 (e 8)) 147 (e 20)) 148 a) 149 b) 145 f) 150 i) 151 j); condB j (
J .ret ⟨(setV Q2 6 (.bool false)), 159, [], c⟩) (
bindO (eqV (.int .i64) (e 20) (.int .i64 0)) fun k =>
let Q3 := (setV (setV (setV Q2 21 (.int .i64 0)) 152 (e 20)) 153 k); condB k (
semCall TP 22 [(e 7)] c (outK (fun l m =>
bindO (neV (.int .i64) l (.int .i64 6)) fun n =>
let Q4 := (setV (setV (setV (setV (setV Q3 21 (.int .i64 6)) 154 (e 7)) 155 l) 156 (.int .i64 6)) 157 n); condB n (
J .ret ⟨(setV Q4 6 (.bool false)), 159, [], m⟩) (
bindO (binS .sub (e 20) (.int .i64 1)) fun o =>
J .normal ⟨(setV (setV (setV Q4 142 (e 20)) 143 o) 20 o), 159, [], m⟩)) (fun u v => J (.panic u) ⟨(setV (setV Q3 21 (.int .i64 6)) 154 (e 7)), 159, [], v⟩))) (
semCall TP 22 [(e 7)] c (outK (fun p q =>
bindO (neV (.int .i64) p (.int .i64 0)) fun r =>
let Q5 := (setV (setV (setV (setV Q3 154 (e 7)) 155 p) 156 (.int .i64 0)) 157 r); condB r (
J .ret ⟨(setV Q5 6 (.bool false)), 159, [], q⟩) (
bindO (binS .sub (e 20) (.int .i64 1)) fun s =>
J .normal ⟨(setV (setV (setV Q5 142 (e 20)) 143 s) 20 s), 159, [], q⟩)) (fun w x => J (.panic w) ⟨(setV Q3 154 (e 7)), 159, [], x⟩))))) (fun _ _ => false))) else false) (fun _ _ => false))) (
J (.exit 2) ⟨Q1, 159, [], h⟩)) := by kernel_rfl
theorem F.law08_KeepUndone.L1_x2_eq : F.law08_KeepUndone.L1k K (.exit 2) ⟨e, 159, [], h⟩ = (
semCall TP 12 [] h (outK (fun a b =>
K (.ret a) b) (fun c d => K (.panic c) d))) := by kernel_rfl
theorem F.law08_KeepUndone.L1_r_eq : F.law08_KeepUndone.L1k K .ret ⟨e, 159, [], h⟩ = (
K (.ret (e 6)) h) := by kernel_rfl
noncomputable def F.law08_KeepOwn.L0 := partOf (codeOf Tryz.f6) [1, 1, 1, 1, 1, 1, 1, 1, 0, 1, 0, 0]
noncomputable def F.law08_KeepOwn.L0k (K : Out → Heap → Bool) := (blockK 0 (seqK false (EV (partOf (codeOf Tryz.f6) [1, 1, 1, 1, 1, 1, 1, 1, 1])) (RL Tryz.f6 K)))
noncomputable def F.law08_KeepOwn.L1 := partOf (codeOf Tryz.f6) [1, 1, 1, 1, 1, 1, 1, 1, 1, 0, 1, 0, 0]
noncomputable def F.law08_KeepOwn.L1k (K : Out → Heap → Bool) := (blockK 2 (seqK false (EV (partOf (codeOf Tryz.f6) [1, 1, 1, 1, 1, 1, 1, 1, 1, 1])) (RL Tryz.f6 K)))
theorem F.law08_KeepOwn.L0_eq : EV F.law08_KeepOwn.L0 ⟨e, 195, [], h⟩ J = (
bindO (lenS .slice (e 2) h) fun x63 =>
bindO (binS .lss (e 13) x63) fun x64 =>
let Q1 := (setV (setV (setV (setV e 69 (e 13)) 70 (e 2)) 71 x63) 72 x64); condB x64 (
bindO (rowS [] [] []) fun c65 =>
bindO (iaS 4 (e 2) (e 13)) fun Y =>
bindO (faS 2 Y) fun Z =>
bindO (loadS none Z (Heap.alloc h (.cells c65))) fun x68 =>
bindO2 (appendS 1 8 (.slice (Heap.next h) 0 0 1) x68 (Heap.alloc h (.cells c65))) fun a B =>
bindO (iaS 4 (e 2) (e 13)) fun x71 =>
bindO (faS 1 x71) fun x72 =>
bindO (loadS none x72 B) fun x73 =>
bindO (iaS 4 (e 2) (e 13)) fun x74 =>
bindO (faS 2 x74) fun x75 =>
bindO (loadS none x75 B) fun x76 =>
bindO (iaS 4 (e 2) (e 13)) fun x77 =>
bindO (faS 3 x77) fun x78 =>
bindO (loadS none x78 B) fun x79 =>
semCall TP 15 [(e 7), x73, x76, x79] B (outK (fun j h81 =>
bindO (extractS j 0) fun q =>
bindO (extractS j 1) fun r =>
bindO (extractS j 2) fun s =>
bindO (iaS 4 (e 2) (e 13)) fun x85 =>
bindO (faS 1 x85) fun x86 =>
bindO (loadS none x86 h81) fun x87 =>
bindO (iaS 4 (e 2) (e 13)) fun x88 =>
bindO (faS 3 x88) fun x89 =>
bindO (loadS none x89 h81) fun x90 =>
semCall TP 15 [(e 11), x87, a, x90] h81 (outK (fun k h92 =>
bindO (extractS k 0) fun b =>
bindO (extractS k 1) fun d =>
bindO (extractS k 2) fun t =>
semCall TP 14 [(e 11)] h92 (outK (fun x96 u =>
bindO (storeS 2 (.ptr (Heap.next u) 0) x96 (Heap.alloc u (.cells [(.int .i64 0), .nils]))) fun C =>
bindO (neV (.int .i64) s t) fun v =>
let Q2 := (setV (setV (setV (setV (setV (setV (setV (setV (setV (setV (setV (setV (setV (setV (setV (setV (setV (setV (setV (setV (setV (setV (setV (setV (setV (setV (setV (setV (setV (setV (setV (setV (setV (setV (setV (setV (setV (setV (setV (setV (setV (setV (setV (setV (setV (setV (setV (setV (setV (setV (setV (setV (setV (setV (setV (setV (setV (setV (setV Q1 75 (.slice (Heap.next h) 0 0 1)) 76 (e 2)) 77 (e 13)) 78 Y) 79 Z) 80 x68) 81 a) 14 a) 83 (e 7)) 84 (e 2)) 85 (e 13)) 86 x71) 87 x72) 88 x73) 89 (e 2)) 90 (e 13)) 91 x74) 92 x75) 93 x76) 94 (e 2)) 95 (e 13)) 96 x77) 97 x78) 98 x79) 99 j) 82 j) 100 q) 101 r) 102 s) 15 q) 16 r) 17 s) 104 (e 11)) 105 (e 2)) 106 (e 13)) 107 x85) 108 x86) 109 x87) 110 a) 111 (e 2)) 112 (e 13)) 113 x88) 114 x89) 115 x90) 116 k) 103 k) 117 b) 118 d) 119 t) 18 b) 19 d) 20 t) 120 (e 11)) 121 x96) 21 (.ptr (Heap.next u) 0)) 122 s) 123 t) 124 v) 125 v); condB v (
J .ret ⟨(setV (setV (setV (setV (setV (setV (setV (setV (setV (setV (setV (setV (setV (setV (setV (setV (setV (setV (setV (setV (setV (setV (setV (setV (setV (setV (setV (setV (setV (setV (setV (setV (setV (setV (setV (setV (setV (setV (setV (setV (setV (setV (setV (setV (setV (setV (setV (setV (setV (setV Q2 125 (.bool true)) 126 noV) 125 (.bool true)) 127 noV) 125 (.bool true)) 128 noV) 125 (.bool true)) 129 noV) 130 (.bool true)) 131 (.bool true)) 131 (.bool true)) 132 noV) 131 (.bool true)) 133 noV) 131 (.bool true)) 134 noV) 131 (.bool true)) 135 noV) 136 (.bool true)) 137 (.bool true)) 137 (.bool true)) 138 noV) 137 (.bool true)) 139 noV) 137 (.bool true)) 140 noV) 137 (.bool true)) 141 noV) 137 (.bool true)) 142 noV) 137 (.bool true)) 143 noV) 137 (.bool true)) 144 noV) 137 (.bool true)) 145 noV) 146 (.bool true)) 147 (.bool true)) 147 (.bool true)) 148 noV) 147 (.bool true)) 150 noV) 147 (.bool true)) 149 noV) 147 (.bool true)) 151 noV) 147 (.bool true)) 152 noV) 153 (.bool true)) 6 (.bool false)), 195, [], C⟩) (
semCall TP 29 [q, b] C (outK (fun D E =>
bindO (unS .not D) fun l =>
let Q3 := (setV (setV (setV (setV (setV (setV (setV (setV (setV (setV Q2 125 (.bool false)) 126 q) 125 (.bool false)) 127 b) 125 (.bool false)) 128 D) 125 (.bool false)) 129 l) 130 l) 131 l); condB l (
J .ret ⟨(setV (setV (setV (setV (setV (setV (setV (setV (setV (setV (setV (setV (setV (setV (setV (setV (setV (setV (setV (setV (setV (setV (setV (setV (setV (setV (setV (setV (setV (setV (setV (setV (setV (setV (setV (setV (setV (setV (setV (setV Q3 131 (.bool true)) 132 noV) 131 (.bool true)) 133 noV) 131 (.bool true)) 134 noV) 131 (.bool true)) 135 noV) 136 (.bool true)) 137 (.bool true)) 137 (.bool true)) 138 noV) 137 (.bool true)) 139 noV) 137 (.bool true)) 140 noV) 137 (.bool true)) 141 noV) 137 (.bool true)) 142 noV) 137 (.bool true)) 143 noV) 137 (.bool true)) 144 noV) 137 (.bool true)) 145 noV) 146 (.bool true)) 147 (.bool true)) 147 (.bool true)) 148 noV) 147 (.bool true)) 150 noV) 147 (.bool true)) 149 noV) 147 (.bool true)) 151 noV) 147 (.bool true)) 152 noV) 153 (.bool true)) 6 (.bool false)), 195, [], E⟩) (
semCall TP 29 [r, d] E (outK (fun G w =>
bindO (unS .not G) fun m =>
let Q4 := (setV (setV (setV (setV (setV (setV (setV (setV (setV (setV Q3 131 (.bool false)) 132 r) 131 (.bool false)) 133 d) 131 (.bool false)) 134 G) 131 (.bool false)) 135 m) 136 m) 137 m); condB m (
J .ret ⟨(setV (setV (setV (setV (setV (setV (setV (setV (setV (setV (setV (setV (setV (setV (setV (setV (setV (setV (setV (setV (setV (setV (setV (setV (setV (setV (setV (setV (setV (setV Q4 137 (.bool true)) 138 noV) 137 (.bool true)) 139 noV) 137 (.bool true)) 140 noV) 137 (.bool true)) 141 noV) 137 (.bool true)) 142 noV) 137 (.bool true)) 143 noV) 137 (.bool true)) 144 noV) 137 (.bool true)) 145 noV) 146 (.bool true)) 147 (.bool true)) 147 (.bool true)) 148 noV) 147 (.bool true)) 150 noV) 147 (.bool true)) 149 noV) 147 (.bool true)) 151 noV) 147 (.bool true)) 152 noV) 153 (.bool true)) 6 (.bool false)), 195, [], w⟩) (
bindO (iaS 4 (e 2) (e 13)) fun I =>
bindO (faS 2 I) fun L =>
bindO (loadS none L w) fun M =>
semCall TP 20 [a, M] w (outK (fun N x =>
bindO (unS .not N) fun n =>
let Q5 := (setV (setV (setV (setV (setV (setV (setV (setV (setV (setV (setV (setV (setV (setV (setV (setV (setV (setV Q4 137 (.bool false)) 138 a) 137 (.bool false)) 139 (e 2)) 137 (.bool false)) 140 (e 13)) 137 (.bool false)) 141 I) 137 (.bool false)) 142 L) 137 (.bool false)) 143 M) 137 (.bool false)) 144 N) 137 (.bool false)) 145 n) 146 n) 147 n); condB n (
J .ret ⟨(setV (setV (setV (setV (setV (setV (setV (setV (setV (setV (setV (setV Q5 147 (.bool true)) 148 noV) 147 (.bool true)) 150 noV) 147 (.bool true)) 149 noV) 147 (.bool true)) 151 noV) 147 (.bool true)) 152 noV) 153 (.bool true)) 6 (.bool false)), 195, [], x⟩) (
bindO (loadS (some 2) (.ptr (Heap.next u) 0) x) fun y =>
semCall TP 14 [(e 7)] x (outK (fun O P =>
if ((bindO (loadS (some 2) (.ptr (Heap.next u) 0) P) fun x117 =>
AV.beq x117 y) && true) = true then (
semCall TP 16 [O, y] P (outK (fun R S =>
bindO (unS .not R) fun z =>
let Q6 := (setV (setV (setV (setV (setV (setV (setV (setV (setV (setV (setV Q5 147 (.bool false)) 148 (e 7)) 147 (.bool false)) 150 y) 147 (.bool false)) 149 O) 147 (.bool false)) 151 R) 147 (.bool false)) 152 z) 153 z); condB z (
J .ret ⟨(setV Q6 6 (.bool false)), 195, [], S⟩) (
semCall TP 30 [a] S (outK (fun f T =>
bindO (loadS (some 2) (.ptr (Heap.next u) 0) T) fun c =>
semCall TP 28 [c] T (outK (fun g h127 =>
semCall TP 31 [b] h127 (outK (fun i h131 =>
semCall TP 31 [d] h131 (outK (fun o h135 =>
semCall TP 14 [(e 7)] h135 (outK (fun p h139 =>
semCall TP 14 [(e 11)] h139 (outK (fun A h143 =>
semCall TP 16 [p, A] h143 (outK (fun U V =>
bindO (unS .not U) fun W =>
let Q7 := (setV (setV (setV (setV (setV (setV (setV (setV (setV (setV (setV (setV (setV (setV Q6 154 a) 155 f) 156 c) 157 g) 158 b) 159 i) 160 d) 161 o) 162 (e 7)) 163 p) 164 (e 11)) 165 A) 166 U) 167 W); condB W (
J .ret ⟨(setV Q7 6 (.bool false)), 195, [], V⟩) (
bindO (binS .add (e 13) (.int .i64 1)) fun X =>
J .normal ⟨(setV (setV (setV Q7 73 (e 13)) 74 X) 13 X), 195, [], V⟩)) (fun v148 h149 => J (.panic v148) ⟨(setV (setV (setV (setV (setV (setV (setV (setV (setV (setV (setV (setV Q6 154 a) 155 f) 156 c) 157 g) 158 b) 159 i) 160 d) 161 o) 162 (e 7)) 163 p) 164 (e 11)) 165 A), 195, [], h149⟩))) (fun v144 h145 => J (.panic v144) ⟨(setV (setV (setV (setV (setV (setV (setV (setV (setV (setV (setV Q6 154 a) 155 f) 156 c) 157 g) 158 b) 159 i) 160 d) 161 o) 162 (e 7)) 163 p) 164 (e 11)), 195, [], h145⟩))) (fun v140 h141 => J (.panic v140) ⟨(setV (setV (setV (setV (setV (setV (setV (setV (setV Q6 154 a) 155 f) 156 c) 157 g) 158 b) 159 i) 160 d) 161 o) 162 (e 7)), 195, [], h141⟩))) (fun v136 h137 => J (.panic v136) ⟨(setV (setV (setV (setV (setV (setV (setV Q6 154 a) 155 f) 156 c) 157 g) 158 b) 159 i) 160 d), 195, [], h137⟩))) (fun v132 h133 => J (.panic v132) ⟨(setV (setV (setV (setV (setV Q6 154 a) 155 f) 156 c) 157 g) 158 b), 195, [], h133⟩))) (fun v128 h129 => J (.panic v128) ⟨(setV (setV (setV Q6 154 a) 155 f) 156 c), 195, [], h129⟩))) (fun v123 h124 => J (.panic v123) ⟨(setV Q6 154 a), 195, [], h124⟩)))) (fun _ _ => false))) else false) (fun _ _ => false)))) (fun _ _ => false)))) (fun _ _ => false)))) (fun _ _ => false)))) (fun v98 h99 => J (.panic v98) ⟨(setV (setV (setV (setV (setV (setV (setV (setV (setV (setV (setV (setV (setV (setV (setV (setV (setV (setV (setV (setV (setV (setV (setV (setV (setV (setV (setV (setV (setV (setV (setV (setV (setV (setV (setV (setV (setV (setV (setV (setV (setV (setV (setV (setV (setV (setV (setV (setV (setV (setV (setV (setV (setV Q1 75 (.slice (Heap.next h) 0 0 1)) 76 (e 2)) 77 (e 13)) 78 Y) 79 Z) 80 x68) 81 a) 14 a) 83 (e 7)) 84 (e 2)) 85 (e 13)) 86 x71) 87 x72) 88 x73) 89 (e 2)) 90 (e 13)) 91 x74) 92 x75) 93 x76) 94 (e 2)) 95 (e 13)) 96 x77) 97 x78) 98 x79) 99 j) 82 j) 100 q) 101 r) 102 s) 15 q) 16 r) 17 s) 104 (e 11)) 105 (e 2)) 106 (e 13)) 107 x85) 108 x86) 109 x87) 110 a) 111 (e 2)) 112 (e 13)) 113 x88) 114 x89) 115 x90) 116 k) 103 k) 117 b) 118 d) 119 t) 18 b) 19 d) 20 t) 120 (e 11)), 195, [], h99⟩))) (fun _ _ => false))) (fun _ _ => false))) (
J (.exit 0) ⟨Q1, 195, [], h⟩)) := by kernel_rfl
theorem F.law08_KeepOwn.L0_x0_eq : F.law08_KeepOwn.L0k K (.exit 0) ⟨e, 195, [], h⟩ = (
loopB (EV F.law08_KeepOwn.L1) ⟨(setV e 22 (.int .i64 0)), 195, [], h⟩ (F.law08_KeepOwn.L1k K)) := by kernel_rfl
theorem F.law08_KeepOwn.L0_r_eq : F.law08_KeepOwn.L0k K .ret ⟨e, 195, [], h⟩ = (
K (.ret (e 6)) h) := by kernel_rfl
theorem F.law08_KeepOwn.L1_eq : EV F.law08_KeepOwn.L1 ⟨e, 195, [], h⟩ J = (
bindO (lenS .slice (e 2) h) fun g =>
bindO (binS .leq (e 22) g) fun i =>
let Q1 := (setV (setV (setV (setV e 168 (e 22)) 169 (e 2)) 170 g) 171 i); condB i (
semCall TP 22 [(e 7)] h (outK (fun b o =>
semCall TP 22 [(e 11)] o (outK (fun j k =>
bindO (neV (.int .i64) b j) fun c =>
let Q2 := (setV (setV (setV (setV (setV (setV Q1 174 (e 7)) 175 b) 176 (e 11)) 177 j) 178 c) 179 c); condB c (
J .ret ⟨(setV (setV (setV (setV (setV (setV (setV (setV (setV (setV (setV (setV (setV (setV Q2 179 (.bool true)) 180 noV) 179 (.bool true)) 181 noV) 179 (.bool true)) 182 noV) 179 (.bool true)) 183 noV) 179 (.bool true)) 184 noV) 179 (.bool true)) 185 noV) 186 (.bool true)) 6 (.bool false)), 195, [], k⟩) (
semCall TP 14 [(e 7)] k (outK (fun a p =>
semCall TP 14 [(e 11)] p (outK (fun d q =>
semCall TP 16 [a, d] q (outK (fun l m =>
bindO (unS .not l) fun f =>
let Q3 := (setV (setV (setV (setV (setV (setV (setV (setV (setV (setV (setV (setV (setV Q2 179 (.bool false)) 180 (e 7)) 179 (.bool false)) 181 a) 179 (.bool false)) 182 (e 11)) 179 (.bool false)) 183 d) 179 (.bool false)) 184 l) 179 (.bool false)) 185 f) 186 f); condB f (
J .ret ⟨(setV Q3 6 (.bool false)), 195, [], m⟩) (
bindO (binS .add (e 22) (.int .i64 1)) fun n =>
J .normal ⟨(setV (setV (setV Q3 172 (e 22)) 173 n) 22 n), 195, [], m⟩)) (fun r s => J (.panic r) ⟨(setV (setV (setV (setV (setV (setV (setV (setV (setV Q2 179 (.bool false)) 180 (e 7)) 179 (.bool false)) 181 a) 179 (.bool false)) 182 (e 11)) 179 (.bool false)) 183 d) 179 (.bool false)), 195, [], s⟩))) (fun t u => J (.panic t) ⟨(setV (setV (setV (setV (setV (setV (setV Q2 179 (.bool false)) 180 (e 7)) 179 (.bool false)) 181 a) 179 (.bool false)) 182 (e 11)) 179 (.bool false)), 195, [], u⟩))) (fun v w => J (.panic v) ⟨(setV (setV (setV Q2 179 (.bool false)) 180 (e 7)) 179 (.bool false)), 195, [], w⟩)))) (fun x y => J (.panic x) ⟨(setV (setV (setV Q1 174 (e 7)) 175 b) 176 (e 11)), 195, [], y⟩))) (fun z A => J (.panic z) ⟨(setV Q1 174 (e 7)), 195, [], A⟩))) (
J (.exit 2) ⟨Q1, 195, [], h⟩)) := by kernel_rfl
theorem F.law08_KeepOwn.L1_x2_eq : F.law08_KeepOwn.L1k K (.exit 2) ⟨e, 195, [], h⟩ = (
semCall TP 14 [(e 7)] h (outK (fun b c =>
semCall TP 14 [(e 8)] c (outK (fun d f =>
semCall TP 16 [b, d] f (outK (fun g a =>
condB g (
semCall TP 12 [] a (outK (fun i j =>
K (.ret i) j) (fun k l => K (.panic k) l))) (
K (.ret (.bool false)) a)) (fun m n => K (.panic m) n))) (fun o p => K (.panic o) p))) (fun q r => K (.panic q) r))) := by kernel_rfl
theorem F.law08_KeepOwn.L1_r_eq : F.law08_KeepOwn.L1k K .ret ⟨e, 195, [], h⟩ = (
K (.ret (e 6)) h) := by kernel_rfl
noncomputable def F.law08_KeepDerived.L0 := partOf (codeOf Tryz.f7) [1, 1, 1, 1, 0, 1, 0, 0]
noncomputable def F.law08_KeepDerived.L0k (K : Out → Heap → Bool) := (blockK 0 (seqK false (EV (partOf (codeOf Tryz.f7) [1, 1, 1, 1, 1])) (RL Tryz.f7 K)))
noncomputable def F.law08_KeepDerived.L1 := partOf (codeOf Tryz.f7) [1, 1, 1, 1, 1, 1, 0, 1, 0, 0]
noncomputable def F.law08_KeepDerived.L1k (K : Out → Heap → Bool) := (blockK 2 (seqK false (EV (partOf (codeOf Tryz.f7) [1, 1, 1, 1, 1, 1, 1])) (RL Tryz.f7 K)))
noncomputable def F.law08_KeepDerived.L2 := partOf (codeOf Tryz.f7) [1, 1, 1, 1, 1, 1, 0, 1, 0, 0, 1, 0, 0, 1, 1, 0, 0]
noncomputable def F.law08_KeepDerived.L2k (J : AX → St → Bool) := (blockK 4 (blockK 3 (seqK false (EV (partOf (codeOf Tryz.f7) [1, 1, 1, 1, 1, 1, 0, 1, 0, 0, 1, 1])) J)))
theorem F.law08_KeepDerived.L0_eq : EV F.law08_KeepDerived.L0 ⟨e, 136, [], h⟩ J = (
bindO (lenS .slice (e 2) h) fun a =>
bindO (binS .lss (e 8) a) fun b =>
let Q1 := (setV (setV (setV (setV e 31 (e 8)) 32 (e 2)) 33 a) 34 b); condB b (
bindO (iaS 4 (e 2) (e 8)) fun c =>
bindO (faS 1 c) fun d =>
bindO (loadS none d h) fun f =>
bindO (iaS 4 (e 2) (e 8)) fun g =>
bindO (faS 2 g) fun i =>
bindO (loadS none i h) fun j =>
bindO (iaS 4 (e 2) (e 8)) fun k =>
bindO (faS 3 k) fun l =>
bindO (loadS none l h) fun m =>
semCall TP 15 [(e 7), f, j, m] h (outK (fun o p =>
bindO (binS .add (e 8) (.int .i64 1)) fun n =>
J .normal ⟨(setV (setV (setV (setV (setV (setV (setV (setV (setV (setV (setV (setV (setV (setV (setV (setV (setV (setV (setV (setV Q1 37 (e 7)) 38 (e 2)) 39 (e 8)) 40 c) 41 d) 42 f) 43 (e 2)) 44 (e 8)) 45 g) 46 i) 47 j) 48 (e 2)) 49 (e 8)) 50 k) 51 l) 52 m) 53 o) 35 (e 8)) 36 n) 8 n), 136, [], p⟩) (fun _ _ => false))) (
J (.exit 0) ⟨Q1, 136, [], h⟩)) := by kernel_rfl
theorem F.law08_KeepDerived.L0_x0_eq : F.law08_KeepDerived.L0k K (.exit 0) ⟨e, 136, [], h⟩ = (
semCall TP 14 [(e 7)] h (outK (fun c a =>
bindO (storeS 2 (.ptr (Heap.next a) 0) c (Heap.alloc a (.cells [(.int .i64 0), .nils]))) fun b =>
bindO (faS 1 (e 4)) fun d =>
bindO (loadS none d b) fun f =>
bindO (lenS .slice f b) fun g =>
loopB (EV F.law08_KeepDerived.L1) ⟨(setV (setV (setV (setV (setV (setV (setV e 54 (e 7)) 55 c) 9 (.ptr (Heap.next a) 0)) 56 d) 57 f) 58 g) 10 g), 136, [], b⟩ (F.law08_KeepDerived.L1k K)) (fun i j => K (.panic i) j))) := by kernel_rfl
theorem F.law08_KeepDerived.L1_eq : EV F.law08_KeepDerived.L1 ⟨e, 136, [], h⟩ J = (
bindO (faS 1 (e 9)) fun a =>
bindO (loadS none a h) fun b =>
bindO (lenS .slice b h) fun c =>
bindO (binS .lss (e 10) c) fun d =>
let Q1 := (setV (setV (setV (setV (setV e 59 (e 10)) 60 a) 61 b) 62 c) 63 d); condB d (
bindO (faS 0 (e 4)) fun f =>
bindO (loadS none f h) fun g =>
bindO (faS 1 (e 9)) fun i =>
bindO (loadS none i h) fun j =>
bindO (iaS 3 j (e 10)) fun k =>
bindO (faS 1 k) fun l =>
bindO (loadS none l h) fun m =>
semCall TP 32 [g, m] h (outK (fun n o =>
loopB (EV F.law08_KeepDerived.L2) ⟨(setV (setV (setV (setV (setV (setV (setV (setV (setV (setV (setV Q1 66 f) 67 g) 68 i) 69 j) 70 (e 10)) 71 k) 72 l) 73 m) 74 n) 11 n) 12 (.int .i64 0)), 136, [], o⟩ (F.law08_KeepDerived.L2k J)) (fun _ _ => false))) (
J (.exit 2) ⟨Q1, 136, [], h⟩)) := by kernel_rfl
theorem F.law08_KeepDerived.L1_x2_eq : F.law08_KeepDerived.L1k K (.exit 2) ⟨e, 136, [], h⟩ = (
bindO (faS 1 (e 9)) fun d =>
bindO (loadS none d h) fun b =>
bindO (lenS .slice b h) fun f =>
bindO (faS 1 (e 4)) fun g =>
bindO (loadS none g h) fun c =>
bindO (lenS .slice c h) fun i =>
semCall TP 35 [(e 0)] h (outK (fun j a =>
if ((bindO (lenS .slice c a) fun k =>
AV.beq k i) && ((bindO (loadS none g a) fun l =>
AV.beq l c) && ((bindO (lenS .slice b a) fun m =>
AV.beq m f) && ((bindO (loadS none d a) fun n =>
AV.beq n b) && true)))) = true then (
bindO (lenS .slice j a) fun o =>
bindO (binS .add i o) fun p =>
bindO (eqV (.int .i64) f p) fun q =>
condB q (
semCall TP 12 [] a (outK (fun r s =>
K (.ret r) s) (fun _ _ => false))) (
K (.ret (.bool false)) a)) else false) (fun _ _ => false))) := by kernel_rfl
theorem F.law08_KeepDerived.L1_r_eq : F.law08_KeepDerived.L1k K .ret ⟨e, 136, [], h⟩ = (
K (.ret (e 6)) h) := by kernel_rfl
theorem F.law08_KeepDerived.L2_eq : EV F.law08_KeepDerived.L2 ⟨e, 136, [], h⟩ J = (
bindO (lenS .slice (e 11) h) fun u =>
bindO (binS .lss (e 12) u) fun r =>
let Q1 := (setV (setV (setV (setV (setV e 75 (e 12)) 76 (e 11)) 77 u) 78 r) 79 r); condB r (
bindO (binS .lss (e 12) (.int .i64 60)) fun s =>
let Q2 := (setV (setV (setV (setV (setV Q1 79 (.bool true)) 80 (e 12)) 79 (.bool true)) 81 s) 82 s); condB s (
bindO (faS 1 (e 9)) fun v =>
bindO (loadS none v h) fun w =>
bindO (iaS 3 w (e 10)) fun x =>
bindO (faS 0 x) fun y =>
bindO (loadS none y h) fun z =>
bindO (iaS 1 (e 11) (e 12)) fun A =>
bindO (loadS none A h) fun B =>
semCall TP 33 [(e 7), z, B] h (outK (fun d a =>
bindO (extractS d 0) fun b =>
bindO (extractS d 1) fun f =>
bindO (neV (.int .i64) f (.int .i64 0)) fun t =>
let Q3 := (setV (setV (setV (setV (setV (setV (setV (setV (setV (setV (setV (setV (setV (setV (setV (setV (setV (setV (setV (setV Q2 86 (e 7)) 87 v) 88 w) 89 (e 10)) 90 x) 91 y) 92 z) 93 (e 11)) 94 (e 12)) 95 A) 96 B) 97 d) 85 d) 98 b) 99 f) 13 b) 14 f) 100 f) 101 t) 102 t); condB t (
J .ret ⟨(setV (setV (setV (setV (setV (setV (setV (setV (setV (setV (setV (setV (setV (setV (setV (setV (setV (setV (setV (setV (setV (setV (setV (setV (setV (setV (setV (setV (setV (setV (setV (setV (setV (setV (setV (setV Q3 102 (.bool true)) 103 noV) 102 (.bool true)) 104 noV) 105 (.bool true)) 106 (.bool true)) 106 (.bool true)) 107 noV) 106 (.bool true)) 108 noV) 106 (.bool true)) 109 noV) 106 (.bool true)) 110 noV) 106 (.bool true)) 111 noV) 106 (.bool true)) 112 noV) 106 (.bool true)) 113 noV) 106 (.bool true)) 114 noV) 106 (.bool true)) 115 noV) 106 (.bool true)) 116 noV) 106 (.bool true)) 117 noV) 106 (.bool true)) 118 noV) 106 (.bool true)) 119 noV) 106 (.bool true)) 120 noV) 121 (.bool true)) 6 (.bool false)), 136, [], a⟩) (
bindO (binS .lss b (.int .i64 0)) fun g =>
let Q4 := (setV (setV (setV (setV (setV (setV Q3 102 (.bool false)) 103 b) 102 (.bool false)) 104 g) 105 g) 106 g); condB g (
J .ret ⟨(setV (setV (setV (setV (setV (setV (setV (setV (setV (setV (setV (setV (setV (setV (setV (setV (setV (setV (setV (setV (setV (setV (setV (setV (setV (setV (setV (setV (setV (setV Q4 106 (.bool true)) 107 noV) 106 (.bool true)) 108 noV) 106 (.bool true)) 109 noV) 106 (.bool true)) 110 noV) 106 (.bool true)) 111 noV) 106 (.bool true)) 112 noV) 106 (.bool true)) 113 noV) 106 (.bool true)) 114 noV) 106 (.bool true)) 115 noV) 106 (.bool true)) 116 noV) 106 (.bool true)) 117 noV) 106 (.bool true)) 118 noV) 106 (.bool true)) 119 noV) 106 (.bool true)) 120 noV) 121 (.bool true)) 6 (.bool false)), 136, [], a⟩) (
bindO (binS .gtr b (.int .i64 0)) fun C =>
bindO (faS 1 (e 9)) fun D =>
bindO (loadS none D a) fun i =>
bindO (iaS 3 i (e 10)) fun j =>
bindO (faS 2 j) fun k =>
bindO (loadS none k a) fun l =>
bindO (iaS 1 (e 11) (e 12)) fun m =>
bindO (loadS none m a) fun n =>
semCall TP 34 [l, n] a (outK (fun o p =>
bindO (neV .bool C o) fun c =>
let Q5 := (setV (setV (setV (setV (setV (setV (setV (setV (setV (setV (setV (setV (setV (setV (setV (setV (setV (setV (setV (setV (setV (setV (setV (setV (setV (setV (setV (setV (setV Q4 106 (.bool false)) 107 b) 106 (.bool false)) 108 C) 106 (.bool false)) 109 D) 106 (.bool false)) 110 i) 106 (.bool false)) 111 (e 10)) 106 (.bool false)) 112 j) 106 (.bool false)) 113 k) 106 (.bool false)) 114 l) 106 (.bool false)) 115 (e 11)) 106 (.bool false)) 116 (e 12)) 106 (.bool false)) 117 m) 106 (.bool false)) 118 n) 106 (.bool false)) 119 o) 106 (.bool false)) 120 c) 121 c); condB c (
J .ret ⟨(setV Q5 6 (.bool false)), 136, [], p⟩) (
bindO (binS .add (e 12) (.int .i64 1)) fun q =>
J .normal ⟨(setV (setV (setV Q5 83 (e 12)) 84 q) 12 q), 136, [], p⟩)) (fun _ _ => false))))) (fun _ _ => false))) (
J (.exit 4) ⟨Q2, 136, [], h⟩)) (
J (.exit 4) ⟨(setV (setV (setV (setV (setV Q1 79 (.bool false)) 80 noV) 79 (.bool false)) 81 noV) 82 (.bool false)), 136, [], h⟩)) := by kernel_rfl
theorem F.law08_KeepDerived.L2_x4_eq : F.law08_KeepDerived.L2k J (.exit 4) ⟨e, 136, [], h⟩ = (
bindO (binS .add (e 10) (.int .i64 1)) fun a =>
J .normal ⟨(setV (setV (setV e 64 (e 10)) 65 a) 10 a), 136, [], h⟩) := by kernel_rfl
theorem F.law08_KeepDerived.L2_r_eq : F.law08_KeepDerived.L2k J .ret ⟨e, 136, [], h⟩ = (
J .ret ⟨e, 136, [], h⟩) := by kernel_rfl
noncomputable def F.law08_KeepPlays.L0 := partOf (codeOf Tryz.f8) [1, 1, 1, 1, 1, 1, 1, 0, 1, 0, 0]
noncomputable def F.law08_KeepPlays.L0k (K : Out → Heap → Bool) := (blockK 0 (seqK false (EV (partOf (codeOf Tryz.f8) [1, 1, 1, 1, 1, 1, 1, 1])) (RL Tryz.f8 K)))
noncomputable def F.law08_KeepPlays.J0 (K : AX → St → Bool) (s : St) : Bool := runB (EV (partOf (codeOf Tryz.f8) [1, 1, 1, 1, 1, 1, 1, 0, 1, 0, 0, 1, 0, 0, 1])) s (blockK 1 (seqK false (EV (partOf (codeOf Tryz.f8) [1, 1, 1, 1, 1, 1, 1, 0, 1, 0, 0, 1, 1])) K))
theorem F.law08_KeepPlays.L0_eq : EV F.law08_KeepPlays.L0 ⟨e, 108, [], h⟩ J = (
bindO (lenS .slice (e 2) h) fun b =>
bindO (binS .lss (e 13) b) fun c =>
let Q1 := (setV (setV (setV (setV e 58 (e 13)) 59 (e 2)) 60 b) 61 c); condB c (
bindO (iaS 4 (e 2) (e 13)) fun d =>
bindO (faS 0 d) fun f =>
bindO (loadS none f h) fun g =>
bindO (eqV (.int .i64) g (.int .i64 3)) fun i =>
let Q2 := (setV (setV (setV (setV (setV (setV Q1 64 (e 2)) 65 (e 13)) 66 d) 67 f) 68 g) 69 i); condB i (
semCall TP 37 [(e 7)] h (outK (fun a k =>
semCall TP 38 [(e 10)] k (outK (fun j l =>
F.law08_KeepPlays.J0 J ⟨(setV (setV (setV (setV (setV (setV (setV (setV (setV (setV Q2 70 (e 7)) 71 (e 10)) 11 (e 7)) 12 (e 10)) 72 (e 7)) 73 a) 74 (e 10)) 75 j) 7 a) 10 j), 108, [], l⟩) (fun m n => J (.panic m) ⟨(setV (setV (setV (setV (setV (setV (setV Q2 70 (e 7)) 71 (e 10)) 11 (e 7)) 12 (e 10)) 72 (e 7)) 73 a) 74 (e 10)), 108, [], n⟩))) (fun o p => J (.panic o) ⟨(setV (setV (setV (setV (setV Q2 70 (e 7)) 71 (e 10)) 11 (e 7)) 12 (e 10)) 72 (e 7)), 108, [], p⟩))) (
F.law08_KeepPlays.J0 J ⟨Q2, 108, [], h⟩)) (
J (.exit 0) ⟨Q1, 108, [], h⟩)) := by kernel_rfl
theorem F.law08_KeepPlays.L0_x0_eq : F.law08_KeepPlays.L0k K (.exit 0) ⟨e, 108, [], h⟩ = (
bindO (neV (.pointer 78) (e 11) .nilp) fun b =>
condB b (
semCall TP 14 [(e 11)] h (outK (fun c d =>
semCall TP 40 [(e 12)] d (outK (fun f g =>
semCall TP 16 [c, f] g (outK (fun i a =>
condB i (
semCall TP 12 [] a (outK (fun j k =>
K (.ret j) k) (fun l m => K (.panic l) m))) (
K (.ret (.bool false)) a)) (fun n o => K (.panic n) o))) (fun p q => K (.panic p) q))) (fun r s => K (.panic r) s))) (
K (.ret (.bool false)) h)) := by kernel_rfl
theorem F.law08_KeepPlays.L0_r_eq : F.law08_KeepPlays.L0k K .ret ⟨e, 108, [], h⟩ = (
K (.ret (e 6)) h) := by kernel_rfl
theorem F.law08_KeepPlays.J0_eq : F.law08_KeepPlays.J0 J ⟨e, 108, [], h⟩ = (
bindO (eqV (.pointer 78) (e 7) .nilp) fun A =>
let Q1 := (setV (setV (setV e 76 (e 7)) 77 A) 78 A); condB A (
J .ret ⟨(setV (setV (setV (setV (setV (setV (setV (setV (setV (setV (setV (setV (setV (setV (setV (setV (setV (setV (setV (setV (setV (setV (setV (setV (setV (setV (setV (setV (setV (setV (setV (setV Q1 78 (.bool true)) 79 noV) 78 (.bool true)) 80 noV) 78 (.bool true)) 81 noV) 78 (.bool true)) 82 noV) 78 (.bool true)) 83 noV) 78 (.bool true)) 84 noV) 78 (.bool true)) 85 noV) 78 (.bool true)) 86 noV) 87 (.bool true)) 88 (.bool true)) 88 (.bool true)) 89 noV) 88 (.bool true)) 90 noV) 88 (.bool true)) 91 noV) 88 (.bool true)) 92 noV) 88 (.bool true)) 93 noV) 88 (.bool true)) 94 noV) 95 (.bool true)) 6 (.bool false)), 108, [], h⟩) (
bindO (iaS 4 (e 2) (e 13)) fun B =>
bindO (loadS (some 4) B h) fun C =>
semCall TP 39 [(e 7), (e 10), C] h (outK (fun U V =>
bindO (unS .not U) fun i =>
let Q2 := (setV (setV (setV (setV (setV (setV (setV (setV (setV (setV (setV (setV (setV (setV (setV (setV (setV (setV Q1 78 (.bool false)) 79 (e 7)) 78 (.bool false)) 80 (e 10)) 78 (.bool false)) 81 (e 2)) 78 (.bool false)) 82 (e 13)) 78 (.bool false)) 83 B) 78 (.bool false)) 84 C) 78 (.bool false)) 85 U) 78 (.bool false)) 86 i) 87 i) 88 i); condB i (
J .ret ⟨(setV (setV (setV (setV (setV (setV (setV (setV (setV (setV (setV (setV (setV (setV Q2 88 (.bool true)) 89 noV) 88 (.bool true)) 90 noV) 88 (.bool true)) 91 noV) 88 (.bool true)) 92 noV) 88 (.bool true)) 93 noV) 88 (.bool true)) 94 noV) 95 (.bool true)) 6 (.bool false)), 108, [], V⟩) (
semCall TP 14 [(e 7)] V (outK (fun j h94 =>
semCall TP 40 [(e 10)] h94 (outK (fun D h98 =>
semCall TP 16 [j, D] h98 (outK (fun x y =>
bindO (unS .not x) fun g =>
let Q3 := (setV (setV (setV (setV (setV (setV (setV (setV (setV (setV (setV (setV (setV Q2 88 (.bool false)) 89 (e 7)) 88 (.bool false)) 90 j) 88 (.bool false)) 91 (e 10)) 88 (.bool false)) 92 D) 88 (.bool false)) 93 x) 88 (.bool false)) 94 g) 95 g); condB g (
J .ret ⟨(setV Q3 6 (.bool false)), 108, [], y⟩) (
bindO (binS .add (e 13) (.int .i64 1)) fun z =>
J .normal ⟨(setV (setV (setV Q3 62 (e 13)) 63 z) 13 z), 108, [], y⟩)) (fun W X => J (.panic W) ⟨(setV (setV (setV (setV (setV (setV (setV (setV (setV Q2 88 (.bool false)) 89 (e 7)) 88 (.bool false)) 90 j) 88 (.bool false)) 91 (e 10)) 88 (.bool false)) 92 D) 88 (.bool false)), 108, [], X⟩))) (fun v99 Y => J (.panic v99) ⟨(setV (setV (setV (setV (setV (setV (setV Q2 88 (.bool false)) 89 (e 7)) 88 (.bool false)) 90 j) 88 (.bool false)) 91 (e 10)) 88 (.bool false)), 108, [], Y⟩))) (fun v95 h96 => J (.panic v95) ⟨(setV (setV (setV Q2 88 (.bool false)) 89 (e 7)) 88 (.bool false)), 108, [], h96⟩)))) (fun v90 h91 => J (.panic v90) ⟨(setV (setV (setV (setV (setV (setV (setV (setV (setV (setV (setV (setV (setV Q1 78 (.bool false)) 79 (e 7)) 78 (.bool false)) 80 (e 10)) 78 (.bool false)) 81 (e 2)) 78 (.bool false)) 82 (e 13)) 78 (.bool false)) 83 B) 78 (.bool false)) 84 C) 78 (.bool false)), 108, [], h91⟩)))) := (runB_eq _ _ _).trans (by kernel_rfl)
noncomputable def F.law08_KeepNone.L0 := partOf (codeOf Tryz.f9) [1, 1, 1, 1, 0, 1, 0, 0]
noncomputable def F.law08_KeepNone.L0k (J : Out → Heap → Bool) := (blockK 0 (seqK false (EV (partOf (codeOf Tryz.f9) [1, 1, 1, 1, 1])) (RL Tryz.f9 J)))
theorem F.law08_KeepNone.L0_eq : EV F.law08_KeepNone.L0 ⟨e, 99, [], h⟩ J = (
bindO (binS .lss (e 9) (.int .i64 2)) fun Z =>
let Q4 := (setV (setV e 28 (e 9)) 29 Z); condB Z (
bindO (iaS 1 (e 8) (e 9)) fun k =>
bindO (loadS none k h) fun l =>
semCall TP 15 [l, (e 0), (e 1), (e 2)] h (outK (fun a h19 =>
bindO (extractS a 0) fun c =>
bindO (extractS a 1) fun d =>
bindO (extractS a 2) fun f =>
bindO (iaS 1 (e 8) (e 9)) fun E =>
bindO (loadS none E h19) fun G =>
semCall TP 33 [G, (e 0), (e 1)] h19 (outK (fun m n =>
bindO (extractS m 0) fun o =>
bindO (extractS m 1) fun p =>
bindO (neV (.int .i64) f (.int .i64 7)) fun I =>
let Q5 := (setV (setV (setV (setV (setV (setV (setV (setV (setV (setV (setV (setV (setV (setV (setV (setV (setV (setV (setV (setV (setV (setV (setV (setV (setV (setV (setV (setV (setV (setV Q4 33 (e 8)) 34 (e 9)) 35 k) 36 l) 37 (e 0)) 38 (e 1)) 39 (e 2)) 40 a) 32 a) 41 c) 42 d) 43 f) 10 c) 11 d) 12 f) 45 (e 8)) 46 (e 9)) 47 E) 48 G) 49 (e 0)) 50 (e 1)) 51 m) 44 m) 52 o) 53 p) 13 o) 14 p) 54 f) 55 I) 56 I); condB I (
J .ret ⟨(setV (setV (setV (setV (setV (setV (setV (setV (setV (setV (setV (setV (setV (setV (setV (setV (setV (setV (setV (setV (setV (setV (setV (setV (setV (setV (setV (setV (setV (setV (setV (setV (setV (setV (setV (setV (setV (setV (setV (setV (setV (setV (setV (setV (setV (setV (setV (setV (setV (setV (setV (setV (setV (setV (setV (setV (setV (setV (setV (setV (setV (setV (setV (setV (setV (setV (setV (setV (setV (setV (setV (setV Q5 56 (.bool true)) 57 noV) 56 (.bool true)) 58 noV) 59 (.bool true)) 60 (.bool true)) 60 (.bool true)) 61 noV) 60 (.bool true)) 62 noV) 60 (.bool true)) 63 noV) 60 (.bool true)) 64 noV) 60 (.bool true)) 65 noV) 60 (.bool true)) 66 noV) 67 (.bool true)) 68 (.bool true)) 68 (.bool true)) 69 noV) 68 (.bool true)) 70 noV) 71 (.bool true)) 72 (.bool true)) 72 (.bool true)) 73 noV) 72 (.bool true)) 74 noV) 72 (.bool true)) 75 noV) 72 (.bool true)) 76 noV) 72 (.bool true)) 77 noV) 72 (.bool true)) 78 noV) 79 (.bool true)) 80 (.bool true)) 80 (.bool true)) 81 noV) 80 (.bool true)) 82 noV) 80 (.bool true)) 83 noV) 80 (.bool true)) 84 noV) 80 (.bool true)) 85 noV) 80 (.bool true)) 86 noV) 80 (.bool true)) 87 noV) 80 (.bool true)) 88 noV) 89 (.bool true)) 90 (.bool true)) 90 (.bool true)) 91 noV) 90 (.bool true)) 92 noV) 90 (.bool true)) 93 noV) 90 (.bool true)) 94 noV) 90 (.bool true)) 95 noV) 90 (.bool true)) 96 noV) 97 (.bool true)) 6 (.bool false)), 99, [], n⟩) (
bindO (neV (.int .i64) p (.int .i64 7)) fun q =>
let Q6 := (setV (setV (setV (setV (setV (setV Q5 56 (.bool false)) 57 p) 56 (.bool false)) 58 q) 59 q) 60 q); condB q (
J .ret ⟨(setV (setV (setV (setV (setV (setV (setV (setV (setV (setV (setV (setV (setV (setV (setV (setV (setV (setV (setV (setV (setV (setV (setV (setV (setV (setV (setV (setV (setV (setV (setV (setV (setV (setV (setV (setV (setV (setV (setV (setV (setV (setV (setV (setV (setV (setV (setV (setV (setV (setV (setV (setV (setV (setV (setV (setV (setV (setV (setV (setV (setV (setV (setV (setV (setV (setV Q6 60 (.bool true)) 61 noV) 60 (.bool true)) 62 noV) 60 (.bool true)) 63 noV) 60 (.bool true)) 64 noV) 60 (.bool true)) 65 noV) 60 (.bool true)) 66 noV) 67 (.bool true)) 68 (.bool true)) 68 (.bool true)) 69 noV) 68 (.bool true)) 70 noV) 71 (.bool true)) 72 (.bool true)) 72 (.bool true)) 73 noV) 72 (.bool true)) 74 noV) 72 (.bool true)) 75 noV) 72 (.bool true)) 76 noV) 72 (.bool true)) 77 noV) 72 (.bool true)) 78 noV) 79 (.bool true)) 80 (.bool true)) 80 (.bool true)) 81 noV) 80 (.bool true)) 82 noV) 80 (.bool true)) 83 noV) 80 (.bool true)) 84 noV) 80 (.bool true)) 85 noV) 80 (.bool true)) 86 noV) 80 (.bool true)) 87 noV) 80 (.bool true)) 88 noV) 89 (.bool true)) 90 (.bool true)) 90 (.bool true)) 91 noV) 90 (.bool true)) 92 noV) 90 (.bool true)) 93 noV) 90 (.bool true)) 94 noV) 90 (.bool true)) 95 noV) 90 (.bool true)) 96 noV) 97 (.bool true)) 6 (.bool false)), 99, [], n⟩) (
bindO (iaS 1 (e 8) (e 9)) fun L =>
bindO (loadS none L n) fun M =>
semCall TP 22 [M] n (outK (fun x37 b =>
bindO (neV (.int .i64) x37 (.int .i64 7)) fun r =>
let Q7 := (setV (setV (setV (setV (setV (setV (setV (setV (setV (setV (setV (setV (setV (setV Q6 60 (.bool false)) 61 (e 8)) 60 (.bool false)) 62 (e 9)) 60 (.bool false)) 63 L) 60 (.bool false)) 64 M) 60 (.bool false)) 65 x37) 60 (.bool false)) 66 r) 67 r) 68 r); condB r (
J .ret ⟨(setV (setV (setV (setV (setV (setV (setV (setV (setV (setV (setV (setV (setV (setV (setV (setV (setV (setV (setV (setV (setV (setV (setV (setV (setV (setV (setV (setV (setV (setV (setV (setV (setV (setV (setV (setV (setV (setV (setV (setV (setV (setV (setV (setV (setV (setV (setV (setV (setV (setV (setV (setV Q7 68 (.bool true)) 69 noV) 68 (.bool true)) 70 noV) 71 (.bool true)) 72 (.bool true)) 72 (.bool true)) 73 noV) 72 (.bool true)) 74 noV) 72 (.bool true)) 75 noV) 72 (.bool true)) 76 noV) 72 (.bool true)) 77 noV) 72 (.bool true)) 78 noV) 79 (.bool true)) 80 (.bool true)) 80 (.bool true)) 81 noV) 80 (.bool true)) 82 noV) 80 (.bool true)) 83 noV) 80 (.bool true)) 84 noV) 80 (.bool true)) 85 noV) 80 (.bool true)) 86 noV) 80 (.bool true)) 87 noV) 80 (.bool true)) 88 noV) 89 (.bool true)) 90 (.bool true)) 90 (.bool true)) 91 noV) 90 (.bool true)) 92 noV) 90 (.bool true)) 93 noV) 90 (.bool true)) 94 noV) 90 (.bool true)) 95 noV) 90 (.bool true)) 96 noV) 97 (.bool true)) 6 (.bool false)), 99, [], b⟩) (
bindO (neV (.int .i64) o (.int .i64 0)) fun s =>
let Q8 := (setV (setV (setV (setV (setV (setV Q7 68 (.bool false)) 69 o) 68 (.bool false)) 70 s) 71 s) 72 s); condB s (
J .ret ⟨(setV (setV (setV (setV (setV (setV (setV (setV (setV (setV (setV (setV (setV (setV (setV (setV (setV (setV (setV (setV (setV (setV (setV (setV (setV (setV (setV (setV (setV (setV (setV (setV (setV (setV (setV (setV (setV (setV (setV (setV (setV (setV (setV (setV (setV (setV Q8 72 (.bool true)) 73 noV) 72 (.bool true)) 74 noV) 72 (.bool true)) 75 noV) 72 (.bool true)) 76 noV) 72 (.bool true)) 77 noV) 72 (.bool true)) 78 noV) 79 (.bool true)) 80 (.bool true)) 80 (.bool true)) 81 noV) 80 (.bool true)) 82 noV) 80 (.bool true)) 83 noV) 80 (.bool true)) 84 noV) 80 (.bool true)) 85 noV) 80 (.bool true)) 86 noV) 80 (.bool true)) 87 noV) 80 (.bool true)) 88 noV) 89 (.bool true)) 90 (.bool true)) 90 (.bool true)) 91 noV) 90 (.bool true)) 92 noV) 90 (.bool true)) 93 noV) 90 (.bool true)) 94 noV) 90 (.bool true)) 95 noV) 90 (.bool true)) 96 noV) 97 (.bool true)) 6 (.bool false)), 99, [], b⟩) (
bindO (lenS .slice c b) fun x43 =>
bindO (lenS .slice d b) fun x44 =>
bindO (binS .add x43 x44) fun x45 =>
bindO (binS .gtr x45 (.int .i64 0)) fun t =>
let Q9 := (setV (setV (setV (setV (setV (setV (setV (setV (setV (setV (setV (setV (setV (setV Q8 72 (.bool false)) 73 c) 72 (.bool false)) 74 x43) 72 (.bool false)) 75 d) 72 (.bool false)) 76 x44) 72 (.bool false)) 77 x45) 72 (.bool false)) 78 t) 79 t) 80 t); condB t (
J .ret ⟨(setV (setV (setV (setV (setV (setV (setV (setV (setV (setV (setV (setV (setV (setV (setV (setV (setV (setV (setV (setV (setV (setV (setV (setV (setV (setV (setV (setV (setV (setV (setV (setV Q9 80 (.bool true)) 81 noV) 80 (.bool true)) 82 noV) 80 (.bool true)) 83 noV) 80 (.bool true)) 84 noV) 80 (.bool true)) 85 noV) 80 (.bool true)) 86 noV) 80 (.bool true)) 87 noV) 80 (.bool true)) 88 noV) 89 (.bool true)) 90 (.bool true)) 90 (.bool true)) 91 noV) 90 (.bool true)) 92 noV) 90 (.bool true)) 93 noV) 90 (.bool true)) 94 noV) 90 (.bool true)) 95 noV) 90 (.bool true)) 96 noV) 97 (.bool true)) 6 (.bool false)), 99, [], b⟩) (
bindO (iaS 1 (e 8) (e 9)) fun u =>
bindO (loadS none u b) fun v =>
semCall TP 14 [v] b (outK (fun N h50 =>
bindO (aggS [(.int .i64 0), .nils] [] []) fun O =>
semCall TP 16 [N, O] h50 (outK (fun x54 P =>
bindO (unS .not x54) fun w =>
let Q10 := (setV (setV (setV (setV (setV (setV (setV (setV (setV (setV (setV (setV (setV (setV (setV (setV (setV (setV Q9 80 (.bool false)) 81 (e 8)) 80 (.bool false)) 82 (e 9)) 80 (.bool false)) 83 u) 80 (.bool false)) 84 v) 80 (.bool false)) 85 N) 80 (.bool false)) 86 O) 80 (.bool false)) 87 x54) 80 (.bool false)) 88 w) 89 w) 90 w); condB w (
J .ret ⟨(setV (setV (setV (setV (setV (setV (setV (setV (setV (setV (setV (setV (setV (setV Q10 90 (.bool true)) 91 noV) 90 (.bool true)) 92 noV) 90 (.bool true)) 93 noV) 90 (.bool true)) 94 noV) 90 (.bool true)) 95 noV) 90 (.bool true)) 96 noV) 97 (.bool true)) 6 (.bool false)), 99, [], P⟩) (
bindO (iaS 1 (e 8) (e 9)) fun R =>
bindO (loadS none R P) fun S =>
semCall TP 37 [S] P (outK (fun x61 h62 =>
bindO (neV (.pointer 78) x61 .nilp) fun T =>
let Q11 := (setV (setV (setV (setV (setV (setV (setV (setV (setV (setV (setV (setV (setV Q10 90 (.bool false)) 91 (e 8)) 90 (.bool false)) 92 (e 9)) 90 (.bool false)) 93 R) 90 (.bool false)) 94 S) 90 (.bool false)) 95 x61) 90 (.bool false)) 96 T) 97 T); condB T (
J .ret ⟨(setV Q11 6 (.bool false)), 99, [], h62⟩) (
bindO (binS .add (e 9) (.int .i64 1)) fun x66 =>
J .normal ⟨(setV (setV (setV Q11 30 (e 9)) 31 x66) 9 x66), 99, [], h62⟩)) (fun v63 h64 => J (.panic v63) ⟨(setV (setV (setV (setV (setV (setV (setV (setV (setV Q10 90 (.bool false)) 91 (e 8)) 90 (.bool false)) 92 (e 9)) 90 (.bool false)) 93 R) 90 (.bool false)) 94 S) 90 (.bool false)), 99, [], h64⟩)))) (fun v56 h57 => J (.panic v56) ⟨(setV (setV (setV (setV (setV (setV (setV (setV (setV (setV (setV (setV (setV Q9 80 (.bool false)) 81 (e 8)) 80 (.bool false)) 82 (e 9)) 80 (.bool false)) 83 u) 80 (.bool false)) 84 v) 80 (.bool false)) 85 N) 80 (.bool false)) 86 O) 80 (.bool false)), 99, [], h57⟩))) (fun v51 h52 => J (.panic v51) ⟨(setV (setV (setV (setV (setV (setV (setV (setV (setV Q9 80 (.bool false)) 81 (e 8)) 80 (.bool false)) 82 (e 9)) 80 (.bool false)) 83 u) 80 (.bool false)) 84 v) 80 (.bool false)), 99, [], h52⟩)))))) (fun v39 h40 => J (.panic v39) ⟨(setV (setV (setV (setV (setV (setV (setV (setV (setV Q6 60 (.bool false)) 61 (e 8)) 60 (.bool false)) 62 (e 9)) 60 (.bool false)) 63 L) 60 (.bool false)) 64 M) 60 (.bool false)), 99, [], h40⟩))))) (fun v29 h30 => J (.panic v29) ⟨(setV (setV (setV (setV (setV (setV (setV (setV (setV (setV (setV (setV (setV (setV (setV (setV (setV (setV (setV (setV (setV Q4 33 (e 8)) 34 (e 9)) 35 k) 36 l) 37 (e 0)) 38 (e 1)) 39 (e 2)) 40 a) 32 a) 41 c) 42 d) 43 f) 10 c) 11 d) 12 f) 45 (e 8)) 46 (e 9)) 47 E) 48 G) 49 (e 0)) 50 (e 1)), 99, [], h30⟩))) (fun v20 h21 => J (.panic v20) ⟨(setV (setV (setV (setV (setV (setV (setV Q4 33 (e 8)) 34 (e 9)) 35 k) 36 l) 37 (e 0)) 38 (e 1)) 39 (e 2)), 99, [], h21⟩))) (
J (.exit 0) ⟨Q4, 99, [], h⟩)) := by kernel_rfl
theorem F.law08_KeepNone.L0_x0_eq : F.law08_KeepNone.L0k K (.exit 0) ⟨e, 99, [], h⟩ = (
semCall TP 12 [] h (outK (fun a b =>
K (.ret a) b) (fun c d => K (.panic c) d))) := by kernel_rfl
theorem F.law08_KeepNone.L0_r_eq : F.law08_KeepNone.L0k K .ret ⟨e, 99, [], h⟩ = (
K (.ret (e 6)) h) := by kernel_rfl
theorem F.law08_KeepNone_eq : EV (codeOf Tryz.f9) ⟨mkEnv [a0, a1, a2], 99, [], h⟩ (RL Tryz.f9 K) = (
bindO (lenS .str a0 h) fun j =>
bindO (binS .gtr j (.int .i64 1000)) fun c =>
condB c (
semCall TP 12 [] h (outK (fun l m =>
K (.ret l) m) (fun n o => K (.panic n) o))) (
bindO (lenS .slice a1 h) fun k =>
bindO (binS .gtr k (.int .i64 60)) fun d =>
condB d (
semCall TP 12 [] h (outK (fun p q =>
K (.ret p) q) (fun f g => K (.panic f) g))) (
bindO (aggS [.nils, (.int .i64 0), .nils, (.int .i64 0), .nils, .nils] [] []) fun b =>
bindO (boxS b) fun a =>
bindO (rowS [.nilp, .nilp] [(0, 1), (1, 1)] [.nilp, (.ptr (Heap.next h) 0)]) fun i =>
loopB (EV F.law08_KeepNone.L0) ⟨(setV (setV (setV (setV (setV (setV (setV (setV (setV (setV (setV (setV (setV (setV (setV (setV (setV (setV (setV (mkEnv [a0, a1, a2]) 6 (.bool false)) 15 a0) 16 j) 17 c) 18 c) 18 (.bool false)) 19 a1) 18 (.bool false)) 20 k) 18 (.bool false)) 21 d) 22 d) 7 .nilp) 24 .nilp) 25 b) 26 (.ptr (Heap.next h) 0)) 27 (.slice (Heap.next (Heap.alloc h (.cells a))) 0 2 1)) 8 (.slice (Heap.next (Heap.alloc h (.cells a))) 0 2 1)) 9 (.int .i64 0)), 99, [], (Heap.alloc (Heap.alloc h (.cells a)) (.cells i))⟩ (F.law08_KeepNone.L0k K)))) := by kernel_rfl
theorem F.law08_KeepNone_sem (hh : EV (codeOf Tryz.f9) ⟨mkEnv [a0, a1, a2], 99, [], h⟩ (RL Tryz.f9 K) = true) : Sem TP 9 [a0, a1, a2] h K :=
  SB Tryz.func9 rfl (by decide) (by kernel_rfl) hh
noncomputable def F.law08_Few.L0 := partOf (codeOf Tryz.f11) [1, 0, 1, 0, 0]
noncomputable def F.law08_Few.L0k (K : Out → Heap → Bool) := (blockK 0 (seqK false (EV (partOf (codeOf Tryz.f11) [1, 1])) (RL Tryz.f11 K)))
theorem F.law08_Few.L0_eq : EV F.law08_Few.L0 ⟨e, 33, [], h⟩ J = (
bindO (lenS .slice (e 0) h) fun j =>
bindO (binS .lss (e 3) j) fun f =>
let Q1 := (setV (setV (setV (setV (setV e 4 (e 3)) 5 (e 0)) 6 j) 7 f) 8 f); condB f (
bindO (binS .lss (e 3) (.int .i64 26)) fun g =>
let Q2 := (setV (setV (setV (setV (setV Q1 8 (.bool true)) 9 (e 3)) 8 (.bool true)) 10 g) 11 g); condB g (
bindO (iaS 4 (e 0) (e 3)) fun k =>
bindO (faS 1 k) fun l =>
bindO (loadS none l h) fun m =>
bindO (lenS .str m h) fun n =>
bindO (binS .gtr n (.int .i64 1000)) fun i =>
let Q3 := (setV (setV (setV (setV (setV (setV (setV (setV Q2 14 (e 0)) 15 (e 3)) 16 k) 17 l) 18 m) 19 n) 20 i) 21 i); condB i (
J .ret ⟨(setV (setV (setV (setV (setV (setV (setV (setV (setV (setV (setV (setV (setV (setV (setV (setV Q3 21 (.bool true)) 22 noV) 21 (.bool true)) 23 noV) 21 (.bool true)) 24 noV) 21 (.bool true)) 25 noV) 21 (.bool true)) 26 noV) 21 (.bool true)) 27 noV) 21 (.bool true)) 28 noV) 29 (.bool true)) 2 (.bool false)), 33, [], h⟩) (
bindO (iaS 4 (e 0) (e 3)) fun o =>
bindO (faS 2 o) fun p =>
bindO (loadS none p h) fun b =>
bindO (lenS .slice b h) fun c =>
bindO (binS .gtr c (.int .i64 60)) fun a =>
let Q4 := (setV (setV (setV (setV (setV (setV (setV (setV (setV (setV (setV (setV (setV (setV (setV Q3 21 (.bool false)) 22 (e 0)) 21 (.bool false)) 23 (e 3)) 21 (.bool false)) 24 o) 21 (.bool false)) 25 p) 21 (.bool false)) 26 b) 21 (.bool false)) 27 c) 21 (.bool false)) 28 a) 29 a); condB a (
J .ret ⟨(setV Q4 2 (.bool false)), 33, [], h⟩) (
bindO (binS .add (e 3) (.int .i64 1)) fun d =>
J .normal ⟨(setV (setV (setV Q4 12 (e 3)) 13 d) 3 d), 33, [], h⟩))) (
J (.exit 0) ⟨Q2, 33, [], h⟩)) (
J (.exit 0) ⟨(setV (setV (setV (setV (setV Q1 8 (.bool false)) 9 noV) 8 (.bool false)) 10 noV) 11 (.bool false)), 33, [], h⟩)) := by kernel_rfl
theorem F.law08_Few.L0_x0_eq : F.law08_Few.L0k K (.exit 0) ⟨e, 33, [], h⟩ = (
bindO (lenS .slice (e 0) h) fun a =>
bindO (binS .leq a (.int .i64 25)) fun b =>
K (.ret b) h) := by kernel_rfl
theorem F.law08_Few.L0_r_eq : F.law08_Few.L0k K .ret ⟨e, 33, [], h⟩ = (
K (.ret (e 2)) h) := by kernel_rfl
theorem F.keep_Keeper_Now_eq : EV (codeOf Tryz.f14) ⟨mkEnv [a0], 12, [], h⟩ (RL Tryz.f14 K) = (
semCall TP 45 [a0] (Heap.alloc h (.cells [(.int .i64 0), .nils])) (outK (fun j c =>
bindO (unS .not j) fun k =>
let Q1 := (setV (setV (setV (setV (mkEnv [a0]) 2 (.ptr (Heap.next h) 0)) 3 a0) 4 j) 5 k); condB k (
bindO (aggS [(.int .i64 0), .nils] [] []) fun l =>
bindO (storeS 2 (.ptr (Heap.next h) 0) l c) fun m =>
bindO (resultL TP ⟨(setV Q1 6 l), 12, [], m⟩ Tryz.f14.results.toList) fun d => K (.ret (oneOf d)) m) (
bindO (nilCheckS a0) fun n =>
bindO (faS 3 n) fun o =>
bindO (loadS (some 2) o c) fun p =>
semCall TP 46 [p] c (outK (fun a f =>
bindO (storeS 2 (.ptr (Heap.next h) 0) a f) fun b =>
bindO (resultL TP ⟨(setV (setV (setV (setV (setV Q1 7 a0) 8 n) 9 o) 10 p) 11 a), 12, [], b⟩ Tryz.f14.results.toList) fun d => K (.ret (oneOf d)) b) (fun g i => K (.panic g) i)))) (fun q r => K (.panic q) r))) := by kernel_rfl
theorem F.keep_Keeper_Now_sem (hh : EV (codeOf Tryz.f14) ⟨mkEnv [a0], 12, [], h⟩ (RL Tryz.f14 K) = true) : Sem TP 14 [a0] h K :=
  SB Tryz.func14 rfl (by decide) (by kernel_rfl) hh
theorem F.keep_Keeper_Put_eq {a3 : AV} : EV (codeOf Tryz.f15) ⟨mkEnv [a0, a1, a2, a3], 59, [], h⟩ (RL Tryz.f15 K) = (
bindO (boxS a0) fun S =>
bindO (loadS none (.ptr (Heap.next h) 0) (Heap.alloc h (.cells S))) fun T =>
semCall TP 45 [T] (Heap.alloc h (.cells S)) (outK (fun U o =>
bindO (unS .not U) fun V =>
condB V (
K (.ret (.tuple [.nils, .nils, (.int .i64 7)])) o) (
bindO (loadS none (.ptr (Heap.next h) 0) o) fun W =>
bindO (nilCheckS W) fun X =>
bindO (faS 1 X) fun Y =>
bindO (loadS (some 2) Y o) fun p =>
semCall TP 21 [p, a1, a2] o (outK (fun d f =>
bindO (extractS d 0) fun q =>
bindO (extractS d 1) fun g =>
bindO (neV (.int .i64) g (.int .i64 0)) fun r =>
condB r (
K (.ret (.tuple [.nils, .nils, g])) f) (
semCall TP 47 [a2, (.func 48 [] [(.ptr (Heap.next h) 0)])] f (outK (fun s a =>
condB s (
K (.ret (.tuple [.nils, .nils, (.int .i64 2)])) a) (
bindO (loadS none (.ptr (Heap.next h) 0) a) fun c =>
bindO (loadS none (.ptr (Heap.next h) 0) a) fun i =>
bindO (nilCheckS i) fun t =>
bindO (faS 5 t) fun j =>
bindO (loadS none j a) fun k =>
semCall TP 49 [a2] a (outK (fun u b =>
if ((bindO (loadS none j b) fun v =>
AV.beq v k) && ((bindO (loadS none (.ptr (Heap.next h) 0) b) fun w =>
AV.beq w i) && ((bindO (loadS none (.ptr (Heap.next h) 0) b) fun x =>
AV.beq x c) && true))) = true then (
bindO (aggS [(.str []), .nils, (.bool false), (.bool false)] [(0, 1), (1, 1), (2, 1), (3, 1)] [a1, u, q, a3]) fun y =>
bindO (rowS [(.str []), .nils, (.bool false), (.bool false)] [(0, 4)] [y]) fun z =>
bindO2 (appendS 4 48 k (.slice (Heap.next b) 0 1 4) (Heap.alloc b (.cells z))) fun A l =>
if ((bindO (loadS none (.ptr (Heap.next h) 0) l) fun B =>
AV.beq B c) && true) = true then (
bindO (nilCheckS c) fun C =>
bindO (faS 5 C) fun D =>
bindO (storeS 1 D A l) fun m =>
bindO (loadS none (.ptr (Heap.next h) 0) m) fun E =>
semCall TP 50 [E, a1, a2, a3] m (outK (fun n G =>
bindO (extractS n 0) fun I =>
bindO (extractS n 1) fun J =>
K (.ret (.tuple [I, J, (.int .i64 0)])) G) (fun L M => K (.panic L) M))) else false) else false) (fun _ _ => false)))) (fun N O => K (.panic N) O)))) (fun P R => K (.panic P) R)))) (fun Z h5 => K (.panic Z) h5))) := by kernel_rfl
theorem F.keep_Keeper_Put_sem {a3 : AV} (hh : EV (codeOf Tryz.f15) ⟨mkEnv [a0, a1, a2, a3], 59, [], h⟩ (RL Tryz.f15 K) = true) : Sem TP 15 [a0, a1, a2, a3] h K :=
  SB Tryz.func15 rfl (by decide) (by kernel_rfl) hh
noncomputable def F.law08_facts.L0 := partOf (codeOf Tryz.f17) [1, 0, 1, 0, 0]
noncomputable def F.law08_facts.L0k (K : Out → Heap → Bool) := (blockK 0 (seqK false (EV (partOf (codeOf Tryz.f17) [1, 1])) (RL Tryz.f17 K)))
noncomputable def F.law08_facts.J0 (K : AX → St → Bool) (s : St) : Bool := runB (EV (partOf (codeOf Tryz.f17) [1, 0, 1, 0, 0, 1, 0, 0, 1, 1])) s (blockK 1 (seqK false (EV (partOf (codeOf Tryz.f17) [1, 0, 1, 0, 0, 1, 1])) K))
theorem F.law08_facts.L0_eq : EV F.law08_facts.L0 ⟨e, 74, [], h⟩ J = (
bindO (lenS .slice (e 1) h) fun l =>
bindO (lenS .slice (e 2) h) fun m =>
bindO (binS .add l m) fun n =>
bindO (binS .lss (e 8) n) fun o =>
let Q1 := (setV (setV (setV (setV (setV (setV (setV e 15 (e 8)) 16 (e 1)) 17 l) 18 (e 2)) 19 m) 20 n) 21 o); condB o (
bindO (aggS [(.str []), .nils] [] []) fun p =>
bindO (lenS .slice (e 1) h) fun q =>
bindO (binS .lss (e 8) q) fun i =>
bindO (storeS 2 (.ptr (Heap.next h) 0) p (Heap.alloc h (.cells [(.str []), .nils]))) fun a =>
let Q2 := (setV (setV (setV (setV (setV (setV (setV (setV Q1 24 p) 25 (e 8)) 26 (e 1)) 27 q) 28 i) 9 (.ptr (Heap.next h) 0)) 10 i) 29 i); condB i (
bindO (iaS 2 (e 1) (e 8)) fun r =>
bindO (loadS (some 2) r a) fun b =>
bindO (storeS 2 (.ptr (Heap.next h) 0) b a) fun j =>
F.law08_facts.J0 J ⟨(setV (setV (setV (setV Q2 30 (e 1)) 31 (e 8)) 32 r) 33 b), 74, [], j⟩) (
bindO (lenS .slice (e 1) a) fun c =>
bindO (binS .sub (e 8) c) fun d =>
bindO (iaS 2 (e 2) d) fun f =>
bindO (loadS (some 2) f a) fun g =>
bindO (storeS 2 (.ptr (Heap.next h) 0) g a) fun k =>
F.law08_facts.J0 J ⟨(setV (setV (setV (setV (setV (setV (setV Q2 34 (e 2)) 35 (e 8)) 36 (e 1)) 37 c) 38 d) 39 f) 40 g), 74, [], k⟩)) (
J (.exit 0) ⟨Q1, 74, [], h⟩)) := by kernel_rfl
theorem F.law08_facts.L0_x0_eq : F.law08_facts.L0k K (.exit 0) ⟨e, 74, [], h⟩ = (
bindO (loadS (some 2) (e 3) h) fun a =>
bindO (storeS 2 (e 6) a h) fun b =>
bindO (resultL TP ⟨(setV (setV e 73 a) 7 (.bool true)), 74, [], b⟩ Tryz.f17.results.toList) fun c => K (.ret (oneOf c)) b) := by kernel_rfl
theorem F.law08_facts.L0_r_eq : F.law08_facts.L0k K .ret ⟨e, 74, [], h⟩ = (
bindO (resultL TP ⟨e, 74, [], h⟩ Tryz.f17.results.toList) fun a => K (.ret (oneOf a)) h) := by kernel_rfl
theorem F.law08_facts.J0_eq : F.law08_facts.J0 J ⟨e, 74, [], h⟩ = (
bindO (loadS (some 2) (e 3) h) fun f =>
bindO (faS 0 (e 9)) fun q =>
bindO (loadS none q h) fun g =>
bindO (faS 1 (e 9)) fun i =>
bindO (loadS none i h) fun j =>
semCall TP 21 [f, g, j] h (outK (fun a r =>
bindO (extractS a 0) fun b =>
bindO (extractS a 1) fun c =>
bindO (loadS (some 2) (e 3) r) fun m =>
bindO (faS 0 (e 9)) fun n =>
bindO (loadS none n r) fun x =>
bindO (faS 1 (e 9)) fun o =>
bindO (loadS none o r) fun p =>
semCall TP 18 [m, x, p, (e 10)] r (outK (fun k s =>
bindO (extractS k 0) fun y =>
bindO (extractS k 1) fun t =>
bindO (storeS 2 (.ptr (Heap.next s) 0) y (Heap.alloc s (.cells [(.int .i64 0), .nils]))) fun d =>
bindO (neV (.int .i64) c (.int .i64 0)) fun z =>
let Q1 := (setV (setV (setV (setV (setV (setV (setV (setV (setV (setV (setV (setV (setV (setV (setV (setV (setV (setV (setV (setV (setV (setV (setV (setV (setV (setV e 42 f) 43 q) 44 g) 45 i) 46 j) 47 a) 41 a) 48 b) 49 c) 11 b) 12 c) 51 m) 52 n) 53 x) 54 o) 55 p) 56 (e 10)) 57 k) 50 k) 58 y) 59 t) 13 (.ptr (Heap.next s) 0)) 14 t) 60 c) 61 z) 62 z); condB z (
bindO (loadS (some 2) (e 3) d) fun B =>
bindO (storeS 2 (e 6) B d) fun I =>
J .ret ⟨(setV (setV (setV (setV (setV (setV (setV (setV (setV (setV (setV (setV (setV (setV (setV Q1 62 (.bool true)) 63 noV) 62 (.bool true)) 64 noV) 65 (.bool true)) 66 (.bool true)) 66 (.bool true)) 67 noV) 66 (.bool true)) 68 noV) 66 (.bool true)) 69 noV) 70 (.bool true)) 71 B) 7 (.bool false)), 74, [], I⟩) (
bindO (neV (.int .i64) t (.int .i64 0)) fun u =>
let Q2 := (setV (setV (setV (setV (setV (setV Q1 62 (.bool false)) 63 t) 62 (.bool false)) 64 u) 65 u) 66 u); condB u (
bindO (loadS (some 2) (e 3) d) fun C =>
bindO (storeS 2 (e 6) C d) fun L =>
J .ret ⟨(setV (setV (setV (setV (setV (setV (setV (setV (setV Q2 66 (.bool true)) 67 noV) 66 (.bool true)) 68 noV) 66 (.bool true)) 69 noV) 70 (.bool true)) 71 C) 7 (.bool false)), 74, [], L⟩) (
bindO (eqV .bool b (e 10)) fun A =>
let Q3 := (setV (setV (setV (setV (setV (setV (setV Q2 66 (.bool false)) 67 b) 66 (.bool false)) 68 (e 10)) 66 (.bool false)) 69 A) 70 A); condB A (
bindO (loadS (some 2) (e 3) d) fun D =>
bindO (storeS 2 (e 6) D d) fun M =>
J .ret ⟨(setV (setV Q3 71 D) 7 (.bool false)), 74, [], M⟩) (
bindO (loadS (some 2) (.ptr (Heap.next s) 0) d) fun E =>
bindO (storeS 2 (e 3) E d) fun N =>
bindO (binS .add (e 8) (.int .i64 1)) fun G =>
J .normal ⟨(setV (setV (setV (setV Q3 72 E) 22 (e 8)) 23 G) 8 G), 74, [], N⟩)))) (fun O P => J (.panic O) ⟨(setV (setV (setV (setV (setV (setV (setV (setV (setV (setV (setV (setV (setV (setV (setV (setV (setV e 42 f) 43 q) 44 g) 45 i) 46 j) 47 a) 41 a) 48 b) 49 c) 11 b) 12 c) 51 m) 52 n) 53 x) 54 o) 55 p) 56 (e 10)), 74, [], P⟩))) (fun R S => J (.panic R) ⟨(setV (setV (setV (setV (setV e 42 f) 43 q) 44 g) 45 i) 46 j), 74, [], S⟩))) := (runB_eq _ _ _).trans (by kernel_rfl)
theorem F.keep_Keeper_Undo_eq {J : Out → Heap → Bool} : EV (codeOf Tryz.f22) ⟨mkEnv [a0], 47, [], h⟩ (RL Tryz.f22 J) = (
semCall TP 45 [a0] h (outK (fun x0 l =>
bindO (unS .not x0) fun x4 =>
condB x4 (
J (.ret (.int .i64 7)) l) (
bindO (nilCheckS a0) fun x5 =>
bindO (faS 5 x5) fun x6 =>
bindO (loadS none x6 l) fun x7 =>
bindO (lenS .slice x7 l) fun x8 =>
bindO (eqV (.int .i64) x8 (.int .i64 0)) fun x9 =>
condB x9 (
J (.ret (.int .i64 6)) l) (
bindO (nilCheckS a0) fun T =>
bindO (faS 5 T) fun U =>
bindO (loadS none U l) fun V =>
bindO (nilCheckS a0) fun W =>
bindO (faS 5 W) fun X =>
bindO (loadS none X l) fun Y =>
bindO (lenS .slice Y l) fun Z =>
bindO (binS .sub Z (.int .i64 1)) fun x17 =>
bindO (iaS 4 V x17) fun x18 =>
bindO (loadS (some 4) x18 l) fun f =>
bindO (storeS 4 (.ptr (Heap.next l) 0) f (Heap.alloc l (.cells [(.str []), .nils, (.bool false), (.bool false)]))) fun v =>
bindO (nilCheckS a0) fun g =>
bindO (faS 5 g) fun i =>
bindO (loadS none i v) fun j =>
bindO (nilCheckS a0) fun a =>
bindO (faS 5 a) fun x25 =>
bindO (loadS none x25 v) fun x26 =>
bindO (lenS .slice x26 v) fun x27 =>
bindO (binS .sub x27 (.int .i64 1)) fun b =>
bindO (sliceS (some 4) j none (some b)) fun c =>
bindO (nilCheckS a0) fun m =>
bindO (faS 5 m) fun n =>
bindO (storeS 1 n c v) fun w =>
bindO (faS 0 (.ptr (Heap.next l) 0)) fun o =>
bindO (loadS none o w) fun p =>
bindO (faS 1 (.ptr (Heap.next l) 0)) fun k =>
bindO (loadS none k w) fun x36 =>
bindO (faS 2 (.ptr (Heap.next l) 0)) fun x37 =>
bindO (loadS none x37 w) fun x38 =>
semCall TP 50 [a0, p, x36, x38] w (outK (fun y h40 =>
J (.ret (.int .i64 0)) h40) (fun v41 h42 => J (.panic v41) h42))))) (fun v2 h3 => J (.panic v2) h3))) := by kernel_rfl
theorem F.keep_Keeper_Undo_sem (hh : EV (codeOf Tryz.f22) ⟨mkEnv [a0], 47, [], h⟩ (RL Tryz.f22 K) = true) : Sem TP 22 [a0] h K :=
  SB Tryz.func22 rfl (by decide) (by kernel_rfl) hh
noncomputable def F.law07_CopyRules.L0 := partOf (codeOf Tryz.f24) [1, 1, 0, 1, 0, 0]
noncomputable def F.law07_CopyRules.L0k (K : Out → Heap → Bool) := (blockK 0 (seqK false (EV (partOf (codeOf Tryz.f24) [1, 1, 1])) (RL Tryz.f24 K)))
noncomputable def F.law07_CopyRules.L1 := partOf (codeOf Tryz.f24) [1, 1, 0, 1, 0, 0, 1, 0, 0, 1, 0, 1, 0, 0]
noncomputable def F.law07_CopyRules.L1k (J : AX → St → Bool) := (blockK 2 (seqK false (EV (partOf (codeOf Tryz.f24) [1, 1, 0, 1, 0, 0, 1, 0, 0, 1, 1])) (blockK 1 (seqK false (EV (partOf (codeOf Tryz.f24) [1, 1, 0, 1, 0, 0, 1, 1])) J))))
theorem F.law07_CopyRules.L0_eq : EV F.law07_CopyRules.L0 ⟨e, 64, [], h⟩ J = (
bindO (lenS .slice (e 0) h) fun k =>
bindO (binS .lss (e 4) k) fun l =>
let Q1 := (setV (setV (setV (setV e 8 (e 4)) 9 (e 0)) 10 k) 11 l); condB l (
bindO (iaS 3 (e 0) (e 4)) fun m =>
bindO (faS 0 m) fun n =>
bindO (faS 0 n) fun f =>
bindO (loadS none f h) fun g =>
bindO (iaS 3 (e 0) (e 4)) fun o =>
bindO (faS 0 o) fun p =>
bindO (faS 1 p) fun q =>
bindO (loadS none q h) fun r =>
semCall TP 71 [r] (Heap.alloc h (.cells [(.str []), .nils, .nils])) (outK (fun a b =>
if ((bindO (loadS none f b) fun i =>
AV.beq i g) && true) = true then (
bindO (aggS [(.str []), .nils] [(0, 1), (1, 1)] [g, a]) fun c =>
bindO (aggS [(.str []), .nils, .nils] [(0, 2)] [c]) fun d =>
bindO (storeS 3 (.ptr (Heap.next h) 0) d b) fun j =>
loopB (EV F.law07_CopyRules.L1) ⟨(setV (setV (setV (setV (setV (setV (setV (setV (setV (setV (setV (setV (setV (setV (setV (setV (setV Q1 14 (e 0)) 15 (e 4)) 16 m) 17 n) 18 f) 19 g) 20 (e 0)) 21 (e 4)) 22 o) 23 p) 24 q) 25 r) 5 (.ptr (Heap.next h) 0)) 26 a) 27 c) 28 d) 6 (.int .i64 0)), 64, [], j⟩ (F.law07_CopyRules.L1k J)) else false) (fun _ _ => false))) (
J (.exit 0) ⟨Q1, 64, [], h⟩)) := by kernel_rfl
theorem F.law07_CopyRules.L0_x0_eq : F.law07_CopyRules.L0k K (.exit 0) ⟨e, 64, [], h⟩ = (
K (.ret (e 3)) h) := by kernel_rfl
theorem F.law07_CopyRules.L1_eq : EV F.law07_CopyRules.L1 ⟨e, 64, [], h⟩ J = (
bindO (iaS 3 (e 0) (e 4)) fun l =>
bindO (faS 2 l) fun m =>
bindO (loadS none m h) fun n =>
bindO (lenS .slice n h) fun o =>
bindO (binS .lss (e 6) o) fun p =>
let Q1 := (setV (setV (setV (setV (setV (setV (setV (setV e 29 (e 6)) 30 (e 0)) 31 (e 4)) 32 l) 33 m) 34 n) 35 o) 36 p); condB p (
bindO (iaS 3 (e 0) (e 4)) fun b =>
bindO (faS 2 b) fun c =>
bindO (loadS none c h) fun d =>
bindO (iaS 4 d (e 6)) fun f =>
bindO (loadS (some 4) f h) fun g =>
bindO (storeS 4 (.ptr (Heap.next h) 0) g (Heap.alloc h (.cells [(.int .i64 0), (.bool false), (.str []), .nils]))) fun q =>
bindO (faS 2 (.ptr (Heap.next h) 0)) fun i =>
bindO (faS 1 i) fun j =>
bindO (loadS none j q) fun k =>
semCall TP 71 [k] q (outK (fun r A =>
bindO (faS 2 (.ptr (Heap.next h) 0)) fun s =>
bindO (faS 1 s) fun t =>
bindO (storeS 1 t r A) fun a =>
bindO (faS 2 (e 5)) fun u =>
bindO (loadS none u a) fun v =>
bindO (loadS (some 4) (.ptr (Heap.next h) 0) a) fun w =>
bindO (rowS [(.int .i64 0), (.bool false), (.str []), .nils] [(0, 4)] [w]) fun B =>
bindO2 (appendS 4 56 v (.slice (Heap.next a) 0 1 4) (Heap.alloc a (.cells B))) fun x C =>
bindO (faS 2 (e 5)) fun y =>
bindO (storeS 1 y x C) fun D =>
bindO (binS .add (e 6) (.int .i64 1)) fun z =>
J .normal ⟨(setV (setV (setV (setV (setV (setV (setV (setV (setV (setV (setV (setV (setV (setV (setV (setV (setV (setV (setV (setV (setV (setV (setV (setV Q1 39 (e 0)) 40 (e 4)) 41 b) 42 c) 43 d) 44 (e 6)) 45 f) 46 g) 7 (.ptr (Heap.next h) 0)) 47 i) 48 j) 49 k) 50 r) 51 s) 52 t) 53 u) 54 v) 55 w) 56 (.slice (Heap.next a) 0 1 4)) 57 x) 58 y) 37 (e 6)) 38 z) 6 z), 64, [], D⟩) (fun E G => J (.panic E) ⟨(setV (setV (setV (setV (setV (setV (setV (setV (setV (setV (setV (setV Q1 39 (e 0)) 40 (e 4)) 41 b) 42 c) 43 d) 44 (e 6)) 45 f) 46 g) 7 (.ptr (Heap.next h) 0)) 47 i) 48 j) 49 k), 64, [], G⟩))) (
J (.exit 2) ⟨Q1, 64, [], h⟩)) := by kernel_rfl
theorem F.law07_CopyRules.L1_x2_eq : F.law07_CopyRules.L1k J (.exit 2) ⟨e, 64, [], h⟩ = (
bindO (loadS (some 3) (e 5) h) fun a =>
bindO (rowS [(.str []), .nils, .nils] [(0, 3)] [a]) fun d =>
bindO2 (appendS 3 64 (e 3) (.slice (Heap.next h) 0 1 3) (Heap.alloc h (.cells d))) fun b f =>
bindO (binS .add (e 4) (.int .i64 1)) fun c =>
J .normal ⟨(setV (setV (setV (setV (setV (setV (setV (setV e 59 (e 3)) 60 a) 61 (.slice (Heap.next h) 0 1 3)) 62 b) 3 b) 12 (e 4)) 13 c) 4 c), 64, [], f⟩) := by kernel_rfl
noncomputable def F.law07_SpoilRules.L0 := partOf (codeOf Tryz.f27) [0, 1, 0, 0]
noncomputable def F.law07_SpoilRules.L0k (K : Out → Heap → Bool) := (blockK 0 (seqK false (EV (partOf (codeOf Tryz.f27) [1])) (RL Tryz.f27 K)))
noncomputable def F.law07_SpoilRules.L1 := partOf (codeOf Tryz.f27) [0, 1, 0, 0, 1, 0, 0, 1, 0, 1, 0, 0]
noncomputable def F.law07_SpoilRules.L1k (J : AX → St → Bool) := (blockK 2 (seqK false (EV (partOf (codeOf Tryz.f27) [0, 1, 0, 0, 1, 0, 0, 1, 1])) (blockK 1 (seqK false (EV (partOf (codeOf Tryz.f27) [0, 1, 0, 0, 1, 1])) J))))
theorem F.law07_SpoilRules.L0_eq : EV F.law07_SpoilRules.L0 ⟨e, 57, [], h⟩ J = (
bindO (lenS .slice (e 0) h) fun f =>
bindO (binS .lss (e 2) f) fun g =>
let Q1 := (setV (setV (setV (setV e 4 (e 2)) 5 (e 0)) 6 f) 7 g); condB g (
bindO (iaS 3 (e 0) (e 2)) fun a =>
bindO (faS 0 a) fun b =>
bindO (faS 1 b) fun c =>
bindO (loadS none c h) fun d =>
semCall TP 74 [d] h (outK (fun i j =>
loopB (EV F.law07_SpoilRules.L1) ⟨(setV (setV (setV (setV (setV (setV (setV (setV Q1 10 (e 0)) 11 (e 2)) 12 a) 13 b) 14 c) 15 d) 16 i) 3 (.int .i64 0)), 57, [], j⟩ (F.law07_SpoilRules.L1k J)) (fun k l => J (.panic k) ⟨(setV (setV (setV (setV (setV (setV Q1 10 (e 0)) 11 (e 2)) 12 a) 13 b) 14 c) 15 d), 57, [], l⟩))) (
J (.exit 0) ⟨Q1, 57, [], h⟩)) := by kernel_rfl
theorem F.law07_SpoilRules.L0_x0_eq : F.law07_SpoilRules.L0k K (.exit 0) ⟨e, 57, [], h⟩ = (
bindO (aggS [(.str []), .nils, .nils] [] []) fun a =>
bindO (rowS [(.str []), .nils, .nils] [(0, 3)] [a]) fun b =>
bindO2 (appendS 3 64 (e 0) (.slice (Heap.next h) 0 1 3) (Heap.alloc h (.cells b))) fun c d =>
bindO (aggS [(.str []), .nils, .nils] [] []) fun f =>
bindO (iaS 3 c (.int .i64 0)) fun g =>
bindO (storeS 3 g f d) fun i =>
K (.ret (.tuple [])) i) := by kernel_rfl
theorem F.law07_SpoilRules.L1_eq : EV F.law07_SpoilRules.L1 ⟨e, 57, [], h⟩ J = (
bindO (iaS 3 (e 0) (e 2)) fun j =>
bindO (faS 2 j) fun k =>
bindO (loadS none k h) fun l =>
bindO (lenS .slice l h) fun m =>
bindO (binS .lss (e 3) m) fun n =>
let Q1 := (setV (setV (setV (setV (setV (setV (setV (setV e 17 (e 3)) 18 (e 0)) 19 (e 2)) 20 j) 21 k) 22 l) 23 m) 24 n); condB n (
bindO (iaS 3 (e 0) (e 2)) fun a =>
bindO (faS 2 a) fun b =>
bindO (loadS none b h) fun c =>
bindO (iaS 4 c (e 3)) fun d =>
bindO (faS 2 d) fun f =>
bindO (faS 1 f) fun g =>
bindO (loadS none g h) fun i =>
semCall TP 74 [i] h (outK (fun v o =>
bindO (iaS 3 (e 0) (e 2)) fun p =>
bindO (faS 2 p) fun q =>
bindO (loadS none q o) fun r =>
bindO (aggS [(.int .i64 0), (.bool false), (.str []), .nils] [(0, 1)] [(.int .i64 (-7))]) fun s =>
bindO (iaS 4 r (e 3)) fun t =>
bindO (storeS 4 t s o) fun w =>
bindO (binS .add (e 3) (.int .i64 1)) fun u =>
J .normal ⟨(setV (setV (setV (setV (setV (setV (setV (setV (setV (setV (setV (setV (setV (setV (setV (setV (setV (setV (setV (setV (setV (setV Q1 27 (e 0)) 28 (e 2)) 29 a) 30 b) 31 c) 32 (e 3)) 33 d) 34 f) 35 g) 36 i) 37 v) 38 (e 0)) 39 (e 2)) 40 p) 41 q) 42 r) 43 (e 3)) 44 s) 45 t) 25 (e 3)) 26 u) 3 u), 57, [], w⟩) (fun x y => J (.panic x) ⟨(setV (setV (setV (setV (setV (setV (setV (setV (setV (setV Q1 27 (e 0)) 28 (e 2)) 29 a) 30 b) 31 c) 32 (e 3)) 33 d) 34 f) 35 g) 36 i), 57, [], y⟩))) (
J (.exit 2) ⟨Q1, 57, [], h⟩)) := by kernel_rfl
theorem F.law07_SpoilRules.L1_x2_eq : F.law07_SpoilRules.L1k J (.exit 2) ⟨e, 57, [], h⟩ = (
bindO (aggS [(.str []), .nils, .nils] [] []) fun a =>
bindO (iaS 3 (e 0) (e 2)) fun b =>
bindO (storeS 3 b a h) fun d =>
bindO (binS .add (e 2) (.int .i64 1)) fun c =>
J .normal ⟨(setV (setV (setV (setV (setV (setV (setV e 46 (e 0)) 47 (e 2)) 48 a) 49 b) 8 (e 2)) 9 c) 2 c), 57, [], d⟩) := by kernel_rfl
noncomputable def F.law01_Spoil.L0 := partOf (codeOf Tryz.f28) [1, 0, 1, 0, 0]
noncomputable def F.law01_Spoil.L0k (K : Out → Heap → Bool) := (blockK 0 (seqK false (EV (partOf (codeOf Tryz.f28) [1, 1])) (RL Tryz.f28 K)))
theorem F.law01_Spoil.L0_eq : EV F.law01_Spoil.L0 ⟨e, 31, [], h⟩ J = (
bindO (faS 1 (e 1)) fun r =>
bindO (loadS none r h) fun s =>
bindO (lenS .slice s h) fun t =>
bindO (binS .lss (e 2) t) fun u =>
let Q1 := (setV (setV (setV (setV (setV e 4 (e 2)) 5 r) 6 s) 7 t) 8 u); condB u (
bindO (faS 1 (e 1)) fun i =>
bindO (loadS none i h) fun j =>
bindO (iaS 3 j (e 2)) fun k =>
bindO (faS 2 k) fun l =>
bindO (loadS none l h) fun m =>
semCall TP 75 [m] h (outK (fun n a =>
bindO (faS 1 (e 1)) fun b =>
bindO (loadS none b a) fun c =>
bindO (aggS [(.str []), (.int .i64 0), .nils] [(0, 1), (1, 1)] [(.str [115, 112, 111, 105, 108, 116]), (.int .i64 (-7))]) fun d =>
bindO (iaS 3 c (e 2)) fun f =>
bindO (storeS 3 f d a) fun o =>
bindO (binS .add (e 2) (.int .i64 1)) fun g =>
J .normal ⟨(setV (setV (setV (setV (setV (setV (setV (setV (setV (setV (setV (setV (setV (setV (setV Q1 11 i) 12 j) 13 (e 2)) 14 k) 15 l) 16 m) 17 n) 18 b) 19 c) 20 (e 2)) 21 d) 22 f) 9 (e 2)) 10 g) 2 g), 31, [], o⟩) (fun p q => J (.panic p) ⟨(setV (setV (setV (setV (setV (setV Q1 11 i) 12 j) 13 (e 2)) 14 k) 15 l) 16 m), 31, [], q⟩))) (
J (.exit 0) ⟨Q1, 31, [], h⟩)) := by kernel_rfl
theorem F.law01_Spoil.L0_x0_eq : F.law01_Spoil.L0k K (.exit 0) ⟨e, 31, [], h⟩ = (
bindO (faS 1 (e 1)) fun a =>
bindO (loadS none a h) fun b =>
bindO (aggS [(.str []), (.int .i64 0), .nils] [] []) fun c =>
bindO (rowS [(.str []), (.int .i64 0), .nils] [(0, 3)] [c]) fun d =>
bindO2 (appendS 3 48 b (.slice (Heap.next h) 0 1 3) (Heap.alloc h (.cells d))) fun f g =>
bindO (aggS [(.str []), (.int .i64 0), .nils] [(0, 1)] [(.str [115, 112, 111, 105, 108, 116])]) fun i =>
bindO (iaS 3 f (.int .i64 0)) fun j =>
bindO (storeS 3 j i g) fun k =>
K (.ret (.tuple [])) k) := by kernel_rfl
noncomputable def F.ref08_Same.L0 := partOf (codeOf Tryz.f29) [1, 1, 0, 1, 0, 0]
noncomputable def F.ref08_Same.L0k (K : Out → Heap → Bool) := (blockK 0 (seqK false (EV (partOf (codeOf Tryz.f29) [1, 1, 1])) (RL Tryz.f29 K)))
theorem F.ref08_Same.L0_eq : EV F.ref08_Same.L0 ⟨e, 42, [], h⟩ J = (
bindO (lenS .slice (e 0) h) fun o =>
bindO (binS .lss (e 5) o) fun p =>
let Q1 := (setV (setV (setV (setV e 11 (e 5)) 12 (e 0)) 13 o) 14 p); condB p (
bindO (iaS 2 (e 0) (e 5)) fun q =>
bindO (faS 0 q) fun r =>
bindO (loadS none r h) fun s =>
bindO (iaS 2 (e 1) (e 5)) fun t =>
bindO (faS 0 t) fun u =>
bindO (loadS none u h) fun c =>
bindO (neV .string s c) fun a =>
let Q2 := (setV (setV (setV (setV (setV (setV (setV (setV (setV (setV (setV (setV Q1 17 (e 0)) 18 (e 5)) 19 q) 20 r) 21 s) 22 (e 1)) 23 (e 5)) 24 t) 25 u) 26 c) 27 a) 28 a); condB a (
J .ret ⟨(setV (setV (setV (setV (setV (setV (setV (setV (setV (setV (setV (setV (setV (setV (setV (setV (setV (setV (setV (setV (setV (setV (setV (setV (setV (setV Q2 28 (.bool true)) 29 noV) 28 (.bool true)) 30 noV) 28 (.bool true)) 31 noV) 28 (.bool true)) 32 noV) 28 (.bool true)) 33 noV) 28 (.bool true)) 34 noV) 28 (.bool true)) 35 noV) 28 (.bool true)) 36 noV) 28 (.bool true)) 37 noV) 28 (.bool true)) 38 noV) 28 (.bool true)) 39 noV) 28 (.bool true)) 40 noV) 41 (.bool true)) 4 (.bool false)), 42, [], h⟩) (
bindO (iaS 2 (e 0) (e 5)) fun d =>
bindO (faS 1 d) fun f =>
bindO (loadS none f h) fun g =>
bindO (iaS 2 (e 1) (e 5)) fun i =>
bindO (faS 1 i) fun j =>
bindO (loadS none j h) fun k =>
semCall TP 20 [g, k] h (outK (fun l m =>
bindO (unS .not l) fun b =>
let Q3 := (setV (setV (setV (setV (setV (setV (setV (setV (setV (setV (setV (setV (setV (setV (setV (setV (setV (setV (setV (setV (setV (setV (setV (setV (setV Q2 28 (.bool false)) 29 (e 0)) 28 (.bool false)) 30 (e 5)) 28 (.bool false)) 31 d) 28 (.bool false)) 32 f) 28 (.bool false)) 33 g) 28 (.bool false)) 34 (e 1)) 28 (.bool false)) 35 (e 5)) 28 (.bool false)) 36 i) 28 (.bool false)) 37 j) 28 (.bool false)) 38 k) 28 (.bool false)) 39 l) 28 (.bool false)) 40 b) 41 b); condB b (
J .ret ⟨(setV Q3 4 (.bool false)), 42, [], m⟩) (
bindO (binS .add (e 5) (.int .i64 1)) fun n =>
J .normal ⟨(setV (setV (setV Q3 15 (e 5)) 16 n) 5 n), 42, [], m⟩)) (fun _ _ => false)))) (
J (.exit 0) ⟨Q1, 42, [], h⟩)) := by kernel_rfl
theorem F.ref08_Same.L0_x0_eq : F.ref08_Same.L0k K (.exit 0) ⟨e, 42, [], h⟩ = (
K (.ret (.bool true)) h) := by kernel_rfl
theorem F.ref08_Same.L0_r_eq : F.ref08_Same.L0k K .ret ⟨e, 42, [], h⟩ = (
K (.ret (e 4)) h) := by kernel_rfl
noncomputable def F.law01_SpoilInts.L0 := partOf (codeOf Tryz.f30) [0, 1, 0, 0]
noncomputable def F.law01_SpoilInts.L0k (K : Out → Heap → Bool) := (blockK 0 (seqK false (EV (partOf (codeOf Tryz.f30) [1])) (RL Tryz.f30 K)))
theorem F.law01_SpoilInts.L0_eq : EV F.law01_SpoilInts.L0 ⟨e, 17, [], h⟩ J = (
bindO (lenS .slice (e 0) h) fun a =>
bindO (binS .lss (e 2) a) fun b =>
let Q1 := (setV (setV (setV (setV e 3 (e 2)) 4 (e 0)) 5 a) 6 b); condB b (
bindO (iaS 1 (e 0) (e 2)) fun c =>
bindO (storeS 1 c (.int .i64 (-7)) h) fun f =>
bindO (binS .add (e 2) (.int .i64 1)) fun d =>
J .normal ⟨(setV (setV (setV (setV (setV (setV Q1 9 (e 0)) 10 (e 2)) 11 c) 7 (e 2)) 8 d) 2 d), 17, [], f⟩) (
J (.exit 0) ⟨Q1, 17, [], h⟩)) := by kernel_rfl
theorem F.law01_SpoilInts.L0_x0_eq : F.law01_SpoilInts.L0k K (.exit 0) ⟨e, 17, [], h⟩ = (
bindO (rowS [(.int .i64 0)] [(0, 1)] [(.int .i64 (-8))]) fun a =>
bindO2 (appendS 1 8 (e 0) (.slice (Heap.next h) 0 1 1) (Heap.alloc h (.cells a))) fun b c =>
bindO (iaS 1 b (.int .i64 0)) fun d =>
bindO (storeS 1 d (.int .i64 (-7)) c) fun f =>
K (.ret (.tuple [])) f) := by kernel_rfl
noncomputable def F.law08_spoil.L0 := partOf (codeOf Tryz.f31) [1, 0, 0]
noncomputable def F.law08_spoil.L0k (K : Out → Heap → Bool) := (blockK 0 (RL Tryz.f31 K))
theorem F.law08_spoil.L0_eq : EV F.law08_spoil.L0 ⟨e, 19, [], h⟩ J = (
bindO (lenS .slice (e 0) h) fun i =>
bindO (binS .lss (e 2) i) fun j =>
let Q1 := (setV (setV (setV (setV e 3 (e 2)) 4 (e 0)) 5 i) 6 j); condB j (
bindO (iaS 2 (e 0) (e 2)) fun c =>
bindO (faS 1 c) fun d =>
bindO (loadS none d h) fun f =>
semCall TP 30 [f] h (outK (fun l m =>
bindO (aggS [(.str []), .nils] [(0, 1)] [(.str [115, 112, 111, 105, 108, 116])]) fun k =>
bindO (iaS 2 (e 0) (e 2)) fun a =>
bindO (storeS 2 a k m) fun g =>
bindO (binS .add (e 2) (.int .i64 1)) fun b =>
J .normal ⟨(setV (setV (setV (setV (setV (setV (setV (setV (setV (setV (setV (setV (setV Q1 9 (e 0)) 10 (e 2)) 11 c) 12 d) 13 f) 14 l) 15 (e 0)) 16 (e 2)) 17 k) 18 a) 7 (e 2)) 8 b) 2 b), 19, [], g⟩) (fun n o => J (.panic n) ⟨(setV (setV (setV (setV (setV Q1 9 (e 0)) 10 (e 2)) 11 c) 12 d) 13 f), 19, [], o⟩))) (
J (.exit 0) ⟨Q1, 19, [], h⟩)) := by kernel_rfl
theorem F.law08_spoil.L0_x0_eq : F.law08_spoil.L0k K (.exit 0) ⟨e, 19, [], h⟩ = (
K (.ret (.tuple [])) h) := by kernel_rfl
theorem F.keep_Keeper_Count_eq : EV (codeOf Tryz.f33) ⟨mkEnv [a0, a1, a2], 38, [], h⟩ (RL Tryz.f33 K) = (
bindO (boxS a1) fun b =>
bindO (boxS a2) fun z =>
semCall TP 45 [a0] (Heap.alloc (Heap.alloc h (.cells b)) (.cells z)) (outK (fun A c =>
bindO (unS .not A) fun B =>
condB B (
K (.ret (.tuple [(.int .i64 0), (.int .i64 7)])) c) (
bindO (nilCheckS a0) fun C =>
bindO (faS 3 C) fun D =>
bindO (faS 1 D) fun E =>
bindO (loadS none E c) fun d =>
semCall TP 76 [d, (.func 77 [] [(.ptr (Heap.next h) 0), (.ptr (Heap.next (Heap.alloc h (.cells b))) 0)])] c (outK (fun f a =>
bindO (nilCheckS a0) fun g =>
bindO (faS 1 g) fun i =>
bindO (faS 1 i) fun j =>
bindO (loadS none j a) fun k =>
bindO (lenS .slice k a) fun l =>
bindO (binS .lss f l) fun m =>
condB m (
K (.ret (.tuple [(.int .i64 0), (.int .i64 4)])) a) (
bindO (nilCheckS a0) fun n =>
bindO (faS 0 n) fun o =>
bindO (loadS none o a) fun p =>
bindO (nilCheckS a0) fun q =>
bindO (faS 3 q) fun r =>
bindO (loadS (some 2) r a) fun s =>
bindO (loadS none (.ptr (Heap.next h) 0) a) fun t =>
bindO (loadS none (.ptr (Heap.next (Heap.alloc h (.cells b))) 0) a) fun u =>
semCall TP 78 [p, s, t, u] a (outK (fun v w =>
K (.ret (.tuple [v, (.int .i64 0)])) w) (fun _ _ => false)))) (fun x y => K (.panic x) y)))) (fun G I => K (.panic G) I))) := by kernel_rfl
theorem F.keep_Keeper_Count_sem (hh : EV (codeOf Tryz.f33) ⟨mkEnv [a0, a1, a2], 38, [], h⟩ (RL Tryz.f33 K) = true) : Sem TP 33 [a0, a1, a2] h K :=
  SB Tryz.func33 rfl (by decide) (by kernel_rfl) hh
theorem F.keep_Keeper_Clone_eq : EV (codeOf Tryz.f37) ⟨mkEnv [a0], 25, [], h⟩ (RL Tryz.f37 K) = (
semCall TP 45 [a0] h (outK (fun u b =>
bindO (unS .not u) fun v =>
condB v (
K (.ret .nilp) b) (
bindO (nilCheckS a0) fun w =>
bindO (faS 0 w) fun r =>
bindO (loadS none r b) fun s =>
bindO (nilCheckS a0) fun x =>
bindO (faS 1 x) fun t =>
bindO (loadS (some 2) t b) fun c =>
bindO (nilCheckS a0) fun g =>
bindO (faS 3 g) fun d =>
bindO (loadS (some 2) d b) fun f =>
bindO (nilCheckS a0) fun i =>
bindO (faS 5 i) fun j =>
bindO (loadS none j b) fun k =>
semCall TP 80 [k] b (outK (fun l a =>
if ((bindO (loadS (some 2) d a) fun m =>
AV.beq m f) && ((bindO (loadS (some 2) t a) fun n =>
AV.beq n c) && ((bindO (loadS none r a) fun o =>
AV.beq o s) && true))) = true then (
bindO (aggS [.nils, (.int .i64 0), .nils, (.int .i64 0), .nils, .nils] [(0, 1), (1, 2), (3, 2), (5, 1)] [s, c, f, l]) fun p =>
bindO (boxS p) fun q =>
K (.ret (.ptr (Heap.next a) 0)) (Heap.alloc a (.cells q))) else false) (fun _ _ => false)))) (fun y z => K (.panic y) z))) := by kernel_rfl
theorem F.keep_Keeper_Clone_sem (hh : EV (codeOf Tryz.f37) ⟨mkEnv [a0], 25, [], h⟩ (RL Tryz.f37 K) = true) : Sem TP 37 [a0] h K :=
  SB Tryz.func37 rfl (by decide) (by kernel_rfl) hh
theorem F.keep_Keeper_right_eq : EV (codeOf Tryz.f45) ⟨mkEnv [a0], 13, [], h⟩ (RL Tryz.f45 K) = (
bindO (neV (.pointer 78) a0 .nilp) fun a =>
condB a (
bindO (nilCheckS a0) fun b =>
bindO (faS 1 b) fun c =>
bindO (faS 0 c) fun d =>
bindO (loadS none d h) fun f =>
bindO (binS .gtr f (.int .i64 0)) fun g =>
K (.ret g) h) (
K (.ret (.bool false)) h)) := by kernel_rfl
theorem F.keep_Keeper_right_sem (hh : EV (codeOf Tryz.f45) ⟨mkEnv [a0], 13, [], h⟩ (RL Tryz.f45 K) = true) : Sem TP 45 [a0] h K :=
  SB Tryz.func45 rfl (by decide) (by kernel_rfl) hh
noncomputable def F.keep_copied.L0 := partOf (codeOf Tryz.f73) [1, 1, 0, 1, 0, 0]
noncomputable def F.keep_copied.L0k (K : Out → Heap → Bool) := (blockK 0 (seqK false (EV (partOf (codeOf Tryz.f73) [1, 1, 1])) (RL Tryz.f73 K)))
noncomputable def F.keep_copied.L1 := partOf (codeOf Tryz.f73) [1, 1, 0, 1, 0, 0, 1, 1, 0, 0, 1, 1, 0, 1, 0, 0]
noncomputable def F.keep_copied.L1k (J : AX → St → Bool) := (blockK 2 (seqK false (EV (partOf (codeOf Tryz.f73) [1, 1, 0, 1, 0, 0, 1, 1, 0, 0, 1, 1, 1])) (blockK 1 (seqK false (EV (partOf (codeOf Tryz.f73) [1, 1, 0, 1, 0, 0, 1, 1, 1])) J))))
theorem F.keep_copied.L0_eq : EV F.keep_copied.L0 ⟨e, 50, [], h⟩ J = (
bindO (binS .lss (e 11) (e 10)) fun l =>
condB l (
bindO (iaS 3 (e 9) (e 11)) fun q =>
bindO (loadS (some 3) q h) fun r =>
bindO (storeS 3 (.ptr (Heap.next h) 0) r (Heap.alloc h (.cells [(.str []), .nils, .nils]))) fun b =>
bindO (faS 0 (.ptr (Heap.next h) 0)) fun s =>
bindO (faS 0 s) fun m =>
bindO (loadS none m b) fun n =>
bindO (faS 0 (.ptr (Heap.next h) 0)) fun t =>
bindO (faS 1 t) fun u =>
bindO (loadS none u b) fun c =>
semCall TP 117 [c] (Heap.alloc b (.cells [(.str []), .nils, .nils])) (outK (fun d f =>
if ((bindO (loadS none m f) fun o =>
AV.beq o n) && true) = true then (
bindO (aggS [(.str []), .nils] [(0, 1), (1, 1)] [n, d]) fun g =>
bindO (aggS [(.str []), .nils, .nils] [(0, 2)] [g]) fun i =>
bindO (storeS 3 (.ptr (Heap.next b) 0) i f) fun a =>
bindO (faS 2 (.ptr (Heap.next h) 0)) fun j =>
bindO (loadS none j a) fun k =>
bindO (lenS .slice k a) fun p =>
loopB (EV F.keep_copied.L1) ⟨(setV (setV (setV (setV (setV (setV (setV (setV (setV (setV (setV (setV (setV (setV (setV (setV (setV (setV e 12 l) 13 q) 14 r) 5 (.ptr (Heap.next h) 0)) 15 s) 16 m) 17 n) 18 t) 19 u) 20 c) 6 (.ptr (Heap.next b) 0)) 21 d) 22 g) 23 i) 24 j) 25 k) 26 p) 27 (.int .i64 0)), 50, [], a⟩ (F.keep_copied.L1k J)) else false) (fun _ _ => false))) (
J (.exit 0) ⟨(setV e 12 l), 50, [], h⟩)) := by kernel_rfl
theorem F.keep_copied.L0_x0_eq : F.keep_copied.L0k K (.exit 0) ⟨e, 50, [], h⟩ = (
K (.ret (e 3)) h) := by kernel_rfl
theorem F.keep_copied.L1_eq : EV F.keep_copied.L1 ⟨e, 50, [], h⟩ J = (
bindO (binS .lss (e 27) (e 26)) fun b =>
condB b (
bindO (iaS 4 (e 25) (e 27)) fun c =>
bindO (loadS (some 4) c h) fun d =>
bindO (storeS 4 (.ptr (Heap.next h) 0) d (Heap.alloc h (.cells [(.int .i64 0), (.bool false), (.str []), .nils]))) fun j =>
bindO (faS 2 (.ptr (Heap.next h) 0)) fun f =>
bindO (faS 1 f) fun g =>
bindO (loadS none g j) fun i =>
semCall TP 117 [i] j (outK (fun k t =>
bindO (faS 2 (.ptr (Heap.next h) 0)) fun l =>
bindO (faS 1 l) fun m =>
bindO (storeS 1 m k t) fun a =>
bindO (faS 2 (e 6)) fun n =>
bindO (loadS none n a) fun o =>
bindO (loadS (some 4) (.ptr (Heap.next h) 0) a) fun p =>
bindO (rowS [(.int .i64 0), (.bool false), (.str []), .nils] [(0, 4)] [p]) fun u =>
bindO2 (appendS 4 56 o (.slice (Heap.next a) 0 1 4) (Heap.alloc a (.cells u))) fun q v =>
bindO (faS 2 (e 6)) fun r =>
bindO (storeS 1 r q v) fun w =>
bindO (binS .add (e 27) (.int .i64 1)) fun s =>
J .normal ⟨(setV (setV (setV (setV (setV (setV (setV (setV (setV (setV (setV (setV (setV (setV (setV (setV (setV (setV e 28 b) 29 c) 30 d) 8 (.ptr (Heap.next h) 0)) 31 f) 32 g) 33 i) 34 k) 35 l) 36 m) 37 n) 38 o) 39 p) 40 (.slice (Heap.next a) 0 1 4)) 41 q) 42 r) 43 s) 27 s), 50, [], w⟩) (fun x y => J (.panic x) ⟨(setV (setV (setV (setV (setV (setV (setV e 28 b) 29 c) 30 d) 8 (.ptr (Heap.next h) 0)) 31 f) 32 g) 33 i), 50, [], y⟩))) (
J (.exit 2) ⟨(setV e 28 b), 50, [], h⟩)) := by kernel_rfl
theorem F.keep_copied.L1_x2_eq : F.keep_copied.L1k J (.exit 2) ⟨e, 50, [], h⟩ = (
bindO (loadS (some 3) (e 6) h) fun a =>
bindO (rowS [(.str []), .nils, .nils] [(0, 3)] [a]) fun d =>
bindO2 (appendS 3 64 (e 3) (.slice (Heap.next h) 0 1 3) (Heap.alloc h (.cells d))) fun b f =>
bindO (binS .add (e 11) (.int .i64 1)) fun c =>
J .normal ⟨(setV (setV (setV (setV (setV (setV (setV e 44 (e 3)) 45 a) 46 (.slice (Heap.next h) 0 1 3)) 47 b) 3 b) 48 c) 11 c), 50, [], f⟩) := by kernel_rfl
noncomputable def F.law01_SpoilNames.L0 := partOf (codeOf Tryz.f74) [0, 1, 0, 0]
noncomputable def F.law01_SpoilNames.L0k (K : Out → Heap → Bool) := (blockK 0 (seqK false (EV (partOf (codeOf Tryz.f74) [1])) (RL Tryz.f74 K)))
theorem F.law01_SpoilNames.L0_eq : EV F.law01_SpoilNames.L0 ⟨e, 17, [], h⟩ J = (
bindO (lenS .slice (e 0) h) fun a =>
bindO (binS .lss (e 2) a) fun b =>
let Q1 := (setV (setV (setV (setV e 3 (e 2)) 4 (e 0)) 5 a) 6 b); condB b (
bindO (iaS 1 (e 0) (e 2)) fun c =>
bindO (storeS 1 c (.str [115, 112, 111, 105, 108, 116]) h) fun f =>
bindO (binS .add (e 2) (.int .i64 1)) fun d =>
J .normal ⟨(setV (setV (setV (setV (setV (setV Q1 9 (e 0)) 10 (e 2)) 11 c) 7 (e 2)) 8 d) 2 d), 17, [], f⟩) (
J (.exit 0) ⟨Q1, 17, [], h⟩)) := by kernel_rfl
theorem F.law01_SpoilNames.L0_x0_eq : F.law01_SpoilNames.L0k K (.exit 0) ⟨e, 17, [], h⟩ = (
bindO (rowS [(.str [])] [(0, 1)] [(.str [115, 112, 111, 105, 108, 116])]) fun a =>
bindO2 (appendS 1 16 (e 0) (.slice (Heap.next h) 0 1 1) (Heap.alloc h (.cells a))) fun b c =>
bindO (iaS 1 b (.int .i64 0)) fun d =>
bindO (storeS 1 d (.str [115, 112, 111, 105, 108, 116]) c) fun f =>
K (.ret (.tuple [])) f) := by kernel_rfl
noncomputable def F.law01_SpoilTuples.L0 := partOf (codeOf Tryz.f75) [0, 1, 0, 0]
noncomputable def F.law01_SpoilTuples.L0k (K : Out → Heap → Bool) := (blockK 0 (seqK false (EV (partOf (codeOf Tryz.f75) [1])) (RL Tryz.f75 K)))
theorem F.law01_SpoilTuples.L0_eq : EV F.law01_SpoilTuples.L0 ⟨e, 22, [], h⟩ J = (
bindO (lenS .slice (e 0) h) fun d =>
bindO (binS .lss (e 2) d) fun f =>
let Q1 := (setV (setV (setV (setV e 3 (e 2)) 4 (e 0)) 5 d) 6 f); condB f (
bindO (iaS 1 (e 0) (e 2)) fun b =>
bindO (loadS none b h) fun c =>
semCall TP 30 [c] h (outK (fun i j =>
bindO (iaS 1 (e 0) (e 2)) fun g =>
bindO (storeS 1 g .nils j) fun k =>
bindO (binS .add (e 2) (.int .i64 1)) fun a =>
J .normal ⟨(setV (setV (setV (setV (setV (setV (setV (setV (setV (setV (setV Q1 9 (e 0)) 10 (e 2)) 11 b) 12 c) 13 i) 14 (e 0)) 15 (e 2)) 16 g) 7 (e 2)) 8 a) 2 a), 22, [], k⟩) (fun l m => J (.panic l) ⟨(setV (setV (setV (setV Q1 9 (e 0)) 10 (e 2)) 11 b) 12 c), 22, [], m⟩))) (
J (.exit 0) ⟨Q1, 22, [], h⟩)) := by kernel_rfl
theorem F.law01_SpoilTuples.L0_x0_eq : F.law01_SpoilTuples.L0k K (.exit 0) ⟨e, 22, [], h⟩ = (
bindO (rowS [.nils] [(0, 1)] [.nils]) fun a =>
bindO2 (appendS 1 24 (e 0) (.slice (Heap.next h) 0 1 1) (Heap.alloc h (.cells a))) fun b c =>
bindO (iaS 1 b (.int .i64 0)) fun d =>
bindO (storeS 1 d .nils c) fun f =>
K (.ret (.tuple [])) f) := by kernel_rfl
noncomputable def F.rules_Count.L0 := partOf (codeOf Tryz.f78) [1, 1, 0, 1, 0, 0]
noncomputable def F.rules_Count.L0k (K : Out → Heap → Bool) := (blockK 0 (seqK false (EV (partOf (codeOf Tryz.f78) [1, 1, 1])) (RL Tryz.f78 K)))
noncomputable def F.rules_Count.L1 := partOf (codeOf Tryz.f78) [1, 1, 0, 1, 0, 0, 1, 1, 0, 0, 1, 1, 1, 1, 0, 0]
noncomputable def F.rules_Count.L1k (J : AX → St → Bool) := (blockK 2 (blockK 1 (seqK false (EV (partOf (codeOf Tryz.f78) [1, 1, 0, 1, 0, 0, 1, 1, 1])) J)))
noncomputable def F.rules_Count.L2 := partOf (codeOf Tryz.f78) [1, 1, 1, 1, 0, 1, 0, 0]
noncomputable def F.rules_Count.L2k (K : Out → Heap → Bool) := (blockK 4 (seqK false (EV (partOf (codeOf Tryz.f78) [1, 1, 1, 1, 1])) (RL Tryz.f78 K)))
theorem F.rules_Count.L0_eq : EV F.rules_Count.L0 ⟨e, 89, [], h⟩ J = (
bindO (binS .lss (e 28) (e 27)) fun w =>
condB w (
bindO (iaS 3 (e 26) (e 28)) fun c =>
bindO (loadS (some 3) c h) fun d =>
bindO (storeS 3 (.ptr (Heap.next h) 0) d (Heap.alloc h (.cells [(.str []), (.int .i64 0), .nils]))) fun f =>
bindO (faS 0 (e 5)) fun g =>
bindO (loadS none g f) fun i =>
bindO (faS 1 (.ptr (Heap.next h) 0)) fun j =>
bindO (loadS none j f) fun k =>
semCall TP 99 [i, k] f (outK (fun b l =>
bindO (extractS b 0) fun a =>
bindO (extractS b 1) fun n =>
bindO (nilCheckS (e 9)) fun o =>
bindO (faS 1 o) fun p =>
bindO (loadS none p l) fun q =>
bindO (faS 0 (.ptr (Heap.next h) 0)) fun r =>
bindO (loadS none r l) fun s =>
bindO2 (makeSliceS 1 1 [(.bool false)] a a l) fun t x =>
bindO (mapUpdateS .string q s t x) fun m =>
bindO (faS 2 (.ptr (Heap.next h) 0)) fun u =>
bindO (loadS none u m) fun v =>
bindO (lenS .slice v m) fun y =>
loopB (EV F.rules_Count.L1) ⟨(setV (setV (setV (setV (setV (setV (setV (setV (setV (setV (setV (setV (setV (setV (setV (setV (setV (setV (setV (setV (setV (setV (setV (setV (setV (setV e 29 w) 30 c) 31 d) 11 (.ptr (Heap.next h) 0)) 33 g) 34 i) 35 j) 36 k) 37 b) 32 b) 38 a) 39 n) 12 a) 13 n) 40 (e 9)) 41 o) 42 p) 43 q) 44 r) 45 s) 46 a) 47 t) 48 u) 49 v) 50 y) 51 (.int .i64 0)), 89, [], m⟩ (F.rules_Count.L1k J)) (fun z A => J (.panic z) ⟨(setV (setV (setV (setV (setV (setV (setV (setV e 29 w) 30 c) 31 d) 11 (.ptr (Heap.next h) 0)) 33 g) 34 i) 35 j) 36 k), 89, [], A⟩))) (
J (.exit 0) ⟨(setV e 29 w), 89, [], h⟩)) := by kernel_rfl
theorem F.rules_Count.L0_x0_eq : F.rules_Count.L0k K (.exit 0) ⟨e, 89, [], h⟩ = (
bindO (storeS 1 (.ptr (Heap.next h) 0) (.int .i64 0) (Heap.alloc h (.cells [(.int .i64 0)]))) fun a =>
bindO (lenS .slice (e 0) a) fun b =>
loopB (EV F.rules_Count.L2) ⟨(setV (setV (setV (setV e 16 (.ptr (Heap.next h) 0)) 68 (e 0)) 69 b) 70 (.int .i64 0)), 89, [], a⟩ (F.rules_Count.L2k K)) := by kernel_rfl
theorem F.rules_Count.L1_eq : EV F.rules_Count.L1 ⟨e, 89, [], h⟩ J = (
bindO (binS .lss (e 51) (e 50)) fun f =>
condB f (
bindO (iaS 1 (e 49) (e 51)) fun k =>
bindO (loadS none k h) fun a =>
bindO (nilCheckS (e 9)) fun l =>
bindO (faS 1 l) fun g =>
bindO (loadS none g h) fun b =>
bindO (faS 0 (e 11)) fun i =>
bindO (loadS none i h) fun c =>
bindO (lookupS .string .nils false b c h) fun j =>
semCall TP 101 [(e 9), a] h (outK (fun m d =>
if ((bindO (lookupS .string .nils false b c d) fun p =>
AV.beq p j) && ((bindO (loadS none i d) fun q =>
AV.beq q c) && ((bindO (loadS none g d) fun r =>
AV.beq r b) && true))) = true then (
bindO (iaS 1 j m) fun n =>
bindO (storeS 1 n (.bool true) d) fun s =>
bindO (binS .add (e 51) (.int .i64 1)) fun o =>
J .normal ⟨(setV (setV (setV (setV (setV (setV (setV (setV (setV (setV (setV (setV (setV (setV (setV (setV (setV e 52 f) 53 k) 54 a) 15 a) 55 (e 9)) 56 l) 57 g) 58 b) 59 i) 60 c) 61 j) 62 (e 9)) 63 a) 64 m) 65 n) 66 o) 51 o), 89, [], s⟩) else false) (fun _ _ => false))) (
J (.exit 2) ⟨(setV e 52 f), 89, [], h⟩)) := by kernel_rfl
theorem F.rules_Count.L1_x2_eq : F.rules_Count.L1k J (.exit 2) ⟨e, 89, [], h⟩ = (
bindO (binS .add (e 28) (.int .i64 1)) fun a =>
J .normal ⟨(setV (setV e 67 a) 28 a), 89, [], h⟩) := by kernel_rfl
theorem F.rules_Count.L2_eq : EV F.rules_Count.L2 ⟨e, 89, [], h⟩ J = (
bindO (binS .lss (e 70) (e 69)) fun g =>
let Q1 := (setV e 71 g); condB g (
bindO (iaS 3 (e 68) (e 70)) fun i =>
bindO (loadS (some 3) i h) fun j =>
bindO (storeS 3 (.ptr (Heap.next h) 0) j (Heap.alloc h (.cells [(.str []), .nils, .nils]))) fun b =>
bindO (faS 0 (.ptr (Heap.next h) 0)) fun k =>
bindO (faS 0 k) fun l =>
bindO (loadS none l b) fun m =>
bindO (neV .string m (e 2)) fun n =>
let Q2 := (setV (setV (setV (setV (setV (setV (setV (setV (setV (setV Q1 72 (e 70)) 73 i) 74 j) 18 (.ptr (Heap.next h) 0)) 17 (e 70)) 75 k) 76 l) 77 m) 78 (e 2)) 79 n); condB n (
bindO (binS .add (e 70) (.int .i64 1)) fun o =>
J .normal ⟨(setV (setV Q2 87 o) 70 o), 89, [], b⟩) (
bindO (loadS (some 3) (.ptr (Heap.next h) 0) b) fun c =>
semCall TP 102 [(e 70), c] b (outK (fun d a =>
bindO (storeS 8 (.ptr (Heap.next a) 0) d (Heap.alloc a (.cells [(.int .i64 0), (.str []), .nils, .nils, (.int .i64 0), .nils, .nils, .nils]))) fun p =>
bindO (loadS (some 8) (.ptr (Heap.next a) 0) p) fun f =>
semCall TP 118 [(e 9), f, (.func 119 [] [(.ptr (Heap.next a) 0), (e 7), (e 16)])] p (outK (fun r s =>
bindO (binS .add (e 70) (.int .i64 1)) fun q =>
J .normal ⟨(setV (setV (setV (setV (setV (setV (setV (setV (setV (setV Q2 80 (e 70)) 81 c) 82 d) 19 (.ptr (Heap.next a) 0)) 83 (e 9)) 84 f) 85 (.func 119 [] [(.ptr (Heap.next a) 0), (e 7), (e 16)])) 86 r) 87 q) 70 q), 89, [], s⟩) (fun t u => J (.panic t) ⟨(setV (setV (setV (setV (setV (setV (setV Q2 80 (e 70)) 81 c) 82 d) 19 (.ptr (Heap.next a) 0)) 83 (e 9)) 84 f) 85 (.func 119 [] [(.ptr (Heap.next a) 0), (e 7), (e 16)])), 89, [], u⟩))) (fun v w => J (.panic v) ⟨(setV (setV Q2 80 (e 70)) 81 c), 89, [], w⟩)))) (
J (.exit 4) ⟨Q1, 89, [], h⟩)) := by kernel_rfl
theorem F.rules_Count.L2_x4_eq : F.rules_Count.L2k K (.exit 4) ⟨e, 89, [], h⟩ = (
bindO (loadS none (e 16) h) fun a =>
K (.ret a) h) := by kernel_rfl
end
end Go.AM
