/- Parts of the proof. Conditions: none. -/
import Derived.Test.YtfdanacohcffmaaGreatKn4
import Derived.Test.YtfdanacohcffmaaGreatKn9
import Derived.Test.YtfdanacohcffmaaGreatKn10
import Derived.Test.YtfdanacohcffmaaGreatKn11
import Derived.Test.YtfdanacohcffmaaGreatKn13
import Derived.Test.YtfdanacohcffmaaGreatKn17
import Derived.KernelRfl
set_option linter.unusedVariables false
namespace Go.Proofs
open Go.RowKit Go.Maps Go.Sort Go.Shelf
theorem Tryz.sortsIn (m : Nat) : AnyZ.SortsIn Tryz.prog Tryz.sorted61_ren Fence.wide m :=
  ⟨fun blk off cap ss W hH hblk hsz => callsIn_wide.2 (AnyM.slices_Sort_string Tryz.sort105 blk off cap ss W hH hblk hsz),
   fun p cap W => callsIn_wide.2 (AnyM.slices_Sort_string_none Tryz.sort105 p cap W)⟩
theorem Tryz.keysGiven62 : AM.KeysGiven Tryz.prog 62 106 121 := fun mb W => callsIn_wide.1 (AnyZ.keys_in Tryz.keys62 Fence.wide 5 trivial rfl mb W)
set_option maxHeartbeats 1000000 in
theorem Tryz.sortedGiven62 : AM.SortedGiven Tryz.prog 61 106 9 := by
  refine ⟨fun Bm b nn D0 w h1 h2 hown hmax hbytes => (callsIn_wide (n := 5)).1 ?_, fun Bm w h1 h2 => ?_⟩
  · have hseq : SeqGives Fence.wide 2 Tryz.prog 106 #[.pointer (some ⟨Bm, 0, none⟩)] encStr (fun ss => ss.Perm (strKeys D0)) (Maps.size D0) w :=
      AnyZ.keys_gives (ρ := Tryz.keys62_ren) { Tryz.keys62 with } Fence.wide _ trivial rfl (by omega) Bm b nn D0 w h1 h2 hown
    exact AnyZ.sorted_in Tryz.sorted61 Fence.wide 5 trivial trivial trivial trivial rfl (by omega) (Tryz.sortsIn _) (enters_of Tryz.func105 (by kernel_rfl) rfl) 106 #[.pointer (some ⟨Bm, 0, none⟩)] trivial (enters_of Tryz.func106 (by kernel_rfl) rfl) _ _ hmax hbytes w hseq
  · have hseq : SeqGives Fence.wide 2 Tryz.prog 106 #[.pointer (some ⟨Bm, 0, none⟩)] encStr (fun ss : List (List UInt8) => ss = []) 0 w :=
      AnyZ.keys_gives_nil (ρ := Tryz.keys62_ren) { Tryz.keys62 with } Fence.wide _ trivial rfl Bm w h1 h2
    refine Calls.mono ((callsIn_wide (n := 5)).1 (AnyZ.sorted_in Tryz.sorted61 Fence.wide 5 trivial trivial trivial trivial rfl (by omega) (Tryz.sortsIn _) (enters_of Tryz.func105 (by kernel_rfl) rfl) 106 #[.pointer (some ⟨Bm, 0, none⟩)] trivial (enters_of Tryz.func106 (by kernel_rfl) rfl) _ 0 (Nat.zero_le _) (by omega) w hseq)) fun e w' hR => ?_
    obtain ⟨v, ss, rfl, s1, s2, s3, s4⟩ := hR
    exact ⟨by rw [s3.2 s1], s4⟩
end Go.Proofs
namespace Go.AM
open Go Go.Proofs
noncomputable section
noncomputable abbrev TP : Go.Program := Tryz.prog
noncomputable abbrev EV := evalS TP (semCall TP)
variable {K : Out → Heap → Bool} {h : Heap} {J : AX → St → Bool} {e : Env} {a0 a1 : AV}
theorem mixed : Tryz.prog.follows .mixedOrders = true := by kernel_rfl
noncomputable abbrev RL (f : Go.Func) := leaveK TP noD f.results.toList
theorem SB {f : FuncId} {fn : Go.Func} (hfn : TP.funcs[f]? = some fn) (hb : fn.body = some (codeOf fn)) (hn : fn.name ≠ "runtime.NumGoroutine") {args : List AV} (hl : Nat.ble args.length fn.ntmps = true) {h : Heap} {K : Out → Heap → Bool}
    (hh : EV (codeOf fn) ⟨mkEnv args, fn.ntmps, [], h⟩ (RL fn K) = true) : Sem TP f args h K := sem_body mixed (noD_sound _) hfn hb hn (Nat.le_of_ble_eq_true hl) hh
noncomputable def opsAt : Code → List Oper
  | .seq (.region _ ops _) _ => ops.toList
  | _ => []
noncomputable def idAt : Code → Nat
  | .seq (.region id _ _) _ => id
  | _ => 0
noncomputable def headOp : List Oper → Oper
  | o :: _ => o
  | [] => default
noncomputable def tsOf : Op → Array TypeId
  | .call c => c.argTypes
  | _ => #[]
def F0 : Prims := fun f => if f = 56 then some insertP else if f = 57 then some deleteP else if f = 62 then some (keysP 106) else if f = 61 then some (sortedP 106) else none
theorem enters62 : Enters TP 62 := ⟨_, _, Tryz.func62, rfl, by decide⟩
theorem enters61 : Enters TP 61 := ⟨_, _, Tryz.func61, rfl, by decide⟩
theorem enters56 : Enters TP 56 := ⟨_, _, Tryz.func56, rfl, by decide⟩
theorem enters57 : Enters TP 57 := ⟨_, _, Tryz.func57, rfl, by decide⟩
theorem F0_sound : PrimsSound TP F0 := by
  intro f g hg args h K hK
  unfold F0 at hg
  split at hg
  · rename_i e; subst e; cases hg; exact insertP_sound rfl enters56 insGiven56 args h K hK
  split at hg
  · rename_i e; subst e; cases hg; exact deleteP_sound rfl enters57 del57 args h K hK
  split at hg
  · rename_i e; subst e; cases hg; exact keysP_sound enters62 Tryz.keysGiven62 args h K hK
  split at hg
  · rename_i e; subst e; cases hg
    exact sortedP_sound enters61 (by kernel_rfl) Tryz.sortedGiven62 args h K hK
  · cases hg
noncomputable def defOps87 : List Oper := opsAt (codeOf Tryz.f87)
noncomputable def defCode87 : Code := partOf (codeOf Tryz.f87) [1]
def D0 : DPrims := fun f => if f = 87 then some (fun args pan h K => Nat.ble args.length 2 && deferP TP 10 5 defOps87 defCode87 args pan h K) else none
theorem deferAt87 : DeferAt TP 87 10 5 defOps87 defCode87 2 := ⟨⟨Tryz.f87, idAt (codeOf Tryz.f87), headOp defOps87, tsOf (headOp defOps87).op, Tryz.func87, by kernel_rfl, by kernel_rfl, by decide, by kernel_rfl, by decide, by decide, by kernel_rfl, by kernel_rfl, by kernel_rfl, by kernel_rfl⟩⟩
theorem D0_sound : DSound TP D0 := by
  intro f g hg
  unfold D0 at hg
  split at hg
  · rename_i e; subst e; cases hg
    refine ⟨⟨_, _, Tryz.func87, rfl, by decide⟩, fun args pan h K hh w0 μ w vs pv h1 h2 h3 => ?_⟩
    simp only [Bool.and_eq_true] at hh
    exact (deferP_sound mixed deferAt87 (Nat.le_of_ble_eq_true hh.1) hh.2).2 w0 μ w vs pv h1 h2 h3
  cases hg
noncomputable def F.ref01_Name.L0 : Code := partOf (codeOf Tryz.f153) [1, 1, 0, 1, 0, 0]
noncomputable def F.ref01_Name.L0k (K : Out → Heap → Bool) : AX → St → Bool := (blockK 0 (seqK false (EV (partOf (codeOf Tryz.f153) [1, 1, 1])) (leaveK TP noD Tryz.f153.results.toList K)))
theorem F.ref01_Name.L0_eq : EV F.ref01_Name.L0 ⟨e, 40, [], h⟩ J = (
bindO (lenS .str (e 0) h) fun f =>
bindO (binS .lss (e 3) f) fun g =>
let Q1 := (setV (setV (setV (setV e 22 (e 3)) 23 (e 0)) 24 f) 25 g); condB g (
bindO (strIdxS (e 0) (e 3)) fun a =>
semCall TP 180 [a] h (outK (fun i j =>
bindO (unS .not i) fun b =>
let Q2 := (setV (setV (setV (setV (setV (setV Q1 28 (e 0)) 29 (e 3)) 30 a) 31 i) 32 b) 33 b); condB b (
bindO (strIdxS (e 0) (e 3)) fun c =>
semCall TP 182 [c] j (outK (fun k l =>
bindO (unS .not k) fun d =>
let Q3 := (setV (setV (setV (setV (setV (setV (setV (setV (setV (setV (setV Q2 33 (.bool true)) 34 (e 0)) 33 (.bool true)) 35 (e 3)) 33 (.bool true)) 36 c) 33 (.bool true)) 37 k) 33 (.bool true)) 38 d) 39 d); condB d (
J .ret ⟨(setV Q3 2 (.bool false)), 40, [], l⟩) (
bindO (binS .add (e 3) (.int .i64 1)) fun m =>
J .normal ⟨(setV (setV (setV Q3 26 (e 3)) 27 m) 3 m), 40, [], l⟩)) (fun o p => J (.panic o) ⟨(setV (setV (setV (setV (setV (setV (setV Q2 33 (.bool true)) 34 (e 0)) 33 (.bool true)) 35 (e 3)) 33 (.bool true)) 36 c) 33 (.bool true)), 40, [], p⟩))) (
bindO (binS .add (e 3) (.int .i64 1)) fun n =>
J .normal ⟨(setV (setV (setV (setV (setV (setV (setV (setV (setV (setV (setV (setV (setV (setV Q2 33 (.bool false)) 34 noV) 33 (.bool false)) 35 noV) 33 (.bool false)) 36 noV) 33 (.bool false)) 37 noV) 33 (.bool false)) 38 noV) 39 (.bool false)) 26 (e 3)) 27 n) 3 n), 40, [], j⟩)) (fun q r => J (.panic q) ⟨(setV (setV (setV Q1 28 (e 0)) 29 (e 3)) 30 a), 40, [], r⟩))) (
J (.exit 0) ⟨Q1, 40, [], h⟩)) := by kernel_rfl
theorem F.ref01_Name.L0_x0_eq : F.ref01_Name.L0k K (.exit 0) ⟨e, 40, [], h⟩ = (
K (.ret (.bool true)) h) := by kernel_rfl
theorem F.ref01_Name.L0_r_eq : F.ref01_Name.L0k K .ret ⟨e, 40, [], h⟩ = (
K (.ret (e 2)) h) := by kernel_rfl
theorem F.ref01_Name_eq : EV (codeOf Tryz.f153) ⟨mkEnv [a0], 40, [], h⟩ (leaveK TP noD Tryz.f153.results.toList K) = (
bindO (lenS .str a0 h) fun j =>
bindO (binS .lss j (.int .i64 1)) fun f =>
condB f (
K (.ret (.bool false)) h) (
bindO (lenS .str a0 h) fun k =>
bindO (binS .gtr k (.int .i64 12)) fun c =>
condB c (
K (.ret (.bool false)) h) (
bindO (strIdxS a0 (.int .i64 0)) fun l =>
semCall TP 180 [l] h (outK (fun m n =>
bindO (unS .not m) fun d =>
condB d (
K (.ret (.bool false)) n) (
semCall TP 181 [a0] n (outK (fun a b =>
condB a (
K (.ret (.bool false)) b) (
loopB (EV F.ref01_Name.L0) ⟨(setV (setV (setV (setV (setV (setV (setV (setV (setV (setV (setV (setV (setV (setV (setV (setV (setV (setV (setV (setV (setV (setV (setV (setV (setV (setV (setV (setV (setV (mkEnv [a0]) 2 (.bool false)) 4 a0) 5 j) 6 f) 7 f) 7 (.bool false)) 8 a0) 7 (.bool false)) 9 k) 7 (.bool false)) 10 c) 11 c) 12 c) 12 (.bool false)) 13 a0) 12 (.bool false)) 14 l) 12 (.bool false)) 15 m) 12 (.bool false)) 16 d) 17 d) 18 d) 18 (.bool false)) 19 a0) 18 (.bool false)) 20 a) 21 a) 3 (.int .i64 1)), 40, [], b⟩ (F.ref01_Name.L0k K))) (fun g i => K (.panic g) i)))) (fun o p => K (.panic o) p))))) := by kernel_rfl
theorem F.ref01_Name_sem (hh : EV (codeOf Tryz.f153) ⟨mkEnv [a0], 40, [], h⟩ (leaveK TP noD Tryz.f153.results.toList K) = true) : Sem TP 153 [a0] h K :=
  sem_body mixed (noD_sound _) Tryz.func153 (c := codeOf Tryz.f153) rfl (by decide) (of_decide_eq_true (by kernel_rfl)) hh
noncomputable def F.shape_Name.L0 : Code := partOf (codeOf Tryz.f107) [1, 1, 0, 1, 0, 0]
noncomputable def F.shape_Name.L0k (K : Out → Heap → Bool) : AX → St → Bool := (blockK 0 (seqK false (EV (partOf (codeOf Tryz.f107) [1, 1, 1])) (leaveK TP noD Tryz.f107.results.toList K)))
theorem F.shape_Name.L0_eq : EV F.shape_Name.L0 ⟨e, 39, [], h⟩ J = (
bindO (binS .lss (e 23) (e 22)) fun f =>
let Q1 := (setV e 24 f); condB f (
bindO (strIdxS (e 0) (e 23)) fun a =>
semCall TP 150 [a] h (outK (fun g i =>
bindO (unS .not g) fun b =>
let Q2 := (setV (setV (setV (setV (setV (setV (setV (setV Q1 25 (e 23)) 3 (e 23)) 26 (e 0)) 27 (e 23)) 28 a) 29 g) 30 b) 31 b); condB b (
bindO (strIdxS (e 0) (e 23)) fun c =>
semCall TP 152 [c] i (outK (fun j k =>
bindO (unS .not j) fun d =>
let Q3 := (setV (setV (setV (setV (setV (setV (setV (setV (setV (setV (setV Q2 31 (.bool true)) 32 (e 0)) 31 (.bool true)) 33 (e 23)) 31 (.bool true)) 34 c) 31 (.bool true)) 35 j) 31 (.bool true)) 36 d) 37 d); condB d (
J .ret ⟨(setV Q3 2 (.bool false)), 39, [], k⟩) (
bindO (binS .add (e 23) (.int .i64 1)) fun l =>
J .normal ⟨(setV (setV Q3 38 l) 23 l), 39, [], k⟩)) (fun n o => J (.panic n) ⟨(setV (setV (setV (setV (setV (setV (setV Q2 31 (.bool true)) 32 (e 0)) 31 (.bool true)) 33 (e 23)) 31 (.bool true)) 34 c) 31 (.bool true)), 39, [], o⟩))) (
bindO (binS .add (e 23) (.int .i64 1)) fun m =>
J .normal ⟨(setV (setV (setV (setV (setV (setV (setV (setV (setV (setV (setV (setV (setV Q2 31 (.bool false)) 32 noV) 31 (.bool false)) 33 noV) 31 (.bool false)) 34 noV) 31 (.bool false)) 35 noV) 31 (.bool false)) 36 noV) 37 (.bool false)) 38 m) 23 m), 39, [], i⟩)) (fun p q => J (.panic p) ⟨(setV (setV (setV (setV (setV Q1 25 (e 23)) 3 (e 23)) 26 (e 0)) 27 (e 23)) 28 a), 39, [], q⟩))) (
J (.exit 0) ⟨Q1, 39, [], h⟩)) := by kernel_rfl
theorem F.shape_Name.L0_x0_eq : F.shape_Name.L0k K (.exit 0) ⟨e, 39, [], h⟩ = (
K (.ret (.bool true)) h) := by kernel_rfl
theorem F.shape_Name.L0_r_eq : F.shape_Name.L0k K .ret ⟨e, 39, [], h⟩ = (
K (.ret (e 2)) h) := by kernel_rfl
theorem F.shape_Name_eq : EV (codeOf Tryz.f107) ⟨mkEnv [a0], 39, [], h⟩ (leaveK TP noD Tryz.f107.results.toList K) = (
bindO (eqV .string a0 (.str [])) fun d =>
condB d (
K (.ret (.bool false)) h) (
bindO (lenS .str a0 h) fun k =>
bindO (binS .gtr k (.int .i64 12)) fun b =>
condB b (
K (.ret (.bool false)) h) (
bindO (strIdxS a0 (.int .i64 0)) fun l =>
semCall TP 150 [l] h (outK (fun m n =>
bindO (unS .not m) fun c =>
condB c (
K (.ret (.bool false)) n) (
semCall TP 151 [a0] n (outK (fun f a =>
condB f (
K (.ret (.bool false)) a) (
bindO (lenS .str a0 a) fun g =>
loopB (EV F.shape_Name.L0) ⟨(setV (setV (setV (setV (setV (setV (setV (setV (setV (setV (setV (setV (setV (setV (setV (setV (setV (setV (setV (setV (setV (setV (setV (setV (setV (setV (setV (setV (setV (setV (mkEnv [a0]) 2 (.bool false)) 4 a0) 5 d) 6 d) 6 (.bool false)) 7 a0) 6 (.bool false)) 8 k) 6 (.bool false)) 9 b) 10 b) 11 b) 11 (.bool false)) 12 a0) 11 (.bool false)) 13 l) 11 (.bool false)) 14 m) 11 (.bool false)) 15 c) 16 c) 17 c) 17 (.bool false)) 18 a0) 17 (.bool false)) 19 f) 20 f) 21 a0) 22 g) 23 (.int .i64 0)), 39, [], a⟩ (F.shape_Name.L0k K))) (fun i j => K (.panic i) j)))) (fun o p => K (.panic o) p))))) := by kernel_rfl
theorem F.shape_Name_sem (hh : EV (codeOf Tryz.f107) ⟨mkEnv [a0], 39, [], h⟩ (leaveK TP noD Tryz.f107.results.toList K) = true) : Sem TP 107 [a0] h K :=
  sem_body mixed (noD_sound _) Tryz.func107 (c := codeOf Tryz.f107) rfl (by decide) (of_decide_eq_true (by kernel_rfl)) hh
theorem F.ref01_letter_eq : EV (codeOf Tryz.f180) ⟨mkEnv [a0], 17, [], h⟩ (leaveK TP noD Tryz.f180.results.toList K) = (
bindO (binS .geq a0 (.int .u8 97)) fun a =>
condB a (
bindO (binS .leq a0 (.int .u8 122)) fun b =>
condB b (
K (.ret (.bool true)) h) (
bindO (binS .geq a0 (.int .u8 65)) fun c =>
condB c (
bindO (binS .leq a0 (.int .u8 90)) fun d =>
K (.ret d) h) (
K (.ret (.bool false)) h))) (
bindO (binS .geq a0 (.int .u8 65)) fun f =>
condB f (
bindO (binS .leq a0 (.int .u8 90)) fun g =>
K (.ret g) h) (
K (.ret (.bool false)) h))) := by kernel_rfl
theorem F.ref01_letter_sem (hh : EV (codeOf Tryz.f180) ⟨mkEnv [a0], 17, [], h⟩ (leaveK TP noD Tryz.f180.results.toList K) = true) : Sem TP 180 [a0] h K :=
  sem_body mixed (noD_sound _) Tryz.func180 (c := codeOf Tryz.f180) rfl (by decide) (of_decide_eq_true (by kernel_rfl)) hh
theorem F.ref01_Word_eq : EV (codeOf Tryz.f181) ⟨mkEnv [a0], 16, [], h⟩ (leaveK TP noD Tryz.f181.results.toList K) = (
bindO (eqV .string a0 (.str [97, 110, 100])) fun b =>
condB b (
condB b (
K (.ret (.bool true)) h) (
K (.ret (.bool false)) h)) (
bindO (eqV .string a0 (.str [111, 114])) fun c =>
condB c (
condB c (
K (.ret (.bool true)) h) (
K (.ret (.bool false)) h)) (
bindO (eqV .string a0 (.str [110, 111, 116])) fun d =>
condB d (
condB d (
K (.ret (.bool true)) h) (
K (.ret (.bool false)) h)) (
bindO (eqV .string a0 (.str [115, 111, 109, 101])) fun f =>
condB f (
condB f (
K (.ret (.bool true)) h) (
K (.ret (.bool false)) h)) (
bindO (eqV .string a0 (.str [97, 108, 108])) fun g =>
condB g (
condB g (
K (.ret (.bool true)) h) (
K (.ret (.bool false)) h)) (
bindO (eqV .string a0 (.str [108, 102, 112])) fun i =>
condB i (
condB i (
K (.ret (.bool true)) h) (
K (.ret (.bool false)) h)) (
bindO (eqV .string a0 (.str [112, 102, 112])) fun j =>
condB j (
condB j (
K (.ret (.bool true)) h) (
K (.ret (.bool false)) h)) (
bindO (eqV .string a0 (.str [116, 99])) fun k =>
condB k (
condB k (
K (.ret (.bool true)) h) (
K (.ret (.bool false)) h)) (
bindO (eqV .string a0 (.str [101, 120, 105, 115, 116, 115])) fun l =>
condB l (
condB l (
K (.ret (.bool true)) h) (
K (.ret (.bool false)) h)) (
bindO (eqV .string a0 (.str [116, 114, 117, 101])) fun m =>
condB m (
condB m (
K (.ret (.bool true)) h) (
K (.ret (.bool false)) h)) (
bindO (eqV .string a0 (.str [102, 97, 108, 115, 101])) fun a =>
condB a (
K (.ret (.bool true)) h) (
K (.ret (.bool false)) h)))))))))))) := by kernel_rfl
theorem F.ref01_Word_sem (hh : EV (codeOf Tryz.f181) ⟨mkEnv [a0], 16, [], h⟩ (leaveK TP noD Tryz.f181.results.toList K) = true) : Sem TP 181 [a0] h K :=
  sem_body mixed (noD_sound _) Tryz.func181 (c := codeOf Tryz.f181) rfl (by decide) (of_decide_eq_true (by kernel_rfl)) hh
theorem F.ref01_digit_eq : EV (codeOf Tryz.f182) ⟨mkEnv [a0], 9, [], h⟩ (leaveK TP noD Tryz.f182.results.toList K) = (
bindO (binS .geq a0 (.int .u8 48)) fun a =>
condB a (
bindO (binS .leq a0 (.int .u8 57)) fun b =>
K (.ret b) h) (
K (.ret (.bool false)) h)) := by kernel_rfl
theorem F.ref01_digit_sem (hh : EV (codeOf Tryz.f182) ⟨mkEnv [a0], 9, [], h⟩ (leaveK TP noD Tryz.f182.results.toList K) = true) : Sem TP 182 [a0] h K :=
  sem_body mixed (noD_sound _) Tryz.func182 (c := codeOf Tryz.f182) rfl (by decide) (of_decide_eq_true (by kernel_rfl)) hh
noncomputable def F.ref02_Among.L0 : Code := partOf (codeOf Tryz.f86) [1, 0, 1, 0, 0]
noncomputable def F.ref02_Among.L0k (K : Out → Heap → Bool) : AX → St → Bool := (blockK 0 (seqK false (EV (partOf (codeOf Tryz.f86) [1, 1])) (leaveK TP noD Tryz.f86.results.toList K)))
theorem F.ref02_Among.L0_eq : EV F.ref02_Among.L0 ⟨e, 18, [], h⟩ J = (
bindO (lenS .slice (e 0) h) fun a =>
bindO (binS .lss (e 5) a) fun b =>
let Q1 := (setV (setV (setV (setV e 6 (e 5)) 7 (e 0)) 8 a) 9 b); condB b (
bindO (iaS 1 (e 0) (e 5)) fun c =>
bindO (loadS none c h) fun d =>
bindO (eqV .string d (e 1)) fun f =>
let Q2 := (setV (setV (setV (setV (setV (setV Q1 12 (e 0)) 13 (e 5)) 14 c) 15 d) 16 (e 1)) 17 f); condB f (
J .ret ⟨(setV Q2 4 (.bool true)), 18, [], h⟩) (
bindO (binS .add (e 5) (.int .i64 1)) fun g =>
J .normal ⟨(setV (setV (setV Q2 10 (e 5)) 11 g) 5 g), 18, [], h⟩)) (
J (.exit 0) ⟨Q1, 18, [], h⟩)) := by kernel_rfl
theorem F.ref02_Among.L0_x0_eq : F.ref02_Among.L0k K (.exit 0) ⟨e, 18, [], h⟩ = (
K (.ret (.bool false)) h) := by kernel_rfl
theorem F.ref02_Among.L0_r_eq : F.ref02_Among.L0k K .ret ⟨e, 18, [], h⟩ = (
K (.ret (e 4)) h) := by kernel_rfl
theorem F.ref02_Among_eq : EV (codeOf Tryz.f86) ⟨mkEnv [a0, a1], 18, [], h⟩ (leaveK TP noD Tryz.f86.results.toList K) = (
loopB (EV F.ref02_Among.L0) ⟨(setV (setV (mkEnv [a0, a1]) 4 (.bool false)) 5 (.int .i64 0)), 18, [], h⟩ (F.ref02_Among.L0k K)) := by kernel_rfl
theorem F.ref02_Among_sem (hh : EV (codeOf Tryz.f86) ⟨mkEnv [a0, a1], 18, [], h⟩ (leaveK TP noD Tryz.f86.results.toList K) = true) : Sem TP 86 [a0, a1] h K :=
  sem_body mixed (noD_sound _) Tryz.func86 (c := codeOf Tryz.f86) rfl (by decide) (of_decide_eq_true (by kernel_rfl)) hh
theorem F.shape_letter_eq : EV (codeOf Tryz.f150) ⟨mkEnv [a0], 17, [], h⟩ (leaveK TP noD Tryz.f150.results.toList K) = (
bindO (binS .geq a0 (.int .u8 97)) fun a =>
condB a (
bindO (binS .leq a0 (.int .u8 122)) fun b =>
condB b (
K (.ret (.bool true)) h) (
bindO (binS .geq a0 (.int .u8 65)) fun c =>
condB c (
bindO (binS .leq a0 (.int .u8 90)) fun d =>
K (.ret d) h) (
K (.ret (.bool false)) h))) (
bindO (binS .geq a0 (.int .u8 65)) fun f =>
condB f (
bindO (binS .leq a0 (.int .u8 90)) fun g =>
K (.ret g) h) (
K (.ret (.bool false)) h))) := by kernel_rfl
theorem F.shape_letter_sem (hh : EV (codeOf Tryz.f150) ⟨mkEnv [a0], 17, [], h⟩ (leaveK TP noD Tryz.f150.results.toList K) = true) : Sem TP 150 [a0] h K :=
  sem_body mixed (noD_sound _) Tryz.func150 (c := codeOf Tryz.f150) rfl (by decide) (of_decide_eq_true (by kernel_rfl)) hh
theorem F.shape_word_eq : EV (codeOf Tryz.f151) ⟨mkEnv [a0], 16, [], h⟩ (leaveK TP noD Tryz.f151.results.toList K) = (
bindO (eqV .string a0 (.str [97, 110, 100])) fun b =>
condB b (
condB b (
K (.ret (.bool true)) h) (
K (.ret (.bool false)) h)) (
bindO (eqV .string a0 (.str [111, 114])) fun c =>
condB c (
condB c (
K (.ret (.bool true)) h) (
K (.ret (.bool false)) h)) (
bindO (eqV .string a0 (.str [110, 111, 116])) fun d =>
condB d (
condB d (
K (.ret (.bool true)) h) (
K (.ret (.bool false)) h)) (
bindO (eqV .string a0 (.str [115, 111, 109, 101])) fun f =>
condB f (
condB f (
K (.ret (.bool true)) h) (
K (.ret (.bool false)) h)) (
bindO (eqV .string a0 (.str [97, 108, 108])) fun g =>
condB g (
condB g (
K (.ret (.bool true)) h) (
K (.ret (.bool false)) h)) (
bindO (eqV .string a0 (.str [108, 102, 112])) fun i =>
condB i (
condB i (
K (.ret (.bool true)) h) (
K (.ret (.bool false)) h)) (
bindO (eqV .string a0 (.str [112, 102, 112])) fun j =>
condB j (
condB j (
K (.ret (.bool true)) h) (
K (.ret (.bool false)) h)) (
bindO (eqV .string a0 (.str [116, 99])) fun k =>
condB k (
condB k (
K (.ret (.bool true)) h) (
K (.ret (.bool false)) h)) (
bindO (eqV .string a0 (.str [101, 120, 105, 115, 116, 115])) fun l =>
condB l (
condB l (
K (.ret (.bool true)) h) (
K (.ret (.bool false)) h)) (
bindO (eqV .string a0 (.str [116, 114, 117, 101])) fun m =>
condB m (
condB m (
K (.ret (.bool true)) h) (
K (.ret (.bool false)) h)) (
bindO (eqV .string a0 (.str [102, 97, 108, 115, 101])) fun a =>
condB a (
K (.ret (.bool true)) h) (
K (.ret (.bool false)) h)))))))))))) := by kernel_rfl
theorem F.shape_word_sem (hh : EV (codeOf Tryz.f151) ⟨mkEnv [a0], 16, [], h⟩ (leaveK TP noD Tryz.f151.results.toList K) = true) : Sem TP 151 [a0] h K :=
  sem_body mixed (noD_sound _) Tryz.func151 (c := codeOf Tryz.f151) rfl (by decide) (of_decide_eq_true (by kernel_rfl)) hh
theorem F.shape_digit_eq : EV (codeOf Tryz.f152) ⟨mkEnv [a0], 9, [], h⟩ (leaveK TP noD Tryz.f152.results.toList K) = (
bindO (binS .geq a0 (.int .u8 48)) fun a =>
condB a (
bindO (binS .leq a0 (.int .u8 57)) fun b =>
K (.ret b) h) (
K (.ret (.bool false)) h)) := by kernel_rfl
theorem F.shape_digit_sem (hh : EV (codeOf Tryz.f152) ⟨mkEnv [a0], 9, [], h⟩ (leaveK TP noD Tryz.f152.results.toList K) = true) : Sem TP 152 [a0] h K :=
  sem_body mixed (noD_sound _) Tryz.func152 (c := codeOf Tryz.f152) rfl (by decide) (of_decide_eq_true (by kernel_rfl)) hh
noncomputable def F.ref01_Equal.L0 : Code := partOf (codeOf Tryz.f20) [1, 1, 0, 1, 0, 0]
noncomputable def F.ref01_Equal.L0k (K : Out → Heap → Bool) : AX → St → Bool := (blockK 0 (seqK false (EV (partOf (codeOf Tryz.f20) [1, 1, 1])) (leaveK TP noD Tryz.f20.results.toList K)))
theorem F.ref01_Equal.L0_eq : EV F.ref01_Equal.L0 ⟨e, 26, [], h⟩ J = (
bindO (lenS .slice (e 0) h) fun b =>
bindO (binS .lss (e 5) b) fun c =>
let Q1 := (setV (setV (setV (setV e 11 (e 5)) 12 (e 0)) 13 b) 14 c); condB c (
bindO (iaS 1 (e 0) (e 5)) fun d =>
bindO (loadS none d h) fun f =>
bindO (iaS 1 (e 1) (e 5)) fun g =>
bindO (loadS none g h) fun i =>
bindO (neV (.int .i64) f i) fun j =>
let Q2 := (setV (setV (setV (setV (setV (setV (setV (setV (setV Q1 17 (e 0)) 18 (e 5)) 19 d) 20 f) 21 (e 1)) 22 (e 5)) 23 g) 24 i) 25 j); condB j (
J .ret ⟨(setV Q2 4 (.bool false)), 26, [], h⟩) (
bindO (binS .add (e 5) (.int .i64 1)) fun a =>
J .normal ⟨(setV (setV (setV Q2 15 (e 5)) 16 a) 5 a), 26, [], h⟩)) (
J (.exit 0) ⟨Q1, 26, [], h⟩)) := by kernel_rfl
theorem F.ref01_Equal.L0_x0_eq : F.ref01_Equal.L0k K (.exit 0) ⟨e, 26, [], h⟩ = (
K (.ret (.bool true)) h) := by kernel_rfl
theorem F.ref01_Equal.L0_r_eq : F.ref01_Equal.L0k K .ret ⟨e, 26, [], h⟩ = (
K (.ret (e 4)) h) := by kernel_rfl
theorem F.ref01_Equal_eq : EV (codeOf Tryz.f20) ⟨mkEnv [a0, a1], 26, [], h⟩ (leaveK TP noD Tryz.f20.results.toList K) = (
bindO (lenS .slice a0 h) fun a =>
bindO (lenS .slice a1 h) fun b =>
bindO (neV (.int .i64) a b) fun c =>
condB c (
K (.ret (.bool false)) h) (
loopB (EV F.ref01_Equal.L0) ⟨(setV (setV (setV (setV (setV (setV (setV (mkEnv [a0, a1]) 4 (.bool false)) 6 a0) 7 a) 8 a1) 9 b) 10 c) 5 (.int .i64 0)), 26, [], h⟩ (F.ref01_Equal.L0k K))) := by kernel_rfl
theorem F.ref01_Equal_sem (hh : EV (codeOf Tryz.f20) ⟨mkEnv [a0, a1], 26, [], h⟩ (leaveK TP noD Tryz.f20.results.toList K) = true) : Sem TP 20 [a0, a1] h K :=
  sem_body mixed (noD_sound _) Tryz.func20 (c := codeOf Tryz.f20) rfl (by decide) (of_decide_eq_true (by kernel_rfl)) hh
noncomputable def F.ref07_rising.L0 : Code := partOf (codeOf Tryz.f79) [1, 1, 0, 0, 0]
noncomputable def F.ref07_rising.L0k (K : Out → Heap → Bool) : AX → St → Bool := (blockK 0 (seqK false (EV (partOf (codeOf Tryz.f79) [1, 1, 1])) (leaveK TP noD Tryz.f79.results.toList K)))
theorem F.ref07_rising.L0_eq : EV F.ref07_rising.L0 ⟨e, 45, [], h⟩ J = (
bindO (lenS .slice (e 0) h) fun c =>
bindO (binS .lss (e 5) c) fun a =>
let Q1 := (setV (setV (setV (setV (setV e 6 (e 5)) 7 (e 0)) 8 c) 9 a) 10 a); condB a (
bindO (iaS 1 (e 0) (e 5)) fun d =>
bindO (loadS none d h) fun f =>
bindO (binS .lss f (e 1)) fun b =>
let Q2 := (setV (setV (setV (setV (setV (setV (setV (setV (setV (setV (setV (setV (setV Q1 10 (.bool true)) 11 (e 0)) 10 (.bool true)) 12 (e 5)) 10 (.bool true)) 13 d) 10 (.bool true)) 14 f) 10 (.bool true)) 15 (e 1)) 10 (.bool true)) 16 b) 17 b); condB b (
bindO (binS .add (e 5) (.int .i64 1)) fun g =>
J .normal ⟨(setV (setV (setV Q2 18 (e 5)) 19 g) 5 g), 45, [], h⟩) (
J (.exit 0) ⟨Q2, 45, [], h⟩)) (
J (.exit 0) ⟨(setV (setV (setV (setV (setV (setV (setV (setV (setV (setV (setV (setV (setV Q1 10 (.bool false)) 11 noV) 10 (.bool false)) 12 noV) 10 (.bool false)) 13 noV) 10 (.bool false)) 14 noV) 10 (.bool false)) 15 noV) 10 (.bool false)) 16 noV) 17 (.bool false)), 45, [], h⟩)) := by kernel_rfl
theorem F.ref07_rising.L0_x0_eq : F.ref07_rising.L0k K (.exit 0) ⟨e, 45, [], h⟩ = (
bindO (lenS .slice (e 0) h) fun x =>
bindO (binS .lss (e 5) x) fun y =>
condB y (
bindO (iaS 1 (e 0) (e 5)) fun z =>
bindO (loadS none z h) fun A =>
bindO (eqV .string A (e 1)) fun c =>
condB c (
K (.ret (e 0)) h) (
bindO (rowS [] [] []) fun a =>
bindO (sliceS (some 1) (e 0) none (some (e 5))) fun d =>
bindO (rowS [(.str [])] [(0, 1)] [(e 1)]) fun f =>
bindO (sliceS (some 1) (e 0) (some (e 5)) none) fun g =>
bindO2 (appendS 1 16 (.slice (Heap.next h) 0 0 1) d (Heap.alloc (Heap.alloc h (.cells a)) (.cells f))) fun i j =>
bindO2 (appendS 1 16 i (.slice (Heap.next (Heap.alloc h (.cells a))) 0 1 1) j) fun k l =>
bindO2 (appendS 1 16 k g l) fun m n =>
K (.ret m) n)) (
bindO (rowS [] [] []) fun b =>
bindO (sliceS (some 1) (e 0) none (some (e 5))) fun o =>
bindO (rowS [(.str [])] [(0, 1)] [(e 1)]) fun p =>
bindO (sliceS (some 1) (e 0) (some (e 5)) none) fun q =>
bindO2 (appendS 1 16 (.slice (Heap.next h) 0 0 1) o (Heap.alloc (Heap.alloc h (.cells b)) (.cells p))) fun r s =>
bindO2 (appendS 1 16 r (.slice (Heap.next (Heap.alloc h (.cells b))) 0 1 1) s) fun t u =>
bindO2 (appendS 1 16 t q u) fun v w =>
K (.ret v) w)) := by kernel_rfl
theorem F.ref07_rising_eq : EV (codeOf Tryz.f79) ⟨mkEnv [a0, a1], 45, [], h⟩ (leaveK TP noD Tryz.f79.results.toList K) = (
loopB (EV F.ref07_rising.L0) ⟨(setV (setV (mkEnv [a0, a1]) 4 .nils) 5 (.int .i64 0)), 45, [], h⟩ (F.ref07_rising.L0k K)) := by kernel_rfl
theorem F.ref07_rising_sem (hh : EV (codeOf Tryz.f79) ⟨mkEnv [a0, a1], 45, [], h⟩ (leaveK TP noD Tryz.f79.results.toList K) = true) : Sem TP 79 [a0, a1] h K :=
  sem_body mixed (noD_sound _) Tryz.func79 (c := codeOf Tryz.f79) rfl (by decide) (of_decide_eq_true (by kernel_rfl)) hh
noncomputable def F.ref07_Defined.L0 : Code := partOf (codeOf Tryz.f35) [1, 1, 0, 1, 0, 0]
noncomputable def F.ref07_Defined.L0k (K : Out → Heap → Bool) : AX → St → Bool := (blockK 0 (seqK false (EV (partOf (codeOf Tryz.f35) [1, 1, 1])) (leaveK TP noD Tryz.f35.results.toList K)))
theorem F.ref07_Defined.L0_eq : EV F.ref07_Defined.L0 ⟨e, 20, [], h⟩ J = (
bindO (lenS .slice (e 0) h) fun g =>
bindO (binS .lss (e 4) g) fun i =>
let Q1 := (setV (setV (setV (setV e 5 (e 4)) 6 (e 0)) 7 g) 8 i); condB i (
bindO (iaS 3 (e 0) (e 4)) fun b =>
bindO (faS 0 b) fun c =>
bindO (faS 0 c) fun d =>
bindO (loadS none d h) fun f =>
semCall TP 79 [(e 3), f] h (outK (fun j k =>
bindO (binS .add (e 4) (.int .i64 1)) fun a =>
J .normal ⟨(setV (setV (setV (setV (setV (setV (setV (setV (setV (setV (setV (setV Q1 11 (e 3)) 12 (e 0)) 13 (e 4)) 14 b) 15 c) 16 d) 17 f) 18 j) 3 j) 9 (e 4)) 10 a) 4 a), 20, [], k⟩) (fun l m => J (.panic l) ⟨(setV (setV (setV (setV (setV (setV (setV Q1 11 (e 3)) 12 (e 0)) 13 (e 4)) 14 b) 15 c) 16 d) 17 f), 20, [], m⟩))) (
J (.exit 0) ⟨Q1, 20, [], h⟩)) := by kernel_rfl
theorem F.ref07_Defined.L0_x0_eq : F.ref07_Defined.L0k K (.exit 0) ⟨e, 20, [], h⟩ = (
K (.ret (e 3)) h) := by kernel_rfl
theorem F.ref07_Defined_eq : EV (codeOf Tryz.f35) ⟨mkEnv [a0], 20, [], h⟩ (leaveK TP noD Tryz.f35.results.toList K) = (
loopB (EV F.ref07_Defined.L0) ⟨(setV (setV (setV (mkEnv [a0]) 2 .nils) 3 .nils) 4 (.int .i64 0)), 20, [], h⟩ (F.ref07_Defined.L0k K)) := by kernel_rfl
theorem F.ref07_Defined_sem (hh : EV (codeOf Tryz.f35) ⟨mkEnv [a0], 20, [], h⟩ (leaveK TP noD Tryz.f35.results.toList K) = true) : Sem TP 35 [a0] h K :=
  sem_body mixed (noD_sound _) Tryz.func35 (c := codeOf Tryz.f35) rfl (by decide) (of_decide_eq_true (by kernel_rfl)) hh
noncomputable def F.ref07_place.L0 : Code := partOf (codeOf Tryz.f128) [1, 0, 1, 0, 0]
noncomputable def F.ref07_place.L0k (K : Out → Heap → Bool) : AX → St → Bool := (blockK 0 (seqK false (EV (partOf (codeOf Tryz.f128) [1, 1])) (leaveK TP noD Tryz.f128.results.toList K)))
theorem F.ref07_place.L0_eq : EV F.ref07_place.L0 ⟨e, 19, [], h⟩ J = (
bindO (lenS .slice (e 0) h) fun a =>
bindO (binS .lss (e 5) a) fun b =>
let Q1 := (setV (setV (setV (setV e 6 (e 5)) 7 (e 0)) 8 a) 9 b); condB b (
bindO (iaS 1 (e 0) (e 5)) fun c =>
bindO (loadS none c h) fun d =>
bindO (eqV .string d (e 1)) fun f =>
let Q2 := (setV (setV (setV (setV (setV (setV Q1 12 (e 0)) 13 (e 5)) 14 c) 15 d) 16 (e 1)) 17 f); condB f (
J .ret ⟨(setV (setV Q2 18 (e 5)) 4 (e 5)), 19, [], h⟩) (
bindO (binS .add (e 5) (.int .i64 1)) fun g =>
J .normal ⟨(setV (setV (setV Q2 10 (e 5)) 11 g) 5 g), 19, [], h⟩)) (
J (.exit 0) ⟨Q1, 19, [], h⟩)) := by kernel_rfl
theorem F.ref07_place.L0_x0_eq : F.ref07_place.L0k K (.exit 0) ⟨e, 19, [], h⟩ = (
K (.ret (.int .i64 (-1))) h) := by kernel_rfl
theorem F.ref07_place.L0_r_eq : F.ref07_place.L0k K .ret ⟨e, 19, [], h⟩ = (
K (.ret (e 4)) h) := by kernel_rfl
theorem F.ref07_place_eq : EV (codeOf Tryz.f128) ⟨mkEnv [a0, a1], 19, [], h⟩ (leaveK TP noD Tryz.f128.results.toList K) = (
loopB (EV F.ref07_place.L0) ⟨(setV (setV (mkEnv [a0, a1]) 4 (.int .i64 0)) 5 (.int .i64 0)), 19, [], h⟩ (F.ref07_place.L0k K)) := by kernel_rfl
theorem F.ref07_place_sem (hh : EV (codeOf Tryz.f128) ⟨mkEnv [a0, a1], 19, [], h⟩ (leaveK TP noD Tryz.f128.results.toList K) = true) : Sem TP 128 [a0, a1] h K :=
  sem_body mixed (noD_sound _) Tryz.func128 (c := codeOf Tryz.f128) rfl (by decide) (of_decide_eq_true (by kernel_rfl)) hh
noncomputable def F.ref07_atoms.L0 : Code := partOf (codeOf Tryz.f113) [1, 1, 0, 1, 0, 0]
noncomputable def F.ref07_atoms.L0k (K : Out → Heap → Bool) : AX → St → Bool := (blockK 0 (seqK false (EV (partOf (codeOf Tryz.f113) [1, 1, 1])) (leaveK TP noD Tryz.f113.results.toList K)))
noncomputable def F.ref07_atoms.L1 : Code := partOf (codeOf Tryz.f113) [1, 1, 0, 1, 0, 0, 1, 0, 0, 1, 1, 0, 0]
noncomputable def F.ref07_atoms.L1k (J : AX → St → Bool) : AX → St → Bool := (blockK 2 (blockK 1 (seqK false (EV (partOf (codeOf Tryz.f113) [1, 1, 0, 1, 0, 0, 1, 1])) J)))
theorem F.ref07_atoms.L0_eq : EV F.ref07_atoms.L0 ⟨e, 63, [], h⟩ J = (
bindO (lenS .slice (e 0) h) fun g =>
bindO (binS .lss (e 4) g) fun i =>
let Q1 := (setV (setV (setV (setV e 7 (e 4)) 8 (e 0)) 9 g) 10 i); condB i (
bindO (iaS 3 (e 0) (e 4)) fun j =>
bindO (faS 0 j) fun k =>
bindO (faS 0 k) fun l =>
bindO (loadS none l h) fun m =>
bindO (iaS 3 (e 0) (e 4)) fun n =>
bindO (faS 0 n) fun o =>
bindO (faS 1 o) fun p =>
bindO (loadS none p h) fun q =>
bindO (lenS .slice q h) fun a =>
bindO (aggS [(.str []), (.int .i64 0)] [(0, 1), (1, 1)] [m, a]) fun b =>
bindO (rowS [(.str []), (.int .i64 0)] [(0, 2)] [b]) fun d =>
bindO2 (appendS 2 24 (e 3) (.slice (Heap.next h) 0 1 2) (Heap.alloc h (.cells d))) fun c f =>
loopB (EV F.ref07_atoms.L1) ⟨(setV (setV (setV (setV (setV (setV (setV (setV (setV (setV (setV (setV (setV (setV (setV (setV (setV (setV (setV Q1 13 (e 3)) 14 (e 0)) 15 (e 4)) 16 j) 17 k) 18 l) 19 m) 20 (e 0)) 21 (e 4)) 22 n) 23 o) 24 p) 25 q) 26 a) 27 b) 28 (.slice (Heap.next h) 0 1 2)) 29 c) 3 c) 5 (.int .i64 0)), 63, [], f⟩ (F.ref07_atoms.L1k J)) (
J (.exit 0) ⟨Q1, 63, [], h⟩)) := by kernel_rfl
theorem F.ref07_atoms.L0_x0_eq : F.ref07_atoms.L0k K (.exit 0) ⟨e, 63, [], h⟩ = (
K (.ret (e 3)) h) := by kernel_rfl
theorem F.ref07_atoms.L1_eq : EV F.ref07_atoms.L1 ⟨e, 63, [], h⟩ J = (
bindO (iaS 3 (e 0) (e 4)) fun b =>
bindO (faS 2 b) fun c =>
bindO (loadS none c h) fun d =>
bindO (lenS .slice d h) fun f =>
bindO (binS .lss (e 5) f) fun g =>
let Q1 := (setV (setV (setV (setV (setV (setV (setV (setV e 30 (e 5)) 31 (e 0)) 32 (e 4)) 33 b) 34 c) 35 d) 36 f) 37 g); condB g (
bindO (iaS 3 (e 0) (e 4)) fun i =>
bindO (faS 2 i) fun j =>
bindO (loadS none j h) fun k =>
bindO (iaS 4 k (e 5)) fun l =>
bindO (loadS (some 4) l h) fun m =>
bindO (storeS 4 (.ptr (Heap.next h) 0) m (Heap.alloc h (.cells [(.int .i64 0), (.bool false), (.str []), .nils]))) fun a =>
bindO (faS 0 (.ptr (Heap.next h) 0)) fun n =>
bindO (loadS none n a) fun o =>
bindO (eqV (.int .i64) o (.int .i64 0)) fun p =>
let Q2 := (setV (setV (setV (setV (setV (setV (setV (setV (setV (setV (setV (setV Q1 40 (e 0)) 41 (e 4)) 42 i) 43 j) 44 k) 45 (e 5)) 46 l) 47 m) 6 (.ptr (Heap.next h) 0)) 48 n) 49 o) 50 p); condB p (
bindO (faS 2 (.ptr (Heap.next h) 0)) fun q =>
bindO (faS 0 q) fun r =>
bindO (loadS none r a) fun s =>
bindO (faS 2 (.ptr (Heap.next h) 0)) fun t =>
bindO (faS 1 t) fun u =>
bindO (loadS none u a) fun v =>
bindO (lenS .slice v a) fun w =>
bindO (aggS [(.str []), (.int .i64 0)] [(0, 1), (1, 1)] [s, w]) fun x =>
bindO (rowS [(.str []), (.int .i64 0)] [(0, 2)] [x]) fun B =>
bindO2 (appendS 2 24 (e 3) (.slice (Heap.next a) 0 1 2) (Heap.alloc a (.cells B))) fun y C =>
bindO (binS .add (e 5) (.int .i64 1)) fun z =>
J .normal ⟨(setV (setV (setV (setV (setV (setV (setV (setV (setV (setV (setV (setV (setV (setV (setV Q2 51 (e 3)) 52 q) 53 r) 54 s) 55 t) 56 u) 57 v) 58 w) 59 x) 60 (.slice (Heap.next a) 0 1 2)) 61 y) 3 y) 38 (e 5)) 39 z) 5 z), 63, [], C⟩) (
bindO (binS .add (e 5) (.int .i64 1)) fun A =>
J .normal ⟨(setV (setV (setV Q2 38 (e 5)) 39 A) 5 A), 63, [], a⟩)) (
J (.exit 2) ⟨Q1, 63, [], h⟩)) := by kernel_rfl
theorem F.ref07_atoms.L1_x2_eq : F.ref07_atoms.L1k J (.exit 2) ⟨e, 63, [], h⟩ = (
bindO (binS .add (e 4) (.int .i64 1)) fun a =>
J .normal ⟨(setV (setV (setV e 11 (e 4)) 12 a) 4 a), 63, [], h⟩) := by kernel_rfl
theorem F.ref07_atoms_eq : EV (codeOf Tryz.f113) ⟨mkEnv [a0], 63, [], h⟩ (leaveK TP noD Tryz.f113.results.toList K) = (
loopB (EV F.ref07_atoms.L0) ⟨(setV (setV (setV (mkEnv [a0]) 2 .nils) 3 .nils) 4 (.int .i64 0)), 63, [], h⟩ (F.ref07_atoms.L0k K)) := by kernel_rfl
theorem F.ref07_atoms_sem (hh : EV (codeOf Tryz.f113) ⟨mkEnv [a0], 63, [], h⟩ (leaveK TP noD Tryz.f113.results.toList K) = true) : Sem TP 113 [a0] h K :=
  sem_body mixed (noD_sound _) Tryz.func113 (c := codeOf Tryz.f113) rfl (by decide) (of_decide_eq_true (by kernel_rfl)) hh
noncomputable def F.ref07_Named.L0 : Code := partOf (codeOf Tryz.f154) [1, 0, 1, 0, 0]
noncomputable def F.ref07_Named.L0k (K : Out → Heap → Bool) : AX → St → Bool := (blockK 0 (seqK false (EV (partOf (codeOf Tryz.f154) [1, 1])) (leaveK TP noD Tryz.f154.results.toList K)))
theorem F.ref07_Named.L0_eq : EV F.ref07_Named.L0 ⟨e, 19, [], h⟩ J = (
bindO (lenS .slice (e 0) h) fun c =>
bindO (binS .lss (e 3) c) fun d =>
let Q1 := (setV (setV (setV (setV e 4 (e 3)) 5 (e 0)) 6 c) 7 d); condB d (
bindO (iaS 1 (e 0) (e 3)) fun a =>
bindO (loadS none a h) fun b =>
semCall TP 153 [b] h (outK (fun f g =>
bindO (unS .not f) fun i =>
let Q2 := (setV (setV (setV (setV (setV (setV Q1 10 (e 0)) 11 (e 3)) 12 a) 13 b) 14 f) 15 i); condB i (
J .ret ⟨(setV Q2 2 (.bool false)), 19, [], g⟩) (
bindO (binS .add (e 3) (.int .i64 1)) fun j =>
J .normal ⟨(setV (setV (setV Q2 8 (e 3)) 9 j) 3 j), 19, [], g⟩)) (fun k l => J (.panic k) ⟨(setV (setV (setV (setV Q1 10 (e 0)) 11 (e 3)) 12 a) 13 b), 19, [], l⟩))) (
J (.exit 0) ⟨Q1, 19, [], h⟩)) := by kernel_rfl
theorem F.ref07_Named.L0_x0_eq : F.ref07_Named.L0k K (.exit 0) ⟨e, 19, [], h⟩ = (
bindO (lenS .slice (e 0) h) fun a =>
bindO (binS .leq a (.int .i64 12)) fun b =>
K (.ret b) h) := by kernel_rfl
theorem F.ref07_Named.L0_r_eq : F.ref07_Named.L0k K .ret ⟨e, 19, [], h⟩ = (
K (.ret (e 2)) h) := by kernel_rfl
theorem F.ref07_Named_eq : EV (codeOf Tryz.f154) ⟨mkEnv [a0], 19, [], h⟩ (leaveK TP noD Tryz.f154.results.toList K) = (
loopB (EV F.ref07_Named.L0) ⟨(setV (setV (mkEnv [a0]) 2 (.bool false)) 3 (.int .i64 0)), 19, [], h⟩ (F.ref07_Named.L0k K)) := by kernel_rfl
theorem F.ref07_Named_sem (hh : EV (codeOf Tryz.f154) ⟨mkEnv [a0], 19, [], h⟩ (leaveK TP noD Tryz.f154.results.toList K) = true) : Sem TP 154 [a0] h K :=
  sem_body mixed (noD_sound _) Tryz.func154 (c := codeOf Tryz.f154) rfl (by decide) (of_decide_eq_true (by kernel_rfl)) hh
theorem F.slices_ContainsFunc_S_string_string_eq : EV (codeOf Tryz.f167) ⟨mkEnv [a0, a1], 9, [], h⟩ (leaveK TP noD Tryz.f167.results.toList K) = (
semCall TP 184 [a0, a1] h (outK (fun a b =>
bindO (binS .geq a (.int .i64 0)) fun c =>
K (.ret c) b) (fun d f => K (.panic d) f))) := by kernel_rfl
theorem F.slices_ContainsFunc_S_string_string_sem (hh : EV (codeOf Tryz.f167) ⟨mkEnv [a0, a1], 9, [], h⟩ (leaveK TP noD Tryz.f167.results.toList K) = true) : Sem TP 167 [a0, a1] h K :=
  sem_body mixed (noD_sound _) Tryz.func167 (c := codeOf Tryz.f167) rfl (by decide) (of_decide_eq_true (by kernel_rfl)) hh
noncomputable def F.slices_IndexFunc_S_string_string.L0 : Code := partOf (codeOf Tryz.f184) [1, 0, 1, 0, 0]
noncomputable def F.slices_IndexFunc_S_string_string.L0k (K : Out → Heap → Bool) : AX → St → Bool := (blockK 0 (seqK false (EV (partOf (codeOf Tryz.f184) [1, 1])) (leaveK TP noD Tryz.f184.results.toList K)))
theorem F.slices_IndexFunc_S_string_string.L0_eq : EV F.slices_IndexFunc_S_string_string.L0 ⟨e, 19, [], h⟩ J = (
bindO (binS .lss (e 8) (e 7)) fun c =>
let Q1 := (setV e 9 c); condB c (
bindO (iaS 1 (e 0) (e 8)) fun a =>
bindO (loadS none a h) fun b =>
callV (e 1) fun f9 a10 a11 => semCall TP f9 (a10 ++ ([b] ++ a11)) h (outK (fun d f =>
let Q2 := (setV (setV (setV (setV (setV (setV (setV (setV Q1 10 (e 8)) 5 (e 8)) 11 (e 1)) 12 (e 0)) 13 (e 8)) 14 a) 15 b) 16 d); condB d (
J .ret ⟨(setV (setV Q2 17 (e 8)) 4 (e 8)), 19, [], f⟩) (
bindO (binS .add (e 8) (.int .i64 1)) fun g =>
J .normal ⟨(setV (setV Q2 18 g) 8 g), 19, [], f⟩)) (fun i j => J (.panic i) ⟨(setV (setV (setV (setV (setV (setV (setV Q1 10 (e 8)) 5 (e 8)) 11 (e 1)) 12 (e 0)) 13 (e 8)) 14 a) 15 b), 19, [], j⟩))) (
J (.exit 0) ⟨Q1, 19, [], h⟩)) := by kernel_rfl
theorem F.slices_IndexFunc_S_string_string.L0_x0_eq : F.slices_IndexFunc_S_string_string.L0k K (.exit 0) ⟨e, 19, [], h⟩ = (
K (.ret (.int .i64 (-1))) h) := by kernel_rfl
theorem F.slices_IndexFunc_S_string_string.L0_r_eq : F.slices_IndexFunc_S_string_string.L0k K .ret ⟨e, 19, [], h⟩ = (
K (.ret (e 4)) h) := by kernel_rfl
theorem F.slices_IndexFunc_S_string_string_eq : EV (codeOf Tryz.f184) ⟨mkEnv [a0, a1], 19, [], h⟩ (leaveK TP noD Tryz.f184.results.toList K) = (
bindO (lenS .slice a0 h) fun a =>
loopB (EV F.slices_IndexFunc_S_string_string.L0) ⟨(setV (setV (setV (setV (mkEnv [a0, a1]) 4 (.int .i64 0)) 6 a0) 7 a) 8 (.int .i64 0)), 19, [], h⟩ (F.slices_IndexFunc_S_string_string.L0k K)) := by kernel_rfl
theorem F.slices_IndexFunc_S_string_string_sem (hh : EV (codeOf Tryz.f184) ⟨mkEnv [a0, a1], 19, [], h⟩ (leaveK TP noD Tryz.f184.results.toList K) = true) : Sem TP 184 [a0, a1] h K :=
  sem_body mixed (noD_sound _) Tryz.func184 (c := codeOf Tryz.f184) rfl (by decide) (of_decide_eq_true (by kernel_rfl)) hh
theorem F.slices_Contains_S_string_string_eq : EV (codeOf Tryz.f143) ⟨mkEnv [a0, a1], 9, [], h⟩ (leaveK TP noD Tryz.f143.results.toList K) = (
semCall TP 145 [a0, a1] h (outK (fun a b =>
bindO (binS .geq a (.int .i64 0)) fun c =>
K (.ret c) b) (fun d f => K (.panic d) f))) := by kernel_rfl
theorem F.slices_Contains_S_string_string_sem (hh : EV (codeOf Tryz.f143) ⟨mkEnv [a0, a1], 9, [], h⟩ (leaveK TP noD Tryz.f143.results.toList K) = true) : Sem TP 143 [a0, a1] h K :=
  sem_body mixed (noD_sound _) Tryz.func143 (c := codeOf Tryz.f143) rfl (by decide) (of_decide_eq_true (by kernel_rfl)) hh
noncomputable def F.slices_Index_S_string_string.L0 : Code := partOf (codeOf Tryz.f145) [1, 0, 1, 0, 0]
noncomputable def F.slices_Index_S_string_string.L0k (K : Out → Heap → Bool) : AX → St → Bool := (blockK 0 (seqK false (EV (partOf (codeOf Tryz.f145) [1, 1])) (leaveK TP noD Tryz.f145.results.toList K)))
theorem F.slices_Index_S_string_string.L0_eq : EV F.slices_Index_S_string_string.L0 ⟨e, 19, [], h⟩ J = (
bindO (binS .lss (e 8) (e 7)) fun a =>
condB a (
bindO (iaS 1 (e 0) (e 8)) fun b =>
bindO (loadS none b h) fun c =>
bindO (eqV .string (e 1) c) fun d =>
let Q1 := (setV (setV (setV (setV (setV (setV (setV (setV (setV e 9 a) 10 (e 8)) 5 (e 8)) 11 (e 1)) 12 (e 0)) 13 (e 8)) 14 b) 15 c) 16 d); condB d (
J .ret ⟨(setV (setV Q1 17 (e 8)) 4 (e 8)), 19, [], h⟩) (
bindO (binS .add (e 8) (.int .i64 1)) fun f =>
J .normal ⟨(setV (setV Q1 18 f) 8 f), 19, [], h⟩)) (
J (.exit 0) ⟨(setV e 9 a), 19, [], h⟩)) := by kernel_rfl
theorem F.slices_Index_S_string_string.L0_x0_eq : F.slices_Index_S_string_string.L0k K (.exit 0) ⟨e, 19, [], h⟩ = (
K (.ret (.int .i64 (-1))) h) := by kernel_rfl
theorem F.slices_Index_S_string_string.L0_r_eq : F.slices_Index_S_string_string.L0k K .ret ⟨e, 19, [], h⟩ = (
K (.ret (e 4)) h) := by kernel_rfl
theorem F.slices_Index_S_string_string_eq : EV (codeOf Tryz.f145) ⟨mkEnv [a0, a1], 19, [], h⟩ (leaveK TP noD Tryz.f145.results.toList K) = (
bindO (lenS .slice a0 h) fun a =>
loopB (EV F.slices_Index_S_string_string.L0) ⟨(setV (setV (setV (setV (mkEnv [a0, a1]) 4 (.int .i64 0)) 6 a0) 7 a) 8 (.int .i64 0)), 19, [], h⟩ (F.slices_Index_S_string_string.L0k K)) := by kernel_rfl
theorem F.slices_Index_S_string_string_sem (hh : EV (codeOf Tryz.f145) ⟨mkEnv [a0, a1], 19, [], h⟩ (leaveK TP noD Tryz.f145.results.toList K) = true) : Sem TP 145 [a0, a1] h K :=
  sem_body mixed (noD_sound _) Tryz.func145 (c := codeOf Tryz.f145) rfl (by decide) (of_decide_eq_true (by kernel_rfl)) hh
theorem F.rules_atom_1_eq : EV (codeOf Tryz.f168) ⟨mkEnv [a0], 6, [], h⟩ (leaveK TP noD Tryz.f168.results.toList K) = (
semCall TP 107 [a0] h (outK (fun a b =>
bindO (unS .not a) fun c =>
K (.ret c) b) (fun d f => K (.panic d) f))) := by kernel_rfl
theorem F.rules_atom_1_sem (hh : EV (codeOf Tryz.f168) ⟨mkEnv [a0], 6, [], h⟩ (leaveK TP noD Tryz.f168.results.toList K) = true) : Sem TP 168 [a0] h K :=
  sem_body mixed (noD_sound _) Tryz.func168 (c := codeOf Tryz.f168) rfl (by decide) (of_decide_eq_true (by kernel_rfl)) hh
noncomputable def F.rules_Variables_1.L0 : Code := partOf (codeOf Tryz.f142) [1, 0, 0]
noncomputable def F.rules_Variables_1.L0k (K : Out → Heap → Bool) : AX → St → Bool := (blockK 0 (leaveK TP noD Tryz.f142.results.toList K))
theorem F.rules_Variables_1.L0_eq : EV F.rules_Variables_1.L0 ⟨e, 20, [], h⟩ J = (
bindO (binS .lss (e 7) (e 6)) fun n =>
let Q1 := (setV e 8 n); condB n (
bindO (iaS 1 (e 5) (e 7)) fun i =>
bindO (loadS none i h) fun a =>
bindO (loadS none (e 1) h) fun j =>
semCall TP 143 [j, a] h (outK (fun o b =>
bindO (unS .not o) fun p =>
let Q2 := (setV (setV (setV (setV (setV (setV (setV Q1 9 i) 10 a) 4 a) 11 j) 12 a) 13 o) 14 p); condB p (
bindO (loadS none (e 1) b) fun c =>
bindO (rowS [(.str [])] [(0, 1)] [a]) fun k =>
bindO2 (appendS 1 16 c (.slice (Heap.next b) 0 1 1) (Heap.alloc b (.cells k))) fun d l =>
bindO (storeS 1 (e 1) d l) fun m =>
bindO (binS .add (e 7) (.int .i64 1)) fun f =>
J .normal ⟨(setV (setV (setV (setV (setV (setV Q2 15 c) 16 a) 17 (.slice (Heap.next b) 0 1 1)) 18 d) 19 f) 7 f), 20, [], m⟩) (
bindO (binS .add (e 7) (.int .i64 1)) fun g =>
J .normal ⟨(setV (setV Q2 19 g) 7 g), 20, [], b⟩)) (fun q r => J (.panic q) ⟨(setV (setV (setV (setV (setV Q1 9 i) 10 a) 4 a) 11 j) 12 a), 20, [], r⟩))) (
J (.exit 0) ⟨Q1, 20, [], h⟩)) := by kernel_rfl
theorem F.rules_Variables_1.L0_x0_eq : F.rules_Variables_1.L0k K (.exit 0) ⟨e, 20, [], h⟩ = (
K (.ret (.tuple [])) h) := by kernel_rfl
theorem F.rules_Variables_1_eq : EV (codeOf Tryz.f142) ⟨mkEnv [a0, a1], 20, [], h⟩ (leaveK TP noD Tryz.f142.results.toList K) = (
bindO (lenS .slice a0 h) fun a =>
loopB (EV F.rules_Variables_1.L0) ⟨(setV (setV (setV (mkEnv [a0, a1]) 5 a0) 6 a) 7 (.int .i64 0)), 20, [], h⟩ (F.rules_Variables_1.L0k K)) := by kernel_rfl
theorem F.rules_Variables_1_sem (hh : EV (codeOf Tryz.f142) ⟨mkEnv [a0, a1], 20, [], h⟩ (leaveK TP noD Tryz.f142.results.toList K) = true) : Sem TP 142 [a0, a1] h K :=
  sem_body mixed (noD_sound _) Tryz.func142 (c := codeOf Tryz.f142) rfl (by decide) (of_decide_eq_true (by kernel_rfl)) hh
theorem F.rules_atom_eq : EV (codeOf Tryz.f138) ⟨mkEnv [a0], 18, [], h⟩ (leaveK TP noD Tryz.f138.results.toList K) = (
bindO (boxS a0) fun l =>
bindO (faS 0 (.ptr (Heap.next h) 0)) fun m =>
bindO (loadS none m (Heap.alloc h (.cells l))) fun n =>
semCall TP 107 [n] (Heap.alloc h (.cells l)) (outK (fun o a =>
condB o (
bindO (faS 1 (.ptr (Heap.next h) 0)) fun p =>
bindO (loadS none p a) fun q =>
bindO (lenS .slice q a) fun r =>
bindO (binS .leq r (.int .i64 12)) fun b =>
condB b (
bindO (faS 1 (.ptr (Heap.next h) 0)) fun c =>
bindO (loadS none c a) fun d =>
semCall TP 167 [d, (.func 168 [] [])] a (outK (fun f g =>
bindO (unS .not f) fun i =>
K (.ret i) g) (fun j k => K (.panic j) k))) (
K (.ret (.bool false)) a)) (
K (.ret (.bool false)) a)) (fun s t => K (.panic s) t))) := by kernel_rfl
theorem F.rules_atom_sem (hh : EV (codeOf Tryz.f138) ⟨mkEnv [a0], 18, [], h⟩ (leaveK TP noD Tryz.f138.results.toList K) = true) : Sem TP 138 [a0] h K :=
  sem_body mixed (noD_sound _) Tryz.func138 (c := codeOf Tryz.f138) rfl (by decide) (of_decide_eq_true (by kernel_rfl)) hh
theorem F.rules_program_arity_eq : EV (codeOf Tryz.f139) ⟨mkEnv [a0, a1], 35, [], h⟩ (leaveK TP noD Tryz.f139.results.toList K) = (
bindO (boxS a1) fun b =>
bindO (nilCheckS a0) fun r =>
bindO (faS 1 r) fun s =>
bindO (loadS none s (Heap.alloc h (.cells b))) fun t =>
bindO (faS 0 (.ptr (Heap.next h) 0)) fun u =>
bindO (loadS none u (Heap.alloc h (.cells b))) fun v =>
bindO (lookupS .string (.int .i64 0) true t v (Heap.alloc h (.cells b))) fun q =>
bindO (extractS q 0) fun w =>
bindO (extractS q 1) fun x =>
bindO (nilCheckS a0) fun y =>
bindO (faS 1 y) fun c =>
bindO (loadS none c (Heap.alloc h (.cells b))) fun d =>
bindO (faS 0 (.ptr (Heap.next h) 0)) fun f =>
bindO (loadS none f (Heap.alloc h (.cells b))) fun g =>
bindO (faS 1 (.ptr (Heap.next h) 0)) fun i =>
bindO (loadS none i (Heap.alloc h (.cells b))) fun j =>
bindO (lenS .slice j (Heap.alloc h (.cells b))) fun k =>
bindO (mapUpdateS .string d g k (Heap.alloc h (.cells b))) fun a =>
bindO (unS .not x) fun l =>
condB l (
K (.ret (.bool true)) a) (
bindO (faS 1 (.ptr (Heap.next h) 0)) fun m =>
bindO (loadS none m a) fun n =>
bindO (lenS .slice n a) fun o =>
bindO (eqV (.int .i64) w o) fun p =>
K (.ret p) a)) := by kernel_rfl
theorem F.rules_program_arity_sem (hh : EV (codeOf Tryz.f139) ⟨mkEnv [a0, a1], 35, [], h⟩ (leaveK TP noD Tryz.f139.results.toList K) = true) : Sem TP 139 [a0, a1] h K :=
  sem_body mixed (noD_sound _) Tryz.func139 (c := codeOf Tryz.f139) rfl (by decide) (of_decide_eq_true (by kernel_rfl)) hh
noncomputable def F.rules_Variables.L0 : Code := partOf (codeOf Tryz.f100) [1, 1, 1, 1, 0, 1, 0, 0]
noncomputable def F.rules_Variables.L0k (K : Out → Heap → Bool) : AX → St → Bool := (blockK 0 (seqK false (EV (partOf (codeOf Tryz.f100) [1, 1, 1, 1, 1])) (leaveK TP noD Tryz.f100.results.toList K)))
theorem F.rules_Variables.L0_eq : EV F.rules_Variables.L0 ⟨e, 27, [], h⟩ J = (
bindO (binS .lss (e 16) (e 15)) fun a =>
condB a (
bindO (iaS 4 (e 14) (e 16)) fun b =>
bindO (loadS (some 4) b h) fun c =>
bindO (storeS 4 (.ptr (Heap.next h) 0) c (Heap.alloc h (.cells [(.int .i64 0), (.bool false), (.str []), .nils]))) fun i =>
bindO (faS 2 (.ptr (Heap.next h) 0)) fun d =>
bindO (faS 1 d) fun f =>
bindO (loadS none f i) fun g =>
callV (e 4) fun f23 a24 a25 => semCall TP f23 (a24 ++ ([g] ++ a25)) i (outK (fun k l =>
bindO (binS .add (e 16) (.int .i64 1)) fun j =>
J .normal ⟨(setV (setV (setV (setV (setV (setV (setV (setV (setV (setV (setV e 17 a) 18 b) 19 c) 6 (.ptr (Heap.next h) 0)) 20 (e 4)) 21 d) 22 f) 23 g) 24 k) 25 j) 16 j), 27, [], l⟩) (fun m n => J (.panic m) ⟨(setV (setV (setV (setV (setV (setV (setV (setV e 17 a) 18 b) 19 c) 6 (.ptr (Heap.next h) 0)) 20 (e 4)) 21 d) 22 f) 23 g), 27, [], n⟩))) (
J (.exit 0) ⟨(setV e 17 a), 27, [], h⟩)) := by kernel_rfl
theorem F.rules_Variables.L0_x0_eq : F.rules_Variables.L0k K (.exit 0) ⟨e, 27, [], h⟩ = (
bindO (loadS none (e 3) h) fun a =>
K (.ret a) h) := by kernel_rfl
theorem F.rules_Variables_eq : EV (codeOf Tryz.f100) ⟨mkEnv [a0], 27, [], h⟩ (leaveK TP noD Tryz.f100.results.toList K) = (
bindO (boxS a0) fun a =>
bindO (faS 0 (.ptr (Heap.next h) 0)) fun d =>
bindO (faS 1 d) fun f =>
bindO (loadS none f (Heap.alloc (Heap.alloc h (.cells a)) (.cells [.nils]))) fun g =>
semCall TP 142 [g, (.ptr (Heap.next (Heap.alloc h (.cells a))) 0)] (Heap.alloc (Heap.alloc h (.cells a)) (.cells [.nils])) (outK (fun k b =>
bindO (faS 2 (.ptr (Heap.next h) 0)) fun i =>
bindO (loadS none i b) fun j =>
bindO (lenS .slice j b) fun c =>
loopB (EV F.rules_Variables.L0) ⟨(setV (setV (setV (setV (setV (setV (setV (setV (setV (setV (setV (setV (setV (setV (mkEnv [a0]) 1 (.ptr (Heap.next h) 0)) 2 .nils) 3 (.ptr (Heap.next (Heap.alloc h (.cells a))) 0)) 7 (.func 142 [] [(.ptr (Heap.next (Heap.alloc h (.cells a))) 0)])) 4 (.func 142 [] [(.ptr (Heap.next (Heap.alloc h (.cells a))) 0)])) 8 (.func 142 [] [(.ptr (Heap.next (Heap.alloc h (.cells a))) 0)])) 9 d) 10 f) 11 g) 12 k) 13 i) 14 j) 15 c) 16 (.int .i64 0)), 27, [], b⟩ (F.rules_Variables.L0k K)) (fun l m => K (.panic l) m))) := by kernel_rfl
theorem F.rules_Variables_sem (hh : EV (codeOf Tryz.f100) ⟨mkEnv [a0], 27, [], h⟩ (leaveK TP noD Tryz.f100.results.toList K) = true) : Sem TP 100 [a0] h K :=
  sem_body mixed (noD_sound _) Tryz.func100 (c := codeOf Tryz.f100) rfl (by decide) (of_decide_eq_true (by kernel_rfl)) hh
noncomputable def F.rules_condition.J0 (K : Out → Heap → Bool) (s : St) : Bool := runB (EV (partOf (codeOf Tryz.f140) [1, 0, 1, 0, 1, 1, 1])) s (blockK 0 (seqK false (EV (partOf (codeOf Tryz.f140) [1, 1])) (leaveK TP noD Tryz.f140.results.toList K)))
theorem F.rules_condition.J0_eq : F.rules_condition.J0 K ⟨e, 40, [], h⟩ = (
condB (e 10) (
bindO (faS 2 (e 1)) fun g =>
bindO (faS 0 g) fun i =>
bindO (loadS none i h) fun j =>
bindO (eqV .string j (.str [])) fun k =>
condB k (
bindO (faS 2 (e 1)) fun l =>
bindO (faS 1 l) fun m =>
bindO (loadS none m h) fun n =>
bindO (lenS .slice n h) fun o =>
bindO (eqV (.int .i64) o (.int .i64 2)) fun p =>
condB p (
bindO (faS 2 (e 1)) fun q =>
bindO (faS 1 q) fun r =>
bindO (loadS none r h) fun s =>
bindO (iaS 1 s (.int .i64 0)) fun t =>
bindO (loadS none t h) fun u =>
semCall TP 107 [u] h (outK (fun v b =>
condB v (
bindO (faS 2 (e 1)) fun w =>
bindO (faS 1 w) fun x =>
bindO (loadS none x b) fun y =>
bindO (iaS 1 y (.int .i64 1)) fun z =>
bindO (loadS none z b) fun A =>
semCall TP 107 [A] b (outK (fun B C =>
K (.ret B) C) (fun D E => K (.panic D) E))) (
K (.ret (.bool false)) b)) (fun G I => K (.panic G) I))) (
K (.ret (.bool false)) h)) (
K (.ret (.bool false)) h)) (
K (.ret (.bool false)) h)) := (runB_eq _ _ _).trans (by kernel_rfl)
theorem F.rules_condition_eq : EV (codeOf Tryz.f140) ⟨mkEnv [a0], 40, [], h⟩ (leaveK TP noD Tryz.f140.results.toList K) = (
bindO (boxS a0) fun c =>
bindO (faS 0 (.ptr (Heap.next h) 0)) fun L =>
bindO (loadS none L (Heap.alloc h (.cells c))) fun f =>
bindO (eqV (.int .i64) f (.int .i64 0)) fun J =>
let Q1 := (setV (setV (setV (setV (setV (setV (mkEnv [a0]) 1 (.ptr (Heap.next h) 0)) 2 (.bool false)) 3 L) 4 f) 6 J) 5 J); condB J (
bindO (faS 2 (.ptr (Heap.next h) 0)) fun M =>
bindO (loadS (some 2) M (Heap.alloc h (.cells c))) fun N =>
semCall TP 138 [N] (Heap.alloc h (.cells c)) (outK (fun O P =>
K (.ret O) P) (fun R S => K (.panic R) S))) (
bindO (eqV (.int .i64) f (.int .i64 1)) fun a =>
condB a (
F.rules_condition.J0 K ⟨(setV (setV Q1 11 a) 10 a), 40, [], (Heap.alloc h (.cells c))⟩) (
bindO (eqV (.int .i64) f (.int .i64 2)) fun d =>
F.rules_condition.J0 K ⟨(setV (setV (setV (setV Q1 11 a) 10 a) 12 d) 10 d), 40, [], (Heap.alloc h (.cells c))⟩))) := by kernel_rfl
theorem F.rules_condition_sem (hh : EV (codeOf Tryz.f140) ⟨mkEnv [a0], 40, [], h⟩ (leaveK TP noD Tryz.f140.results.toList K) = true) : Sem TP 140 [a0] h K :=
  sem_body mixed (noD_sound _) Tryz.func140 (c := codeOf Tryz.f140) rfl (by decide) (of_decide_eq_true (by kernel_rfl)) hh
noncomputable def F.ref07_Variables.L0 : Code := partOf (codeOf Tryz.f43) [1, 1, 0, 1, 0, 0]
noncomputable def F.ref07_Variables.L0k (K : Out → Heap → Bool) : AX → St → Bool := (blockK 0 (seqK false (EV (partOf (codeOf Tryz.f43) [1, 1, 1])) (leaveK TP noD Tryz.f43.results.toList K)))
noncomputable def F.ref07_Variables.L1 : Code := partOf (codeOf Tryz.f43) [1, 1, 1, 1, 0, 1, 0, 0]
noncomputable def F.ref07_Variables.L1k (K : Out → Heap → Bool) : AX → St → Bool := (blockK 2 (seqK false (EV (partOf (codeOf Tryz.f43) [1, 1, 1, 1, 1])) (leaveK TP noD Tryz.f43.results.toList K)))
theorem F.ref07_Variables.L0_eq : EV F.ref07_Variables.L0 ⟨e, 49, [], h⟩ J = (
bindO (faS 2 (e 1)) fun m =>
bindO (loadS none m h) fun n =>
bindO (lenS .slice n h) fun o =>
bindO (binS .lss (e 4) o) fun a =>
let Q1 := (setV (setV (setV (setV (setV e 12 (e 4)) 13 m) 14 n) 15 o) 16 a); condB a (
bindO (faS 2 (e 1)) fun b =>
bindO (loadS none b h) fun c =>
bindO (iaS 4 c (e 4)) fun d =>
bindO (faS 2 d) fun f =>
bindO (faS 1 f) fun g =>
bindO (loadS none g h) fun i =>
bindO2 (appendS 1 16 (e 3) i h) fun j l =>
bindO (binS .add (e 4) (.int .i64 1)) fun k =>
J .normal ⟨(setV (setV (setV (setV (setV (setV (setV (setV (setV (setV (setV (setV (setV Q1 19 (e 3)) 20 b) 21 c) 22 (e 4)) 23 d) 24 f) 25 g) 26 i) 27 j) 3 j) 17 (e 4)) 18 k) 4 k), 49, [], l⟩) (
J (.exit 0) ⟨Q1, 49, [], h⟩)) := by kernel_rfl
theorem F.ref07_Variables.L0_x0_eq : F.ref07_Variables.L0k K (.exit 0) ⟨e, 49, [], h⟩ = (
loopB (EV F.ref07_Variables.L1) ⟨(setV (setV e 5 .nils) 6 (.int .i64 0)), 49, [], h⟩ (F.ref07_Variables.L1k K)) := by kernel_rfl
theorem F.ref07_Variables.L1_eq : EV F.ref07_Variables.L1 ⟨e, 49, [], h⟩ J = (
bindO (lenS .slice (e 3) h) fun d =>
bindO (binS .lss (e 6) d) fun f =>
let Q1 := (setV (setV (setV (setV e 28 (e 6)) 29 (e 3)) 30 d) 31 f); condB f (
bindO (iaS 1 (e 3) (e 6)) fun b =>
bindO (loadS none b h) fun c =>
semCall TP 86 [(e 5), c] h (outK (fun g a =>
bindO (unS .not g) fun i =>
let Q2 := (setV (setV (setV (setV (setV (setV (setV Q1 34 (e 5)) 35 (e 3)) 36 (e 6)) 37 b) 38 c) 39 g) 40 i); condB i (
bindO (iaS 1 (e 3) (e 6)) fun j =>
bindO (loadS none j a) fun k =>
bindO (rowS [(.str [])] [(0, 1)] [k]) fun o =>
bindO2 (appendS 1 16 (e 5) (.slice (Heap.next a) 0 1 1) (Heap.alloc a (.cells o))) fun l p =>
bindO (binS .add (e 6) (.int .i64 1)) fun m =>
J .normal ⟨(setV (setV (setV (setV (setV (setV (setV (setV (setV (setV (setV Q2 41 (e 5)) 42 (e 3)) 43 (e 6)) 44 j) 45 k) 46 (.slice (Heap.next a) 0 1 1)) 47 l) 5 l) 32 (e 6)) 33 m) 6 m), 49, [], p⟩) (
bindO (binS .add (e 6) (.int .i64 1)) fun n =>
J .normal ⟨(setV (setV (setV Q2 32 (e 6)) 33 n) 6 n), 49, [], a⟩)) (fun q r => J (.panic q) ⟨(setV (setV (setV (setV (setV Q1 34 (e 5)) 35 (e 3)) 36 (e 6)) 37 b) 38 c), 49, [], r⟩))) (
J (.exit 2) ⟨Q1, 49, [], h⟩)) := by kernel_rfl
theorem F.ref07_Variables.L1_x2_eq : F.ref07_Variables.L1k K (.exit 2) ⟨e, 49, [], h⟩ = (
K (.ret (e 5)) h) := by kernel_rfl
theorem F.ref07_Variables_eq : EV (codeOf Tryz.f43) ⟨mkEnv [a0], 49, [], h⟩ (leaveK TP noD Tryz.f43.results.toList K) = (
bindO (boxS a0) fun a =>
bindO (rowS [] [] []) fun b =>
bindO (faS 0 (.ptr (Heap.next h) 0)) fun c =>
bindO (faS 1 c) fun d =>
bindO (loadS none d (Heap.alloc (Heap.alloc h (.cells a)) (.cells b))) fun f =>
bindO2 (appendS 1 16 (.slice (Heap.next (Heap.alloc h (.cells a))) 0 0 1) f (Heap.alloc (Heap.alloc h (.cells a)) (.cells b))) fun g i =>
loopB (EV F.ref07_Variables.L0) ⟨(setV (setV (setV (setV (setV (setV (setV (setV (setV (mkEnv [a0]) 1 (.ptr (Heap.next h) 0)) 2 .nils) 7 (.slice (Heap.next (Heap.alloc h (.cells a))) 0 0 1)) 8 c) 9 d) 10 f) 11 g) 3 g) 4 (.int .i64 0)), 49, [], i⟩ (F.ref07_Variables.L0k K)) := by kernel_rfl
theorem F.ref07_Variables_sem (hh : EV (codeOf Tryz.f43) ⟨mkEnv [a0], 49, [], h⟩ (leaveK TP noD Tryz.f43.results.toList K) = true) : Sem TP 43 [a0] h K :=
  sem_body mixed (noD_sound _) Tryz.func43 (c := codeOf Tryz.f43) rfl (by decide) (of_decide_eq_true (by kernel_rfl)) hh
noncomputable def F.ref07_rule.L0 : Code := partOf (codeOf Tryz.f112) [1, 1, 0, 1, 0, 0]
noncomputable def F.ref07_rule.L0k (K : Out → Heap → Bool) : AX → St → Bool := (blockK 0 (seqK false (EV (partOf (codeOf Tryz.f112) [1, 1, 1])) (leaveK TP noD Tryz.f112.results.toList K)))
noncomputable def F.ref07_rule.J0 (K : AX → St → Bool) (s : St) : Bool := runB (EV (partOf (codeOf Tryz.f112) [1, 1, 0, 1, 0, 0, 1, 0, 0, 1, 0, 1, 0, 1, 1, 1])) s (blockK 2 (seqK false (EV (partOf (codeOf Tryz.f112) [1, 1, 0, 1, 0, 0, 1, 0, 0, 1, 1])) (blockK 1 (seqK false (EV (partOf (codeOf Tryz.f112) [1, 1, 0, 1, 0, 0, 1, 1])) K))))
theorem F.ref07_rule.L0_eq : EV F.ref07_rule.L0 ⟨e, 67, [], h⟩ J = (
bindO (faS 2 (e 1)) fun n =>
bindO (loadS none n h) fun o =>
bindO (lenS .slice o h) fun p =>
bindO (binS .lss (e 3) p) fun q =>
let Q1 := (setV (setV (setV (setV (setV e 23 (e 3)) 24 n) 25 o) 26 p) 27 q); condB q (
bindO (faS 2 (e 1)) fun r =>
bindO (loadS none r h) fun s =>
bindO (iaS 4 s (e 3)) fun t =>
bindO (loadS (some 4) t h) fun u =>
bindO (storeS 4 (.ptr (Heap.next h) 0) u (Heap.alloc h (.cells [(.int .i64 0), (.bool false), (.str []), .nils]))) fun a =>
bindO (faS 0 (.ptr (Heap.next h) 0)) fun v =>
bindO (loadS none v a) fun c =>
bindO (eqV (.int .i64) c (.int .i64 0)) fun d =>
let Q2 := (setV (setV (setV (setV (setV (setV (setV (setV (setV (setV Q1 30 r) 31 s) 32 (e 3)) 33 t) 34 u) 4 (.ptr (Heap.next h) 0)) 35 v) 36 c) 38 d) 37 d); condB d (
bindO (faS 2 (.ptr (Heap.next h) 0)) fun f =>
bindO (faS 0 f) fun g =>
bindO (loadS none g a) fun i =>
semCall TP 153 [i] a (outK (fun w j =>
bindO (unS .not w) fun x =>
let Q3 := (setV (setV (setV (setV (setV Q2 39 f) 40 g) 41 i) 42 w) 43 x); condB x (
J .ret ⟨(setV Q3 2 (.bool false)), 67, [], j⟩) (
bindO (faS 2 (.ptr (Heap.next h) 0)) fun k =>
bindO (faS 1 k) fun l =>
bindO (loadS none l j) fun m =>
semCall TP 154 [m] j (outK (fun y z =>
bindO (unS .not y) fun A =>
let Q4 := (setV (setV (setV (setV (setV Q3 58 k) 59 l) 60 m) 61 y) 62 A); condB A (
J .ret ⟨(setV Q4 2 (.bool false)), 67, [], z⟩) (
bindO (binS .add (e 3) (.int .i64 1)) fun B =>
J .normal ⟨(setV (setV (setV Q4 28 (e 3)) 29 B) 3 B), 67, [], z⟩)) (fun D E => J (.panic D) ⟨(setV (setV (setV Q3 58 k) 59 l) 60 m), 67, [], E⟩)))) (fun G I => J (.panic G) ⟨(setV (setV (setV Q2 39 f) 40 g) 41 i), 67, [], I⟩))) (
bindO (eqV (.int .i64) c (.int .i64 1)) fun b =>
condB b (
F.ref07_rule.J0 J ⟨(setV (setV Q2 45 b) 44 b), 67, [], a⟩) (
bindO (eqV (.int .i64) c (.int .i64 2)) fun C =>
F.ref07_rule.J0 J ⟨(setV (setV (setV (setV Q2 45 b) 44 b) 46 C) 44 C), 67, [], a⟩))) (
J (.exit 0) ⟨Q1, 67, [], h⟩)) := by kernel_rfl
theorem F.ref07_rule.L0_x0_eq : F.ref07_rule.L0k K (.exit 0) ⟨e, 67, [], h⟩ = (
bindO (loadS (some 3) (e 1) h) fun b =>
semCall TP 43 [b] h (outK (fun c a =>
bindO (lenS .slice c a) fun d =>
bindO (binS .leq d (.int .i64 12)) fun f =>
K (.ret f) a) (fun g i => K (.panic g) i))) := by kernel_rfl
theorem F.ref07_rule.L0_r_eq : F.ref07_rule.L0k K .ret ⟨e, 67, [], h⟩ = (
K (.ret (e 2)) h) := by kernel_rfl
theorem F.ref07_rule.J0_eq : F.ref07_rule.J0 J ⟨e, 67, [], h⟩ = (
condB (e 44) (
bindO (faS 2 (e 4)) fun k =>
bindO (faS 0 k) fun l =>
bindO (loadS none l h) fun m =>
bindO (neV .string m (.str [])) fun c =>
let Q1 := (setV (setV (setV (setV (setV e 47 k) 48 l) 49 m) 50 c) 51 c); condB c (
J .ret ⟨(setV (setV (setV (setV (setV (setV (setV (setV (setV (setV (setV (setV Q1 51 (.bool true)) 52 noV) 51 (.bool true)) 53 noV) 51 (.bool true)) 54 noV) 51 (.bool true)) 55 noV) 51 (.bool true)) 56 noV) 57 (.bool true)) 2 (.bool false)), 67, [], h⟩) (
bindO (faS 2 (e 4)) fun n =>
bindO (faS 1 n) fun o =>
bindO (loadS none o h) fun p =>
bindO (lenS .slice p h) fun q =>
bindO (neV (.int .i64) q (.int .i64 2)) fun d =>
let Q2 := (setV (setV (setV (setV (setV (setV (setV (setV (setV (setV (setV Q1 51 (.bool false)) 52 n) 51 (.bool false)) 53 o) 51 (.bool false)) 54 p) 51 (.bool false)) 55 q) 51 (.bool false)) 56 d) 57 d); condB d (
J .ret ⟨(setV Q2 2 (.bool false)), 67, [], h⟩) (
bindO (faS 2 (e 4)) fun f =>
bindO (faS 1 f) fun g =>
bindO (loadS none g h) fun i =>
semCall TP 154 [i] h (outK (fun r s =>
bindO (unS .not r) fun t =>
let Q3 := (setV (setV (setV (setV (setV Q2 58 f) 59 g) 60 i) 61 r) 62 t); condB t (
J .ret ⟨(setV Q3 2 (.bool false)), 67, [], s⟩) (
bindO (binS .add (e 3) (.int .i64 1)) fun u =>
J .normal ⟨(setV (setV (setV Q3 28 (e 3)) 29 u) 3 u), 67, [], s⟩)) (fun B C => J (.panic B) ⟨(setV (setV (setV Q2 58 f) 59 g) 60 i), 67, [], C⟩))))) (
J .ret ⟨(setV e 2 (.bool false)), 67, [], h⟩)) := (runB_eq _ _ _).trans (by kernel_rfl)
theorem F.ref07_rule_eq {J : Out → Heap → Bool} : EV (codeOf Tryz.f112) ⟨mkEnv [a0], 67, [], h⟩ (leaveK TP noD Tryz.f112.results.toList J) = (
bindO (boxS a0) fun L =>
bindO (faS 0 (.ptr (Heap.next h) 0)) fun M =>
bindO (faS 0 M) fun N =>
bindO (loadS none N (Heap.alloc h (.cells L))) fun O =>
semCall TP 153 [O] (Heap.alloc h (.cells L)) (outK (fun P D =>
bindO (unS .not P) fun E =>
condB E (
J (.ret (.bool false)) D) (
bindO (faS 0 (.ptr (Heap.next h) 0)) fun R =>
bindO (faS 1 R) fun v =>
bindO (loadS none v D) fun w =>
semCall TP 154 [w] D (outK (fun x a =>
bindO (unS .not x) fun b =>
condB b (
J (.ret (.bool false)) a) (
bindO (faS 2 (.ptr (Heap.next h) 0)) fun y =>
bindO (loadS none y a) fun z =>
bindO (lenS .slice z a) fun A =>
bindO (binS .gtr A (.int .i64 20)) fun j =>
condB j (
J (.ret (.bool false)) a) (
loopB (EV F.ref07_rule.L0) ⟨(setV (setV (setV (setV (setV (setV (setV (setV (setV (setV (setV (setV (setV (setV (setV (setV (setV (setV (setV (setV (setV (setV (setV (setV (setV (setV (setV (setV (setV (setV (mkEnv [a0]) 1 (.ptr (Heap.next h) 0)) 2 (.bool false)) 5 M) 6 N) 7 O) 8 P) 9 E) 10 E) 10 (.bool false)) 11 R) 10 (.bool false)) 12 v) 10 (.bool false)) 13 w) 10 (.bool false)) 14 x) 10 (.bool false)) 15 b) 16 b) 17 b) 17 (.bool false)) 18 y) 17 (.bool false)) 19 z) 17 (.bool false)) 20 A) 17 (.bool false)) 21 j) 22 j) 3 (.int .i64 0)), 67, [], a⟩ (F.ref07_rule.L0k J)))) (fun G I => J (.panic G) I)))) (fun S T => J (.panic S) T))) := by kernel_rfl
theorem F.ref07_rule_sem (hh : EV (codeOf Tryz.f112) ⟨mkEnv [a0], 67, [], h⟩ (leaveK TP noD Tryz.f112.results.toList K) = true) : Sem TP 112 [a0] h K :=
  sem_body mixed (noD_sound _) Tryz.func112 (c := codeOf Tryz.f112) rfl (by decide) (of_decide_eq_true (by kernel_rfl)) hh
noncomputable def F.law07_Few.L0 : Code := partOf (codeOf Tryz.f41) [1, 1, 1, 0, 1, 0, 0]
noncomputable def F.law07_Few.L0k (K : Out → Heap → Bool) : AX → St → Bool := (blockK 0 (seqK false (EV (partOf (codeOf Tryz.f41) [1, 1, 1, 1])) (leaveK TP noD Tryz.f41.results.toList K)))
noncomputable def F.law07_Few.L1 : Code := partOf (codeOf Tryz.f41) [1, 1, 1, 0, 1, 0, 0, 1, 0, 0, 1, 1, 0, 0]
noncomputable def F.law07_Few.L1k (J : AX → St → Bool) : AX → St → Bool := (blockK 2 (blockK 1 (seqK false (EV (partOf (codeOf Tryz.f41) [1, 1, 1, 0, 1, 0, 0, 1, 1])) J)))
theorem F.law07_Few.L0_eq : EV F.law07_Few.L0 ⟨e, 62, [], h⟩ J = (
bindO (lenS .slice (e 0) h) fun m =>
bindO (binS .lss (e 6) m) fun b =>
let Q1 := (setV (setV (setV (setV (setV e 11 (e 6)) 12 (e 0)) 13 m) 14 b) 15 b); condB b (
bindO (binS .leq (e 5) (e 1)) fun c =>
let Q2 := (setV (setV (setV (setV (setV (setV (setV Q1 15 (.bool true)) 16 (e 5)) 15 (.bool true)) 17 (e 1)) 15 (.bool true)) 18 c) 19 c); condB c (
bindO (binS .add (e 5) (.int .i64 1)) fun d =>
bindO (iaS 3 (e 0) (e 6)) fun f =>
bindO (faS 0 f) fun g =>
bindO (loadS (some 2) g h) fun i =>
semCall TP 85 [i] h (outK (fun n j =>
bindO (binS .add d n) fun a =>
loopB (EV F.law07_Few.L1) ⟨(setV (setV (setV (setV (setV (setV (setV (setV (setV (setV (setV Q2 22 (e 5)) 23 d) 24 (e 0)) 25 (e 6)) 26 f) 27 g) 28 i) 29 n) 30 a) 5 a) 7 (.int .i64 0)), 62, [], j⟩ (F.law07_Few.L1k J)) (fun k l => J (.panic k) ⟨(setV (setV (setV (setV (setV (setV (setV Q2 22 (e 5)) 23 d) 24 (e 0)) 25 (e 6)) 26 f) 27 g) 28 i), 62, [], l⟩))) (
J (.exit 0) ⟨Q2, 62, [], h⟩)) (
J (.exit 0) ⟨(setV (setV (setV (setV (setV (setV (setV Q1 15 (.bool false)) 16 noV) 15 (.bool false)) 17 noV) 15 (.bool false)) 18 noV) 19 (.bool false)), 62, [], h⟩)) := by kernel_rfl
theorem F.law07_Few.L0_x0_eq : F.law07_Few.L0k K (.exit 0) ⟨e, 62, [], h⟩ = (
bindO (binS .leq (e 5) (e 1)) fun a =>
K (.ret a) h) := by kernel_rfl
theorem F.law07_Few.L1_eq : EV F.law07_Few.L1 ⟨e, 62, [], h⟩ J = (
bindO (iaS 3 (e 0) (e 6)) fun l =>
bindO (faS 2 l) fun m =>
bindO (loadS none m h) fun n =>
bindO (lenS .slice n h) fun o =>
bindO (binS .lss (e 7) o) fun a =>
let Q1 := (setV (setV (setV (setV (setV (setV (setV (setV (setV e 31 (e 7)) 32 (e 0)) 33 (e 6)) 34 l) 35 m) 36 n) 37 o) 38 a) 39 a); condB a (
bindO (binS .leq (e 5) (e 1)) fun b =>
let Q2 := (setV (setV (setV (setV (setV (setV (setV Q1 39 (.bool true)) 40 (e 5)) 39 (.bool true)) 41 (e 1)) 39 (.bool true)) 42 b) 43 b); condB b (
bindO (binS .add (e 5) (.int .i64 1)) fun c =>
bindO (iaS 3 (e 0) (e 6)) fun d =>
bindO (faS 2 d) fun f =>
bindO (loadS none f h) fun g =>
bindO (iaS 4 g (e 7)) fun i =>
bindO (faS 2 i) fun j =>
bindO (loadS (some 2) j h) fun k =>
semCall TP 85 [k] h (outK (fun p s =>
bindO (binS .add c p) fun q =>
bindO (binS .add (e 7) (.int .i64 1)) fun r =>
J .normal ⟨(setV (setV (setV (setV (setV (setV (setV (setV (setV (setV (setV (setV (setV (setV (setV (setV (setV Q2 46 (e 5)) 47 c) 48 (e 0)) 49 (e 6)) 50 d) 51 f) 52 g) 53 (e 7)) 54 i) 55 j) 56 k) 57 p) 58 q) 5 q) 44 (e 7)) 45 r) 7 r), 62, [], s⟩) (fun t u => J (.panic t) ⟨(setV (setV (setV (setV (setV (setV (setV (setV (setV (setV (setV Q2 46 (e 5)) 47 c) 48 (e 0)) 49 (e 6)) 50 d) 51 f) 52 g) 53 (e 7)) 54 i) 55 j) 56 k), 62, [], u⟩))) (
J (.exit 2) ⟨Q2, 62, [], h⟩)) (
J (.exit 2) ⟨(setV (setV (setV (setV (setV (setV (setV Q1 39 (.bool false)) 40 noV) 39 (.bool false)) 41 noV) 39 (.bool false)) 42 noV) 43 (.bool false)), 62, [], h⟩)) := by kernel_rfl
theorem F.law07_Few.L1_x2_eq : F.law07_Few.L1k J (.exit 2) ⟨e, 62, [], h⟩ = (
bindO (binS .add (e 6) (.int .i64 1)) fun a =>
J .normal ⟨(setV (setV (setV e 20 (e 6)) 21 a) 6 a), 62, [], h⟩) := by kernel_rfl
noncomputable def F.law07_atom.L0 : Code := partOf (codeOf Tryz.f85) [1, 1, 0, 1, 0, 0]
noncomputable def F.law07_atom.L0k (K : Out → Heap → Bool) : AX → St → Bool := (blockK 0 (seqK false (EV (partOf (codeOf Tryz.f85) [1, 1, 1])) (leaveK TP noD Tryz.f85.results.toList K)))
theorem F.law07_atom.L0_eq : EV F.law07_atom.L0 ⟨e, 34, [], h⟩ J = (
bindO (faS 1 (e 1)) fun o =>
bindO (loadS none o h) fun c =>
bindO (lenS .slice c h) fun d =>
bindO (binS .lss (e 4) d) fun a =>
let Q1 := (setV (setV (setV (setV (setV (setV e 13 (e 4)) 14 o) 15 c) 16 d) 17 a) 18 a); condB a (
bindO (binS .lss (e 3) (.int .i64 10000)) fun b =>
let Q2 := (setV (setV (setV (setV (setV Q1 18 (.bool true)) 19 (e 3)) 18 (.bool true)) 20 b) 21 b); condB b (
bindO (faS 1 (e 1)) fun f =>
bindO (loadS none f h) fun g =>
bindO (iaS 1 g (e 4)) fun i =>
bindO (loadS none i h) fun j =>
bindO (lenS .str j h) fun k =>
bindO (binS .quo k (.int .i64 20)) fun l =>
bindO (binS .add (e 3) l) fun m =>
bindO (binS .add (e 4) (.int .i64 1)) fun n =>
J .normal ⟨(setV (setV (setV (setV (setV (setV (setV (setV (setV (setV (setV (setV (setV Q2 24 (e 3)) 25 f) 26 g) 27 (e 4)) 28 i) 29 j) 30 k) 31 l) 32 m) 3 m) 22 (e 4)) 23 n) 4 n), 34, [], h⟩) (
J (.exit 0) ⟨Q2, 34, [], h⟩)) (
J (.exit 0) ⟨(setV (setV (setV (setV (setV Q1 18 (.bool false)) 19 noV) 18 (.bool false)) 20 noV) 21 (.bool false)), 34, [], h⟩)) := by kernel_rfl
theorem F.law07_atom.L0_x0_eq : F.law07_atom.L0k K (.exit 0) ⟨e, 34, [], h⟩ = (
K (.ret (e 3)) h) := by kernel_rfl
noncomputable def F.rules_of.L0 : Code := partOf (codeOf Tryz.f98) [1, 1, 1, 0, 1, 0, 0]
noncomputable def F.rules_of.L0k (K : Out → Heap → Bool) : AX → St → Bool := (blockK 0 (seqK false (EV (partOf (codeOf Tryz.f98) [1, 1, 1, 1])) (leaveK TP noD Tryz.f98.results.toList K)))
noncomputable def F.rules_of.L1 : Code := partOf (codeOf Tryz.f98) [1, 1, 1, 0, 1, 0, 0, 1, 1, 0, 0, 1, 1, 0, 1, 0, 0]
noncomputable def F.rules_of.L1k (J : AX → St → Bool) : AX → St → Bool := (blockK 2 (seqK false (EV (partOf (codeOf Tryz.f98) [1, 1, 1, 0, 1, 0, 0, 1, 1, 0, 0, 1, 1, 1])) (blockK 1 (seqK false (EV (partOf (codeOf Tryz.f98) [1, 1, 1, 0, 1, 0, 0, 1, 1, 1])) J))))
noncomputable def F.rules_of.L2 : Code := partOf (codeOf Tryz.f98) [1, 1, 1, 1, 0, 1, 0, 0]
noncomputable def F.rules_of.L2k (K : Out → Heap → Bool) : AX → St → Bool := (blockK 4 (seqK false (EV (partOf (codeOf Tryz.f98) [1, 1, 1, 1, 1])) (leaveK TP noD Tryz.f98.results.toList K)))
theorem F.rules_of.L0_eq : EV F.rules_of.L0 ⟨e, 90, [], h⟩ J = (
bindO (binS .lss (e 19) (e 18)) fun I =>
let Q1 := (setV e 20 I); condB I (
bindO (iaS 3 (e 17) (e 19)) fun w =>
bindO (loadS (some 3) w h) fun x =>
bindO (storeS 3 (.ptr (Heap.next h) 0) x (Heap.alloc h (.cells [(.str []), .nils, .nils]))) fun L =>
bindO (faS 0 (.ptr (Heap.next h) 0)) fun y =>
bindO (loadS (some 2) y L) fun f =>
semCall TP 138 [f] L (outK (fun n g =>
bindO (unS .not n) fun i =>
let Q2 := (setV (setV (setV (setV (setV (setV (setV (setV Q1 21 w) 22 x) 6 (.ptr (Heap.next h) 0)) 23 y) 24 f) 25 n) 26 i) 27 i); condB i (
J .ret ⟨(setV (setV (setV (setV (setV (setV (setV (setV (setV (setV (setV (setV (setV (setV (setV (setV (setV (setV (setV (setV (setV (setV (setV (setV (setV (setV (setV (setV (setV (setV (setV (setV (setV Q2 27 (.bool true)) 28 noV) 27 (.bool true)) 29 noV) 27 (.bool true)) 30 noV) 27 (.bool true)) 31 noV) 27 (.bool true)) 32 noV) 33 (.bool true)) 34 (.bool true)) 34 (.bool true)) 35 noV) 34 (.bool true)) 36 noV) 34 (.bool true)) 37 noV) 34 (.bool true)) 38 noV) 39 (.bool true)) 40 (.bool true)) 40 (.bool true)) 41 noV) 40 (.bool true)) 42 noV) 40 (.bool true)) 43 noV) 40 (.bool true)) 44 noV) 45 (.bool true)) 2 .nilp) 3 (.bool false)), 90, [], g⟩) (
bindO (faS 0 (.ptr (Heap.next h) 0)) fun j =>
bindO (loadS (some 2) j g) fun k =>
semCall TP 139 [(e 4), k] g (outK (fun o a =>
bindO (unS .not o) fun c =>
let Q3 := (setV (setV (setV (setV (setV (setV (setV (setV (setV (setV (setV (setV Q2 27 (.bool false)) 28 (e 4)) 27 (.bool false)) 29 j) 27 (.bool false)) 30 k) 27 (.bool false)) 31 o) 27 (.bool false)) 32 c) 33 c) 34 c); condB c (
J .ret ⟨(setV (setV (setV (setV (setV (setV (setV (setV (setV (setV (setV (setV (setV (setV (setV (setV (setV (setV (setV (setV (setV Q3 34 (.bool true)) 35 noV) 34 (.bool true)) 36 noV) 34 (.bool true)) 37 noV) 34 (.bool true)) 38 noV) 39 (.bool true)) 40 (.bool true)) 40 (.bool true)) 41 noV) 40 (.bool true)) 42 noV) 40 (.bool true)) 43 noV) 40 (.bool true)) 44 noV) 45 (.bool true)) 2 .nilp) 3 (.bool false)), 90, [], a⟩) (
bindO (faS 2 (.ptr (Heap.next h) 0)) fun p =>
bindO (loadS none p a) fun q =>
bindO (lenS .slice q a) fun r =>
bindO (binS .gtr r (.int .i64 20)) fun d =>
let Q4 := (setV (setV (setV (setV (setV (setV (setV (setV (setV (setV Q3 34 (.bool false)) 35 p) 34 (.bool false)) 36 q) 34 (.bool false)) 37 r) 34 (.bool false)) 38 d) 39 d) 40 d); condB d (
J .ret ⟨(setV (setV (setV (setV (setV (setV (setV (setV (setV (setV (setV Q4 40 (.bool true)) 41 noV) 40 (.bool true)) 42 noV) 40 (.bool true)) 43 noV) 40 (.bool true)) 44 noV) 45 (.bool true)) 2 .nilp) 3 (.bool false)), 90, [], a⟩) (
bindO (loadS (some 3) (.ptr (Heap.next h) 0) a) fun l =>
semCall TP 100 [l] a (outK (fun s b =>
bindO (lenS .slice s b) fun t =>
bindO (binS .gtr t (.int .i64 12)) fun m =>
let Q5 := (setV (setV (setV (setV (setV (setV (setV (setV (setV Q4 40 (.bool false)) 41 l) 40 (.bool false)) 42 s) 40 (.bool false)) 43 t) 40 (.bool false)) 44 m) 45 m); condB m (
J .ret ⟨(setV (setV Q5 2 .nilp) 3 (.bool false)), 90, [], b⟩) (
bindO (faS 2 (.ptr (Heap.next h) 0)) fun u =>
bindO (loadS none u b) fun v =>
bindO (lenS .slice v b) fun z =>
loopB (EV F.rules_of.L1) ⟨(setV (setV (setV (setV Q5 46 u) 47 v) 48 z) 49 (.int .i64 0)), 90, [], b⟩ (F.rules_of.L1k J))) (fun A B => J (.panic A) ⟨(setV (setV (setV Q4 40 (.bool false)) 41 l) 40 (.bool false)), 90, [], B⟩))))) (fun C D => J (.panic C) ⟨(setV (setV (setV (setV (setV (setV (setV Q2 27 (.bool false)) 28 (e 4)) 27 (.bool false)) 29 j) 27 (.bool false)) 30 k) 27 (.bool false)), 90, [], D⟩)))) (fun E G => J (.panic E) ⟨(setV (setV (setV (setV (setV Q1 21 w) 22 x) 6 (.ptr (Heap.next h) 0)) 23 y) 24 f), 90, [], G⟩))) (
J (.exit 0) ⟨Q1, 90, [], h⟩)) := by kernel_rfl
theorem F.rules_of.L0_x0_eq : F.rules_of.L0k K (.exit 0) ⟨e, 90, [], h⟩ = (
bindO (nilCheckS (e 4)) fun a =>
bindO (faS 2 a) fun b =>
bindO (loadS none b h) fun c =>
bindO (lenS .map c h) fun d =>
bindO (binS .add d (.int .i64 1)) fun f =>
loopB (EV F.rules_of.L2) ⟨(setV (setV (setV (setV (setV (setV (setV e 77 (e 4)) 78 a) 79 b) 80 c) 81 d) 82 f) 83 (.int .i64 0)), 90, [], h⟩ (F.rules_of.L2k K)) := by kernel_rfl
theorem F.rules_of.L0_r_eq : F.rules_of.L0k K .ret ⟨e, 90, [], h⟩ = (
K (.ret (.tuple [(e 2), (e 3)])) h) := by kernel_rfl
theorem F.rules_of.L1_eq : EV F.rules_of.L1 ⟨e, 90, [], h⟩ J = (
bindO (binS .lss (e 49) (e 48)) fun l =>
let Q1 := (setV e 50 l); condB l (
bindO (iaS 4 (e 47) (e 49)) fun c =>
bindO (loadS (some 4) c h) fun d =>
bindO (storeS 4 (.ptr (Heap.next h) 0) d (Heap.alloc h (.cells [(.int .i64 0), (.bool false), (.str []), .nils]))) fun m =>
bindO (loadS (some 4) (.ptr (Heap.next h) 0) m) fun f =>
semCall TP 140 [f] m (outK (fun n a =>
bindO (unS .not n) fun g =>
let Q2 := (setV (setV (setV (setV (setV (setV (setV Q1 51 c) 52 d) 8 (.ptr (Heap.next h) 0)) 53 f) 54 n) 55 g) 56 g); condB g (
J .ret ⟨(setV (setV (setV (setV (setV (setV (setV (setV (setV (setV (setV (setV (setV (setV (setV (setV (setV (setV Q2 56 (.bool true)) 57 noV) 56 (.bool true)) 58 noV) 56 (.bool true)) 59 noV) 56 (.bool true)) 60 noV) 61 noV) 62 noV) 63 noV) 64 noV) 65 noV) 56 (.bool true)) 66 noV) 67 (.bool true)) 2 .nilp) 3 (.bool false)), 90, [], a⟩) (
bindO (faS 0 (.ptr (Heap.next h) 0)) fun o =>
bindO (loadS none o a) fun p =>
bindO (eqV (.int .i64) p (.int .i64 0)) fun i =>
let Q3 := (setV (setV (setV (setV (setV (setV (setV (setV Q2 56 (.bool false)) 57 o) 56 (.bool false)) 58 p) 56 (.bool false)) 59 i) 56 (.bool false)) 60 i); condB i (
bindO (faS 2 (.ptr (Heap.next h) 0)) fun j =>
bindO (loadS (some 2) j a) fun k =>
semCall TP 139 [(e 4), k] a (outK (fun q r =>
bindO (unS .not q) fun b =>
let Q4 := (setV (setV (setV (setV (setV (setV (setV (setV (setV (setV (setV (setV (setV Q3 60 (.bool true)) 61 (e 4)) 60 (.bool true)) 62 j) 60 (.bool true)) 63 k) 60 (.bool true)) 64 q) 60 (.bool true)) 65 b) 56 (.bool false)) 66 b) 67 b); condB b (
J .ret ⟨(setV (setV Q4 2 .nilp) 3 (.bool false)), 90, [], r⟩) (
bindO (binS .add (e 49) (.int .i64 1)) fun s =>
J .normal ⟨(setV (setV Q4 68 s) 49 s), 90, [], r⟩)) (fun u v => J (.panic u) ⟨(setV (setV (setV (setV (setV (setV (setV Q3 60 (.bool true)) 61 (e 4)) 60 (.bool true)) 62 j) 60 (.bool true)) 63 k) 60 (.bool true)), 90, [], v⟩))) (
bindO (binS .add (e 49) (.int .i64 1)) fun t =>
J .normal ⟨(setV (setV (setV (setV (setV (setV (setV (setV (setV (setV (setV (setV (setV (setV (setV Q3 60 (.bool false)) 61 noV) 60 (.bool false)) 62 noV) 60 (.bool false)) 63 noV) 60 (.bool false)) 64 noV) 60 (.bool false)) 65 noV) 56 (.bool false)) 66 (.bool false)) 67 (.bool false)) 68 t) 49 t), 90, [], a⟩))) (fun w x => J (.panic w) ⟨(setV (setV (setV (setV Q1 51 c) 52 d) 8 (.ptr (Heap.next h) 0)) 53 f), 90, [], x⟩))) (
J (.exit 2) ⟨Q1, 90, [], h⟩)) := by kernel_rfl
theorem F.rules_of.L1_x2_eq : F.rules_of.L1k J (.exit 2) ⟨e, 90, [], h⟩ = (
bindO (nilCheckS (e 4)) fun a =>
bindO (faS 2 a) fun b =>
bindO (loadS none b h) fun c =>
bindO (faS 0 (e 6)) fun d =>
bindO (faS 0 d) fun f =>
bindO (loadS none f h) fun g =>
bindO (mapUpdateS .string c g (.int .i64 0) h) fun j =>
bindO (binS .add (e 19) (.int .i64 1)) fun i =>
J .normal ⟨(setV (setV (setV (setV (setV (setV (setV (setV (setV e 69 (e 4)) 70 a) 71 b) 72 c) 73 d) 74 f) 75 g) 76 i) 19 i), 90, [], j⟩) := by kernel_rfl
theorem F.rules_of.L1_r_eq : F.rules_of.L1k J .ret ⟨e, 90, [], h⟩ = (
J .ret ⟨e, 90, [], h⟩) := by kernel_rfl
theorem F.rules_of.L2_eq : EV F.rules_of.L2 ⟨e, 90, [], h⟩ J = (
bindO (binS .lss (e 83) (e 82)) fun a =>
let Q1 := (setV e 84 a); condB a (
semCall TP 141 [(e 4)] h (outK (fun b c =>
bindO (unS .not b) fun d =>
let Q2 := (setV (setV (setV Q1 85 (e 4)) 86 b) 87 d); condB d (
J .ret ⟨(setV (setV (setV Q2 88 (e 4)) 2 (e 4)) 3 (.bool true)), 90, [], c⟩) (
bindO (binS .add (e 83) (.int .i64 1)) fun f =>
J .normal ⟨(setV (setV Q2 89 f) 83 f), 90, [], c⟩)) (fun g i => J (.panic g) ⟨(setV Q1 85 (e 4)), 90, [], i⟩))) (
J (.exit 4) ⟨Q1, 90, [], h⟩)) := by kernel_rfl
theorem F.rules_of.L2_x4_eq : F.rules_of.L2k K (.exit 4) ⟨e, 90, [], h⟩ = (
K (.ret (.tuple [.nilp, (.bool false)])) h) := by kernel_rfl
theorem F.rules_of.L2_r_eq : F.rules_of.L2k K .ret ⟨e, 90, [], h⟩ = (
K (.ret (.tuple [(e 2), (e 3)])) h) := by kernel_rfl
theorem F.rules_of_eq : EV (codeOf Tryz.f98) ⟨mkEnv [a0], 90, [], h⟩ (leaveK TP noD Tryz.f98.results.toList K) = (
bindO (aggS [.nils, .nilm, .nilm] [(0, 1), (1, 1), (2, 1)] [a0, (.map (Heap.next h)), (.map (Heap.next (Heap.alloc h (.map [] 0))))]) fun b =>
bindO (boxS b) fun a =>
bindO (lenS .slice a0 (Heap.alloc (Heap.alloc (Heap.alloc h (.map [] 0)) (.map [] 0)) (.cells a))) fun c =>
bindO (binS .gtr c (.int .i64 60)) fun d =>
condB d (
K (.ret (.tuple [.nilp, (.bool false)])) (Heap.alloc (Heap.alloc (Heap.alloc h (.map [] 0)) (.map [] 0)) (.cells a))) (
bindO (lenS .slice a0 (Heap.alloc (Heap.alloc (Heap.alloc h (.map [] 0)) (.map [] 0)) (.cells a))) fun f =>
loopB (EV F.rules_of.L0) ⟨(setV (setV (setV (setV (setV (setV (setV (setV (setV (setV (setV (setV (setV (setV (mkEnv [a0]) 2 .nilp) 3 (.bool false)) 9 a0) 10 (.map (Heap.next h))) 11 (.map (Heap.next (Heap.alloc h (.map [] 0))))) 12 b) 13 (.ptr (Heap.next (Heap.alloc (Heap.alloc h (.map [] 0)) (.map [] 0))) 0)) 4 (.ptr (Heap.next (Heap.alloc (Heap.alloc h (.map [] 0)) (.map [] 0))) 0)) 14 a0) 15 c) 16 d) 17 a0) 18 f) 19 (.int .i64 0)), 90, [], (Heap.alloc (Heap.alloc (Heap.alloc h (.map [] 0)) (.map [] 0)) (.cells a))⟩ (F.rules_of.L0k K))) := by kernel_rfl
theorem F.rules_of_sem (hh : EV (codeOf Tryz.f98) ⟨mkEnv [a0], 90, [], h⟩ (leaveK TP noD Tryz.f98.results.toList K) = true) : Sem TP 98 [a0] h K :=
  sem_body mixed (noD_sound _) Tryz.func98 (c := codeOf Tryz.f98) rfl (by decide) (of_decide_eq_true (by kernel_rfl)) hh
noncomputable def F.rules_program_rise.L0 : Code := partOf (codeOf Tryz.f141) [1, 1, 0, 1, 0, 0]
noncomputable def F.rules_program_rise.L0k (K : Out → Heap → Bool) : AX → St → Bool := (blockK 0 (seqK false (EV (partOf (codeOf Tryz.f141) [1, 1, 1])) (leaveK TP noD Tryz.f141.results.toList K)))
noncomputable def F.rules_program_rise.L1 : Code := partOf (codeOf Tryz.f141) [1, 1, 0, 1, 0, 0, 1, 1, 0, 0, 1, 1, 0, 0]
noncomputable def F.rules_program_rise.L1k (J : AX → St → Bool) : AX → St → Bool := (blockK 2 (blockK 1 (seqK false (EV (partOf (codeOf Tryz.f141) [1, 1, 0, 1, 0, 0, 1, 1, 1])) J)))
noncomputable def F.rules_program_rise.J0 (K : AX → St → Bool) (s : St) : Bool := runB (EV (partOf (codeOf Tryz.f141) [1, 1, 0, 1, 0, 0, 1, 1, 0, 0, 1, 1, 0, 0, 1, 1, 0, 0, 1, 1, 1, 1])) s (blockK 3 (seqK false (EV (partOf (codeOf Tryz.f141) [1, 1, 0, 1, 0, 0, 1, 1, 0, 0, 1, 1, 0, 0, 1, 1, 1])) K))
theorem F.rules_program_rise.L0_eq : EV F.rules_program_rise.L0 ⟨e, 71, [], h⟩ J = (
bindO (binS .lss (e 15) (e 14)) fun a =>
condB a (
bindO (iaS 3 (e 13) (e 15)) fun d =>
bindO (loadS (some 3) d h) fun f =>
bindO (storeS 3 (.ptr (Heap.next h) 0) f (Heap.alloc h (.cells [(.str []), .nils, .nils]))) fun b =>
bindO (faS 2 (.ptr (Heap.next h) 0)) fun g =>
bindO (loadS none g b) fun i =>
bindO (lenS .slice i b) fun c =>
loopB (EV F.rules_program_rise.L1) ⟨(setV (setV (setV (setV (setV (setV (setV (setV e 16 a) 17 d) 18 f) 5 (.ptr (Heap.next h) 0)) 19 g) 20 i) 21 c) 22 (.int .i64 0)), 71, [], b⟩ (F.rules_program_rise.L1k J)) (
J (.exit 0) ⟨(setV e 16 a), 71, [], h⟩)) := by kernel_rfl
theorem F.rules_program_rise.L0_x0_eq : F.rules_program_rise.L0k K (.exit 0) ⟨e, 71, [], h⟩ = (
K (.ret (e 3)) h) := by kernel_rfl
theorem F.rules_program_rise.L1_eq : EV F.rules_program_rise.L1 ⟨e, 71, [], h⟩ J = (
bindO (binS .lss (e 22) (e 21)) fun k =>
let Q1 := (setV e 23 k); condB k (
bindO (iaS 4 (e 20) (e 22)) fun l =>
bindO (loadS (some 4) l h) fun m =>
bindO (storeS 4 (.ptr (Heap.next h) 0) m (Heap.alloc h (.cells [(.int .i64 0), (.bool false), (.str []), .nils]))) fun a =>
bindO (nilCheckS (e 0)) fun n =>
bindO (faS 2 n) fun o =>
bindO (loadS none o a) fun p =>
bindO (faS 2 (.ptr (Heap.next h) 0)) fun q =>
bindO (faS 0 q) fun r =>
bindO (loadS none r a) fun s =>
bindO (lookupS .string (.int .i64 0) true p s a) fun b =>
bindO (extractS b 0) fun c =>
bindO (extractS b 1) fun d =>
bindO (faS 0 (.ptr (Heap.next h) 0)) fun t =>
bindO (loadS none t a) fun u =>
bindO (neV (.int .i64) u (.int .i64 0)) fun f =>
let Q2 := (setV (setV (setV (setV (setV (setV (setV (setV (setV (setV (setV (setV (setV (setV (setV (setV (setV (setV (setV (setV Q1 24 l) 25 m) 7 (.ptr (Heap.next h) 0)) 27 (e 0)) 28 n) 29 o) 30 p) 31 q) 32 r) 33 s) 34 b) 26 b) 35 c) 36 d) 8 c) 9 d) 37 t) 38 u) 39 f) 40 f); condB f (
bindO (binS .add (e 22) (.int .i64 1)) fun v =>
J .normal ⟨(setV (setV (setV (setV (setV (setV (setV Q2 40 (.bool true)) 41 noV) 40 (.bool true)) 42 noV) 43 (.bool true)) 68 v) 22 v), 71, [], a⟩) (
bindO (unS .not d) fun g =>
let Q3 := (setV (setV (setV (setV (setV Q2 40 (.bool false)) 41 d) 40 (.bool false)) 42 g) 43 g); condB g (
bindO (binS .add (e 22) (.int .i64 1)) fun w =>
J .normal ⟨(setV (setV Q3 68 w) 22 w), 71, [], a⟩) (
bindO (faS 1 (.ptr (Heap.next h) 0)) fun i =>
bindO (loadS none i a) fun j =>
condB j (
bindO (binS .add c (.int .i64 1)) fun x =>
F.rules_program_rise.J0 J ⟨(setV (setV (setV (setV (setV Q3 44 i) 45 j) 46 c) 47 x) 8 x), 71, [], a⟩) (
F.rules_program_rise.J0 J ⟨(setV (setV Q3 44 i) 45 j), 71, [], a⟩)))) (
J (.exit 2) ⟨Q1, 71, [], h⟩)) := by kernel_rfl
theorem F.rules_program_rise.L1_x2_eq : F.rules_program_rise.L1k J (.exit 2) ⟨e, 71, [], h⟩ = (
bindO (binS .add (e 15) (.int .i64 1)) fun a =>
J .normal ⟨(setV (setV e 69 a) 15 a), 71, [], h⟩) := by kernel_rfl
theorem F.rules_program_rise.J0_eq : F.rules_program_rise.J0 J ⟨e, 71, [], h⟩ = (
bindO (nilCheckS (e 0)) fun b =>
bindO (faS 2 b) fun c =>
bindO (loadS none c h) fun d =>
bindO (faS 0 (e 5)) fun f =>
bindO (faS 0 f) fun g =>
bindO (loadS none g h) fun i =>
bindO (lookupS .string (.int .i64 0) false d i h) fun j =>
bindO (binS .gtr (e 8) j) fun k =>
let Q1 := (setV (setV (setV (setV (setV (setV (setV (setV (setV (setV e 48 (e 8)) 49 (e 0)) 50 b) 51 c) 52 d) 53 f) 54 g) 55 i) 56 j) 57 k); condB k (
bindO (nilCheckS (e 0)) fun l =>
bindO (faS 2 l) fun m =>
bindO (loadS none m h) fun a =>
bindO (faS 0 (e 5)) fun n =>
bindO (faS 0 n) fun o =>
bindO (loadS none o h) fun p =>
bindO2 (mapEntryS .string (.int .i64 0) a p h) fun q u =>
bindO (extractS q 1) fun r =>
bindO (entryStoreS a r (e 8) u) fun v =>
bindO (binS .add (e 22) (.int .i64 1)) fun s =>
J .normal ⟨(setV (setV (setV (setV (setV (setV (setV (setV (setV (setV (setV (setV (setV Q1 58 (e 0)) 59 l) 60 m) 61 a) 62 n) 63 o) 64 p) 65 (e 8)) 66 q) 67 r) 3 (.bool true)) 68 s) 22 s), 71, [], v⟩) (
bindO (binS .add (e 22) (.int .i64 1)) fun t =>
J .normal ⟨(setV (setV Q1 68 t) 22 t), 71, [], h⟩)) := (runB_eq _ _ _).trans (by kernel_rfl)
theorem F.rules_program_rise_eq {J : Out → Heap → Bool} : EV (codeOf Tryz.f141) ⟨mkEnv [a0], 71, [], h⟩ (leaveK TP noD Tryz.f141.results.toList J) = (
bindO (nilCheckS a0) fun w =>
bindO (faS 0 w) fun x =>
bindO (loadS none x h) fun y =>
bindO (lenS .slice y h) fun z =>
loopB (EV F.rules_program_rise.L0) ⟨(setV (setV (setV (setV (setV (setV (setV (setV (mkEnv [a0]) 2 (.bool false)) 3 (.bool false)) 10 a0) 11 w) 12 x) 13 y) 14 z) 15 (.int .i64 0)), 71, [], h⟩ (F.rules_program_rise.L0k J)) := by kernel_rfl
theorem F.rules_program_rise_sem (hh : EV (codeOf Tryz.f141) ⟨mkEnv [a0], 71, [], h⟩ (leaveK TP noD Tryz.f141.results.toList K) = true) : Sem TP 141 [a0] h K :=
  sem_body mixed (noD_sound _) Tryz.func141 (c := codeOf Tryz.f141) rfl (by decide) (of_decide_eq_true (by kernel_rfl)) hh
noncomputable def F.ref07_Valid.L0 : Code := partOf (codeOf Tryz.f65) [1, 1, 0, 1, 0, 0]
noncomputable def F.ref07_Valid.L0k (K : Out → Heap → Bool) : AX → St → Bool := (blockK 0 (seqK false (EV (partOf (codeOf Tryz.f65) [1, 1, 1])) (leaveK TP noD Tryz.f65.results.toList K)))
noncomputable def F.ref07_Valid.L1 : Code := partOf (codeOf Tryz.f65) [1, 1, 1, 1, 0, 1, 0, 0]
noncomputable def F.ref07_Valid.L1k (K : Out → Heap → Bool) : AX → St → Bool := (blockK 2 (seqK false (EV (partOf (codeOf Tryz.f65) [1, 1, 1, 1, 1])) (leaveK TP noD Tryz.f65.results.toList K)))
noncomputable def F.ref07_Valid.L2 : Code := partOf (codeOf Tryz.f65) [1, 1, 1, 1, 0, 1, 0, 0, 1, 0, 0, 1, 0, 0]
noncomputable def F.ref07_Valid.L2k (J : AX → St → Bool) : AX → St → Bool := (blockK 4 (blockK 3 (seqK false (EV (partOf (codeOf Tryz.f65) [1, 1, 1, 1, 0, 1, 0, 0, 1, 1])) J)))
theorem F.ref07_Valid.L0_eq : EV F.ref07_Valid.L0 ⟨e, 67, [], h⟩ J = (
bindO (lenS .slice (e 0) h) fun f =>
bindO (binS .lss (e 3) f) fun g =>
let Q1 := (setV (setV (setV (setV e 12 (e 3)) 13 (e 0)) 14 f) 15 g); condB g (
bindO (iaS 3 (e 0) (e 3)) fun c =>
bindO (loadS (some 3) c h) fun d =>
semCall TP 112 [d] h (outK (fun i j =>
bindO (unS .not i) fun a =>
let Q2 := (setV (setV (setV (setV (setV (setV Q1 18 (e 0)) 19 (e 3)) 20 c) 21 d) 22 i) 23 a); condB a (
J .ret ⟨(setV Q2 2 (.bool false)), 67, [], j⟩) (
bindO (binS .add (e 3) (.int .i64 1)) fun b =>
J .normal ⟨(setV (setV (setV Q2 16 (e 3)) 17 b) 3 b), 67, [], j⟩)) (fun k l => J (.panic k) ⟨(setV (setV (setV (setV Q1 18 (e 0)) 19 (e 3)) 20 c) 21 d), 67, [], l⟩))) (
J (.exit 0) ⟨Q1, 67, [], h⟩)) := by kernel_rfl
theorem F.ref07_Valid.L0_x0_eq : F.ref07_Valid.L0k K (.exit 0) ⟨e, 67, [], h⟩ = (
semCall TP 113 [(e 0)] h (outK (fun a b =>
loopB (EV F.ref07_Valid.L1) ⟨(setV (setV (setV (setV e 24 (e 0)) 25 a) 4 a) 5 (.int .i64 0)), 67, [], b⟩ (F.ref07_Valid.L1k K)) (fun c d => K (.panic c) d))) := by kernel_rfl
theorem F.ref07_Valid.L0_r_eq : F.ref07_Valid.L0k K .ret ⟨e, 67, [], h⟩ = (
K (.ret (e 2)) h) := by kernel_rfl
theorem F.ref07_Valid.L1_eq : EV F.ref07_Valid.L1 ⟨e, 67, [], h⟩ J = (
bindO (lenS .slice (e 4) h) fun a =>
bindO (binS .lss (e 5) a) fun b =>
let Q1 := (setV (setV (setV (setV e 26 (e 5)) 27 (e 4)) 28 a) 29 b); condB b (
loopB (EV F.ref07_Valid.L2) ⟨(setV Q1 6 (.int .i64 0)), 67, [], h⟩ (F.ref07_Valid.L2k J)) (
J (.exit 2) ⟨Q1, 67, [], h⟩)) := by kernel_rfl
theorem F.ref07_Valid.L1_x2_eq : F.ref07_Valid.L1k K (.exit 2) ⟨e, 67, [], h⟩ = (
semCall TP 114 [(e 0)] h (outK (fun a b =>
bindO (extractS a 0) fun g =>
bindO (extractS a 1) fun c =>
K (.ret c) b) (fun d f => K (.panic d) f))) := by kernel_rfl
theorem F.ref07_Valid.L1_r_eq : F.ref07_Valid.L1k K .ret ⟨e, 67, [], h⟩ = (
K (.ret (e 2)) h) := by kernel_rfl
theorem F.ref07_Valid.L2_eq : EV F.ref07_Valid.L2 ⟨e, 67, [], h⟩ J = (
bindO (binS .lss (e 6) (e 5)) fun c =>
let Q1 := (setV (setV (setV e 32 (e 6)) 33 (e 5)) 34 c); condB c (
bindO (iaS 2 (e 4) (e 6)) fun d =>
bindO (faS 0 d) fun f =>
bindO (loadS none f h) fun g =>
bindO (iaS 2 (e 4) (e 5)) fun i =>
bindO (faS 0 i) fun j =>
bindO (loadS none j h) fun k =>
bindO (eqV .string g k) fun a =>
let Q2 := (setV (setV (setV (setV (setV (setV (setV (setV (setV (setV (setV (setV Q1 37 (e 4)) 38 (e 6)) 39 d) 40 f) 41 g) 42 (e 4)) 43 (e 5)) 44 i) 45 j) 46 k) 47 a) 48 a); condB a (
bindO (iaS 2 (e 4) (e 6)) fun l =>
bindO (faS 1 l) fun m =>
bindO (loadS none m h) fun n =>
bindO (iaS 2 (e 4) (e 5)) fun o =>
bindO (faS 1 o) fun p =>
bindO (loadS none p h) fun q =>
bindO (neV (.int .i64) n q) fun b =>
let Q3 := (setV (setV (setV (setV (setV (setV (setV (setV (setV (setV (setV (setV (setV (setV (setV (setV (setV (setV (setV (setV (setV (setV (setV Q2 48 (.bool true)) 49 (e 4)) 48 (.bool true)) 50 (e 6)) 48 (.bool true)) 51 l) 48 (.bool true)) 52 m) 48 (.bool true)) 53 n) 48 (.bool true)) 54 (e 4)) 48 (.bool true)) 55 (e 5)) 48 (.bool true)) 56 o) 48 (.bool true)) 57 p) 48 (.bool true)) 58 q) 48 (.bool true)) 59 b) 60 b); condB b (
J .ret ⟨(setV Q3 2 (.bool false)), 67, [], h⟩) (
bindO (binS .add (e 6) (.int .i64 1)) fun r =>
J .normal ⟨(setV (setV (setV Q3 35 (e 6)) 36 r) 6 r), 67, [], h⟩)) (
bindO (binS .add (e 6) (.int .i64 1)) fun s =>
J .normal ⟨(setV (setV (setV (setV (setV (setV (setV (setV (setV (setV (setV (setV (setV (setV (setV (setV (setV (setV (setV (setV (setV (setV (setV (setV (setV (setV Q2 48 (.bool false)) 49 noV) 48 (.bool false)) 50 noV) 48 (.bool false)) 51 noV) 48 (.bool false)) 52 noV) 48 (.bool false)) 53 noV) 48 (.bool false)) 54 noV) 48 (.bool false)) 55 noV) 48 (.bool false)) 56 noV) 48 (.bool false)) 57 noV) 48 (.bool false)) 58 noV) 48 (.bool false)) 59 noV) 60 (.bool false)) 35 (e 6)) 36 s) 6 s), 67, [], h⟩)) (
J (.exit 4) ⟨Q1, 67, [], h⟩)) := by kernel_rfl
theorem F.ref07_Valid.L2_x4_eq : F.ref07_Valid.L2k J (.exit 4) ⟨e, 67, [], h⟩ = (
bindO (binS .add (e 5) (.int .i64 1)) fun a =>
J .normal ⟨(setV (setV (setV e 30 (e 5)) 31 a) 5 a), 67, [], h⟩) := by kernel_rfl
theorem F.ref07_Valid.L2_r_eq : F.ref07_Valid.L2k J .ret ⟨e, 67, [], h⟩ = (
J .ret ⟨e, 67, [], h⟩) := by kernel_rfl
noncomputable def F.ref07_Levels.L0 : Code := partOf (codeOf Tryz.f114) [1, 1, 1, 0, 1, 0, 0]
noncomputable def F.ref07_Levels.L0k (K : Out → Heap → Bool) : AX → St → Bool := (blockK 0 (seqK false (EV (partOf (codeOf Tryz.f114) [1, 1, 1, 1])) (leaveK TP noD Tryz.f114.results.toList K)))
noncomputable def F.ref07_Levels.L1 : Code := partOf (codeOf Tryz.f114) [1, 1, 1, 0, 1, 0, 0, 1, 0, 1, 1, 0, 0]
noncomputable def F.ref07_Levels.L1k (J : AX → St → Bool) : AX → St → Bool := (blockK 2 (blockK 1 J))
noncomputable def F.ref07_Levels.L2 : Code := partOf (codeOf Tryz.f114) [1, 1, 1, 0, 1, 0, 0, 1, 0, 1, 1, 0, 0, 1, 0, 0, 1, 0, 1, 0, 0]
noncomputable def F.ref07_Levels.L2k (J : AX → St → Bool) : AX → St → Bool := (blockK 4 (seqK false (EV (partOf (codeOf Tryz.f114) [1, 1, 1, 0, 1, 0, 0, 1, 0, 1, 1, 0, 0, 1, 0, 0, 1, 1])) (blockK 3 (seqK false (EV (partOf (codeOf Tryz.f114) [1, 1, 1, 0, 1, 0, 0, 1, 0, 1, 1, 0, 0, 1, 1])) J))))
noncomputable def F.ref07_Levels.J0 (K : AX → St → Bool) (s : St) : Bool := runB (EV (partOf (codeOf Tryz.f114) [1, 1, 1, 0, 1, 0, 0, 1, 0, 1, 1, 0, 0, 1, 0, 0, 1, 0, 1, 0, 0, 1, 0, 0, 1, 1, 1, 0, 1, 1])) s (blockK 5 (seqK false (EV (partOf (codeOf Tryz.f114) [1, 1, 1, 0, 1, 0, 0, 1, 0, 1, 1, 0, 0, 1, 0, 0, 1, 0, 1, 0, 0, 1, 1])) K))
theorem F.ref07_Levels.L0_eq : EV F.ref07_Levels.L0 ⟨e, 89, [], h⟩ J = (
condB (e 6) (
loopB (EV F.ref07_Levels.L1) ⟨(setV (setV (setV e 18 (e 6)) 6 (.bool false)) 7 (.int .i64 0)), 89, [], h⟩ (F.ref07_Levels.L1k J)) (
J (.exit 0) ⟨(setV e 18 (e 6)), 89, [], h⟩)) := by kernel_rfl
theorem F.ref07_Levels.L0_x0_eq : F.ref07_Levels.L0k K (.exit 0) ⟨e, 89, [], h⟩ = (
K (.ret (.tuple [(e 5), (.bool true)])) h) := by kernel_rfl
theorem F.ref07_Levels.L0_r_eq : F.ref07_Levels.L0k K .ret ⟨e, 89, [], h⟩ = (
K (.ret (.tuple [(e 2), (e 3)])) h) := by kernel_rfl
theorem F.ref07_Levels.L1_eq : EV F.ref07_Levels.L1 ⟨e, 89, [], h⟩ J = (
bindO (lenS .slice (e 0) h) fun k =>
bindO (binS .lss (e 7) k) fun l =>
let Q1 := (setV (setV (setV (setV e 19 (e 7)) 20 (e 0)) 21 k) 22 l); condB l (
bindO (iaS 3 (e 0) (e 7)) fun f =>
bindO (faS 0 f) fun a =>
bindO (faS 0 a) fun b =>
bindO (loadS none b h) fun c =>
semCall TP 128 [(e 4), c] h (outK (fun d g =>
loopB (EV F.ref07_Levels.L2) ⟨(setV (setV (setV (setV (setV (setV (setV (setV (setV (setV Q1 25 (e 4)) 26 (e 0)) 27 (e 7)) 28 f) 29 a) 30 b) 31 c) 32 d) 8 d) 9 (.int .i64 0)), 89, [], g⟩ (F.ref07_Levels.L2k J)) (fun i j => J (.panic i) ⟨(setV (setV (setV (setV (setV (setV (setV Q1 25 (e 4)) 26 (e 0)) 27 (e 7)) 28 f) 29 a) 30 b) 31 c), 89, [], j⟩))) (
J (.exit 2) ⟨Q1, 89, [], h⟩)) := by kernel_rfl
theorem F.ref07_Levels.L1_x2_eq : F.ref07_Levels.L1k J (.exit 2) ⟨e, 89, [], h⟩ = (
J .normal ⟨e, 89, [], h⟩) := by kernel_rfl
theorem F.ref07_Levels.L1_r_eq : F.ref07_Levels.L1k J .ret ⟨e, 89, [], h⟩ = (
J .ret ⟨e, 89, [], h⟩) := by kernel_rfl
theorem F.ref07_Levels.L2_eq : EV F.ref07_Levels.L2 ⟨e, 89, [], h⟩ J = (
bindO (iaS 3 (e 0) (e 7)) fun p =>
bindO (faS 2 p) fun q =>
bindO (loadS none q h) fun r =>
bindO (lenS .slice r h) fun s =>
bindO (binS .lss (e 9) s) fun t =>
let Q1 := (setV (setV (setV (setV (setV (setV (setV (setV e 33 (e 9)) 34 (e 0)) 35 (e 7)) 36 p) 37 q) 38 r) 39 s) 40 t); condB t (
bindO (iaS 3 (e 0) (e 7)) fun d =>
bindO (faS 2 d) fun f =>
bindO (loadS none f h) fun g =>
bindO (iaS 4 g (e 9)) fun i =>
bindO (loadS (some 4) i h) fun j =>
bindO (storeS 4 (.ptr (Heap.next h) 0) j (Heap.alloc h (.cells [(.int .i64 0), (.bool false), (.str []), .nils]))) fun u =>
bindO (faS 2 (.ptr (Heap.next h) 0)) fun k =>
bindO (faS 0 k) fun l =>
bindO (loadS none l u) fun m =>
semCall TP 128 [(e 4), m] u (outK (fun b a =>
bindO (faS 0 (.ptr (Heap.next h) 0)) fun v =>
bindO (loadS none v a) fun w =>
bindO (eqV (.int .i64) w (.int .i64 0)) fun n =>
let Q2 := (setV (setV (setV (setV (setV (setV (setV (setV (setV (setV (setV (setV (setV (setV (setV (setV (setV (setV (setV Q1 43 (e 0)) 44 (e 7)) 45 d) 46 f) 47 g) 48 (e 9)) 49 i) 50 j) 10 (.ptr (Heap.next h) 0)) 51 (e 4)) 52 k) 53 l) 54 m) 55 b) 11 b) 56 v) 57 w) 58 n) 59 n); condB n (
bindO (binS .geq b (.int .i64 0)) fun o =>
let Q3 := (setV (setV (setV (setV (setV Q2 59 (.bool true)) 60 b) 59 (.bool true)) 61 o) 62 o); condB o (
bindO (iaS 1 (e 5) b) fun x =>
bindO (loadS none x a) fun c =>
bindO (faS 1 (.ptr (Heap.next h) 0)) fun y =>
bindO (loadS none y a) fun z =>
let Q4 := (setV (setV (setV (setV (setV (setV (setV Q3 63 (e 5)) 64 b) 65 x) 66 c) 12 c) 67 y) 68 z); condB z (
bindO (binS .add c (.int .i64 1)) fun A =>
F.ref07_Levels.J0 J ⟨(setV (setV (setV Q4 69 c) 70 A) 12 A), 89, [], a⟩) (
F.ref07_Levels.J0 J ⟨Q4, 89, [], a⟩)) (
bindO (binS .add (e 9) (.int .i64 1)) fun B =>
J .normal ⟨(setV (setV (setV Q3 41 (e 9)) 42 B) 9 B), 89, [], a⟩)) (
bindO (binS .add (e 9) (.int .i64 1)) fun C =>
J .normal ⟨(setV (setV (setV (setV (setV (setV (setV (setV Q2 59 (.bool false)) 60 noV) 59 (.bool false)) 61 noV) 62 (.bool false)) 41 (e 9)) 42 C) 9 C), 89, [], a⟩)) (fun D E => J (.panic D) ⟨(setV (setV (setV (setV (setV (setV (setV (setV (setV (setV (setV (setV (setV Q1 43 (e 0)) 44 (e 7)) 45 d) 46 f) 47 g) 48 (e 9)) 49 i) 50 j) 10 (.ptr (Heap.next h) 0)) 51 (e 4)) 52 k) 53 l) 54 m), 89, [], E⟩))) (
J (.exit 4) ⟨Q1, 89, [], h⟩)) := by kernel_rfl
theorem F.ref07_Levels.L2_x4_eq : F.ref07_Levels.L2k J (.exit 4) ⟨e, 89, [], h⟩ = (
bindO (iaS 1 (e 5) (e 8)) fun a =>
bindO (loadS none a h) fun b =>
bindO (lenS .slice (e 4) h) fun c =>
bindO (binS .gtr b c) fun d =>
let Q1 := (setV (setV (setV (setV (setV (setV (setV e 81 (e 5)) 82 (e 8)) 83 a) 84 b) 85 (e 4)) 86 c) 87 d); condB d (
J .ret ⟨(setV (setV Q1 2 .nils) 3 (.bool false)), 89, [], h⟩) (
bindO (binS .add (e 7) (.int .i64 1)) fun f =>
J .normal ⟨(setV (setV (setV Q1 23 (e 7)) 24 f) 7 f), 89, [], h⟩)) := by kernel_rfl
theorem F.ref07_Levels.J0_eq : F.ref07_Levels.J0 J ⟨e, 89, [], h⟩ = (
bindO (iaS 1 (e 5) (e 8)) fun a =>
bindO (loadS none a h) fun b =>
bindO (binS .gtr (e 12) b) fun c =>
let Q1 := (setV (setV (setV (setV (setV (setV e 71 (e 12)) 72 (e 5)) 73 (e 8)) 74 a) 75 b) 76 c); condB c (
bindO (iaS 1 (e 5) (e 8)) fun d =>
bindO (storeS 1 d (e 12) h) fun j =>
bindO (binS .add (e 9) (.int .i64 1)) fun f =>
J .normal ⟨(setV (setV (setV (setV (setV (setV (setV (setV Q1 77 (e 5)) 78 (e 8)) 79 (e 12)) 80 d) 6 (.bool true)) 41 (e 9)) 42 f) 9 f), 89, [], j⟩) (
bindO (binS .add (e 9) (.int .i64 1)) fun g =>
J .normal ⟨(setV (setV (setV Q1 41 (e 9)) 42 g) 9 g), 89, [], h⟩)) := (runB_eq _ _ _).trans (by kernel_rfl)
theorem F.ref07_Levels_eq {J : Out → Heap → Bool} : EV (codeOf Tryz.f114) ⟨mkEnv [a0], 89, [], h⟩ (leaveK TP noD Tryz.f114.results.toList J) = (
semCall TP 35 [a0] h (outK (fun i l =>
bindO (lenS .slice i l) fun k =>
bindO2 (makeSliceS 1 8 [(.int .i64 0)] k k l) fun m n =>
loopB (EV F.ref07_Levels.L0) ⟨(setV (setV (setV (setV (setV (setV (setV (setV (setV (setV (mkEnv [a0]) 2 .nils) 3 (.bool false)) 13 a0) 14 i) 4 i) 15 i) 16 k) 17 m) 5 m) 6 (.bool true)), 89, [], n⟩ (F.ref07_Levels.L0k J)) (fun o p => J (.panic o) p))) := by kernel_rfl
theorem F.ref07_Levels_sem (hh : EV (codeOf Tryz.f114) ⟨mkEnv [a0], 89, [], h⟩ (leaveK TP noD Tryz.f114.results.toList K) = true) : Sem TP 114 [a0] h K :=
  sem_body mixed (noD_sound _) Tryz.func114 (c := codeOf Tryz.f114) rfl (by decide) (of_decide_eq_true (by kernel_rfl)) hh
noncomputable def F.rules_state_rank.L0 : Code := partOf (codeOf Tryz.f101) [1, 1, 0, 1, 0, 0]
noncomputable def F.rules_state_rank.L0k (K : Out → Heap → Bool) : AX → St → Bool := (blockK 0 (seqK false (EV (partOf (codeOf Tryz.f101) [1, 1, 1])) (leaveK TP noD Tryz.f101.results.toList K)))
theorem F.rules_state_rank.L0_eq : EV F.rules_state_rank.L0 ⟨e, 24, [], h⟩ J = (
bindO (binS .lss (e 10) (e 9)) fun b =>
condB b (
bindO (iaS 1 (e 8) (e 10)) fun c =>
bindO (loadS none c h) fun a =>
bindO (nilCheckS (e 0)) fun d =>
bindO (faS 0 d) fun f =>
bindO (loadS none f h) fun g =>
bindO (binS .mul (e 5) g) fun i =>
bindO (binS .add i a) fun j =>
bindO (binS .add (e 10) (.int .i64 1)) fun k =>
J .normal ⟨(setV (setV (setV (setV (setV (setV (setV (setV (setV (setV (setV (setV (setV (setV (setV e 11 b) 12 c) 13 a) 7 a) 14 (e 5)) 15 (e 0)) 16 d) 17 f) 18 g) 19 i) 20 a) 21 j) 5 j) 22 k) 10 k), 24, [], h⟩) (
J (.exit 0) ⟨(setV e 11 b), 24, [], h⟩)) := by kernel_rfl
theorem F.rules_state_rank.L0_x0_eq : F.rules_state_rank.L0k K (.exit 0) ⟨e, 24, [], h⟩ = (
K (.ret (e 5)) h) := by kernel_rfl
noncomputable def F.rules_pick.L0 : Code := partOf (codeOf Tryz.f121) [1, 1, 0, 1, 0, 0]
noncomputable def F.rules_pick.L0k (K : Out → Heap → Bool) : AX → St → Bool := (blockK 0 (seqK false (EV (partOf (codeOf Tryz.f121) [1, 1, 1])) (leaveK TP noD Tryz.f121.results.toList K)))
theorem F.rules_pick.L0_eq : EV F.rules_pick.L0 ⟨e, 27, [], h⟩ J = (
bindO (binS .lss (e 13) (e 12)) fun c =>
condB c (
bindO (iaS 1 (e 11) (e 13)) fun f =>
bindO (loadS none f h) fun b =>
bindO (iaS 1 (e 0) b) fun g =>
bindO (loadS none g h) fun i =>
bindO (iaS 1 (e 5) (e 13)) fun j =>
bindO (storeS 1 j i h) fun d =>
bindO (binS .add (e 13) (.int .i64 1)) fun a =>
J .normal ⟨(setV (setV (setV (setV (setV (setV (setV (setV (setV (setV (setV (setV (setV (setV (setV e 14 c) 15 (e 13)) 16 f) 17 b) 6 (e 13)) 7 b) 18 (e 5)) 19 (e 13)) 20 (e 0)) 21 b) 22 g) 23 i) 24 j) 25 a) 13 a), 27, [], d⟩) (
J (.exit 0) ⟨(setV e 14 c), 27, [], h⟩)) := by kernel_rfl
theorem F.rules_pick.L0_x0_eq : F.rules_pick.L0k K (.exit 0) ⟨e, 27, [], h⟩ = (
K (.ret (e 5)) h) := by kernel_rfl
noncomputable def F.rules_planOf.L0 : Code := partOf (codeOf Tryz.f102) [1, 1, 1, 1, 0, 1, 0, 0]
noncomputable def F.rules_planOf.L0k (K : Out → Heap → Bool) : AX → St → Bool := (blockK 0 (seqK false (EV (partOf (codeOf Tryz.f102) [1, 1, 1, 1, 1])) (leaveK TP noD Tryz.f102.results.toList K)))
noncomputable def F.rules_planOf.L1 : Code := partOf (codeOf Tryz.f102) [1, 1, 1, 1, 0, 1, 0, 0, 1, 1, 0, 0, 1, 1, 1, 0, 1, 0, 0]
noncomputable def F.rules_planOf.L1k (J : AX → St → Bool) : AX → St → Bool := (blockK 2 (seqK false (EV (partOf (codeOf Tryz.f102) [1, 1, 1, 1, 0, 1, 0, 0, 1, 1, 0, 0, 1, 1, 1, 1])) (blockK 1 (seqK false (EV (partOf (codeOf Tryz.f102) [1, 1, 1, 1, 0, 1, 0, 0, 1, 1, 1])) J))))
theorem F.rules_planOf.L0_eq : EV F.rules_planOf.L0 ⟨e, 63, [], h⟩ J = (
bindO (binS .lss (e 30) (e 29)) fun a =>
condB a (
bindO (iaS 4 (e 28) (e 30)) fun c =>
bindO (loadS (some 4) c h) fun d =>
bindO (storeS 4 (.ptr (Heap.next h) 0) d (Heap.alloc h (.cells [(.int .i64 0), (.bool false), (.str []), .nils]))) fun j =>
bindO (faS 2 (.ptr (Heap.next h) 0)) fun f =>
bindO (faS 1 f) fun g =>
bindO (loadS none g j) fun i =>
callV (e 6) fun f35 a36 a37 => semCall TP f35 (a36 ++ ([i] ++ a37)) j (outK (fun b k =>
bindO (lenS .slice b k) fun l =>
loopB (EV F.rules_planOf.L1) ⟨(setV (setV (setV (setV (setV (setV (setV (setV (setV (setV (setV (setV (setV (setV e 31 a) 32 c) 33 d) 9 (.ptr (Heap.next h) 0)) 34 (e 6)) 35 f) 36 g) 37 i) 38 b) 10 b) 11 (.int .i64 (-1))) 39 b) 40 l) 41 (.int .i64 0)), 63, [], k⟩ (F.rules_planOf.L1k J)) (fun m n => J (.panic m) ⟨(setV (setV (setV (setV (setV (setV (setV (setV e 31 a) 32 c) 33 d) 9 (.ptr (Heap.next h) 0)) 34 (e 6)) 35 f) 36 g) 37 i), 63, [], n⟩))) (
J (.exit 0) ⟨(setV e 31 a), 63, [], h⟩)) := by kernel_rfl
theorem F.rules_planOf.L0_x0_eq : F.rules_planOf.L0k K (.exit 0) ⟨e, 63, [], h⟩ = (
bindO (loadS (some 8) (e 7) h) fun a =>
bindO (storeS 8 (e 4) a h) fun b =>
bindO (resultL TP ⟨(setV e 62 a), 63, [], b⟩ Tryz.f102.results.toList) fun c => K (.ret (oneOf c)) b) := by kernel_rfl
theorem F.rules_planOf.L1_eq : EV F.rules_planOf.L1 ⟨e, 63, [], h⟩ J = (
bindO (binS .lss (e 41) (e 40)) fun b =>
condB b (
bindO (iaS 1 (e 39) (e 41)) fun c =>
bindO (loadS none c h) fun a =>
bindO (foldS true (e 11) [a]) fun d =>
bindO (binS .add (e 41) (.int .i64 1)) fun f =>
J .normal ⟨(setV (setV (setV (setV (setV (setV (setV (setV (setV (setV e 42 b) 43 c) 44 a) 13 a) 45 (e 11)) 46 a) 47 d) 11 d) 48 f) 41 f), 63, [], h⟩) (
J (.exit 2) ⟨(setV e 42 b), 63, [], h⟩)) := by kernel_rfl
theorem F.rules_planOf.L1_x2_eq : F.rules_planOf.L1k J (.exit 2) ⟨e, 63, [], h⟩ = (
bindO (faS 6 (e 7)) fun d =>
bindO (loadS none d h) fun f =>
bindO (rowS [.nils] [(0, 1)] [(e 10)]) fun a =>
bindO (faS 7 (e 7)) fun b =>
bindO (loadS none b (Heap.alloc h (.cells a))) fun c =>
bindO (rowS [(.int .i64 0)] [(0, 1)] [(e 11)]) fun n =>
bindO2 (appendS 1 24 f (.slice (Heap.next h) 0 1 1) (Heap.alloc (Heap.alloc h (.cells a)) (.cells n))) fun g i =>
if ((bindO (loadS none b i) fun o =>
AV.beq o c) && true) = true then (
bindO (faS 6 (e 7)) fun j =>
bindO2 (appendS 1 8 c (.slice (Heap.next (Heap.alloc h (.cells a))) 0 1 1) i) fun k p =>
bindO (storeS 1 j g p) fun q =>
bindO (faS 7 (e 7)) fun l =>
bindO (storeS 1 l k q) fun r =>
bindO (binS .add (e 30) (.int .i64 1)) fun m =>
J .normal ⟨(setV (setV (setV (setV (setV (setV (setV (setV (setV (setV (setV (setV (setV (setV e 49 d) 50 f) 51 (e 10)) 52 (.slice (Heap.next h) 0 1 1)) 54 b) 55 c) 56 (e 11)) 57 (.slice (Heap.next (Heap.alloc h (.cells a))) 0 1 1)) 53 g) 59 j) 58 k) 60 l) 61 m) 30 m), 63, [], r⟩) else false) := by kernel_rfl
theorem F.rules_planOf_eq : EV (codeOf Tryz.f102) ⟨mkEnv [a0, a1], 63, [], h⟩ (leaveK TP noD Tryz.f102.results.toList K) = (
bindO (boxS a1) fun o =>
bindO (loadS (some 3) (.ptr (Heap.next h) 0) (Heap.alloc (Heap.alloc h (.cells o)) (.cells [(.int .i64 0), (.str []), .nils, .nils, (.int .i64 0), .nils, .nils, .nils]))) fun v =>
semCall TP 100 [v] (Heap.alloc (Heap.alloc h (.cells o)) (.cells [(.int .i64 0), (.str []), .nils, .nils, (.int .i64 0), .nils, .nils, .nils])) (outK (fun w a =>
bindO (storeS 1 (.ptr (Heap.next a) 0) w (Heap.alloc a (.cells [.nils]))) fun c =>
bindO (loadS (some 3) (.ptr (Heap.next h) 0) c) fun p =>
bindO (loadS none (.ptr (Heap.next a) 0) c) fun n =>
bindO (lenS .slice n c) fun q =>
bindO (faS 0 (.ptr (Heap.next h) 0)) fun f =>
bindO (faS 1 f) fun g =>
bindO (loadS none g c) fun i =>
semCall TP 144 [i, (.ptr (Heap.next a) 0)] (Heap.alloc c (.cells [(.int .i64 0), (.str []), .nils, .nils, (.int .i64 0), .nils, .nils, .nils])) (outK (fun j b =>
if ((bindO (lenS .slice n b) fun r =>
AV.beq r q) && ((bindO (loadS none (.ptr (Heap.next a) 0) b) fun s =>
AV.beq s n) && ((bindO (loadS (some 3) (.ptr (Heap.next h) 0) b) fun t =>
AV.beq t p) && true))) = true then (
bindO (aggS [(.int .i64 0), (.str []), .nils, .nils, (.int .i64 0), .nils, .nils, .nils] [(0, 1), (1, 3), (4, 1), (5, 1)] [a0, p, q, j]) fun k =>
bindO (storeS 8 (.ptr (Heap.next c) 0) k b) fun d =>
bindO (faS 2 (.ptr (Heap.next h) 0)) fun l =>
bindO (loadS none l d) fun m =>
bindO (lenS .slice m d) fun u =>
loopB (EV F.rules_planOf.L0) ⟨(setV (setV (setV (setV (setV (setV (setV (setV (setV (setV (setV (setV (setV (setV (setV (setV (setV (setV (setV (setV (setV (setV (mkEnv [a0, a1]) 3 (.ptr (Heap.next h) 0)) 4 (.ptr (Heap.next (Heap.alloc h (.cells o))) 0)) 14 v) 15 w) 5 (.ptr (Heap.next a) 0)) 16 (.func 144 [] [(.ptr (Heap.next a) 0)])) 6 (.func 144 [] [(.ptr (Heap.next a) 0)])) 17 a0) 18 p) 19 n) 20 q) 21 (.func 144 [] [(.ptr (Heap.next a) 0)])) 22 f) 23 g) 24 i) 7 (.ptr (Heap.next c) 0)) 25 j) 26 k) 27 l) 28 m) 29 u) 30 (.int .i64 0)), 63, [], d⟩ (F.rules_planOf.L0k K)) else false) (fun _ _ => false))) (fun x y => K (.panic x) y))) := by kernel_rfl
theorem F.rules_planOf_sem (hh : EV (codeOf Tryz.f102) ⟨mkEnv [a0, a1], 63, [], h⟩ (leaveK TP noD Tryz.f102.results.toList K) = true) : Sem TP 102 [a0, a1] h K :=
  sem_body mixed (noD_sound _) Tryz.func102 (c := codeOf Tryz.f102) rfl (by decide) (of_decide_eq_true (by kernel_rfl)) hh
noncomputable def F.rules_planOf_1.L0 : Code := partOf (codeOf Tryz.f144) [1, 1, 0, 1, 0, 0]
noncomputable def F.rules_planOf_1.L0k (K : Out → Heap → Bool) : AX → St → Bool := (blockK 0 (seqK false (EV (partOf (codeOf Tryz.f144) [1, 1, 1])) (leaveK TP noD Tryz.f144.results.toList K)))
theorem F.rules_planOf_1.L0_eq : EV F.rules_planOf_1.L0 ⟨e, 21, [], h⟩ J = (
bindO (binS .lss (e 9) (e 8)) fun d =>
condB d (
bindO (iaS 1 (e 7) (e 9)) fun f =>
bindO (loadS none f h) fun a =>
bindO (loadS none (e 1) h) fun g =>
semCall TP 145 [g, a] h (outK (fun k i =>
bindO (rowS [(.int .i64 0)] [(0, 1)] [k]) fun l =>
bindO2 (appendS 1 8 (e 4) (.slice (Heap.next i) 0 1 1) (Heap.alloc i (.cells l))) fun b j =>
bindO (binS .add (e 9) (.int .i64 1)) fun c =>
J .normal ⟨(setV (setV (setV (setV (setV (setV (setV (setV (setV (setV (setV (setV (setV e 10 d) 11 f) 12 a) 6 a) 13 (e 4)) 14 g) 15 a) 16 k) 17 (.slice (Heap.next i) 0 1 1)) 18 b) 4 b) 19 c) 9 c), 21, [], j⟩) (fun m n => J (.panic m) ⟨(setV (setV (setV (setV (setV (setV (setV e 10 d) 11 f) 12 a) 6 a) 13 (e 4)) 14 g) 15 a), 21, [], n⟩))) (
J (.exit 0) ⟨(setV e 10 d), 21, [], h⟩)) := by kernel_rfl
theorem F.rules_planOf_1.L0_x0_eq : F.rules_planOf_1.L0k K (.exit 0) ⟨e, 21, [], h⟩ = (
K (.ret (e 4)) h) := by kernel_rfl
theorem F.rules_planOf_1_eq : EV (codeOf Tryz.f144) ⟨mkEnv [a0, a1], 21, [], h⟩ (leaveK TP noD Tryz.f144.results.toList K) = (
bindO (lenS .slice a0 h) fun a =>
loopB (EV F.rules_planOf_1.L0) ⟨(setV (setV (setV (setV (setV (mkEnv [a0, a1]) 3 .nils) 4 .nils) 7 a0) 8 a) 9 (.int .i64 0)), 21, [], h⟩ (F.rules_planOf_1.L0k K)) := by kernel_rfl
theorem F.rules_planOf_1_sem (hh : EV (codeOf Tryz.f144) ⟨mkEnv [a0, a1], 21, [], h⟩ (leaveK TP noD Tryz.f144.results.toList K) = true) : Sem TP 144 [a0, a1] h K :=
  sem_body mixed (noD_sound _) Tryz.func144 (c := codeOf Tryz.f144) rfl (by decide) (of_decide_eq_true (by kernel_rfl)) hh
noncomputable def F.rules_state_each_1.L0 : Code := partOf (codeOf Tryz.f157) [1, 0, 1, 0, 0]
noncomputable def F.rules_state_each_1.L0k (K : Out → Heap → Bool) : AX → St → Bool := (blockK 0 (seqK false (EV (partOf (codeOf Tryz.f157) [1, 1])) (leaveK TP noD Tryz.f157.results.toList K)))
theorem F.rules_state_each_1.L0_eq : EV F.rules_state_each_1.L0 ⟨e, 38, [], h⟩ J = (
bindO (binS .lss (e 12) (e 11)) fun w =>
let Q1 := (setV e 13 w); condB w (
bindO (iaS 4 (e 10) (e 12)) fun x =>
bindO (loadS (some 4) x h) fun y =>
bindO (storeS 4 (.ptr (Heap.next h) 0) y (Heap.alloc h (.cells [(.int .i64 0), (.bool false), (.str []), .nils]))) fun a =>
bindO (faS 7 (e 1)) fun z =>
bindO (loadS none z a) fun A =>
bindO (iaS 1 A (e 12)) fun i =>
bindO (loadS none i a) fun j =>
bindO (eqV (.int .i64) j (e 0)) fun b =>
let Q2 := (setV (setV (setV (setV (setV (setV (setV (setV (setV (setV (setV (setV (setV Q1 14 (e 12)) 15 x) 16 y) 7 (.ptr (Heap.next h) 0)) 6 (e 12)) 17 z) 18 A) 19 (e 12)) 20 i) 21 j) 22 (e 0)) 23 b) 24 b); condB b (
bindO (loadS none (e 2) a) fun c =>
bindO (loadS (some 4) (.ptr (Heap.next h) 0) a) fun d =>
bindO (loadS none (e 3) a) fun k =>
bindO (faS 6 (e 1)) fun l =>
bindO (loadS none l a) fun m =>
bindO (iaS 1 m (e 12)) fun n =>
bindO (loadS none n a) fun o =>
semCall TP 121 [k, o] a (outK (fun p f =>
if ((bindO (loadS (some 4) (.ptr (Heap.next h) 0) f) fun u =>
AV.beq u d) && ((bindO (loadS none (e 2) f) fun v =>
AV.beq v c) && true)) = true then (
semCall TP 158 [c, d, p] f (outK (fun q r =>
bindO (unS .not q) fun g =>
let Q3 := (setV (setV (setV (setV (setV (setV (setV (setV (setV (setV (setV (setV (setV (setV (setV (setV (setV (setV (setV (setV (setV (setV (setV Q2 24 (.bool true)) 25 c) 24 (.bool true)) 26 d) 24 (.bool true)) 27 k) 24 (.bool true)) 28 l) 24 (.bool true)) 29 m) 24 (.bool true)) 30 (e 12)) 24 (.bool true)) 31 n) 24 (.bool true)) 32 o) 24 (.bool true)) 33 p) 24 (.bool true)) 34 q) 24 (.bool true)) 35 g) 36 g); condB g (
J .ret ⟨(setV Q3 5 (.bool false)), 38, [], r⟩) (
bindO (binS .add (e 12) (.int .i64 1)) fun s =>
J .normal ⟨(setV (setV Q3 37 s) 12 s), 38, [], r⟩)) (fun _ _ => false))) else false) (fun _ _ => false))) (
bindO (binS .add (e 12) (.int .i64 1)) fun t =>
J .normal ⟨(setV (setV (setV (setV (setV (setV (setV (setV (setV (setV (setV (setV (setV (setV (setV (setV (setV (setV (setV (setV (setV (setV (setV (setV (setV Q2 24 (.bool false)) 25 noV) 24 (.bool false)) 26 noV) 24 (.bool false)) 27 noV) 24 (.bool false)) 28 noV) 24 (.bool false)) 29 noV) 24 (.bool false)) 30 noV) 24 (.bool false)) 31 noV) 24 (.bool false)) 32 noV) 24 (.bool false)) 33 noV) 24 (.bool false)) 34 noV) 24 (.bool false)) 35 noV) 36 (.bool false)) 37 t) 12 t), 38, [], a⟩)) (
J (.exit 0) ⟨Q1, 38, [], h⟩)) := by kernel_rfl
theorem F.rules_state_each_1.L0_x0_eq : F.rules_state_each_1.L0k K (.exit 0) ⟨e, 38, [], h⟩ = (
K (.ret (.bool true)) h) := by kernel_rfl
theorem F.rules_state_each_1.L0_r_eq : F.rules_state_each_1.L0k K .ret ⟨e, 38, [], h⟩ = (
K (.ret (e 5)) h) := by kernel_rfl
noncomputable def F.rules_state_each_2.L0 : Code := partOf (codeOf Tryz.f159) [1, 1, 0, 1, 0, 0]
noncomputable def F.rules_state_each_2.L0k (K : Out → Heap → Bool) : AX → St → Bool := (blockK 0 (seqK false (EV (partOf (codeOf Tryz.f159) [1, 1, 1])) (leaveK TP noD Tryz.f159.results.toList K)))
theorem F.rules_state_each_2.L0_eq : EV F.rules_state_each_2.L0 ⟨e, 39, [], h⟩ J = (
bindO (binS .lss (e 21) (e 20)) fun k =>
let Q1 := (setV e 22 k); condB k (
bindO (loadS none (e 3) h) fun a =>
bindO (iaS 1 a (e 0)) fun b =>
bindO (storeS 1 b (e 21) h) fun l =>
bindO (loadS none (e 5) l) fun c =>
callV c fun f37 a38 a39 => semCall TP f37 (a38 ++ ([(e 0)] ++ a39)) l (outK (fun d f =>
let Q2 := (setV (setV (setV (setV (setV (setV (setV (setV (setV (setV Q1 23 (e 21)) 9 (e 21)) 24 a) 25 (e 0)) 26 (e 21)) 27 b) 28 c) 29 (e 0)) 30 d) 31 d); condB d (
bindO (loadS none (e 6) f) fun g =>
bindO (binS .add (e 0) (.int .i64 1)) fun i =>
callV g fun f33 a34 a35 => semCall TP f33 (a34 ++ ([i] ++ a35)) f (outK (fun m n =>
bindO (unS .not m) fun j =>
let Q3 := (setV (setV (setV (setV (setV (setV (setV (setV (setV (setV (setV Q2 31 (.bool true)) 32 g) 31 (.bool true)) 33 (e 0)) 31 (.bool true)) 34 i) 31 (.bool true)) 35 m) 31 (.bool true)) 36 j) 37 j); condB j (
J .ret ⟨(setV Q3 8 (.bool false)), 39, [], n⟩) (
bindO (binS .add (e 21) (.int .i64 1)) fun o =>
J .normal ⟨(setV (setV Q3 38 o) 21 o), 39, [], n⟩)) (fun q r => J (.panic q) ⟨(setV (setV (setV (setV (setV (setV (setV Q2 31 (.bool true)) 32 g) 31 (.bool true)) 33 (e 0)) 31 (.bool true)) 34 i) 31 (.bool true)), 39, [], r⟩))) (
bindO (binS .add (e 21) (.int .i64 1)) fun p =>
J .normal ⟨(setV (setV (setV (setV (setV (setV (setV (setV (setV (setV (setV (setV (setV Q2 31 (.bool false)) 32 noV) 31 (.bool false)) 33 noV) 31 (.bool false)) 34 noV) 31 (.bool false)) 35 noV) 31 (.bool false)) 36 noV) 37 (.bool false)) 38 p) 21 p), 39, [], f⟩)) (fun s t => J (.panic s) ⟨(setV (setV (setV (setV (setV (setV (setV (setV Q1 23 (e 21)) 9 (e 21)) 24 a) 25 (e 0)) 26 (e 21)) 27 b) 28 c) 29 (e 0)), 39, [], t⟩))) (
J (.exit 0) ⟨Q1, 39, [], h⟩)) := by kernel_rfl
theorem F.rules_state_each_2.L0_x0_eq : F.rules_state_each_2.L0k K (.exit 0) ⟨e, 39, [], h⟩ = (
K (.ret (.bool true)) h) := by kernel_rfl
theorem F.rules_state_each_2.L0_r_eq : F.rules_state_each_2.L0k K .ret ⟨e, 39, [], h⟩ = (
K (.ret (e 8)) h) := by kernel_rfl
noncomputable def F.rules_state_solve.L0 : Code := partOf (codeOf Tryz.f103) [1, 1, 0, 0]
noncomputable def F.rules_state_solve.L0k (K : Out → Heap → Bool) : AX → St → Bool := (blockK 0 (leaveK TP noD Tryz.f103.results.toList K))
noncomputable def F.rules_state_solve.L1 : Code := partOf (codeOf Tryz.f103) [1, 1, 0, 0, 1, 0, 0, 1, 1, 0, 0]
noncomputable def F.rules_state_solve.L1k (J : AX → St → Bool) : AX → St → Bool := (blockK 2 (blockK 1 (seqK false (EV (partOf (codeOf Tryz.f103) [1, 1, 0, 0, 1, 1])) J)))
theorem F.rules_state_solve.L0_eq : EV F.rules_state_solve.L0 ⟨e, 22, [], h⟩ J = (
bindO (loadS none (e 6) h) fun a =>
condB a (
bindO (storeS 1 (e 6) (.bool false) h) fun b =>
bindO (lenS .slice (e 1) b) fun c =>
loopB (EV F.rules_state_solve.L1) ⟨(setV (setV (setV (setV e 9 a) 10 (e 1)) 11 c) 12 (.int .i64 0)), 22, [], b⟩ (F.rules_state_solve.L1k J)) (
J (.exit 0) ⟨(setV e 9 a), 22, [], h⟩)) := by kernel_rfl
theorem F.rules_state_solve.L0_x0_eq : F.rules_state_solve.L0k K (.exit 0) ⟨e, 22, [], h⟩ = (
K (.ret (.tuple [])) h) := by kernel_rfl
theorem F.rules_state_solve.L1_eq : EV F.rules_state_solve.L1 ⟨e, 22, [], h⟩ J = (
bindO (binS .lss (e 12) (e 11)) fun d =>
condB d (
bindO (iaS 8 (e 10) (e 12)) fun f =>
bindO (loadS (some 8) f h) fun g =>
bindO (storeS 8 (.ptr (Heap.next h) 0) g (Heap.alloc h (.cells [(.int .i64 0), (.str []), .nils, .nils, (.int .i64 0), .nils, .nils, .nils]))) fun i =>
bindO (loadS none (e 3) i) fun a =>
bindO (loadS (some 8) (.ptr (Heap.next h) 0) i) fun b =>
semCall TP 118 [a, b, (.func 146 [] [(.ptr (Heap.next h) 0), (e 3), (e 6), (e 5)])] i (outK (fun j k =>
bindO (binS .add (e 12) (.int .i64 1)) fun c =>
J .normal ⟨(setV (setV (setV (setV (setV (setV (setV (setV (setV (setV e 13 d) 14 f) 15 g) 8 (.ptr (Heap.next h) 0)) 16 a) 17 b) 18 (.func 146 [] [(.ptr (Heap.next h) 0), (e 3), (e 6), (e 5)])) 19 j) 20 c) 12 c), 22, [], k⟩) (fun l m => J (.panic l) ⟨(setV (setV (setV (setV (setV (setV (setV e 13 d) 14 f) 15 g) 8 (.ptr (Heap.next h) 0)) 16 a) 17 b) 18 (.func 146 [] [(.ptr (Heap.next h) 0), (e 3), (e 6), (e 5)])), 22, [], m⟩))) (
J (.exit 2) ⟨(setV e 13 d), 22, [], h⟩)) := by kernel_rfl
theorem F.rules_state_solve.L1_x2_eq : F.rules_state_solve.L1k J (.exit 2) ⟨e, 22, [], h⟩ = (
bindO (loadS none (e 6) h) fun a =>
bindO (storeS 1 (.ptr (Heap.next h) 0) a (Heap.alloc h (.cells [(.bool false)]))) fun b =>
J .normal ⟨(setV (setV e 21 a) 6 (.ptr (Heap.next h) 0)), 22, [], b⟩) := by kernel_rfl
noncomputable def F.rules_program_run.L0 : Code := partOf (codeOf Tryz.f59) [1, 0, 1, 0, 0]
noncomputable def F.rules_program_run.L0k (K : Out → Heap → Bool) : AX → St → Bool := (blockK 0 (seqK false (EV (partOf (codeOf Tryz.f59) [1, 1])) (leaveK TP noD Tryz.f59.results.toList K)))
noncomputable def F.rules_program_run.L1 : Code := partOf (codeOf Tryz.f59) [1, 1, 1, 0, 0]
noncomputable def F.rules_program_run.L1k (K : Out → Heap → Bool) : AX → St → Bool := (blockK 2 (leaveK TP noD Tryz.f59.results.toList K))
noncomputable def F.rules_program_run.L2 : Code := partOf (codeOf Tryz.f59) [1, 1, 1, 0, 0, 1, 1, 0, 0, 1, 1, 0, 1, 0, 0]
noncomputable def F.rules_program_run.L2k (J : AX → St → Bool) : AX → St → Bool := (blockK 4 (seqK false (EV (partOf (codeOf Tryz.f59) [1, 1, 1, 0, 0, 1, 1, 0, 0, 1, 1, 1])) (blockK 3 (seqK false (EV (partOf (codeOf Tryz.f59) [1, 1, 1, 0, 0, 1, 1, 1])) J))))
theorem F.rules_program_run.L0_eq : EV F.rules_program_run.L0 ⟨e, 62, [], h⟩ J = (
bindO (nextS false (e 17) h) (allNext [] (resK (fun d f =>
bindO (extractS d 0) fun g =>
condB g (
bindO (entryS (e 17) f) fun b =>
bindO (extractS b 1) fun a =>
bindO (foldS true (e 6) [a]) fun c =>
J .normal ⟨(setV (setV (setV (setV (setV (setV (setV (setV (setV e 18 d) 19 g) 20 b) 21 a) 8 a) 22 (e 6)) 23 a) 24 c) 6 c), 62, [], f⟩) (
J (.exit 0) ⟨(setV (setV e 18 d) 19 g), 62, [], f⟩)) (fun i j => J (.panic i) ⟨e, 62, [], j⟩)))) := by kernel_rfl
theorem F.rules_program_run.L0_x0_eq : F.rules_program_run.L0k K (.exit 0) ⟨e, 62, [], h⟩ = (
bindO (binS .add (e 6) (.int .i64 1)) fun a =>
loopB (EV F.rules_program_run.L1) ⟨(setV (setV (setV e 25 (e 6)) 26 a) 27 (.int .i64 0)), 62, [], h⟩ (F.rules_program_run.L1k K)) := by kernel_rfl
theorem F.rules_program_run.L1_eq : EV F.rules_program_run.L1 ⟨e, 62, [], h⟩ J = (
bindO (binS .lss (e 27) (e 26)) fun a =>
condB a (
bindO (nilCheckS (e 0)) fun b =>
bindO (faS 0 b) fun c =>
bindO (loadS none c h) fun d =>
bindO (lenS .slice d h) fun f =>
loopB (EV F.rules_program_run.L2) ⟨(setV (setV (setV (setV (setV (setV (setV (setV (setV (setV e 28 a) 29 (e 27)) 9 (e 27)) 10 .nils) 30 (e 0)) 31 b) 32 c) 33 d) 34 f) 35 (.int .i64 0)), 62, [], h⟩ (F.rules_program_run.L2k J)) (
J (.exit 2) ⟨(setV e 28 a), 62, [], h⟩)) := by kernel_rfl
theorem F.rules_program_run.L1_x2_eq : F.rules_program_run.L1k K (.exit 2) ⟨e, 62, [], h⟩ = (
K (.ret (.tuple [])) h) := by kernel_rfl
theorem F.rules_program_run.L2_eq : EV F.rules_program_run.L2 ⟨e, 62, [], h⟩ J = (
bindO (binS .lss (e 35) (e 34)) fun d =>
let Q1 := (setV e 36 d); condB d (
bindO (iaS 3 (e 33) (e 35)) fun f =>
bindO (loadS (some 3) f h) fun g =>
bindO (storeS 3 (.ptr (Heap.next h) 0) g (Heap.alloc h (.cells [(.str []), .nils, .nils]))) fun a =>
bindO (nilCheckS (e 0)) fun i =>
bindO (faS 2 i) fun j =>
bindO (loadS none j a) fun k =>
bindO (faS 0 (.ptr (Heap.next h) 0)) fun l =>
bindO (faS 0 l) fun m =>
bindO (loadS none m a) fun n =>
bindO (lookupS .string (.int .i64 0) false k n a) fun o =>
bindO (eqV (.int .i64) o (e 9)) fun p =>
let Q2 := (setV (setV (setV (setV (setV (setV (setV (setV (setV (setV (setV (setV (setV (setV (setV Q1 37 (e 35)) 38 f) 39 g) 12 (.ptr (Heap.next h) 0)) 11 (e 35)) 40 (e 0)) 41 i) 42 j) 43 k) 44 l) 45 m) 46 n) 47 o) 48 (e 9)) 49 p); condB p (
bindO (loadS (some 3) (.ptr (Heap.next h) 0) a) fun b =>
semCall TP 102 [(e 35), b] a (outK (fun q c =>
bindO (rowS [(.int .i64 0), (.str []), .nils, .nils, (.int .i64 0), .nils, .nils, .nils] [(0, 8)] [q]) fun u =>
bindO2 (appendS 8 152 (e 10) (.slice (Heap.next c) 0 1 8) (Heap.alloc c (.cells u))) fun r v =>
bindO (binS .add (e 35) (.int .i64 1)) fun s =>
J .normal ⟨(setV (setV (setV (setV (setV (setV (setV (setV (setV Q2 50 (e 10)) 51 (e 35)) 52 b) 53 q) 54 (.slice (Heap.next c) 0 1 8)) 55 r) 10 r) 56 s) 35 s), 62, [], v⟩) (fun w x => J (.panic w) ⟨(setV (setV (setV Q2 50 (e 10)) 51 (e 35)) 52 b), 62, [], x⟩))) (
bindO (binS .add (e 35) (.int .i64 1)) fun t =>
J .normal ⟨(setV (setV Q2 56 t) 35 t), 62, [], a⟩)) (
J (.exit 4) ⟨Q1, 62, [], h⟩)) := by kernel_rfl
theorem F.rules_program_run.L2_x4_eq : F.rules_program_run.L2k J (.exit 4) ⟨e, 62, [], h⟩ = (
semCall TP 103 [(e 1), (e 10), (e 2)] h (outK (fun b c =>
bindO (binS .add (e 27) (.int .i64 1)) fun a =>
J .normal ⟨(setV (setV (setV (setV (setV (setV e 57 (e 1)) 58 (e 10)) 59 (e 2)) 60 b) 61 a) 27 a), 62, [], c⟩) (fun d f => J (.panic d) ⟨(setV (setV (setV e 57 (e 1)) 58 (e 10)) 59 (e 2)), 62, [], f⟩))) := by kernel_rfl
noncomputable def F.rules_started.L0 : Code := partOf (codeOf Tryz.f58) [1, 1, 1, 0, 1, 0, 0]
noncomputable def F.rules_started.L0k (K : Out → Heap → Bool) : AX → St → Bool := (blockK 0 (seqK false (EV (partOf (codeOf Tryz.f58) [1, 1, 1, 1])) (leaveK TP noD Tryz.f58.results.toList K)))
noncomputable def F.rules_started.L1 : Code := partOf (codeOf Tryz.f58) [1, 1, 1, 1, 0, 1, 0, 0]
noncomputable def F.rules_started.L1k (K : Out → Heap → Bool) : AX → St → Bool := (blockK 2 (seqK false (EV (partOf (codeOf Tryz.f58) [1, 1, 1, 1, 1])) (leaveK TP noD Tryz.f58.results.toList K)))
noncomputable def F.rules_started.L2 : Code := partOf (codeOf Tryz.f58) [1, 1, 1, 1, 1, 1, 1, 0, 1, 0, 0]
noncomputable def F.rules_started.L2k (K : Out → Heap → Bool) : AX → St → Bool := (blockK 4 (seqK false (EV (partOf (codeOf Tryz.f58) [1, 1, 1, 1, 1, 1, 1, 1])) (leaveK TP noD Tryz.f58.results.toList K)))
noncomputable def F.rules_started.L3 : Code := partOf (codeOf Tryz.f58) [1, 1, 1, 1, 1, 1, 1, 1, 0, 1, 0, 0]
noncomputable def F.rules_started.L3k (K : Out → Heap → Bool) : AX → St → Bool := (blockK 6 (seqK false (EV (partOf (codeOf Tryz.f58) [1, 1, 1, 1, 1, 1, 1, 1, 1])) (leaveK TP noD Tryz.f58.results.toList K)))
noncomputable def F.rules_started.L4 : Code := partOf (codeOf Tryz.f58) [1, 1, 1, 1, 1, 1, 1, 1, 0, 1, 0, 0, 1, 1, 0, 0, 1, 1, 1, 0, 0]
noncomputable def F.rules_started.L4k (J : AX → St → Bool) : AX → St → Bool := (blockK 8 (blockK 7 (seqK false (EV (partOf (codeOf Tryz.f58) [1, 1, 1, 1, 1, 1, 1, 1, 0, 1, 0, 0, 1, 1, 1])) J)))
theorem F.rules_started.L0_eq : EV F.rules_started.L0 ⟨e, 198, [], h⟩ J = (
bindO (nextS false (e 46) h) (allNext [] (resK (fun l a =>
bindO (extractS l 0) fun m =>
let Q1 := (setV (setV e 47 l) 48 m); condB m (
bindO (entryS (e 46) a) fun g =>
bindO (extractS g 0) fun b =>
bindO (extractS g 1) fun c =>
bindO (nilCheckS (e 7)) fun n =>
bindO (faS 2 n) fun o =>
bindO (loadS none o a) fun p =>
bindO (lookupS .string (.int .i64 0) true p b a) fun d =>
bindO (extractS d 0) fun q =>
bindO (extractS d 1) fun f =>
bindO (unS .not f) fun i =>
let Q2 := (setV (setV (setV (setV (setV (setV (setV (setV (setV (setV (setV (setV (setV (setV (setV (setV (setV (setV (setV Q1 49 g) 50 b) 51 c) 9 b) 10 c) 53 (e 7)) 54 n) 55 o) 56 p) 57 b) 58 d) 52 d) 59 q) 60 f) 11 q) 12 f) 61 f) 62 i) 63 i); condB i (
bindO (loadS (some 2) (e 3) a) fun j =>
semCall TP 53 [j, b, c] a (outK (fun r s =>
bindO (binS .lss r (.int .i64 0)) fun k =>
let Q3 := (setV (setV (setV (setV (setV (setV (setV (setV (setV (setV (setV Q2 63 (.bool true)) 64 j) 63 (.bool true)) 65 b) 63 (.bool true)) 66 c) 63 (.bool true)) 67 r) 63 (.bool true)) 68 k) 69 k); condB k (
J .ret ⟨(setV (setV (setV Q3 4 .nilp) 5 .nilp) 6 (.int .i64 4)), 198, [], s⟩) (
J .normal ⟨Q3, 198, [], s⟩)) (fun t u => J (.panic t) ⟨(setV (setV (setV (setV (setV (setV (setV Q2 63 (.bool true)) 64 j) 63 (.bool true)) 65 b) 63 (.bool true)) 66 c) 63 (.bool true)), 198, [], u⟩))) (
J .normal ⟨(setV (setV (setV (setV (setV (setV (setV (setV (setV (setV (setV Q2 63 (.bool false)) 64 noV) 63 (.bool false)) 65 noV) 63 (.bool false)) 66 noV) 63 (.bool false)) 67 noV) 63 (.bool false)) 68 noV) 69 (.bool false)), 198, [], a⟩)) (
J (.exit 0) ⟨Q1, 198, [], a⟩)) (fun v w => J (.panic v) ⟨e, 198, [], w⟩)))) := by kernel_rfl
theorem F.rules_started.L0_x0_eq : F.rules_started.L0k K (.exit 0) ⟨e, 198, [], h⟩ = (
bindO (faS 1 (e 3)) fun a =>
bindO (loadS none a h) fun b =>
bindO (lenS .slice b h) fun c =>
loopB (EV F.rules_started.L1) ⟨(setV (setV (setV (setV e 70 a) 71 b) 72 c) 73 (.int .i64 0)), 198, [], h⟩ (F.rules_started.L1k K)) := by kernel_rfl
theorem F.rules_started.L0_r_eq : F.rules_started.L0k K .ret ⟨e, 198, [], h⟩ = (
K (.ret (.tuple [(e 4), (e 5), (e 6)])) h) := by kernel_rfl
theorem F.rules_started.L1_eq : EV F.rules_started.L1 ⟨e, 198, [], h⟩ J = (
bindO (binS .lss (e 73) (e 72)) fun d =>
condB d (
bindO (iaS 3 (e 71) (e 73)) fun f =>
bindO (loadS (some 3) f h) fun g =>
bindO (storeS 3 (.ptr (Heap.next h) 0) g (Heap.alloc h (.cells [(.str []), (.int .i64 0), .nils]))) fun a =>
bindO (nilCheckS (e 7)) fun i =>
bindO (faS 2 i) fun j =>
bindO (loadS none j a) fun k =>
bindO (faS 0 (.ptr (Heap.next h) 0)) fun l =>
bindO (loadS none l a) fun m =>
bindO (lookupS .string (.int .i64 0) true k m a) fun b =>
bindO (extractS b 0) fun n =>
bindO (extractS b 1) fun c =>
let Q1 := (setV (setV (setV (setV (setV (setV (setV (setV (setV (setV (setV (setV (setV (setV (setV (setV (setV e 74 d) 75 f) 76 g) 14 (.ptr (Heap.next h) 0)) 78 (e 7)) 79 i) 80 j) 81 k) 82 l) 83 m) 84 b) 77 b) 85 n) 86 c) 15 n) 16 c) 87 c); condB c (
J .ret ⟨(setV (setV (setV Q1 4 .nilp) 5 .nilp) 6 (.int .i64 4)), 198, [], a⟩) (
bindO (binS .add (e 73) (.int .i64 1)) fun o =>
J .normal ⟨(setV (setV Q1 88 o) 73 o), 198, [], a⟩)) (
J (.exit 2) ⟨(setV e 74 d), 198, [], h⟩)) := by kernel_rfl
theorem F.rules_started.L1_x2_eq : F.rules_started.L1k K (.exit 2) ⟨e, 198, [], h⟩ = (
bindO (faS 1 (e 3)) fun a =>
bindO (loadS none a h) fun b =>
bindO (lenS .slice b h) fun c =>
bindO (nilCheckS (e 7)) fun d =>
bindO (faS 2 d) fun f =>
bindO (loadS none f h) fun g =>
bindO (lenS .map g h) fun i =>
bindO (binS .add c i) fun j =>
bindO (binS .gtr j (.int .i64 8)) fun k =>
condB k (
K (.ret (.tuple [.nilp, .nilp, (.int .i64 5)])) h) (
bindO (faS 0 (e 3)) fun l =>
bindO (loadS none l h) fun m =>
bindO (aggS [(.int .i64 0), .nilm] [(0, 1), (1, 1)] [m, (.map (Heap.next h))]) fun n =>
bindO (boxS n) fun o =>
bindO (nilCheckS (e 7)) fun p =>
bindO (faS 2 p) fun q =>
bindO (loadS none q (Heap.alloc (Heap.alloc h (.map [] 0)) (.cells o))) fun r =>
bindO2 (rangeS .map r (Heap.alloc (Heap.alloc h (.map [] 0)) (.cells o))) fun s t =>
loopB (EV F.rules_started.L2) ⟨(setV (setV (setV (setV (setV (setV (setV (setV (setV (setV (setV (setV (setV (setV (setV (setV (setV (setV (setV (setV (setV e 89 a) 90 b) 91 c) 92 (e 7)) 93 d) 94 f) 95 g) 96 i) 97 j) 98 k) 99 l) 100 m) 101 (.map (Heap.next h))) 102 n) 103 (.ptr (Heap.next (Heap.alloc h (.map [] 0))) 0)) 17 (.ptr (Heap.next (Heap.alloc h (.map [] 0))) 0)) 104 (e 7)) 105 p) 106 q) 107 r) 108 s), 198, [], t⟩ (F.rules_started.L2k K))) := by kernel_rfl
theorem F.rules_started.L1_r_eq : F.rules_started.L1k K .ret ⟨e, 198, [], h⟩ = (
K (.ret (.tuple [(e 4), (e 5), (e 6)])) h) := by kernel_rfl
theorem F.rules_started.L2_eq : EV F.rules_started.L2 ⟨e, 198, [], h⟩ J = (
bindO (nextS false (e 108) h) (allNext [] (resK (fun i a =>
bindO (extractS i 0) fun j =>
let Q1 := (setV (setV e 109 i) 110 j); condB j (
bindO (entryS (e 108) a) fun k =>
bindO (extractS k 0) fun b =>
bindO (faS 0 (e 3)) fun l =>
bindO (loadS none l a) fun m =>
bindO (nilCheckS (e 7)) fun n =>
bindO (faS 1 n) fun o =>
bindO (loadS none o a) fun p =>
bindO (lookupS .string (.int .i64 0) false p b a) fun q =>
semCall TP 99 [m, q] a (outK (fun d g =>
bindO (extractS d 0) fun c =>
bindO (extractS d 1) fun f =>
bindO (neV (.int .i64) f (.int .i64 0)) fun r =>
let Q2 := (setV (setV (setV (setV (setV (setV (setV (setV (setV (setV (setV (setV (setV (setV (setV (setV (setV (setV (setV Q1 111 k) 112 b) 18 b) 114 l) 115 m) 116 (e 7)) 117 n) 118 o) 119 p) 120 b) 121 q) 122 d) 113 d) 123 c) 124 f) 19 c) 20 f) 125 f) 126 r); condB r (
J .ret ⟨(setV (setV (setV Q2 4 .nilp) 5 .nilp) 6 (.int .i64 5)), 198, [], g⟩) (
bindO (nilCheckS (e 17)) fun s =>
bindO (faS 1 s) fun t =>
bindO (loadS none t g) fun u =>
bindO2 (makeSliceS 1 1 [(.bool false)] c c g) fun v w =>
bindO (mapUpdateS .string u b v w) fun x =>
J .normal ⟨(setV (setV (setV (setV (setV (setV (setV Q2 127 (e 17)) 128 s) 129 t) 130 u) 131 b) 132 c) 133 v), 198, [], x⟩)) (fun _ _ => false))) (
J (.exit 4) ⟨Q1, 198, [], a⟩)) (fun y z => J (.panic y) ⟨e, 198, [], z⟩)))) := by kernel_rfl
theorem F.rules_started.L2_x4_eq : F.rules_started.L2k K (.exit 4) ⟨e, 198, [], h⟩ = (
bindO (lenS .slice (e 0) h) fun a =>
loopB (EV F.rules_started.L3) ⟨(setV (setV (setV e 134 (e 0)) 135 a) 136 (.int .i64 0)), 198, [], h⟩ (F.rules_started.L3k K)) := by kernel_rfl
theorem F.rules_started.L2_r_eq : F.rules_started.L2k K .ret ⟨e, 198, [], h⟩ = (
K (.ret (.tuple [(e 4), (e 5), (e 6)])) h) := by kernel_rfl
noncomputable def F.rules_Run.L0 : Code := partOf (codeOf Tryz.f19) [1, 1, 1, 1, 1, 0, 1, 0, 0]
noncomputable def F.rules_Run.L0k (K : Out → Heap → Bool) : AX → St → Bool := (blockK 0 (seqK false (EV (partOf (codeOf Tryz.f19) [1, 1, 1, 1, 1, 1])) (leaveK TP noD Tryz.f19.results.toList K)))
noncomputable def F.rules_Run.L1 : Code := partOf (codeOf Tryz.f19) [1, 1, 1, 1, 1, 0, 1, 0, 0, 1, 1, 0, 0, 1, 1, 0, 1, 0, 0]
noncomputable def F.rules_Run.L1k (J : AX → St → Bool) : AX → St → Bool := (blockK 2 (seqK false (EV (partOf (codeOf Tryz.f19) [1, 1, 1, 1, 1, 0, 1, 0, 0, 1, 1, 0, 0, 1, 1, 1])) (blockK 1 (seqK false (EV (partOf (codeOf Tryz.f19) [1, 1, 1, 1, 1, 0, 1, 0, 0, 1, 1, 1])) J))))
theorem F.rules_Run.L0_eq : EV F.rules_Run.L0 ⟨e, 89, [], h⟩ J = (
bindO (binS .lss (e 40) (e 39)) fun c =>
condB c (
bindO (iaS 1 (e 38) (e 40)) fun d =>
bindO (loadS none d h) fun a =>
bindO (nilCheckS (e 6)) fun f =>
bindO (faS 1 f) fun g =>
bindO (loadS none g h) fun i =>
bindO (lookupS .string (.int .i64 0) false i a h) fun j =>
bindO (aggS [(.str []), (.int .i64 0), .nils] [(0, 1), (1, 1)] [a, j]) fun k =>
bindO (storeS 3 (.ptr (Heap.next h) 0) k (Heap.alloc h (.cells [(.str []), (.int .i64 0), .nils]))) fun b =>
bindO (nilCheckS (e 7)) fun l =>
bindO (faS 1 l) fun m =>
bindO (loadS none m b) fun n =>
bindO (lookupS .string .nils false n a b) fun o =>
bindO (lenS .slice o b) fun p =>
loopB (EV F.rules_Run.L1) ⟨(setV (setV (setV (setV (setV (setV (setV (setV (setV (setV (setV (setV (setV (setV (setV (setV (setV (setV (setV (setV (setV e 41 c) 42 d) 43 a) 11 a) 44 a) 45 (e 6)) 46 f) 47 g) 48 i) 49 a) 50 j) 51 k) 12 (.ptr (Heap.next h) 0)) 52 (e 7)) 53 l) 54 m) 55 n) 56 a) 57 o) 58 p) 59 (.int .i64 0)), 89, [], b⟩ (F.rules_Run.L1k J)) (
J (.exit 0) ⟨(setV e 41 c), 89, [], h⟩)) := by kernel_rfl
theorem F.rules_Run.L0_x0_eq : F.rules_Run.L0k K (.exit 0) ⟨e, 89, [], h⟩ = (
bindO (loadS (some 2) (e 9) h) fun a =>
bindO (storeS 2 (e 4) a h) fun b =>
bindO (resultL TP ⟨(setV (setV e 88 a) 5 (.int .i64 0)), 89, [], b⟩ Tryz.f19.results.toList) fun c => K (.ret (oneOf c)) b) := by kernel_rfl
theorem F.rules_Run.L1_eq : EV F.rules_Run.L1 ⟨e, 89, [], h⟩ J = (
bindO (binS .lss (e 59) (e 58)) fun k =>
let Q1 := (setV e 60 k); condB k (
bindO (iaS 1 (e 57) (e 59)) fun l =>
bindO (loadS none l h) fun a =>
let Q2 := (setV (setV (setV (setV (setV (setV Q1 61 (e 59)) 62 l) 63 a) 13 (e 59)) 14 a) 64 a); condB a (
bindO (faS 0 (e 3)) fun f =>
bindO (loadS none f h) fun g =>
bindO (faS 1 (e 12)) fun i =>
bindO (loadS none i h) fun j =>
semCall TP 63 [g, j, (e 59)] h (outK (fun b c =>
bindO (extractS b 0) fun d =>
bindO (extractS b 1) fun m =>
bindO (faS 2 (e 12)) fun n =>
bindO (loadS none n c) fun o =>
bindO (rowS [.nils] [(0, 1)] [d]) fun t =>
bindO2 (appendS 1 24 o (.slice (Heap.next c) 0 1 1) (Heap.alloc c (.cells t))) fun p u =>
bindO (faS 2 (e 12)) fun q =>
bindO (storeS 1 q p u) fun v =>
bindO (binS .add (e 59) (.int .i64 1)) fun r =>
J .normal ⟨(setV (setV (setV (setV (setV (setV (setV (setV (setV (setV (setV (setV (setV (setV (setV (setV (setV (setV (setV Q2 66 f) 67 g) 68 i) 69 j) 70 (e 59)) 71 b) 65 b) 72 d) 73 m) 15 d) 16 m) 74 n) 75 o) 76 d) 77 (.slice (Heap.next c) 0 1 1)) 78 p) 79 q) 80 r) 59 r), 89, [], v⟩) (fun w x => J (.panic w) ⟨(setV (setV (setV (setV (setV Q2 66 f) 67 g) 68 i) 69 j) 70 (e 59)), 89, [], x⟩))) (
bindO (binS .add (e 59) (.int .i64 1)) fun s =>
J .normal ⟨(setV (setV Q2 80 s) 59 s), 89, [], h⟩)) (
J (.exit 2) ⟨Q1, 89, [], h⟩)) := by kernel_rfl
theorem F.rules_Run.L1_x2_eq : F.rules_Run.L1k J (.exit 2) ⟨e, 89, [], h⟩ = (
bindO (faS 1 (e 9)) fun a =>
bindO (loadS none a h) fun b =>
bindO (loadS (some 3) (e 12) h) fun c =>
bindO (rowS [(.str []), (.int .i64 0), .nils] [(0, 3)] [c]) fun i =>
bindO2 (appendS 3 48 b (.slice (Heap.next h) 0 1 3) (Heap.alloc h (.cells i))) fun d j =>
bindO (faS 1 (e 9)) fun f =>
bindO (storeS 1 f d j) fun k =>
bindO (binS .add (e 40) (.int .i64 1)) fun g =>
J .normal ⟨(setV (setV (setV (setV (setV (setV (setV (setV e 81 a) 82 b) 83 c) 84 (.slice (Heap.next h) 0 1 3)) 85 d) 86 f) 87 g) 40 g), 89, [], k⟩) := by kernel_rfl
end
end Go.AM
namespace Go.AM
open Go
noncomputable section
def sA0 : List AV := [(.int .u8 80)]
def sR0 : AV := (.bool true)
theorem stage0 : evalFn TP F0 D0 200 130 sA0 Heap.empty (pureK true 20 sR0) = true := by kernel_rfl
def sA1 : List AV := [(.int .u8 40)]
def sR1 : AV := (.bool false)
theorem stage1 : evalFn TP F0 D0 200 130 sA1 Heap.empty (pureK true 20 sR1) = true := by kernel_rfl
def sA2 : List AV := [(.int .u8 120)]
def sR2 : AV := (.bool true)
theorem stage2 : evalFn TP F0 D0 200 130 sA2 Heap.empty (pureK true 20 sR2) = true := by kernel_rfl
def sA3 : List AV := [(.int .u8 32)]
def sR3 : AV := (.bool false)
theorem stage3 : evalFn TP F0 D0 200 130 sA3 Heap.empty (pureK true 20 sR3) = true := by kernel_rfl
def sA4 : List AV := [(.int .u8 121)]
def sR4 : AV := (.bool true)
theorem stage4 : evalFn TP F0 D0 200 130 sA4 Heap.empty (pureK true 20 sR4) = true := by kernel_rfl
def sA5 : List AV := [(.int .u8 41)]
def sR5 : AV := (.bool false)
theorem stage5 : evalFn TP F0 D0 200 130 sA5 Heap.empty (pureK true 20 sR5) = true := by kernel_rfl
def sA6 : List AV := [(.int .u8 58)]
def sR6 : AV := (.bool false)
theorem stage6 : evalFn TP F0 D0 200 130 sA6 Heap.empty (pureK true 20 sR6) = true := by kernel_rfl
def sA7 : List AV := [(.int .u8 69)]
def sR7 : AV := (.bool true)
theorem stage7 : evalFn TP F0 D0 200 130 sA7 Heap.empty (pureK true 20 sR7) = true := by kernel_rfl
def sA8 : List AV := [(.int .u8 46)]
def sR8 : AV := (.bool false)
theorem stage8 : evalFn TP F0 D0 200 130 sA8 Heap.empty (pureK true 20 sR8) = true := by kernel_rfl
def sA9 : List AV := [(.int .u8 122)]
def sR9 : AV := (.bool true)
theorem stage9 : evalFn TP F0 D0 200 130 sA9 Heap.empty (pureK true 20 sR9) = true := by kernel_rfl
def sA10 : List AV := [(.int .u8 44)]
def sR10 : AV := (.bool false)
theorem stage10 : evalFn TP F0 D0 200 130 sA10 Heap.empty (pureK true 20 sR10) = true := by kernel_rfl
def sA25 : List AV := [(.agg [(.int .i64 3), (.islice [(.str [69]), (.int .i64 2), (.islice [(.islice [(.int .i64 0), (.int .i64 1)] 0 2 1), (.islice [(.int .i64 1), (.int .i64 2)] 0 2 1)] 0 2 1)] 0 1 3)]), (.str [69]), (.int .i64 2)]
def sR25 : AV := (.int .i64 0)
theorem stage25 : evalFn TP F0 D0 200 53 sA25 Heap.empty (pureK true 20 sR25) = true := by kernel_rfl
def sA26 : List AV := [(.int .i64 3), (.int .i64 2)]
def sR26 : AV := (.tuple [(.int .i64 9), (.int .i64 0)])
theorem stage26 : evalFn TP F0 D0 200 99 sA26 Heap.empty (pureK true 20 sR26) = true := by kernel_rfl
def sA29 : List AV := [(.islice [(.int .i64 0), (.int .i64 0)] 0 2 1), (.islice [(.int .i64 0), (.int .i64 1)] 0 2 1)]
def sR29 : AV := (.islice [(.int .i64 0), (.int .i64 0)] 0 2 1)
theorem stage29 : evalFn TP F0 D0 200 121 sA29 Heap.empty (pureK false 20 sR29) = true := by kernel_rfl
def sA30 : List AV := [(.islice [(.int .i64 0), (.int .i64 1)] 0 2 1), (.islice [(.int .i64 0), (.int .i64 1)] 0 2 1)]
def sR30 : AV := (.islice [(.int .i64 0), (.int .i64 1)] 0 2 1)
theorem stage30 : evalFn TP F0 D0 200 121 sA30 Heap.empty (pureK false 20 sR30) = true := by kernel_rfl
def sA31 : List AV := [(.islice [(.int .i64 0), (.int .i64 2)] 0 2 1), (.islice [(.int .i64 0), (.int .i64 1)] 0 2 1)]
def sR31 : AV := (.islice [(.int .i64 0), (.int .i64 2)] 0 2 1)
theorem stage31 : evalFn TP F0 D0 200 121 sA31 Heap.empty (pureK false 20 sR31) = true := by kernel_rfl
def sA32 : List AV := [(.islice [(.int .i64 1), (.int .i64 0)] 0 2 1), (.islice [(.int .i64 0), (.int .i64 1)] 0 2 1)]
def sR32 : AV := (.islice [(.int .i64 1), (.int .i64 0)] 0 2 1)
theorem stage32 : evalFn TP F0 D0 200 121 sA32 Heap.empty (pureK false 20 sR32) = true := by kernel_rfl
def sA33 : List AV := [(.islice [(.int .i64 1), (.int .i64 1)] 0 2 1), (.islice [(.int .i64 0), (.int .i64 1)] 0 2 1)]
def sR33 : AV := (.islice [(.int .i64 1), (.int .i64 1)] 0 2 1)
theorem stage33 : evalFn TP F0 D0 200 121 sA33 Heap.empty (pureK false 20 sR33) = true := by kernel_rfl
def sA34 : List AV := [(.islice [(.int .i64 1), (.int .i64 2)] 0 2 1), (.islice [(.int .i64 0), (.int .i64 1)] 0 2 1)]
def sR34 : AV := (.islice [(.int .i64 1), (.int .i64 2)] 0 2 1)
theorem stage34 : evalFn TP F0 D0 200 121 sA34 Heap.empty (pureK false 20 sR34) = true := by kernel_rfl
def sA35 : List AV := [(.islice [(.int .i64 2), (.int .i64 0)] 0 2 1), (.islice [(.int .i64 0), (.int .i64 1)] 0 2 1)]
def sR35 : AV := (.islice [(.int .i64 2), (.int .i64 0)] 0 2 1)
theorem stage35 : evalFn TP F0 D0 200 121 sA35 Heap.empty (pureK false 20 sR35) = true := by kernel_rfl
def sA36 : List AV := [(.islice [(.int .i64 2), (.int .i64 1)] 0 2 1), (.islice [(.int .i64 0), (.int .i64 1)] 0 2 1)]
def sR36 : AV := (.islice [(.int .i64 2), (.int .i64 1)] 0 2 1)
theorem stage36 : evalFn TP F0 D0 200 121 sA36 Heap.empty (pureK false 20 sR36) = true := by kernel_rfl
def sA37 : List AV := [(.islice [(.int .i64 2), (.int .i64 2)] 0 2 1), (.islice [(.int .i64 0), (.int .i64 1)] 0 2 1)]
def sR37 : AV := (.islice [(.int .i64 2), (.int .i64 2)] 0 2 1)
theorem stage37 : evalFn TP F0 D0 200 121 sA37 Heap.empty (pureK false 20 sR37) = true := by kernel_rfl
def sA38 : List AV := [(.islice [(.int .i64 0), (.int .i64 0), (.int .i64 0)] 0 3 1), (.islice [(.int .i64 0), (.int .i64 2)] 0 2 1)]
def sR38 : AV := (.islice [(.int .i64 0), (.int .i64 0)] 0 2 1)
theorem stage38 : evalFn TP F0 D0 200 121 sA38 Heap.empty (pureK false 20 sR38) = true := by kernel_rfl
def sA39 : List AV := [(.islice [(.int .i64 0), (.int .i64 0), (.int .i64 1)] 0 3 1), (.islice [(.int .i64 0), (.int .i64 2)] 0 2 1)]
def sR39 : AV := (.islice [(.int .i64 0), (.int .i64 1)] 0 2 1)
theorem stage39 : evalFn TP F0 D0 200 121 sA39 Heap.empty (pureK false 20 sR39) = true := by kernel_rfl
def sA40 : List AV := [(.islice [(.int .i64 0), (.int .i64 0), (.int .i64 1)] 0 3 1), (.islice [(.int .i64 2), (.int .i64 1)] 0 2 1)]
def sR40 : AV := (.islice [(.int .i64 1), (.int .i64 0)] 0 2 1)
theorem stage40 : evalFn TP F0 D0 200 121 sA40 Heap.empty (pureK false 20 sR40) = true := by kernel_rfl
def sA41 : List AV := [(.islice [(.int .i64 0), (.int .i64 0), (.int .i64 2)] 0 3 1), (.islice [(.int .i64 0), (.int .i64 2)] 0 2 1)]
def sR41 : AV := (.islice [(.int .i64 0), (.int .i64 2)] 0 2 1)
theorem stage41 : evalFn TP F0 D0 200 121 sA41 Heap.empty (pureK false 20 sR41) = true := by kernel_rfl
def sA42 : List AV := [(.islice [(.int .i64 0), (.int .i64 1), (.int .i64 0)] 0 3 1), (.islice [(.int .i64 0), (.int .i64 2)] 0 2 1)]
def sR42 : AV := (.islice [(.int .i64 0), (.int .i64 0)] 0 2 1)
theorem stage42 : evalFn TP F0 D0 200 121 sA42 Heap.empty (pureK false 20 sR42) = true := by kernel_rfl
def sA43 : List AV := [(.islice [(.int .i64 0), (.int .i64 1), (.int .i64 1)] 0 3 1), (.islice [(.int .i64 0), (.int .i64 2)] 0 2 1)]
def sR43 : AV := (.islice [(.int .i64 0), (.int .i64 1)] 0 2 1)
theorem stage43 : evalFn TP F0 D0 200 121 sA43 Heap.empty (pureK false 20 sR43) = true := by kernel_rfl
def sA44 : List AV := [(.islice [(.int .i64 0), (.int .i64 1), (.int .i64 1)] 0 3 1), (.islice [(.int .i64 2), (.int .i64 1)] 0 2 1)]
def sR44 : AV := (.islice [(.int .i64 1), (.int .i64 1)] 0 2 1)
theorem stage44 : evalFn TP F0 D0 200 121 sA44 Heap.empty (pureK false 20 sR44) = true := by kernel_rfl
def sA45 : List AV := [(.islice [(.int .i64 0), (.int .i64 1), (.int .i64 2)] 0 3 1), (.islice [(.int .i64 0), (.int .i64 2)] 0 2 1)]
def sR45 : AV := (.islice [(.int .i64 0), (.int .i64 2)] 0 2 1)
theorem stage45 : evalFn TP F0 D0 200 121 sA45 Heap.empty (pureK false 20 sR45) = true := by kernel_rfl
def sA46 : List AV := [(.islice [(.int .i64 0), (.int .i64 2), (.int .i64 0)] 0 3 1), (.islice [(.int .i64 0), (.int .i64 2)] 0 2 1)]
def sR46 : AV := (.islice [(.int .i64 0), (.int .i64 0)] 0 2 1)
theorem stage46 : evalFn TP F0 D0 200 121 sA46 Heap.empty (pureK false 20 sR46) = true := by kernel_rfl
def sA47 : List AV := [(.islice [(.int .i64 0), (.int .i64 2), (.int .i64 1)] 0 3 1), (.islice [(.int .i64 0), (.int .i64 2)] 0 2 1)]
def sR47 : AV := (.islice [(.int .i64 0), (.int .i64 1)] 0 2 1)
theorem stage47 : evalFn TP F0 D0 200 121 sA47 Heap.empty (pureK false 20 sR47) = true := by kernel_rfl
def sA48 : List AV := [(.islice [(.int .i64 0), (.int .i64 2), (.int .i64 1)] 0 3 1), (.islice [(.int .i64 2), (.int .i64 1)] 0 2 1)]
def sR48 : AV := (.islice [(.int .i64 1), (.int .i64 2)] 0 2 1)
theorem stage48 : evalFn TP F0 D0 200 121 sA48 Heap.empty (pureK false 20 sR48) = true := by kernel_rfl
def sA49 : List AV := [(.islice [(.int .i64 0), (.int .i64 2), (.int .i64 1)] 0 3 1), (.islice [(.int .i64 0), (.int .i64 1)] 0 2 1)]
def sR49 : AV := (.islice [(.int .i64 0), (.int .i64 2)] 0 2 1)
theorem stage49 : evalFn TP F0 D0 200 121 sA49 Heap.empty (pureK false 20 sR49) = true := by kernel_rfl
def sA50 : List AV := [(.islice [(.int .i64 0), (.int .i64 2), (.int .i64 2)] 0 3 1), (.islice [(.int .i64 0), (.int .i64 2)] 0 2 1)]
def sR50 : AV := (.islice [(.int .i64 0), (.int .i64 2)] 0 2 1)
theorem stage50 : evalFn TP F0 D0 200 121 sA50 Heap.empty (pureK false 20 sR50) = true := by kernel_rfl
def sA51 : List AV := [(.islice [(.int .i64 1), (.int .i64 0), (.int .i64 0)] 0 3 1), (.islice [(.int .i64 0), (.int .i64 2)] 0 2 1)]
def sR51 : AV := (.islice [(.int .i64 1), (.int .i64 0)] 0 2 1)
theorem stage51 : evalFn TP F0 D0 200 121 sA51 Heap.empty (pureK false 20 sR51) = true := by kernel_rfl
def sA52 : List AV := [(.islice [(.int .i64 1), (.int .i64 0), (.int .i64 1)] 0 3 1), (.islice [(.int .i64 0), (.int .i64 2)] 0 2 1)]
def sR52 : AV := (.islice [(.int .i64 1), (.int .i64 1)] 0 2 1)
theorem stage52 : evalFn TP F0 D0 200 121 sA52 Heap.empty (pureK false 20 sR52) = true := by kernel_rfl
def sA53 : List AV := [(.islice [(.int .i64 1), (.int .i64 0), (.int .i64 2)] 0 3 1), (.islice [(.int .i64 0), (.int .i64 2)] 0 2 1)]
def sR53 : AV := (.islice [(.int .i64 1), (.int .i64 2)] 0 2 1)
theorem stage53 : evalFn TP F0 D0 200 121 sA53 Heap.empty (pureK false 20 sR53) = true := by kernel_rfl
def sA54 : List AV := [(.islice [(.int .i64 1), (.int .i64 0), (.int .i64 2)] 0 3 1), (.islice [(.int .i64 2), (.int .i64 1)] 0 2 1)]
def sR54 : AV := (.islice [(.int .i64 2), (.int .i64 0)] 0 2 1)
theorem stage54 : evalFn TP F0 D0 200 121 sA54 Heap.empty (pureK false 20 sR54) = true := by kernel_rfl
def sA55 : List AV := [(.islice [(.int .i64 1), (.int .i64 1), (.int .i64 0)] 0 3 1), (.islice [(.int .i64 0), (.int .i64 2)] 0 2 1)]
def sR55 : AV := (.islice [(.int .i64 1), (.int .i64 0)] 0 2 1)
theorem stage55 : evalFn TP F0 D0 200 121 sA55 Heap.empty (pureK false 20 sR55) = true := by kernel_rfl
def sA56 : List AV := [(.islice [(.int .i64 1), (.int .i64 1), (.int .i64 1)] 0 3 1), (.islice [(.int .i64 0), (.int .i64 2)] 0 2 1)]
def sR56 : AV := (.islice [(.int .i64 1), (.int .i64 1)] 0 2 1)
theorem stage56 : evalFn TP F0 D0 200 121 sA56 Heap.empty (pureK false 20 sR56) = true := by kernel_rfl
def sA57 : List AV := [(.islice [(.int .i64 1), (.int .i64 1), (.int .i64 2)] 0 3 1), (.islice [(.int .i64 0), (.int .i64 2)] 0 2 1)]
def sR57 : AV := (.islice [(.int .i64 1), (.int .i64 2)] 0 2 1)
theorem stage57 : evalFn TP F0 D0 200 121 sA57 Heap.empty (pureK false 20 sR57) = true := by kernel_rfl
def sA58 : List AV := [(.islice [(.int .i64 1), (.int .i64 1), (.int .i64 2)] 0 3 1), (.islice [(.int .i64 2), (.int .i64 1)] 0 2 1)]
def sR58 : AV := (.islice [(.int .i64 2), (.int .i64 1)] 0 2 1)
theorem stage58 : evalFn TP F0 D0 200 121 sA58 Heap.empty (pureK false 20 sR58) = true := by kernel_rfl
def sA59 : List AV := [(.islice [(.int .i64 1), (.int .i64 2), (.int .i64 0)] 0 3 1), (.islice [(.int .i64 0), (.int .i64 2)] 0 2 1)]
def sR59 : AV := (.islice [(.int .i64 1), (.int .i64 0)] 0 2 1)
theorem stage59 : evalFn TP F0 D0 200 121 sA59 Heap.empty (pureK false 20 sR59) = true := by kernel_rfl
def sA60 : List AV := [(.islice [(.int .i64 1), (.int .i64 2), (.int .i64 1)] 0 3 1), (.islice [(.int .i64 0), (.int .i64 2)] 0 2 1)]
def sR60 : AV := (.islice [(.int .i64 1), (.int .i64 1)] 0 2 1)
theorem stage60 : evalFn TP F0 D0 200 121 sA60 Heap.empty (pureK false 20 sR60) = true := by kernel_rfl
def sA61 : List AV := [(.islice [(.int .i64 1), (.int .i64 2), (.int .i64 2)] 0 3 1), (.islice [(.int .i64 0), (.int .i64 2)] 0 2 1)]
def sR61 : AV := (.islice [(.int .i64 1), (.int .i64 2)] 0 2 1)
theorem stage61 : evalFn TP F0 D0 200 121 sA61 Heap.empty (pureK false 20 sR61) = true := by kernel_rfl
def sA62 : List AV := [(.islice [(.int .i64 1), (.int .i64 2), (.int .i64 2)] 0 3 1), (.islice [(.int .i64 2), (.int .i64 1)] 0 2 1)]
def sR62 : AV := (.islice [(.int .i64 2), (.int .i64 2)] 0 2 1)
theorem stage62 : evalFn TP F0 D0 200 121 sA62 Heap.empty (pureK false 20 sR62) = true := by kernel_rfl
def sA63 : List AV := [(.islice [(.int .i64 2), (.int .i64 0), (.int .i64 0)] 0 3 1), (.islice [(.int .i64 0), (.int .i64 2)] 0 2 1)]
def sR63 : AV := (.islice [(.int .i64 2), (.int .i64 0)] 0 2 1)
theorem stage63 : evalFn TP F0 D0 200 121 sA63 Heap.empty (pureK false 20 sR63) = true := by kernel_rfl
def sA64 : List AV := [(.islice [(.int .i64 2), (.int .i64 0), (.int .i64 1)] 0 3 1), (.islice [(.int .i64 0), (.int .i64 2)] 0 2 1)]
def sR64 : AV := (.islice [(.int .i64 2), (.int .i64 1)] 0 2 1)
theorem stage64 : evalFn TP F0 D0 200 121 sA64 Heap.empty (pureK false 20 sR64) = true := by kernel_rfl
def sA65 : List AV := [(.islice [(.int .i64 2), (.int .i64 0), (.int .i64 2)] 0 3 1), (.islice [(.int .i64 0), (.int .i64 2)] 0 2 1)]
def sR65 : AV := (.islice [(.int .i64 2), (.int .i64 2)] 0 2 1)
theorem stage65 : evalFn TP F0 D0 200 121 sA65 Heap.empty (pureK false 20 sR65) = true := by kernel_rfl
def sA66 : List AV := [(.islice [(.int .i64 2), (.int .i64 1), (.int .i64 0)] 0 3 1), (.islice [(.int .i64 0), (.int .i64 2)] 0 2 1)]
def sR66 : AV := (.islice [(.int .i64 2), (.int .i64 0)] 0 2 1)
theorem stage66 : evalFn TP F0 D0 200 121 sA66 Heap.empty (pureK false 20 sR66) = true := by kernel_rfl
def sA67 : List AV := [(.islice [(.int .i64 2), (.int .i64 1), (.int .i64 1)] 0 3 1), (.islice [(.int .i64 0), (.int .i64 2)] 0 2 1)]
def sR67 : AV := (.islice [(.int .i64 2), (.int .i64 1)] 0 2 1)
theorem stage67 : evalFn TP F0 D0 200 121 sA67 Heap.empty (pureK false 20 sR67) = true := by kernel_rfl
def sA68 : List AV := [(.islice [(.int .i64 2), (.int .i64 1), (.int .i64 2)] 0 3 1), (.islice [(.int .i64 0), (.int .i64 2)] 0 2 1)]
def sR68 : AV := (.islice [(.int .i64 2), (.int .i64 2)] 0 2 1)
theorem stage68 : evalFn TP F0 D0 200 121 sA68 Heap.empty (pureK false 20 sR68) = true := by kernel_rfl
def sA69 : List AV := [(.islice [(.int .i64 2), (.int .i64 2), (.int .i64 0)] 0 3 1), (.islice [(.int .i64 0), (.int .i64 2)] 0 2 1)]
def sR69 : AV := (.islice [(.int .i64 2), (.int .i64 0)] 0 2 1)
theorem stage69 : evalFn TP F0 D0 200 121 sA69 Heap.empty (pureK false 20 sR69) = true := by kernel_rfl
def sA70 : List AV := [(.islice [(.int .i64 2), (.int .i64 2), (.int .i64 1)] 0 3 1), (.islice [(.int .i64 0), (.int .i64 2)] 0 2 1)]
def sR70 : AV := (.islice [(.int .i64 2), (.int .i64 1)] 0 2 1)
theorem stage70 : evalFn TP F0 D0 200 121 sA70 Heap.empty (pureK false 20 sR70) = true := by kernel_rfl
def sA71 : List AV := [(.islice [(.int .i64 2), (.int .i64 2), (.int .i64 2)] 0 3 1), (.islice [(.int .i64 0), (.int .i64 2)] 0 2 1)]
def sR71 : AV := (.islice [(.int .i64 2), (.int .i64 2)] 0 2 1)
theorem stage71 : evalFn TP F0 D0 200 121 sA71 Heap.empty (pureK false 20 sR71) = true := by kernel_rfl
def sA74 : List AV := [(.agg [(.int .i64 3), (.islice [(.str [69]), (.int .i64 2), (.islice [(.islice [(.int .i64 0), (.int .i64 1)] 0 2 1), (.islice [(.int .i64 1), (.int .i64 2)] 0 2 1)] 0 2 1)] 0 1 3)]), (.str [69]), (.int .i64 2)]
def sR74 : AV := (.int .i64 0)
theorem stage74 : evalFn TP F0 D0 200 53 sA74 Heap.empty (pureK false 20 sR74) = true := by kernel_rfl
def sA77 : List AV := [(.agg [(.int .i64 3), (.islice [(.str [69]), (.int .i64 2), (.islice [(.islice [(.int .i64 1), (.int .i64 2)] 0 2 1)] 0 1 1)] 0 1 3)]), (.str [69]), (.int .i64 2)]
def sR77 : AV := (.int .i64 0)
theorem stage77 : evalFn TP F0 D0 200 53 sA77 Heap.empty (pureK true 20 sR77) = true := by kernel_rfl
def F1 : Prims := fun x => if x = 130 then some (orP (pureP sA0 sR0) (orP (pureP sA1 sR1) (orP (pureP sA2 sR2) (orP (pureP sA3 sR3) (orP (pureP sA4 sR4) (orP (pureP sA5 sR5) (orP (pureP sA6 sR6) (orP (pureP sA7 sR7) (orP (pureP sA8 sR8) (orP (pureP sA9 sR9) (pureP sA10 sR10))))))))))) else if x = 53 then some (orP (pureP sA25 sR25) (orP (lentP 20 sA74 sR74) (pureP sA77 sR77))) else if x = 99 then some (pureP sA26 sR26) else if x = 121 then some (orP (lentP 20 sA29 sR29) (orP (lentP 20 sA30 sR30) (orP (lentP 20 sA31 sR31) (orP (lentP 20 sA32 sR32) (orP (lentP 20 sA33 sR33) (orP (lentP 20 sA34 sR34) (orP (lentP 20 sA35 sR35) (orP (lentP 20 sA36 sR36) (orP (lentP 20 sA37 sR37) (orP (lentP 20 sA38 sR38) (orP (lentP 20 sA39 sR39) (orP (lentP 20 sA40 sR40) (orP (lentP 20 sA41 sR41) (orP (lentP 20 sA42 sR42) (orP (lentP 20 sA43 sR43) (orP (lentP 20 sA44 sR44) (orP (lentP 20 sA45 sR45) (orP (lentP 20 sA46 sR46) (orP (lentP 20 sA47 sR47) (orP (lentP 20 sA48 sR48) (orP (lentP 20 sA49 sR49) (orP (lentP 20 sA50 sR50) (orP (lentP 20 sA51 sR51) (orP (lentP 20 sA52 sR52) (orP (lentP 20 sA53 sR53) (orP (lentP 20 sA54 sR54) (orP (lentP 20 sA55 sR55) (orP (lentP 20 sA56 sR56) (orP (lentP 20 sA57 sR57) (orP (lentP 20 sA58 sR58) (orP (lentP 20 sA59 sR59) (orP (lentP 20 sA60 sR60) (orP (lentP 20 sA61 sR61) (orP (lentP 20 sA62 sR62) (orP (lentP 20 sA63 sR63) (orP (lentP 20 sA64 sR64) (orP (lentP 20 sA65 sR65) (orP (lentP 20 sA66 sR66) (orP (lentP 20 sA67 sR67) (orP (lentP 20 sA68 sR68) (orP (lentP 20 sA69 sR69) (orP (lentP 20 sA70 sR70) (lentP 20 sA71 sR71))))))))))))))))))))))))))))))))))))))))))) else F0 x
theorem F1_sound : PrimsSound TP F1 := by
  have hs := evalFn_sound mixed F0_sound D0_sound 200
  intro f g hg args h K hK
  unfold F1 at hg
  split at hg
  · rename_i e
    subst e
    cases hg
    rcases orP_eq hK with hK | hK
    · exact pureP_sound hs (by kernel_rfl) stage0 args h K hK
    rcases orP_eq hK with hK | hK
    · exact pureP_sound hs (by kernel_rfl) stage1 args h K hK
    rcases orP_eq hK with hK | hK
    · exact pureP_sound hs (by kernel_rfl) stage2 args h K hK
    rcases orP_eq hK with hK | hK
    · exact pureP_sound hs (by kernel_rfl) stage3 args h K hK
    rcases orP_eq hK with hK | hK
    · exact pureP_sound hs (by kernel_rfl) stage4 args h K hK
    rcases orP_eq hK with hK | hK
    · exact pureP_sound hs (by kernel_rfl) stage5 args h K hK
    rcases orP_eq hK with hK | hK
    · exact pureP_sound hs (by kernel_rfl) stage6 args h K hK
    rcases orP_eq hK with hK | hK
    · exact pureP_sound hs (by kernel_rfl) stage7 args h K hK
    rcases orP_eq hK with hK | hK
    · exact pureP_sound hs (by kernel_rfl) stage8 args h K hK
    rcases orP_eq hK with hK | hK
    · exact pureP_sound hs (by kernel_rfl) stage9 args h K hK
    exact pureP_sound hs (by kernel_rfl) stage10 args h K hK
  split at hg
  · rename_i e
    subst e
    cases hg
    rcases orP_eq hK with hK | hK
    · exact pureP_sound hs (by kernel_rfl) stage25 args h K hK
    rcases orP_eq hK with hK | hK
    · exact lentP_sound hs stage74 args h K hK
    exact pureP_sound hs (by kernel_rfl) stage77 args h K hK
  split at hg
  · rename_i e
    subst e
    cases hg
    exact pureP_sound hs (by kernel_rfl) stage26 args h K hK
  split at hg
  · rename_i e
    subst e
    cases hg
    rcases orP_eq hK with hK | hK
    · exact lentP_sound hs stage29 args h K hK
    rcases orP_eq hK with hK | hK
    · exact lentP_sound hs stage30 args h K hK
    rcases orP_eq hK with hK | hK
    · exact lentP_sound hs stage31 args h K hK
    rcases orP_eq hK with hK | hK
    · exact lentP_sound hs stage32 args h K hK
    rcases orP_eq hK with hK | hK
    · exact lentP_sound hs stage33 args h K hK
    rcases orP_eq hK with hK | hK
    · exact lentP_sound hs stage34 args h K hK
    rcases orP_eq hK with hK | hK
    · exact lentP_sound hs stage35 args h K hK
    rcases orP_eq hK with hK | hK
    · exact lentP_sound hs stage36 args h K hK
    rcases orP_eq hK with hK | hK
    · exact lentP_sound hs stage37 args h K hK
    rcases orP_eq hK with hK | hK
    · exact lentP_sound hs stage38 args h K hK
    rcases orP_eq hK with hK | hK
    · exact lentP_sound hs stage39 args h K hK
    rcases orP_eq hK with hK | hK
    · exact lentP_sound hs stage40 args h K hK
    rcases orP_eq hK with hK | hK
    · exact lentP_sound hs stage41 args h K hK
    rcases orP_eq hK with hK | hK
    · exact lentP_sound hs stage42 args h K hK
    rcases orP_eq hK with hK | hK
    · exact lentP_sound hs stage43 args h K hK
    rcases orP_eq hK with hK | hK
    · exact lentP_sound hs stage44 args h K hK
    rcases orP_eq hK with hK | hK
    · exact lentP_sound hs stage45 args h K hK
    rcases orP_eq hK with hK | hK
    · exact lentP_sound hs stage46 args h K hK
    rcases orP_eq hK with hK | hK
    · exact lentP_sound hs stage47 args h K hK
    rcases orP_eq hK with hK | hK
    · exact lentP_sound hs stage48 args h K hK
    rcases orP_eq hK with hK | hK
    · exact lentP_sound hs stage49 args h K hK
    rcases orP_eq hK with hK | hK
    · exact lentP_sound hs stage50 args h K hK
    rcases orP_eq hK with hK | hK
    · exact lentP_sound hs stage51 args h K hK
    rcases orP_eq hK with hK | hK
    · exact lentP_sound hs stage52 args h K hK
    rcases orP_eq hK with hK | hK
    · exact lentP_sound hs stage53 args h K hK
    rcases orP_eq hK with hK | hK
    · exact lentP_sound hs stage54 args h K hK
    rcases orP_eq hK with hK | hK
    · exact lentP_sound hs stage55 args h K hK
    rcases orP_eq hK with hK | hK
    · exact lentP_sound hs stage56 args h K hK
    rcases orP_eq hK with hK | hK
    · exact lentP_sound hs stage57 args h K hK
    rcases orP_eq hK with hK | hK
    · exact lentP_sound hs stage58 args h K hK
    rcases orP_eq hK with hK | hK
    · exact lentP_sound hs stage59 args h K hK
    rcases orP_eq hK with hK | hK
    · exact lentP_sound hs stage60 args h K hK
    rcases orP_eq hK with hK | hK
    · exact lentP_sound hs stage61 args h K hK
    rcases orP_eq hK with hK | hK
    · exact lentP_sound hs stage62 args h K hK
    rcases orP_eq hK with hK | hK
    · exact lentP_sound hs stage63 args h K hK
    rcases orP_eq hK with hK | hK
    · exact lentP_sound hs stage64 args h K hK
    rcases orP_eq hK with hK | hK
    · exact lentP_sound hs stage65 args h K hK
    rcases orP_eq hK with hK | hK
    · exact lentP_sound hs stage66 args h K hK
    rcases orP_eq hK with hK | hK
    · exact lentP_sound hs stage67 args h K hK
    rcases orP_eq hK with hK | hK
    · exact lentP_sound hs stage68 args h K hK
    rcases orP_eq hK with hK | hK
    · exact lentP_sound hs stage69 args h K hK
    rcases orP_eq hK with hK | hK
    · exact lentP_sound hs stage70 args h K hK
    exact lentP_sound hs stage71 args h K hK
  exact F0_sound f g hg args h K hK
def sA11 : List AV := [(.agg [(.str [80]), (.islice [(.str [120]), (.str [121])] 0 2 1)])]
def sR11 : AV := (.bool true)
theorem stage11 : evalFn TP F1 D0 200 138 sA11 Heap.empty (pureK false 20 sR11) = true := by kernel_rfl
def sA12 : List AV := [(.agg [(.str [80]), (.islice [(.str [120]), (.str [121])] 0 2 1), (.islice [(.int .i64 0), (.bool false), (.str [69]), (.islice [(.str [120]), (.str [121])] 0 2 1)] 0 1 4)])]
def sR12 : AV := (.islice [(.str [120]), (.str [121])] 0 2 1)
theorem stage12 : evalFn TP F1 D0 200 100 sA12 Heap.empty (pureK false 20 sR12) = true := by kernel_rfl
def sA13 : List AV := [(.agg [(.int .i64 0), (.bool false), (.str [69]), (.islice [(.str [120]), (.str [121])] 0 2 1)])]
def sR13 : AV := (.bool true)
theorem stage13 : evalFn TP F1 D0 200 140 sA13 Heap.empty (pureK false 20 sR13) = true := by kernel_rfl
def sA14 : List AV := [(.agg [(.str [80]), (.islice [(.str [120]), (.str [121])] 0 2 1), (.islice [(.int .i64 0), (.bool false), (.str [69]), (.islice [(.str [120]), (.str [122])] 0 2 1), (.int .i64 0), (.bool false), (.str [80]), (.islice [(.str [122]), (.str [121])] 0 2 1)] 0 2 4)])]
def sR14 : AV := (.islice [(.str [120]), (.str [121]), (.str [122])] 0 3 1)
theorem stage14 : evalFn TP F1 D0 200 100 sA14 Heap.empty (pureK false 20 sR14) = true := by kernel_rfl
def sA15 : List AV := [(.agg [(.int .i64 0), (.bool false), (.str [69]), (.islice [(.str [120]), (.str [122])] 0 2 1)])]
def sR15 : AV := (.bool true)
theorem stage15 : evalFn TP F1 D0 200 140 sA15 Heap.empty (pureK false 20 sR15) = true := by kernel_rfl
def sA16 : List AV := [(.agg [(.int .i64 0), (.bool false), (.str [80]), (.islice [(.str [122]), (.str [121])] 0 2 1)])]
def sR16 : AV := (.bool true)
theorem stage16 : evalFn TP F1 D0 200 140 sA16 Heap.empty (pureK false 20 sR16) = true := by kernel_rfl
def sA18 : List AV := [(.agg [(.str [80]), (.islice [(.str [120]), (.str [121])] 0 2 1)])]
def sR18 : AV := (.bool true)
theorem stage18 : evalFn TP F1 D0 200 138 sA18 Heap.empty (pureK true 20 sR18) = true := by kernel_rfl
def sA19 : List AV := [(.agg [(.str [80]), (.islice [(.str [120]), (.str [121])] 0 2 1), (.islice [(.int .i64 0), (.bool false), (.str [69]), (.islice [(.str [120]), (.str [121])] 0 2 1)] 0 1 4)])]
def sR19 : AV := (.islice [(.str [120]), (.str [121])] 0 2 1)
theorem stage19 : evalFn TP F1 D0 200 100 sA19 Heap.empty (pureK true 20 sR19) = true := by kernel_rfl
def sA20 : List AV := [(.agg [(.int .i64 0), (.bool false), (.str [69]), (.islice [(.str [120]), (.str [121])] 0 2 1)])]
def sR20 : AV := (.bool true)
theorem stage20 : evalFn TP F1 D0 200 140 sA20 Heap.empty (pureK true 20 sR20) = true := by kernel_rfl
def sA21 : List AV := [(.agg [(.str [80]), (.islice [(.str [120]), (.str [121])] 0 2 1), (.islice [(.int .i64 0), (.bool false), (.str [69]), (.islice [(.str [120]), (.str [122])] 0 2 1), (.int .i64 0), (.bool false), (.str [80]), (.islice [(.str [122]), (.str [121])] 0 2 1)] 0 2 4)])]
def sR21 : AV := (.islice [(.str [120]), (.str [121]), (.str [122])] 0 3 1)
theorem stage21 : evalFn TP F1 D0 200 100 sA21 Heap.empty (pureK true 20 sR21) = true := by kernel_rfl
def sA22 : List AV := [(.agg [(.int .i64 0), (.bool false), (.str [69]), (.islice [(.str [120]), (.str [122])] 0 2 1)])]
def sR22 : AV := (.bool true)
theorem stage22 : evalFn TP F1 D0 200 140 sA22 Heap.empty (pureK true 20 sR22) = true := by kernel_rfl
def sA23 : List AV := [(.agg [(.int .i64 0), (.bool false), (.str [80]), (.islice [(.str [122]), (.str [121])] 0 2 1)])]
def sR23 : AV := (.bool true)
theorem stage23 : evalFn TP F1 D0 200 140 sA23 Heap.empty (pureK true 20 sR23) = true := by kernel_rfl
def sA24 : List AV := [(.agg [(.int .i64 3), (.islice [(.str [69]), (.int .i64 2), (.islice [(.islice [(.int .i64 0), (.int .i64 1)] 0 2 1), (.islice [(.int .i64 1), (.int .i64 2)] 0 2 1)] 0 2 1)] 0 1 3)])]
def sR24 : AV := (.bool true)
theorem stage24 : evalFn TP F1 D0 200 64 sA24 Heap.empty (pureK true 20 sR24) = true := by kernel_rfl
def sA27 : List AV := [(.int .i64 0), (.agg [(.str [80]), (.islice [(.str [120]), (.str [121])] 0 2 1), (.islice [(.int .i64 0), (.bool false), (.str [69]), (.islice [(.str [120]), (.str [121])] 0 2 1)] 0 1 4)])]
def sR27 : AV := (.agg [(.int .i64 0), (.str [80]), (.islice [(.str [120]), (.str [121])] 0 2 1), (.islice [(.int .i64 0), (.bool false), (.str [69]), (.islice [(.str [120]), (.str [121])] 0 2 1)] 0 1 4), (.int .i64 2), (.islice [(.int .i64 0), (.int .i64 1)] 0 2 1), (.islice [(.islice [(.int .i64 0), (.int .i64 1)] 0 2 1)] 0 1 1), (.islice [(.int .i64 1)] 0 1 1)])
theorem stage27 : evalFn TP F1 D0 200 102 sA27 Heap.empty (pureK true 20 sR27) = true := by kernel_rfl
def sA28 : List AV := [(.int .i64 1), (.agg [(.str [80]), (.islice [(.str [120]), (.str [121])] 0 2 1), (.islice [(.int .i64 0), (.bool false), (.str [69]), (.islice [(.str [120]), (.str [122])] 0 2 1), (.int .i64 0), (.bool false), (.str [80]), (.islice [(.str [122]), (.str [121])] 0 2 1)] 0 2 4)])]
def sR28 : AV := (.agg [(.int .i64 1), (.str [80]), (.islice [(.str [120]), (.str [121])] 0 2 1), (.islice [(.int .i64 0), (.bool false), (.str [69]), (.islice [(.str [120]), (.str [122])] 0 2 1), (.int .i64 0), (.bool false), (.str [80]), (.islice [(.str [122]), (.str [121])] 0 2 1)] 0 2 4), (.int .i64 3), (.islice [(.int .i64 0), (.int .i64 1)] 0 2 1), (.islice [(.islice [(.int .i64 0), (.int .i64 2)] 0 2 1), (.islice [(.int .i64 2), (.int .i64 1)] 0 2 1)] 0 2 1), (.islice [(.int .i64 2), (.int .i64 2)] 0 2 1)])
theorem stage28 : evalFn TP F1 D0 200 102 sA28 Heap.empty (pureK true 20 sR28) = true := by kernel_rfl
def sA73 : List AV := [(.agg [(.int .i64 3), (.islice [(.str [69]), (.int .i64 2), (.islice [(.islice [(.int .i64 0), (.int .i64 1)] 0 2 1), (.islice [(.int .i64 1), (.int .i64 2)] 0 2 1)] 0 2 1)] 0 1 3)])]
def sR73 : AV := (.bool true)
theorem stage73 : evalFn TP F1 D0 200 64 sA73 Heap.empty (pureK false 20 sR73) = true := by kernel_rfl
def sA76 : List AV := [(.agg [(.int .i64 3), (.islice [(.str [69]), (.int .i64 2), (.islice [(.islice [(.int .i64 1), (.int .i64 2)] 0 2 1)] 0 1 1)] 0 1 3)])]
def sR76 : AV := (.bool true)
theorem stage76 : evalFn TP F1 D0 200 64 sA76 Heap.empty (pureK true 20 sR76) = true := by kernel_rfl
def F2 : Prims := fun x => if x = 138 then some (orP (lentP 20 sA11 sR11) (pureP sA18 sR18)) else if x = 100 then some (orP (lentP 20 sA12 sR12) (orP (lentP 20 sA14 sR14) (orP (pureP sA19 sR19) (pureP sA21 sR21)))) else if x = 140 then some (orP (lentP 20 sA13 sR13) (orP (lentP 20 sA15 sR15) (orP (lentP 20 sA16 sR16) (orP (pureP sA20 sR20) (orP (pureP sA22 sR22) (pureP sA23 sR23)))))) else if x = 64 then some (orP (pureP sA24 sR24) (orP (lentP 20 sA73 sR73) (pureP sA76 sR76))) else if x = 102 then some (orP (pureP sA27 sR27) (pureP sA28 sR28)) else F1 x
theorem F2_sound : PrimsSound TP F2 := by
  have hs := evalFn_sound mixed F1_sound D0_sound 200
  intro f g hg args h K hK
  unfold F2 at hg
  split at hg
  · rename_i e
    subst e
    cases hg
    rcases orP_eq hK with hK | hK
    · exact lentP_sound hs stage11 args h K hK
    exact pureP_sound hs (by kernel_rfl) stage18 args h K hK
  split at hg
  · rename_i e
    subst e
    cases hg
    rcases orP_eq hK with hK | hK
    · exact lentP_sound hs stage12 args h K hK
    rcases orP_eq hK with hK | hK
    · exact lentP_sound hs stage14 args h K hK
    rcases orP_eq hK with hK | hK
    · exact pureP_sound hs (by kernel_rfl) stage19 args h K hK
    exact pureP_sound hs (by kernel_rfl) stage21 args h K hK
  split at hg
  · rename_i e
    subst e
    cases hg
    rcases orP_eq hK with hK | hK
    · exact lentP_sound hs stage13 args h K hK
    rcases orP_eq hK with hK | hK
    · exact lentP_sound hs stage15 args h K hK
    rcases orP_eq hK with hK | hK
    · exact lentP_sound hs stage16 args h K hK
    rcases orP_eq hK with hK | hK
    · exact pureP_sound hs (by kernel_rfl) stage20 args h K hK
    rcases orP_eq hK with hK | hK
    · exact pureP_sound hs (by kernel_rfl) stage22 args h K hK
    exact pureP_sound hs (by kernel_rfl) stage23 args h K hK
  split at hg
  · rename_i e
    subst e
    cases hg
    rcases orP_eq hK with hK | hK
    · exact pureP_sound hs (by kernel_rfl) stage24 args h K hK
    rcases orP_eq hK with hK | hK
    · exact lentP_sound hs stage73 args h K hK
    exact pureP_sound hs (by kernel_rfl) stage76 args h K hK
  split at hg
  · rename_i e
    subst e
    cases hg
    rcases orP_eq hK with hK | hK
    · exact pureP_sound hs (by kernel_rfl) stage27 args h K hK
    exact pureP_sound hs (by kernel_rfl) stage28 args h K hK
  exact F1_sound f g hg args h K hK
def sA17 : List AV := [(.str [80, 40, 120, 32, 121, 41, 32, 58, 45, 32, 69, 40, 120, 32, 121, 41, 46, 10, 80, 40, 120, 32, 121, 41, 32, 58, 45, 32, 69, 40, 120, 32, 122, 41, 44, 32, 80, 40, 122, 32, 121, 41, 46, 10])]
def sR17 : AV := (.tuple [(.islice [(.str [80]), (.islice [(.str [120]), (.str [121])] 0 2 1), (.islice [(.int .i64 0), (.bool false), (.str [69]), (.islice [(.str [120]), (.str [121])] 0 2 1)] 0 1 4), (.str [80]), (.islice [(.str [120]), (.str [121])] 0 2 1), (.islice [(.int .i64 0), (.bool false), (.str [69]), (.islice [(.str [120]), (.str [122])] 0 2 1), (.int .i64 0), (.bool false), (.str [80]), (.islice [(.str [122]), (.str [121])] 0 2 1)] 0 2 4)] 0 2 3), (.int .i64 0)])
theorem stage17 : evalFn TP F2 D0 200 44 sA17 Heap.empty (pureK true 20 sR17) = true := by kernel_rfl
def F3 : Prims := fun x => if x = 44 then some (pureP sA17 sR17) else F2 x
theorem F3_sound : PrimsSound TP F3 := by
  have hs := evalFn_sound mixed F2_sound D0_sound 200
  intro f g hg args h K hK
  unfold F3 at hg
  split at hg
  · rename_i e
    subst e
    cases hg
    exact pureP_sound hs (by kernel_rfl) stage17 args h K hK
  exact F2_sound f g hg args h K hK
def sA75 : List AV := [(.agg [(.int .i64 3), (.islice [(.str [69]), (.int .i64 2), (.islice [(.islice [(.int .i64 0), (.int .i64 1)] 0 2 1), (.islice [(.int .i64 1), (.int .i64 2)] 0 2 1)] 0 2 1)] 0 1 3)]), (.str [69]), (.islice [(.int .i64 0), (.int .i64 1)] 0 2 1), (.bool false)]
def sR75 : AV := (.tuple [(.agg [(.int .i64 3), (.islice [(.str [69]), (.int .i64 2), (.islice [(.islice [(.int .i64 1), (.int .i64 2)] 0 2 1)] 0 1 1)] 0 1 3)]), (.int .i64 0)])
theorem stage75 : evalFn TP F3 D0 200 18 sA75 Heap.empty (pureK false 20 sR75) = true := by kernel_rfl
end
end Go.AM
