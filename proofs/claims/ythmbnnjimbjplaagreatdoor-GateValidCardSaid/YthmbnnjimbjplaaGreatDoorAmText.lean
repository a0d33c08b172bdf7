/- The words of the printed text: a function's code as a Lean term. Conditions: none. -/
import Derived.Test.YthmbnnjimbjplaaGreatDoorAmFreeze
set_option linter.unusedVariables false
namespace Go.AM
open Go Go.RowKit
noncomputable section

def bindO2 (o : Option (AV × Heap)) (f : AV → Heap → Bool) : Bool := bindO o fun p => f p.1 p.2
def outK (r p : AV → Heap → Bool) : Out → Heap → Bool
  | .ret v, h => r v h
  | .panic v, h => p v h
def resK (ok : AV → Heap → Bool) (pn : AV → Heap → Bool) : R → Bool
  | .ok v _ h => ok v h
  | .panic v h => pn v h
def callV (x : AV) (f : FuncId → List AV → List AV → Bool) : Bool :=
  match x with
  | .func g a b => f g a b
  | _ => false
def wantB (x : AV) (want : Bool) : Option Bool :=
  match x with
  | .bool b => some (b == want)
  | .tuple _ => some false
  | _ => none
def optB (o : Option Bool) (a b : Bool) : Bool :=
  match o with
  | some true => a
  | some false => b
  | none => false
def codeOf (fn : Func) : Code := match fn.body with | some c => c | none => .skip
/-- A part of a code: 0 the first, 1 the second. -/
def partOf : Code → List Nat → Code
  | c, [] => c
  | .seq a b, n :: ns => match n with | 0 => partOf a ns | _ => partOf b ns
  | .cond _ a b, n :: ns => match n with | 0 => partOf a ns | _ => partOf b ns
  | .block _ c, _ :: ns => partOf c ns
  | .loop c, _ :: ns => partOf c ns
  | c, _ => c

theorem bindO_true {α : Type} {o : Option α} {f : α → Bool} : bindO o f = true ↔ ∃ a, o = some a ∧ f a = true := by
  cases o <;> simp [bindO]
theorem eq_via {α : Type} {a b : α} (h : a = b) : a = b := by subst h; exact Eq.refl a
@[simp] theorem bindO_some {α : Type} (a : α) (f : α → Bool) : bindO (some a) f = f a := eq_via rfl
@[simp] theorem bindO_none {α : Type} (f : α → Bool) : bindO none f = false := rfl
@[simp] theorem bindO2_some (v : AV) (h : Heap) (f : AV → Heap → Bool) : bindO2 (some (v, h)) f = f v h := eq_via rfl
@[simp] theorem outK_ret (r p : AV → Heap → Bool) (v : AV) (h : Heap) : outK r p (.ret v) h = r v h := eq_via rfl
@[simp] theorem outK_panic (r p : AV → Heap → Bool) (v : AV) (h : Heap) : outK r p (.panic v) h = p v h := eq_via rfl
@[simp] theorem callV_func (g : FuncId) (a b : List AV) (f : FuncId → List AV → List AV → Bool) : callV (.func g a b) f = f g a b := eq_via rfl
theorem cond_t {α : Type} (a b : α) : cond true a b = a := eq_via rfl
theorem cond_f {α : Type} (a b : α) : cond false a b = b := eq_via rfl
@[simp] theorem condB_bool (t a b : Bool) : condB (.bool t) a b = bif t then a else b := by cases t <;> rfl
theorem condB_dec {p : Prop} [Decidable p] {a b : Bool} : condB (.bool (decide p)) a b = true ↔ (p → a = true) ∧ (¬ p → b = true) := by
  by_cases h : p <;> simp [condB, h]
theorem condB_b {t a b : Bool} : condB (.bool t) a b = true ↔ (t = true → a = true) ∧ (t = false → b = true) := by
  cases t <;> simp [condB]

/-! What lies behind is left alone until its turn comes. -/
@[congr] theorem bindO_cg {α : Type} {o o' : Option α} {f : α → Bool} (h : o = o') : bindO o f = bindO o' f := by rw [h]
@[congr] theorem bindO2_cg {o o' : Option (AV × Heap)} {f : AV → Heap → Bool} (h : o = o') : bindO2 o f = bindO2 o' f := by rw [h]
@[congr] theorem condB_cg {x x' : AV} {a b : Bool} (h : x = x') : condB x a b = condB x' a b := by rw [h]
@[congr] theorem cond_cg {α : Type} {c c' : Bool} {a b : α} (h : c = c') : cond c a b = cond c' a b := by rw [h]
@[congr] theorem semCall_cg {P : Program} {f : FuncId} {args args' : List AV} {h h' : Heap} {K : Out → Heap → Bool} (e1 : args = args') (e2 : h = h') : semCall P f args h K = semCall P f args' h' K := by rw [e1, e2]

/-- The loop's rule. -/
theorem loopB_rule {f : St → (AX → St → Bool) → Bool} {K : AX → St → Bool} {n : Nat} {defs : List ADef} {e0 : Env} {h0 : Heap} (I : Nat → Env → Heap → Prop) (m : Nat) (hI : I m e0 h0)
    (step : ∀ m e h, I m e h → f ⟨e, n, defs, h⟩ (loopK (fun m s => s.n = n ∧ s.defs = defs ∧ I m s.env s.h) m K) = true) : loopB f ⟨e0, n, defs, h0⟩ K = true := by
  refine yes_eq.2 ⟨fun m s => s.n = n ∧ s.defs = defs ∧ I m s.env s.h, ⟨m, rfl, rfl, hI⟩, fun m s hs => ?_⟩
  obtain ⟨e, n', d, h⟩ := s
  obtain ⟨h1, h2, h3⟩ := hs
  simp only at h1 h2 h3
  subst h1; subst h2
  exact step m e h h3
theorem loopK_normal {I : Nat → Env → Heap → Prop} {n : Nat} {defs : List ADef} {m : Nat} {K : AX → St → Bool} {e : Env} {h : Heap} (m' : Nat) (hm : m' < m) (hI : I m' e h) :
    loopK (fun m s => s.n = n ∧ s.defs = defs ∧ I m s.env s.h) m K .normal ⟨e, n, defs, h⟩ = true := yes_eq.2 ⟨m', hm, rfl, rfl, hI⟩
@[simp] theorem loopK_exit (I : Nat → St → Prop) (m : Nat) (K : AX → St → Bool) (id : Nat) (s : St) : loopK I m K (.exit id) s = K (.exit id) s := rfl
@[simp] theorem loopK_ret (I : Nat → St → Prop) (m : Nat) (K : AX → St → Bool) (s : St) : loopK I m K .ret s = K .ret s := rfl
@[simp] theorem loopK_panic (I : Nat → St → Prop) (m : Nat) (K : AX → St → Bool) (v : AV) (s : St) : loopK I m K (.panic v) s = K (.panic v) s := rfl

/-- A counted loop: i from a up to N. -/
theorem loopB_range {f : St → (AX → St → Bool) → Bool} {K : AX → St → Bool} {n : Nat} {defs : List ADef} {e0 : Env} {h0 : Heap} (a N : Nat) (ha : a ≤ N) (J : Nat → Env → Heap → Prop) (hJ : J a e0 h0)
    (step : ∀ i e h, a ≤ i → i < N → J i e h → ∀ K' : AX → St → Bool, (∀ e' h', J (i + 1) e' h' → K' .normal ⟨e', n, defs, h'⟩ = true) → (∀ id s, K' (.exit id) s = K (.exit id) s) → (∀ s, K' .ret s = K .ret s) → (∀ v s, K' (.panic v) s = K (.panic v) s) → f ⟨e, n, defs, h⟩ K' = true)
    (done : ∀ e h, J N e h → ∀ K' : AX → St → Bool, (∀ id s, K' (.exit id) s = K (.exit id) s) → f ⟨e, n, defs, h⟩ K' = true) : loopB f ⟨e0, n, defs, h0⟩ K = true := by
  refine loopB_rule (fun m e h => ∃ i, a ≤ i ∧ i ≤ N ∧ m = N - i ∧ J i e h) (N - a) ⟨a, Nat.le_refl _, ha, rfl, hJ⟩ fun m e h hi => ?_
  obtain ⟨i, hai, hi, rfl, hj⟩ := hi
  by_cases hlt : i < N
  · exact step i e h hai hlt hj _ (fun e' h' hj' => loopK_normal (I := fun m e h => ∃ i, a ≤ i ∧ i ≤ N ∧ m = N - i ∧ J i e h) (N - (i + 1)) (by omega) ⟨i + 1, by omega, by omega, rfl, hj'⟩) (fun _ _ => rfl) (fun _ => rfl) (fun _ _ => rfl)
  · obtain rfl : i = N := by omega
    exact done e h hj _ (fun _ _ => rfl)
end
end Go.AM
