/- A closed call of a function of data, as a contract in any heap. Conditions: none. -/
import Derived.Test.YthmbnnjimbjplaaGreatDoorAmFreeze
set_option linter.unusedVariables false
set_option linter.unusedSimpArgs false
namespace Go.AM
open Go Go.RowKit
noncomputable section

def mapO (f : AV → Option AV) : List AV → Option (List AV)
  | [] => some []
  | x :: xs => match f x with
    | none => none
    | some y => match mapO f xs with
      | none => none
      | some ys => some (y :: ys)
/-- What a value leads to, frozen. -/
def freezeV (old : Bool) (h : Heap) : Nat → AV → Option AV
  | 0, _ => none
  | n + 1, x => match x with
    | .ptr b off => (match h.get b with
      | some (.cells cs) => (match mapO (freezeV old h n) cs with | some ds => some (.iptr ds off) | none => none)
      | _ => none)
    | .slice b off len sz => (match h.get b with
      | some (.cells cs) => (match mapO (freezeV old h n) cs with | some ds => some (.islice ds off len sz) | none => none)
      | _ => none)
    | .iptr cs off => @Bool.rec (fun _ => Option AV) none (match mapO (freezeV old h n) cs with | some ds => some (.iptr ds off) | none => none) old
    | .islice cs off len sz => @Bool.rec (fun _ => Option AV) none (match mapO (freezeV old h n) cs with | some ds => some (.islice ds off len sz) | none => none) old
    | .func f a b => (match mapO (freezeV old h n) a with
      | none => none
      | some a' => match mapO (freezeV old h n) b with
        | none => none
        | some b' => some (.func f a' b'))
    | .iface t v => (match freezeV old h n v with | some w => some (.iface t w) | none => none)
    | .agg cs => (match mapO (freezeV old h n) cs with | some ds => some (.agg ds) | none => none)
    | .tuple cs => (match mapO (freezeV old h n) cs with | some ds => some (.tuple ds) | none => none)
    | .map _ => none
    | x => some x

theorem mapO_fz {old : Bool} {h : Heap} {f : AV → Option AV} (hf : ∀ x y, f x = some y → Fz old h x y) : ∀ {xs ys : List AV}, mapO f xs = some ys → FzL old h xs ys
  | [], ys, e => by simp only [mapO, Option.some.injEq] at e; subst e; exact .nil
  | x :: xs, ys, e => by
    simp only [mapO] at e
    split at e
    · cases e
    · rename_i y hy
      split at e
      · cases e
      · rename_i ys' hys
        cases e
        exact .cons (hf _ _ hy) (mapO_fz hf hys)
theorem freezeV_fz {old : Bool} {h : Heap} : ∀ (n : Nat) (x y : AV), freezeV old h n x = some y → Fz old h x y
  | 0, x, y, e => by cases e
  | n + 1, x, y, e => by
    have ih := fun x y => freezeV_fz (old := old) (h := h) n x y
    cases x <;> simp only [freezeV, Option.some.injEq, reduceCtorEq] at e
    case undef => subst e; exact .scalar _ rfl
    case bool => subst e; exact .scalar _ rfl
    case int => subst e; exact .scalar _ rfl
    case str => subst e; exact .scalar _ rfl
    case nilp => subst e; exact .scalar _ rfl
    case nils => subst e; exact .scalar _ rfl
    case nilm => subst e; exact .scalar _ rfl
    case nilf => subst e; exact .scalar _ rfl
    case nili => subst e; exact .scalar _ rfl
    case ptr b off =>
      split at e
      · rename_i cs hb
        split at e
        · rename_i ds hd; cases e
          have := mapO_fz ih hd
          exact .ptr b off cs ds hb this.len this.rel
        · cases e
      · cases e
    case slice b off len sz =>
      split at e
      · rename_i cs hb
        split at e
        · rename_i ds hd; cases e
          have := mapO_fz ih hd
          exact .slice b off len sz cs ds hb this.len this.rel
        · cases e
      · cases e
    case iptr cs off =>
      cases ho : old with
      | false => rw [ho] at e; cases e
      | true =>
        rw [← ho]
        rw [ho] at e
        simp only at e
        split at e
        · rename_i ds hd; cases e
          rw [← ho] at hd
          have := mapO_fz ih hd
          exact .iptr cs ds off ho this.len this.rel
        · cases e
    case islice cs off len sz =>
      cases ho : old with
      | false => rw [ho] at e; cases e
      | true =>
        rw [← ho]
        rw [ho] at e
        simp only at e
        split at e
        · rename_i ds hd; cases e
          rw [← ho] at hd
          have := mapO_fz ih hd
          exact .islice cs ds off len sz ho this.len this.rel
        · cases e
    case func f a b =>
      split at e
      · cases e
      · rename_i a' ha
        split at e
        · cases e
        · rename_i b' hb; cases e
          have h1 := mapO_fz ih ha
          have h2 := mapO_fz ih hb
          exact .func f a b a' b' h1.len h2.len h1.rel h2.rel
    case iface t v =>
      split at e
      · rename_i w hw; cases e; exact .iface t v w (ih _ _ hw)
      · cases e
    case agg cs =>
      split at e
      · rename_i ds hd; cases e
        have := mapO_fz ih hd
        exact .agg cs ds this.len this.rel
      · cases e
    case tuple cs =>
      split at e
      · rename_i ds hd; cases e
        have := mapO_fz ih hd
        exact .tuple cs ds this.len this.rel
      · cases e

/-- What must come of a closed call. -/
def pureK (old : Bool) (n : Nat) (r : AV) : Out → Heap → Bool
  | .ret v, h => (match freezeV old h n v with | some r' => AV.beq r' r | none => false)
  | _, _ => false
/-- Where the arguments are data that never changes. -/
def pureP (a0 : List AV) (r : AV) : List AV → Heap → (Out → Heap → Bool) → Bool := fun args h K =>
  AV.beqL args a0 && K (.ret r) h
/-- Where they are lent. -/
def lentP (n : Nat) (a0 : List AV) (r : AV) : List AV → Heap → (Out → Heap → Bool) → Bool := fun args h K =>
  match mapO (freezeV true h n) args with
  | some as => AV.beqL as a0 && K (.ret r) h
  | none => false

theorem pureP_sound {P : Program} {call : CallF} (hs : CallSound P call) {f : FuncId} {a0 : List AV} {n : Nat} {r : AV} (hp : AV.pureL a0 = true) (he : call f a0 Heap.empty (pureK true n r) = true)
    (args : List AV) (h : Heap) (K : Out → Heap → Bool) (hK : pureP a0 r args h K = true) : Sem P f args h K := by
  simp only [pureP, Bool.and_eq_true] at hK
  obtain rfl := AV.beqL_eq _ _ hK.1
  refine Sem.frozen (hs.sem he) hp fun o h' ho => ?_
  cases o with
  | ret v =>
    simp only [pureK] at ho
    split at ho
    · rename_i r' hr
      obtain rfl := AV.beq_eq _ _ ho
      exact ⟨v, _, rfl, freezeV_fz _ _ _ hr, hK.2⟩
    · cases ho
  | panic v => cases ho
theorem lentP_sound {P : Program} {call : CallF} (hs : CallSound P call) {f : FuncId} {a0 : List AV} {n m : Nat} {r : AV} (he : call f a0 Heap.empty (pureK false n r) = true)
    (args : List AV) (h : Heap) (K : Out → Heap → Bool) (hK : lentP m a0 r args h K = true) : Sem P f args h K := by
  unfold lentP at hK
  split at hK
  · rename_i as ha
    simp only [Bool.and_eq_true] at hK
    obtain rfl := AV.beqL_eq _ _ hK.1
    refine Sem.lent (hs.sem he) (mapO_fz (fun x y => freezeV_fz m x y) ha) fun o h' ho => ?_
    cases o with
    | ret v =>
      simp only [pureK] at ho
      split at ho
      · rename_i r' hr
        obtain rfl := AV.beq_eq _ _ ho
        exact ⟨v, _, rfl, freezeV_fz _ _ _ hr, hK.2⟩
      · cases ho
    | panic v => cases ho
  · cases hK
end
end Go.AM
