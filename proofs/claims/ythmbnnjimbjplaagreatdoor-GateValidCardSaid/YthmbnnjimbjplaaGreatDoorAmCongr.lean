/- An operation looks at its operands alone. Conditions: none. -/
import Derived.Test.YthmbnnjimbjplaaGreatDoorAmWalk
set_option linter.unusedVariables false
set_option linter.unusedSimpArgs false
namespace Go.AM
open Go Go.RowKit

section
variable {P : Program} {ρ ρ' : Operand → AV}

theorem args_congr {c : Call} (h : ∀ x ∈ c.operands, ρ x = ρ' x) : c.args.toList.map ρ = c.args.toList.map ρ' :=
  List.map_congr_left fun x hx => h x (by simp [Call.operands]; exact .inr (by simpa using hx))
theorem pairs_congr {ps : Array (Nat × Operand)} (h : ∀ x ∈ (ps.toList.map (·.2)).toArray, ρ x = ρ' x) : (ps.toList.map fun p => ρ p.2) = ps.toList.map fun p => ρ' p.2 :=
  List.map_congr_left fun p hp => h p.2 (by simp; exact ⟨p.1, by simpa using hp⟩)
theorem opt_congr {o : Option Operand} (h : ∀ x ∈ o.toArray, ρ x = ρ' x) : o.map ρ = o.map ρ' := by
  cases o with
  | none => rfl
  | some x => simp [h x (by simp)]

theorem pureV_congr {op : Op} (h : ∀ x ∈ op.operands, ρ x = ρ' x) : pureV P ρ op = pureV P ρ' op := by
  cases op <;> simp only [Op.operands] at h <;> simp only [pureV]
  case build t ps => rw [pairs_congr h]
  case makeFunc fn first cap =>
    have h1 : first.toList.map ρ = first.toList.map ρ' := List.map_congr_left fun x hx => h x (by simp; exact .inl (by simpa using hx))
    have h2 : cap.toList.map ρ = cap.toList.map ρ' := List.map_congr_left fun x hx => h x (by simp; exact .inr (by simpa using hx))
    rw [h1, h2]
  case slice t x lo hi mx =>
    have h0 : ρ x = ρ' x := h x (by simp)
    have h1 : lo.map ρ = lo.map ρ' := opt_congr fun y hy => h y (by simp only [Array.mem_append]; exact .inl (.inl (.inr hy)))
    have h2 : hi.map ρ = hi.map ρ' := opt_congr fun y hy => h y (by simp only [Array.mem_append]; exact .inl (.inr hy))
    rw [h0, h1, h2]
  case call c => simp only [args_congr h]
  all_goals (first | rfl | (simp_all; done))

theorem readV_congr {op : Op} (h : ∀ x ∈ op.operands, ρ x = ρ' x) (hp : Heap) : readV P ρ hp op = readV P ρ' hp op := by
  cases op <;> simp only [Op.operands] at h <;> simp only [readV]
  case call c => simp only [args_congr h]
  all_goals (first | rfl | (simp_all; done))

theorem allocV_congr {op : Op} (h : ∀ x ∈ op.operands, ρ x = ρ' x) : allocV P ρ op = allocV P ρ' op := by
  cases op <;> simp only [Op.operands] at h <;> simp only [allocV]
  case buildSlice t n ps => rw [pairs_congr h]
  all_goals (first | rfl | (simp_all; done))

theorem opFn_congr {op : Op} (h : ∀ x ∈ op.operands, ρ x = ρ' x) (hp : Heap) (K : AV → Heap → Bool) : opFn op P ρ hp K = opFn op P ρ' hp K := by
  cases hk : opKind op with
  | pure => rw [opFn_pure hk, opFn_pure hk, pureV_congr h]
  | read => rw [opFn_read hk, opFn_read hk, readV_congr h]
  | alloc => rw [opFn_alloc hk, opFn_alloc hk, allocV_congr h]
  | eff =>
    cases op <;> simp only [opKind, reduceCtorEq] at hk <;> simp only [Op.operands] at h <;> simp only [opFn]
    case call c => simp only [exCall, args_congr h]
    all_goals (first | rfl | (simp_all; done))

theorem stepFn_congr {env env' : Env} {op : Op} (h : ∀ x ∈ op.operands, evalArg env x = evalArg env' x) (call : CallF) (defs : List ADef) (hp : Heap) (K : R → Bool) :
    stepFn op P call env defs hp K = stepFn op P call env' defs hp K := by
  cases op <;> simp only [stepFn]
  case call c =>
    obtain ⟨cal, args, ts⟩ := c
    cases cal with
    | value f =>
      simp only [stCall, stCallV]
      have h1 := args_congr (c := ⟨.value f, args, ts⟩) h
      have h2 : evalArg env f = evalArg env' f := h f (by simp [Op.operands, Call.operands])
      simp only at h1
      rw [h2, h1]
    | invoke r m => simp only [stCall, stPlain]; rw [opFn_congr h]
    | builtin b => simp only [stCall, stPlain]; rw [opFn_congr h]
  case defer c =>
    obtain ⟨cal, args, ts⟩ := c
    cases cal with
    | value f =>
      simp only [stDefer]
      have h1 := args_congr (c := ⟨.value f, args, ts⟩) h
      have h2 : evalArg env f = evalArg env' f := h f (by simp [Op.operands, Call.operands])
      simp only at h1
      rw [h2, h1]
    | invoke r m => rfl
    | builtin b => rfl
  case panic x => simp only [stPanic, h x (by simp [Op.operands])]
  case next x b => simp only [stNext, h x (by simp [Op.operands])]
  all_goals (simp only [stPlain]; rw [opFn_congr h])

/-! ### Reads abide new blocks -/
theorem readV_alloc {hp : Heap} (hc : ∀ b, hp.next ≤ b → hp.get b = none) (o : AObj) {op : Op} {v : AV} (h : readV P ρ hp op = some v) : readV P ρ (hp.alloc o) op = some v := by
  have key : ∀ b o', hp.get b = some o' → (hp.alloc o).get b = some o' := fun b o' hb => by
    rw [Heap.get_alloc, if_neg (fun e => by rw [e, hc _ (Nat.le_refl _)] at hb; cases hb)]; exact hb
  cases op <;> simp only [readV, reduceCtorEq] at h ⊢
  case load t a =>
    obtain ⟨i, h1, h2⟩ := Option.bind_eq_some_iff.1 h
    refine Option.bind_eq_some_iff.2 ⟨i, h1, ?_⟩
    unfold loadS at h2 ⊢
    split at h2
    · rename_i b off hx
      split at h2
      · rename_i cs hb; simp only [key _ _ hb]; exact h2
      · cases h2
    · rename_i hx; exact h2
    · cases h2
  case lookup t x i ok =>
    obtain ⟨d, h1, h2⟩ := Option.bind_eq_some_iff.1 h
    refine Option.bind_eq_some_iff.2 ⟨d, h1, ?_⟩
    unfold lookupS at h2 ⊢
    have he : ∀ es, entriesS (ρ x) hp = some es → entriesS (ρ x) (hp.alloc o) = some es := by
      intro es he
      unfold entriesS at he ⊢
      split at he
      · rename_i hx; exact he
      · rename_i b hx
        split at he
        · rename_i es' ck hb; simp only [key _ _ hb]; exact he
        · cases he
      · cases he
    split at h2
    · cases h2
    · rename_i es hes
      rw [he es hes]; exact h2
  case call c =>
    split at h
    · split at h
      · rename_i t l x e1 e2
        obtain ⟨i, h1, h2⟩ := Option.bind_eq_some_iff.1 h
        refine Option.bind_eq_some_iff.2 ⟨i, h1, ?_⟩
        unfold lenS at h2 ⊢
        split at h2 <;> first | exact h2 | skip
        · split at h2
          · rename_i b _ es ck hb; simp only [key _ _ hb]; exact h2
          · cases h2
      · cases h
    · cases h

mutual
theorem AV.beq_eq : ∀ (x y : AV), AV.beq x y = true → x = y
  | .undef, y, h => by cases y <;> simp_all [AV.beq]
  | .bool a, y, h => by cases y <;> simp_all [AV.beq]
  | .int k a, y, h => by cases y <;> simp_all [AV.beq]
  | .str a, y, h => by cases y <;> simp_all [AV.beq]
  | .nilp, y, h => by cases y <;> simp_all [AV.beq]
  | .ptr a i, y, h => by cases y <;> simp_all [AV.beq]
  | .iptr a i, y, h => by
    cases y <;> simp only [AV.beq, Bool.false_eq_true, Bool.and_eq_true, beq_iff_eq] at h
    rw [AV.beqL_eq _ _ h.1, h.2]
  | .nils, y, h => by cases y <;> simp_all [AV.beq]
  | .slice b i l s, y, h => by cases y <;> simp_all [AV.beq]
  | .islice a i l s, y, h => by
    cases y <;> simp only [AV.beq, Bool.false_eq_true, Bool.and_eq_true, beq_iff_eq] at h
    rw [AV.beqL_eq _ _ h.1.1.1, h.1.1.2, h.1.2, h.2]
  | .nilm, y, h => by cases y <;> simp_all [AV.beq]
  | .map a, y, h => by cases y <;> simp_all [AV.beq]
  | .nilf, y, h => by cases y <;> simp_all [AV.beq]
  | .func f a b, y, h => by
    cases y <;> simp only [AV.beq, Bool.false_eq_true, Bool.and_eq_true, beq_iff_eq] at h
    rw [h.1.1, AV.beqL_eq _ _ h.1.2, AV.beqL_eq _ _ h.2]
  | .nili, y, h => by cases y <;> simp_all [AV.beq]
  | .iface t v, y, h => by
    cases y <;> simp only [AV.beq, Bool.false_eq_true, Bool.and_eq_true, beq_iff_eq] at h
    rw [h.1, AV.beq_eq _ _ h.2]
  | .agg a, y, h => by
    cases y <;> simp only [AV.beq, Bool.false_eq_true] at h
    rw [AV.beqL_eq _ _ h]
  | .tuple a, y, h => by
    cases y <;> simp only [AV.beq, Bool.false_eq_true] at h
    rw [AV.beqL_eq _ _ h]
theorem AV.beqL_eq : ∀ (xs ys : List AV), AV.beqL xs ys = true → xs = ys
  | [], ys, h => by cases ys <;> simp_all [AV.beqL]
  | x :: xs, ys, h => by
    cases ys <;> simp only [AV.beqL, Bool.false_eq_true, Bool.and_eq_true] at h
    rw [AV.beq_eq _ _ h.1, AV.beqL_eq _ _ h.2]
end

theorem sameAt_read {op : Op} {env : Env} {v : AV} {hp : Heap} (hk : opKind op = .read) (h : sameAt P op env v hp = true) : readV P (evalArg env) hp op = some v := by
  unfold sameAt at h
  rw [opFn_read hk] at h
  obtain ⟨v', h1, h2⟩ := bindO_eq h
  rw [h1, AV.beq_eq _ _ h2]
end
end Go.AM
