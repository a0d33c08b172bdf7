/- Rows filled part by part; the operations without memory, joined. Conditions: none. -/
import Derived.Test.YthmbnnjimbjplaaGreatDoorAmPure
set_option linter.unusedVariables false
set_option linter.unusedSimpArgs false
namespace Go.AM
open Go Go.RowKit

theorem putL_length {α : Type} : ∀ (vs cs : List α) (off : Nat), (putL cs off vs).length = cs.length
  | [], cs, off => rfl
  | v :: vs, cs, off => by simp [putL, putL_length vs]

section
variable {P : Program} {w0 : World} {μ : Mu} {ρ : Operand → AV} {ρc : Operand → Value}

theorem VRL.putL : ∀ {xs ys : List AV} {us vs : List Value} (off : Nat), VRL w0 μ xs us → VRL w0 μ ys vs → VRL w0 μ (AM.putL xs off ys) (AM.putL us off vs)
  | xs, [], us, vs, off, h, k => by obtain rfl := k.nil_inv; exact h
  | xs, y :: ys, us, vs, off, h, k => by
    obtain ⟨u, us', rfl, h1, h2⟩ := k.cons_inv
    exact VRL.putL (off + 1) (h.set off h1) h2

theorem foldl_putL : ∀ (vs : List Value) (j off : Nat) (cells : Array Value),
    ((vs.zipIdx j).foldl (fun cs (p : Value × Nat) => cs.setIfInBounds (off + p.2) p.1) cells).toList = putL cells.toList (off + j) vs
  | [], j, off, cells => rfl
  | v :: vs, j, off, cells => by
    simp only [List.zipIdx_cons, List.foldl_cons, putL]
    rw [foldl_putL vs (j + 1) off]
    simp [Nat.add_assoc]

theorem fill_sim (place : Nat → Option (Nat × Nat)) : ∀ (is : List Nat) (ps : List (Nat × Nat)) (xs : List AV) (us : List Value) (zs cs : List AV) (cells : Array Value),
    is.length = ps.length → (∀ (k i : Nat) (p : Nat × Nat), is[k]? = some i → ps[k]? = some p → place i = some p) → VRL w0 μ xs us → VRL w0 μ zs cells.toList → fillS zs ps xs = some cs →
    ∃ cells', Instr.fill place cells (is.zip us) = some cells' ∧ VRL w0 μ cs cells'.toList := by
  intro is
  induction is with
  | nil =>
    intro ps xs us zs cs cells hl hp hx hz h
    obtain rfl : ps = [] := List.eq_nil_of_length_eq_zero hl.symm
    cases xs with
    | nil => cases h; exact ⟨cells, by simp [Instr.fill], hz⟩
    | cons x xs => simp [fillS] at h
  | cons i is ih =>
    intro ps xs us zs cs cells hl hp hx hz h
    cases ps with
    | nil => simp at hl
    | cons p ps =>
      obtain ⟨off, n⟩ := p
      cases xs with
      | nil => simp [fillS] at h
      | cons x xs =>
        obtain ⟨u, us', rfl, hu, hus⟩ := hx.cons_inv
        simp only [fillS] at h
        split at h
        · rename_i hc
          simp only [Bool.and_eq_true, decide_eq_true_eq] at hc
          have hcells := hu.cells hc.2
          have e1 : u.cells.size = n := by rw [← Array.length_toList, ← hcells.len]; exact hc.1.1
          have e2 : off + u.cells.size ≤ cells.size := by rw [e1]; have := hc.1.2; rw [hz.len, Array.length_toList] at this; exact this
          have hz' : VRL w0 μ (AM.putL zs off x.cellsL) (u.cells.zipIdx.foldl (fun cs (p : Value × Nat) => cs.setIfInBounds (off + p.2) p.1) cells).toList := by
            have := foldl_putL u.cells.toList 0 off cells
            have e3 : u.cells.zipIdx.foldl (fun cs (p : Value × Nat) => cs.setIfInBounds (off + p.2) p.1) cells = (u.cells.toList.zipIdx 0).foldl (fun cs (p : Value × Nat) => cs.setIfInBounds (off + p.2) p.1) cells := by
              rw [← Array.foldl_toList]; simp
            rw [e3, this]
            exact VRL.putL _ hz hcells
          obtain ⟨cells', h1, h2⟩ := ih ps xs us' _ cs _ (by simpa using hl) (fun k i p a b => hp (k + 1) i p (by simpa using a) (by simpa using b)) hus hz' h
          refine ⟨cells', ?_, h2⟩
          have hpl : place i = some (off, n) := hp 0 i (off, n) rfl rfl
          simp only [List.zip_cons_cons, Instr.fill, hpl]
          rw [if_neg (by simp [e1]; rw [← e1]; exact e2)]
          exact h1
        · cases h

theorem pickL_spec {pl : List (Nat × Nat)} : ∀ {is : List Nat} {ps : List (Nat × Nat)}, pickL pl is = some ps → is.length = ps.length ∧ ∀ (k i : Nat) (p : Nat × Nat), is[k]? = some i → ps[k]? = some p → pl[i]? = some p := by
  intro is
  induction is with
  | nil => intro ps h; cases h; exact ⟨rfl, by simp⟩
  | cons i is ih =>
    intro ps h
    simp only [pickL] at h
    split at h
    · rename_i p ps' h1 h2
      cases h
      obtain ⟨e1, e2⟩ := ih h2
      refine ⟨by simp [e1], fun k j q a b => ?_⟩
      cases k with
      | zero => simp at a b; subst a; subst b; exact h1
      | succ k => exact e2 k j q (by simpa using a) (by simpa using b)
    · cases h

theorem zeroT_spec {t : TypeId} {z : AV} (h : zeroT P t = some z) : ∃ inf zv, P.info? t = some inf ∧ inf.zero = some zv ∧ z = ofConst zv := by
  unfold zeroT at h
  split at h
  · rename_i inf hinf
    split at h
    · rename_i zv hz; cases h; exact ⟨inf, zv, hinf, hz, rfl⟩
    · cases h
  · cases h

theorem zip_map_fst {α β : Type} (l : List (Nat × α)) (g : α → β) : (l.map (·.1)).zip (l.map fun p => g p.2) = l.map fun p => (p.1, g p.2) := by
  induction l with
  | nil => rfl
  | cons a l ih => simp [ih]

theorem pure_build {t : TypeId} {parts : Array (Nat × Operand)} {v : AV} (hρ : ∀ x, VR w0 μ (ρ x) (ρc x))
    (h : ((buildI P t (parts.toList.map (·.1))).bind fun i => aggS i.1 i.2 (parts.toList.map fun p => ρ p.2)) = some v) :
    ∃ vc, (∀ w, (Instr.build t (parts.map fun (i, x) => (i, ρc x))).run P w = .ok vc w) ∧ VR w0 μ v vc := by
  obtain ⟨i, hi, ha⟩ := Option.bind_eq_some_iff.1 h
  unfold aggS at ha
  split at ha
  · rename_i cs hcs
    cases ha
    unfold buildI at hi
    split at hi
    · rename_i fs hu
      split at hi
      · rename_i z pl hz hpl
        split at hi
        · rename_i ps hps
          split at hi
          · rename_i hone
            cases hi
            obtain ⟨inf, zv, hinf, hzv, rfl⟩ := zeroT_spec hz
            obtain ⟨e1, e2⟩ := pickL_spec hps
            have hx : VRL w0 μ (parts.toList.map fun p => ρ p.2) (parts.toList.map fun p => ρc p.2) := VRL.map _ fun a _ => hρ a.2
            obtain ⟨cells', h1, h2⟩ := fill_sim (w0 := w0) (μ := μ) (pl.toArray[·]?) _ ps _ _ _ cs zv.cells e1 (fun k i p a b => by simpa using e2 k i p a b) hx ((VR.ofConst zv).cells hone) hcs
            rw [zip_map_fst] at h1
            refine ⟨.agg cells', fun w => ?_, ?_⟩
            · refine run_build w t _ cells' ?_
              unfold Program.built
              rw [hinf, hu]
              simp only [hzv]
              have hpl' : fs.toList.mapM (fun f => (P.info? f.type).map fun i => (f.offset, i.size)) = some pl := hpl
              rw [hpl']
              simpa using h1
            · have := h2.agg; simpa using this
          · cases hi
        · cases hi
      · cases hi
    · rename_i n e hu
      split at hi
      · rename_i z ie hz hie
        split at hi
        · rename_i hone
          cases hi
          obtain ⟨inf, zv, hinf, hzv, rfl⟩ := zeroT_spec hz
          have hx : VRL w0 μ (parts.toList.map fun p => ρ p.2) (parts.toList.map fun p => ρc p.2) := VRL.map _ fun a _ => hρ a.2
          obtain ⟨cells', h1, h2⟩ := fill_sim (w0 := w0) (μ := μ) (fun i => some (i * ie.size, ie.size)) (parts.toList.map (·.1)) ((parts.toList.map (·.1)).map fun i => (i * ie.size, ie.size)) _ _ _ cs zv.cells (by simp) (fun k i p a b => by
            rw [List.getElem?_map, a] at b; simpa using b) hx ((VR.ofConst zv).cells hone) hcs
          rw [zip_map_fst] at h1
          refine ⟨.agg cells', fun w => ?_, ?_⟩
          · refine run_build w t _ cells' ?_
            unfold Program.built
            rw [hinf, hu]
            simp only [hzv, hie]
            simpa using h1
          · have := h2.agg; simpa using this
        · cases hi
      · cases hi
    · cases hi
  · cases ha

theorem optRel (hρ : ∀ x, VR w0 μ (ρ x) (ρc x)) (lo : Option Operand) : (lo.map ρ = none ∧ lo.map ρc = none) ∨ ∃ a v, lo.map ρ = some a ∧ lo.map ρc = some v ∧ VR w0 μ a v := by
  cases lo with
  | none => exact .inl ⟨rfl, rfl⟩
  | some x => exact .inr ⟨_, _, rfl, rfl, hρ x⟩

theorem pure_assert {xt a : TypeId} {ok : Bool} {z x v : AV} {xv : Value} (hx : VR w0 μ x xv) (hi : assertI P a ok = some z) (h : assertS a z x = some v) :
    ∃ vc, (∀ w, (Instr.typeAssert xv xt a ok).run P w = .ok vc w) ∧ VR w0 μ v vc := by
  unfold assertI at hi
  split at hi
  · cases hi
  · rename_i d hu hd
    obtain ⟨inf, zv, h1, h2, rfl⟩ := zeroT_spec hi
    have hz : ∀ w, (zeroValue a).run P w = .ok zv w := fun w => by simp [zeroValue, typeInfo, h1, h2]
    unfold assertS at h
    split at h
    · cases h
      cases hx
      refine ⟨.tuple #[zv, .bool false], fun w => ?_, VRL.tuple (.cons (VR.ofConst zv) (.cons (.bool false) .nil))⟩
      cases d <;> first | (simp [Instr.typeAssert, run_underlying hd, hz]; done) | (exfalso; simp_all)
    · rename_i t y
      cases h
      cases hx
      rename_i yv hy
      by_cases e : t = a
      · subst e
        rw [if_pos rfl]
        refine ⟨.tuple #[yv, .bool true], fun w => ?_, VRL.tuple (.cons hy (.cons (.bool true) .nil))⟩
        cases d <;> first | (simp [Instr.typeAssert, run_underlying hd]; done) | (exfalso; simp_all)
      · rw [if_neg e]
        refine ⟨.tuple #[zv, .bool false], fun w => ?_, VRL.tuple (.cons (VR.ofConst zv) (.cons (.bool false) .nil))⟩
        cases d <;> first | (simp [Instr.typeAssert, run_underlying hd, hz, e]; done) | (exfalso; simp_all)
    · cases h
  · cases hi


/-- AN OPERATION THAT TOUCHES NO MEMORY. -/
theorem pure_sim (hρ : ∀ x, VR w0 μ (ρ x) (ρc x)) {o : Oper} (hk : opKind o.op = .pure) {v : AV} (h : pureV P ρ o.op = some v) :
    ∃ vc, (∀ w, (execOp ρc o).run P w = .ok (.value vc) w) ∧ VR w0 μ v vc := by
  obtain ⟨dst, op, type, pos, after, guard⟩ := o
  cases op <;> simp only [opKind, reduceCtorEq] at hk <;> simp only [pureV] at h
  case move x => cases h; exact ⟨ρc x, fun w => by simp [execOp], hρ x⟩
  case assign x => cases h; exact ⟨ρc x, fun w => by simp [execOp], hρ x⟩
  case pick c a b =>
    obtain ⟨t, ht, hv⟩ := pure_pick (hρ c) (hρ a) (hρ b) h
    exact ⟨_, fun w => by simp [execOp, ht, asBool], hv⟩
  case build t ps =>
    obtain ⟨vc, h1, h2⟩ := pure_build (ρc := ρc) hρ h
    exact ⟨vc, fun w => by simp [execOp, h1], h2⟩
  case nilCheck x =>
    obtain ⟨h1, h2⟩ := pure_nilCheck (hρ x) h
    refine ⟨ρc x, fun w => ?_, h1⟩
    rcases h2 with ⟨a, ha⟩ | ⟨f, a, b, ha⟩ <;> simp [execOp, ha]
  case binOp op t x y u =>
    have hgen : ∀ vc, (∀ w, (binOp op t (ρc x) (ρc y)).run P w = .ok vc w) → (ρc x ≠ .nilIface ∧ ∀ c, ρc x ≠ .agg c) → ∀ w, (execOp ρc ⟨dst, .binOp op t x y u, type, pos, after, guard⟩).run P w = .ok (.value vc) w :=
      fun vc h1 h2 w => by simp [execOp, eqGuard_plain h2.1 h2.2, h1]
    cases op
    case eql =>
      obtain ⟨d, hd, he⟩ := Option.bind_eq_some_iff.1 h
      unfold eqV at he
      split at he
      · rename_i b hb
        cases he
        obtain ⟨h1, _, h3⟩ := eq_plain hd (hρ x) (hρ y) hb
        exact ⟨.bool b, hgen _ h1 h3, .bool b⟩
      · cases he
    case neq =>
      obtain ⟨d, hd, he⟩ := Option.bind_eq_some_iff.1 h
      unfold neV at he
      split at he
      · rename_i b hb
        cases he
        obtain ⟨_, h1, h3⟩ := eq_plain hd (hρ x) (hρ y) hb
        exact ⟨.bool (!b), hgen _ h1 h3, .bool _⟩
      · cases he
    all_goals
      obtain ⟨vc, h1, h2⟩ := pure_bin (P := P) (t := t) (hρ x) (hρ y) h (by simp) (by simp)
      refine ⟨vc, fun w => ?_, h2⟩
      simp [execOp, eqGuard, h1]
  case unOp op t x =>
    obtain ⟨vc, h1, h2⟩ := pure_un (P := P) (hρ x) h
    exact ⟨vc, fun w => by simp [execOp, h1], h2⟩
  case makeInterface t x =>
    obtain ⟨_, hi, he⟩ := Option.bind_eq_some_iff.1 h
    cases he
    obtain ⟨h1, h2⟩ := pure_iface (P := P) (hρ x) hi
    exact ⟨_, fun w => by simp [execOp, h1], h2⟩
  case makeFunc fn first cap =>
    cases fn <;> simp only [reduceCtorEq, Option.some.injEq] at h
    rename_i f
    subst h
    have h1 : VRL w0 μ (first.toList.map ρ) (first.toList.map ρc) := VRL.map _ fun a _ => hρ a
    have h2 : VRL w0 μ (cap.toList.map ρ) (cap.toList.map ρc) := VRL.map _ fun a _ => hρ a
    refine ⟨.func (.func f) (first.toList.map ρc).toArray (cap.toList.map ρc).toArray, fun w => ?_, .func f _ _ _ _ h1.len h2.len h1.rel h2.rel⟩
    have e1 : ∀ a : Array Operand, a.map ρc = (a.toList.map ρc).toArray := fun a => by apply Array.ext'; simp
    simp only [execOp, Instr.makeFunc, e1]
    rfl
  case slice t x lo hi mx =>
    cases mx with
    | some m => cases h
    | none =>
      obtain ⟨i, hi', he⟩ := Option.bind_eq_some_iff.1 h
      obtain ⟨vc, h1, h2⟩ := pure_slice (hρ x) (optRel hρ lo) (optRel hρ hi) hi' he
      exact ⟨vc, fun w => by simp [execOp, h1], h2⟩
  case fieldAddr t x i =>
    obtain ⟨o, hi, he⟩ := Option.bind_eq_some_iff.1 h
    obtain ⟨vc, h1, h2⟩ := pure_fa (hρ x) hi he
    exact ⟨vc, fun w => by simp [execOp, h1], h2⟩
  case field t x i =>
    obtain ⟨o, hi, he⟩ := Option.bind_eq_some_iff.1 h
    obtain ⟨vc, h1, h2⟩ := pure_field (hρ x) hi he
    exact ⟨vc, fun w => by simp [execOp, h1], h2⟩
  case indexAddr t x i =>
    obtain ⟨o, hi, he⟩ := Option.bind_eq_some_iff.1 h
    obtain ⟨vc, h1, h2⟩ := pure_iaV (hρ x) (hρ i) hi he
    exact ⟨vc, fun w => by simp [execOp, h1], h2⟩
  case index t x i =>
    obtain ⟨o, hi, he⟩ := Option.bind_eq_some_iff.1 h
    obtain ⟨vc, h1, h2⟩ := pure_idx (hρ x) (hρ i) hi he
    exact ⟨vc, fun w => by simp [execOp, h1], h2⟩
  case extract x i =>
    obtain ⟨vc, h1, h2⟩ := pure_extract (P := P) (hρ x) h
    exact ⟨vc, fun w => by simp [execOp, h1], h2⟩
  case typeAssert x xt a ok =>
    obtain ⟨z, hi, he⟩ := Option.bind_eq_some_iff.1 h
    obtain ⟨vc, h1, h2⟩ := pure_assert (P := P) (xt := xt) (hρ x) hi he
    exact ⟨vc, fun w => by simp [execOp, h1], h2⟩
  case call c =>
    obtain ⟨cal, args, ts⟩ := c
    cases cal with
    | value f => simp [callKind] at hk
    | invoke r m => simp [callKind] at hk
    | builtin b =>
      cases b <;> simp only [callKind, reduceCtorEq] at hk
      all_goals
        have hx : VRL w0 μ (args.toList.map ρ) (args.toList.map ρc) := VRL.map _ fun a _ => hρ a
        simp only at h
        split at h
        · rename_i x xs hxs
          rw [hxs] at hx
          obtain ⟨u, us, hus, h1, h2⟩ := hx.cons_inv
          obtain ⟨vc, h3, h4⟩ := fold_sim (P := P) _ _ _ _ _ h1 h2 h
          refine ⟨vc, fun w => ?_, h4⟩
          have h5 := h3 w
          simp at h5
          simp [execOp, resolve, invoke, builtin, Builtin.max_, Builtin.min_, hus, h5]
        · cases h
end
end Go.AM
