/- Operations that make memory: what the abstract machine answers, the model's run answers. Conditions: none. -/
import Derived.Test.YthmbnnjimbjplaaGreatDoorAmRead
set_option linter.unusedVariables false
set_option linter.unusedSimpArgs false
namespace Go.AM
open Go Go.RowKit

inductive AK where
  | ptr
  | slice (n sz : Nat)
  | map
def AK.val : AK → Nat → AV
  | .ptr, b => .ptr b 0
  | .slice n sz, b => .slice b 0 n sz
  | .map, b => .map b

/-- What an operation that makes memory makes. -/
def allocV (P : Program) (ρ : Operand → AV) : Op → Option (AK × AObj)
  | .alloc t => (zeroCellsI P t).bind fun z => some (.ptr, .cells z)
  | .box _ x => (boxS (ρ x)).bind fun cs => some (.ptr, .cells cs)
  | .buildSlice t n ps => (rowI P t n (ps.toList.map (·.1))).bind fun i => (rowS i.2.1 i.2.2 (ps.toList.map fun p => ρ p.2)).bind fun cs => some (.slice n i.1, .cells cs)
  | .makeMap _ r => (match r with | none => some (.map, .map [] 0) | some _ => none)
  | .makeSlice t l c => (makeI P t).bind fun i => (makeOk i.2.1 (ρ l) (ρ c)).bind fun n => some (.slice n i.1, .cells (repZero i.2.2 n))
  | _ => none

theorem opFn_alloc {P : Program} {ρ : Operand → AV} {op : Op} (hk : opKind op = .alloc) (h : Heap) (K : AV → Heap → Bool) :
    opFn op P ρ h K = bindO (allocV P ρ op) fun p => K (p.1.val h.next) (h.alloc p.2) := by
  cases op <;> simp only [opKind, reduceCtorEq] at hk
  case alloc t => simp only [opFn, exAlloc, allocV]; cases zeroCellsI P t <;> rfl
  case box t x => simp only [opFn, exBox, allocV]; cases boxS (ρ x) <;> rfl
  case buildSlice t n ps =>
    simp only [opFn, exBuildSlice, allocV]
    cases rowI P t n (ps.toList.map (·.1)) with
    | none => rfl
    | some i => simp only [bindO, Option.bind_some]; cases rowS i.2.1 i.2.2 (ps.toList.map fun p => ρ p.2) <;> rfl
  case makeMap t r => cases r <;> rfl
  case makeSlice t l c =>
    simp only [opFn, exMakeSlice, allocV]
    cases makeI P t with
    | none => rfl
    | some i =>
      simp only [bindO, Option.bind_some, bothK, makeSliceS]
      cases makeOk i.2.1 (ρ l) (ρ c) <;> rfl
  case call c =>
    obtain ⟨cal, args, ts⟩ := c
    cases cal with
    | value f => simp [callKind] at hk
    | invoke r m => simp [callKind] at hk
    | builtin b => cases b <;> simp [callKind] at hk

section
variable {P : Program} {w0 : World} {μ : Mu} {ρ : Operand → AV} {ρc : Operand → Value}

/-- The model makes such a block. -/
structure Makes (P : Program) (w0 : World) (μ : Mu) (ρc : Operand → Value) (o : Oper) (k : AK) (ob : AObj) (O : Obj) (n : Nat) (f : Nat → Value) : Prop where
  run : ∀ w, (execOp ρc o).run P w = .ok (.value (f w.heap.size)) (w.alloc O)
  obj : ∀ c, ObjR w0 μ ob ⟨c, 0, n⟩ (some O)
  val : ∀ (μ' : Mu) b c, μ' b = some ⟨c, 0, n⟩ → VR w0 μ' (k.val b) (f c)

theorem cells_obj {cs : List AV} {vs : Array Value} (h : VRL w0 μ cs vs.toList) (e : TypeId) (c : Nat) : ObjR w0 μ (.cells cs) ⟨c, 0, vs.size⟩ (some (.cells vs e (0, 0))) := by
  refine ⟨vs, e, (0, 0), rfl, rfl, ?_, .inl (Nat.le_refl _), fun i x hx => ?_⟩
  · have := h.len; simp at this; simp [this]
  · obtain ⟨v, a, b⟩ := h.get hx
    exact ⟨v, by simpa using a, b⟩

theorem ptr_val (n : Nat) : ∀ (μ' : Mu) b c, μ' b = some ⟨c, 0, n⟩ → VR w0 μ' (AK.ptr.val b) (.pointer (some ⟨c, 0, none⟩)) := fun μ' b c h => .ptr b 0 ⟨c, 0, n⟩ h

theorem zeroCellsI_spec {t : TypeId} {z : List AV} (h : zeroCellsI P t = some z) : ∃ inf zv, P.info? t = some inf ∧ inf.zero = some zv ∧ VRL w0 μ z zv.cells.toList ∧ oneAll z = true := by
  unfold zeroCellsI at h
  split at h
  · rename_i zz hz
    split at h
    · rename_i hone
      cases h
      obtain ⟨inf, zv, h1, h2, rfl⟩ := zeroT_spec hz
      exact ⟨inf, zv, h1, h2, (VR.ofConst zv).cells hone, hone⟩
    · cases h
  · cases h

theorem makeI_spec {t : TypeId} {i : Nat × Nat × List AV} (h : makeI P t = some i) :
    ∃ e inf zv, P.underlying t = some (.slice e) ∧ P.info? e = some inf ∧ inf.size = i.1 ∧ inf.bytes = i.2.1 ∧ 0 < i.1 ∧ 0 < i.2.1 ∧ inf.zero = some zv ∧ VRL w0 μ i.2.2 zv.cells.toList ∧ i.2.2.length = i.1 := by
  unfold makeI at h
  split at h
  · rename_i s b e h1 h2
    split at h
    · rename_i z hz
      split at h
      · rename_i hl
        cases h
        obtain ⟨e', inf, hu, hinf, hs, hb, hp, hp'⟩ := elemI_spec h1
        have := elemT_spec h2
        rw [hu] at this; cases this
        obtain ⟨inf', zv, h3, h4, h5, _⟩ := zeroCellsI_spec (w0 := w0) (μ := μ) hz
        rw [hinf] at h3; cases h3
        exact ⟨e, inf, zv, hu, hinf, hs, hb, hp, hp', h4, h5, hl⟩
      · cases h
    · cases h
  · cases h

theorem repZero_length (z : List AV) : ∀ n, (repZero z n).length = n * z.length
  | 0 => by simp [repZero]
  | n + 1 => by simp [repZero, repZero_length z n, Nat.add_mul, Nat.add_comm]
theorem repZero_get {z : List AV} (hz : 0 < z.length) : ∀ (n i : Nat), i < n * z.length → (repZero z n)[i]? = z[i % z.length]?
  | 0, i, h => by omega
  | n + 1, i, h => by
    simp only [repZero]
    by_cases hi : i < z.length
    · rw [List.getElem?_append_left hi, Nat.mod_eq_of_lt hi]
    · have h' : (n + 1) * z.length = n * z.length + z.length := by rw [Nat.add_mul, Nat.one_mul]
      rw [List.getElem?_append_right (by omega), repZero_get hz n _ (by omega)]
      rw [← Nat.mod_eq_sub_mod (by omega)]

theorem made_rel {z : List AV} {zs : Array Value} (h : VRL w0 μ z zs.toList) (hz : 0 < z.length) (n N : Nat) (hN : n * z.length ≤ N) :
    ∀ (i : Nat) (x : AV), (repZero z n)[i]? = some x → ∃ v, (madeCells zs N)[i]? = some v ∧ VR w0 μ x v := by
  intro i x hx
  have hi : i < n * z.length := by have := (List.getElem?_eq_some_iff.1 hx).1; rwa [repZero_length] at this
  rw [repZero_get hz n i hi] at hx
  obtain ⟨v, hv, hr⟩ := h.get hx
  have hs : zs.size = z.length := by have := h.len; simp at this; exact this.symm
  refine ⟨v, ?_, hr⟩
  have hlt : i % zs.size < zs.size := Nat.mod_lt _ (by omega)
  simp only [madeCells]
  rw [Array.getElem?_map, Array.getElem?_range]
  rw [if_pos (by omega)]
  simp only [Option.map_some, Option.some.injEq]
  rw [← hs] at hv
  have : zs[i % zs.size]? = some v := by simpa using hv
  rw [getElem!_def, this]

theorem made_list {z : List AV} {zs : Array Value} (h : VRL w0 μ z zs.toList) (hz : 0 < z.length) (n : Nat) : VRL w0 μ (repZero z n) (madeCells zs (n * z.length)).toList := by
  refine ⟨by simp [repZero_length, size_madeCells], fun i x v a b => ?_⟩
  obtain ⟨u, hu, hr⟩ := made_rel h hz n (n * z.length) (Nat.le_refl _) i x a
  have : (madeCells zs (n * z.length))[i]? = some v := by simpa using b
  rw [this] at hu; cases hu; exact hr

theorem alloc_sim (hρ : ∀ x, VR w0 μ (ρ x) (ρc x)) {o : Oper} (hk : opKind o.op = .alloc) {k : AK} {ob : AObj} (hv : allocV P ρ o.op = some (k, ob)) :
    ∃ O n f, Makes P w0 μ ρc o k ob O n f := by
  obtain ⟨dst, op, type, pos, after, guard⟩ := o
  cases op <;> simp only [opKind, reduceCtorEq] at hk <;> simp only [allocV] at hv
  case alloc t =>
    obtain ⟨z, hz, he⟩ := Option.bind_eq_some_iff.1 hv
    cases he
    obtain ⟨inf, zv, h1, h2, h3, _⟩ := zeroCellsI_spec (w0 := w0) (μ := μ) hz
    refine ⟨.cells zv.cells t, zv.cells.size, fun c => .pointer (some ⟨c, 0, none⟩), fun w => ?_, cells_obj h3 t, ptr_val _⟩
    simp [execOp, Instr.alloc, run_zeroValue (P := P) h1 h2, newVar, newRow]
  case box t x =>
    obtain ⟨cs, hb, he⟩ := Option.bind_eq_some_iff.1 hv
    cases he
    unfold boxS at hb
    split at hb
    · rename_i hone
      cases hb
      refine ⟨.cells (ρc x).cells t, (ρc x).cells.size, fun c => .pointer (some ⟨c, 0, none⟩), fun w => ?_, cells_obj ((hρ x).cells hone) t, ptr_val _⟩
      simp [execOp, Instr.box, newVar, newRow]
    · cases hb
  case buildSlice t n ps =>
    obtain ⟨i, hi, he⟩ := Option.bind_eq_some_iff.1 hv
    obtain ⟨cs, hcs, he⟩ := Option.bind_eq_some_iff.1 he
    cases he
    unfold rowI at hi
    split at hi
    · rename_i s b z hm
      split at hi
      · rename_i hle
        cases hi
        obtain ⟨e, inf, zv, hu, hinf, hs, hb, hp, hp', hzv, hz, hzl⟩ := makeI_spec (w0 := w0) (μ := μ) hm
        simp only at hs hb hp hp' hz hzl
        unfold rowS at hcs
        split at hcs
        · rename_i cs' hf
          split at hcs
          · rename_i hone
            cases hcs
            have hx : VRL w0 μ (ps.toList.map fun p => ρ p.2) (ps.toList.map fun p => ρc p.2) := VRL.map _ fun a _ => hρ a.2
            have hzz := made_list hz (by omega) n
            obtain ⟨cells', h1, h2⟩ := fill_sim (w0 := w0) (μ := μ) (fun i => some (i * s, s)) (ps.toList.map (·.1)) ((ps.toList.map (·.1)).map fun i => (i * s, s)) _ _ _ cs (madeCells zv.cells (n * z.length))
              (by simp) (fun k i p a b => by rw [List.getElem?_map, a] at b; simpa using b) hx hzz (by simpa using hf)
            rw [zip_map_fst] at h1
            have hsz : zv.cells.size = s := by have := hz.len; simp at this; omega
            refine ⟨.cells cells' e, cells'.size, fun c => .slice (some ⟨c, 0, none⟩) n n, fun w => ?_, cells_obj h2 e, fun μ' b c hb => ?_⟩
            · have hst : ∀ w, (sizeOf e).run P w = .ok s w := fun w => by simp [sizeOf, typeInfo, hinf, hs]
              have hz0 : ∀ w, (zeroValue e).run P w = .ok zv w := run_zeroValue (P := P) hinf hzv
              have hgt : ¬ (16777216 < n * s) := by omega
              have h1' : Instr.fill (fun i => some (i * s, s)) ((Array.range (n * s)).map (fun x => zv.cells[x % zv.cells.size]!)) (ps.toList.map fun p => (p.1, ρc p.2)) = some cells' := by
                rw [hzl] at h1; exact h1
              by_cases hn : n * s = 0
              · have hn' : n = 0 := by rcases Nat.mul_eq_zero.1 hn with h | h <;> omega
                subst hn'
                have h1'' : Instr.fill (fun i => some (i * s, s)) #[] (ps.toList.map fun p => (p.1, ρc p.2)) = some cells' := by simpa [Array.range_zero'] using h1'
                simp [execOp, Instr.buildSlice, run_underlying hu, hst, h1'', newRow, Array.range_zero']
              · simp [execOp, Instr.buildSlice, run_underlying hu, hst, hz0, hgt, hn, h1', newRow]
            · have hlen : cs.length = n * s := by
                have := h2.len
                have hfl : ∀ (ps : List (Nat × Nat)) (vs : List AV) (zs cs : List AV), fillS zs ps vs = some cs → cs.length = zs.length := by
                  intro ps
                  induction ps with
                  | nil => intro vs zs cs h; cases vs <;> simp [fillS] at h; rw [h]
                  | cons p ps ih =>
                    intro vs zs cs h
                    obtain ⟨off, m⟩ := p
                    cases vs with
                    | nil => simp [fillS] at h
                    | cons v vs =>
                      simp only [fillS] at h
                      split at h
                      · rw [ih _ _ _ h, putL_length]
                      · cases h
                rw [hfl _ _ _ _ hf, repZero_length, hzl]
              have hcsz : cells'.size = n * s := by have := h2.len; simp at this; omega
              exact .slice b 0 n s n _ _ hb (Nat.le_refl _) (fun _ => ⟨rfl, by simp [hcsz]⟩)
          · cases hcs
        · cases hcs
      · cases hi
    · cases hi
  case makeMap t r =>
    cases r with
    | some x => cases hv
    | none =>
      cases hv
      refine ⟨.map #[] 0, 0, fun c => .map (some c), fun w => ?_, fun c => ⟨#[], rfl, rfl, by simp⟩, fun μ' b c h => .map b ⟨c, 0, 0⟩ h⟩
      simp [execOp, Instr.makeMap]
  case makeSlice t l c =>
    obtain ⟨i, hi, he⟩ := Option.bind_eq_some_iff.1 hv
    obtain ⟨n, hn, he⟩ := Option.bind_eq_some_iff.1 he
    cases he
    obtain ⟨e, inf, zv, hu, hinf, hs, hb, hp, hp', hzv, hz, hzl⟩ := makeI_spec (w0 := w0) (μ := μ) hi
    have hl := hρ l
    have hc := hρ c
    unfold makeOk at hn
    split at hn
    · rename_i lv cv e1 e2
      rw [e1] at hl; rw [e2] at hc
      split at hn
      · rename_i hcond
        simp only [Bool.and_eq_true, decide_eq_true_eq] at hcond
        cases hn
        have hby : (inf.bytes : Int) * cv ≤ 281474976710656 := by rw [hb]; omega
        have hcle : cv ≤ 9223372036854775807 := by
          have h1 : (1 : Int) ≤ (i.2.1 : Int) := by omega
          have h2 : cv ≤ (i.2.1 : Int) * cv := by
            have := Int.mul_le_mul_of_nonneg_right h1 (show 0 ≤ cv by omega)
            simpa using this
          omega
        have hrun := fun w => run_make (P := P) w t e inf zv hu hinf hzv .i64 .i64 lv cv hcond.1.1 hcond.1.2 hby hcle
        refine ⟨.cells (madeCells zv.cells (cv.toNat * inf.size)) e, cv.toNat * inf.size, fun c => .slice (some ⟨c, 0, none⟩) lv.toNat cv.toNat, fun w => ?_, fun c => ?_, fun μ' b c h => ?_⟩
        · simp [execOp, hl.int_inv, hc.int_inv, hrun]
        · refine ⟨_, e, (0, 0), rfl, by simp [size_madeCells], ?_, .inl (Nat.le_refl _), ?_⟩
          · simp only [repZero_length, hzl, hs, Nat.zero_add]
            exact Nat.mul_le_mul_right _ (by omega)
          · intro i' x hx
            rw [Nat.zero_add]
            exact made_rel hz (by omega) lv.toNat _ (by rw [hzl, hs]; exact Nat.mul_le_mul_right _ (by omega)) i' x hx
        · refine .slice b 0 _ _ _ _ _ h (by omega) (fun _ => ⟨rfl, ?_⟩)
          simp [hs]
      · cases hn
    · cases hn
  case call c =>
    obtain ⟨cal, args, ts⟩ := c
    cases cal with
    | value f => simp [callKind] at hk
    | invoke r m => simp [callKind] at hk
    | builtin b => cases b <;> simp [callKind] at hk
end
end Go.AM
