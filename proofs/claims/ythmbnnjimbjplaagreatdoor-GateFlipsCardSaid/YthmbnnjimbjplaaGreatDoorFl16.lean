/- Parts of a proof, merged out of smaller texts: the abstract machine and what functions do. Conditions: none. -/
import Derived.Test.YthmbnnjimbjplaaGreatDoorFl13
import Derived.Test.YthmbnnjimbjplaaGreatDoorFl15
/- Which names are asked for, and what their bits are: the program and the reference agree; the program's Run. Conditions: none. -/
namespace Go.AM
open Go Go.Proofs
set_option linter.unusedVariables false
set_option linter.unusedSimpArgs false
noncomputable section

/-! ### Names of a structure's relations -/
theorem strc_names {s : Strc} (hv : strcB s = true) : (s.rels.l.map Rel.name).Nodup := by
  simp only [strcB, Bool.and_eq_true] at hv
  unfold List.Nodup
  rw [List.pairwise_iff_getElem]
  intro i j hi hj hij e
  rw [List.length_map] at hi hj
  have := allN_get hv.2.2.2 hj
  rw [relAt, List.getElem?_eq_getElem hj] at this
  simp only [Bool.and_eq_true, Bool.not_eq_true'] at this
  rw [List.getElem_map, List.getElem_map] at e
  have h2 := any_at (p := fun q : Rel => q.name == s.rels.l[j].name) (List.getElem?_eq_getElem hi) hij (by simpa using e)
  rw [h2] at this
  cases this.2
theorem find_namedL : ∀ {l : List Rel}, (l.map Rel.name).Nodup → ∀ r ∈ l, l.find? (namedB r.name) = some r
  | [], _, r, h => by cases h
  | q :: l, hn, r, h => by
    rw [List.map_cons, List.nodup_cons] at hn
    rw [List.find?_cons]
    rcases List.mem_cons.1 h with rfl | h
    · have : namedB r.name r = true := by simp [namedB]
      rw [this]
    · have : namedB r.name q = false := by
        simp only [namedB, beq_eq_false_iff_ne]
        exact fun e => hn.1 (e ▸ List.mem_map_of_mem h)
      rw [this]
      exact find_namedL hn.2 r h
theorem find_symL : ∀ {l : List Rel}, (l.map Rel.name).Nodup → ∀ (nm : Str) (k : Int), l.find? (symB nm k) = match l.find? (namedB nm) with
    | some r => if r.arity = k then some r else none
    | none => none
  | [], _, nm, k => rfl
  | q :: l, hn, nm, k => by
    rw [List.map_cons, List.nodup_cons] at hn
    rw [List.find?_cons, List.find?_cons]
    cases hq : namedB nm q with
    | true =>
      have hq' : q.name == nm := hq
      simp only
      by_cases ha : q.arity = k
      · have : symB nm k q = true := by rw [symB, hq', decide_eq_true ha]; rfl
        rw [this, if_pos ha]
      · have : symB nm k q = false := by rw [symB, decide_eq_false ha, Bool.and_false]
        rw [this, if_neg ha]
        simp only
        rw [List.find?_eq_none]
        intro r hr hs
        simp only [symB, Bool.and_eq_true, beq_iff_eq] at hs hq'
        exact hn.1 (by rw [hq', ← hs.1]; exact List.mem_map_of_mem hr)
    | false =>
      have hq' : (q.name == nm) = false := hq
      have : symB nm k q = false := by rw [symB, hq', Bool.false_and]
      rw [this]
      exact find_symL hn.2 nm k
theorem fitZ_sym {s : Strc} (hv : strcB s = true) (y : Str × Int) : fitZ s y = (s.rels.l.find? (symB y.1 y.2)).isSome := by
  rw [find_symL (strc_names hv), fitZ]
  cases s.rels.l.find? (namedB y.1) with
  | none => rfl
  | some r =>
    simp only
    by_cases h : r.arity = y.2
    · rw [if_pos h, decide_eq_true h]; rfl
    · rw [if_neg h, decide_eq_false h]; rfl

/-! ### The reference's symbols are the inputs' names with their places -/
theorem mem_rising {x s : Str} : ∀ {l : List Str}, x ∈ risingL l s ↔ x ∈ l ∨ x = s
  | [] => by simp [risingL]
  | a :: l => by
    rw [risingL]
    split
    · rw [List.mem_cons, mem_rising (l := l), List.mem_cons, or_assoc]
    · split
      · rename_i h; subst h
        rw [List.mem_cons]
        exact ⟨fun h => .inl h, fun h => h.elim id .inl⟩
      · rw [List.mem_cons]; exact Or.comm
theorem mem_order {x : Str} : ∀ {ys : List (Str × Int)} {o : List Str}, x ∈ orderGo ys o ↔ x ∈ o ∨ ∃ y ∈ ys, y.1 = x ∧ x ≠ []
  | [], o => by simp [orderGo]
  | y :: ys, o => by
    rw [orderGo, mem_order]
    by_cases hy : y.1 = []
    · rw [if_pos (by simp [hy])]
      constructor
      · rintro (h | ⟨z, hz, h⟩)
        · exact .inl h
        · exact .inr ⟨z, List.mem_cons_of_mem _ hz, h⟩
      · rintro (h | ⟨z, hz, h1, h2⟩)
        · exact .inl h
        · rcases List.mem_cons.1 hz with rfl | hz
          · exact absurd (h1.symm.trans hy) h2
          · exact .inr ⟨z, hz, h1, h2⟩
    · rw [if_neg (by simp [hy]), mem_rising]
      constructor
      · rintro ((h | rfl) | ⟨z, hz, h⟩)
        · exact .inl h
        · exact .inr ⟨y, List.mem_cons_self, rfl, hy⟩
        · exact .inr ⟨z, List.mem_cons_of_mem _ hz, h⟩
      · rintro (h | ⟨z, hz, h1, h2⟩)
        · exact .inl (.inl h)
        · rcases List.mem_cons.1 hz with rfl | hz
          · exact .inl (.inr h1.symm)
          · exact .inr ⟨z, hz, h1, h2⟩
structure InF (l : List Gate) (o o' : List (Str × Nat)) : Prop where
  from_ : ∀ y ∈ o', y ∈ o ∨ ∃ g ∈ l, g.kind = 1 ∧ g.name = y.1 ∧ y.2 = g.at_.l.length
  old : ∀ y ∈ o, y ∈ o'
  ins : ∀ g ∈ l, g.kind = 1 → ∃ y ∈ o', y.1 = g.name
theorem inGo_facts : ∀ (l : List Gate) (o : List (Str × Nat)), InF l o (inGo l o)
  | [], o => ⟨fun y h => .inl h, fun y h => h, fun g h => (by cases h)⟩
  | g :: l, o => by
    rw [inGo]
    have ih := inGo_facts l (if g.kind = 1 ∧ (o.any fun y => y.1 == g.name) = false then o ++ [(g.name, g.at_.l.length)] else o)
    generalize inGo l (if g.kind = 1 ∧ (o.any fun y => y.1 == g.name) = false then o ++ [(g.name, g.at_.l.length)] else o) = r at ih ⊢
    by_cases hq : g.kind = 1 ∧ (o.any fun y => y.1 == g.name) = false
    · rw [if_pos hq] at ih
      refine ⟨fun y hy => ?_, fun y hy => ih.old y (List.mem_append_left _ hy), fun g' hg' k1 => ?_⟩
      · rcases ih.from_ y hy with h | ⟨g', h1, h2⟩
        · rcases List.mem_append.1 h with h | h
          · exact .inl h
          · simp only [List.mem_singleton] at h
            subst h
            exact .inr ⟨g, List.mem_cons_self, hq.1, rfl, rfl⟩
        · exact .inr ⟨g', List.mem_cons_of_mem _ h1, h2⟩
      · rcases List.mem_cons.1 hg' with rfl | hg'
        · exact ⟨_, ih.old _ (List.mem_append_right _ (List.mem_singleton.2 rfl)), rfl⟩
        · exact ih.ins g' hg' k1
    · rw [if_neg hq] at ih
      refine ⟨fun y hy => ?_, ih.old, fun g' hg' k1 => ?_⟩
      · rcases ih.from_ y hy with h | ⟨g', h1, h2⟩
        · exact .inl h
        · exact .inr ⟨g', List.mem_cons_of_mem _ h1, h2⟩
      · rcases List.mem_cons.1 hg' with rfl | hg'
        · have : (o.any fun y => y.1 == g'.name) = true := by
            cases h : o.any fun y => y.1 == g'.name with
            | true => rfl
            | false => exact absurd ⟨k1, h⟩ hq
          obtain ⟨y, hy, hn⟩ := List.any_eq_true.1 this
          exact ⟨y, ih.old y hy, by simpa using hn⟩
        · exact ih.ins g' hg' k1
theorem fit_input {n : Int} {i : Nat} {g : Gate} (hf : fitB n i g = true) (k1 : g.kind = 1) : g.name ≠ [] ∧ g.at_.l.length ≤ 12 ∧ inB n g.at_.l = true := by
  simp only [fitB, if_pos k1, Bool.and_eq_true, decide_eq_true_eq] at hf
  refine ⟨fun e => ?_, hf.2.2.2.2.1, hf.2.2.2.2.2.2⟩
  have := hf.2.2.2.1
  rw [e] at this
  simp [nameB] at this
theorem symsC_mem {c : Circ} {m : MapL} (hm : symsOf c = some m) (hf : c.fits) (y : Str × Int) : y ∈ symsC c ↔ m.find y.1 = some y.2 := by
  have hS := symsOf_facts hm
  have hI := inGo_facts c.gates.l []
  have hne : ∀ g ∈ c.gates.l, g.kind = 1 → g.name ≠ [] := fun g hg k1 => by
    obtain ⟨i, hi⟩ := List.getElem?_of_mem hg
    exact (fit_input (hf.2.2 i g hi) k1).1
  have hmem : ∀ nm, nm ∈ orderL (atomsP (inputs c)) ↔ ∃ z ∈ inputs c, z.1 = nm ∧ nm ≠ [] := fun nm => by
    rw [orderL, mem_order]
    constructor
    · rintro (h | ⟨z, hz, h1, h2⟩)
      · cases h
      · rcases List.mem_cons.1 hz with rfl | hz
        · exact absurd h1.symm h2
        · obtain ⟨w, hw, rfl⟩ := List.mem_map.1 hz
          exact ⟨w, hw, h1, h2⟩
    · rintro ⟨z, hz, h1, h2⟩
      exact .inr ⟨(z.1, (z.2 : Int)), List.mem_cons_of_mem _ (List.mem_map.2 ⟨z, hz, rfl⟩), h1, h2⟩
  have har : ∀ nm, (∃ z ∈ inputs c, z.1 = nm ∧ nm ≠ []) → m.find nm = some (arI (atomsP (inputs c)) nm) := by
    rintro nm ⟨z, hz, h1, h2⟩
    have hany : ((inputs c).map fun y => (y.1, (y.2 : Int))).find? (fun y => y.1 == nm) ≠ none := by
      rw [Ne, List.find?_eq_none]
      intro hh
      exact hh (z.1, (z.2 : Int)) (List.mem_map.2 ⟨z, hz, rfl⟩) (by simpa using h1)
    obtain ⟨w, hw⟩ := Option.ne_none_iff_exists'.1 hany
    have hw1 := List.mem_of_find?_eq_some hw
    have hw2 := List.find?_some hw
    obtain ⟨v, hv, rfl⟩ := List.mem_map.1 hw1
    have e : arI (atomsP (inputs c)) nm = (v.2 : Int) := by
      unfold arI atomsP
      rw [List.find?_cons]
      have : (([] : Str) == nm) = false := by simpa using Ne.symm h2
      simp only [this, hw]
    rw [e]
    rcases hI.from_ v hv with h | ⟨g, hg, k1, k2, k3⟩
    · cases h
    · have := hS.ins g hg k1
      simp only [beq_iff_eq] at hw2
      rw [k2, hw2] at this
      rw [this, k3]
  constructor
  · intro h
    obtain ⟨nm, hn, rfl⟩ := List.mem_map.1 h
    exact har nm ((hmem nm).1 hn)
  · intro h
    rcases hS.from_ _ _ h with h0 | ⟨g, hg, k1, k2, k3⟩
    · cases h0
    · obtain ⟨z, hz, hz1⟩ := hI.ins g hg k1
      have hex : ∃ z ∈ inputs c, z.1 = y.1 ∧ y.1 ≠ [] := ⟨z, hz, hz1.trans k2, by rw [← k2]; exact hne g hg k1⟩
      have := har _ hex
      rw [h] at this
      refine List.mem_map.2 ⟨y.1, (hmem _).2 hex, ?_⟩
      cases y
      simp only [Option.some.injEq] at this ⊢
      rw [← this]
theorem all_found {c : Circ} {s : Strc} {m : MapL} (hm : symsOf c = some m) (hf : c.fits) (hv : strcB s = true) : (symsC c).all (fitZ s) = false ↔ ∃ p ∈ m, s.rels.l.find? (symB p.1 p.2) = none := by
  have hnd : (m.map (·.1)).Nodup := (symsOf_facts hm).nodup List.nodup_nil
  rw [List.all_eq_false]
  constructor
  · rintro ⟨y, hy, h⟩
    rw [fitZ_sym hv] at h
    refine ⟨y, find_memI ((symsC_mem hm hf y).1 hy), ?_⟩
    simpa using h
  · rintro ⟨p, hp, h⟩
    refine ⟨p, (symsC_mem hm hf p).2 (mem_findI hnd hp), ?_⟩
    rw [fitZ_sym hv, h]; simp

/-! ### Bits -/
theorem bitT_find {n : Nat} {nm : Str} {r : Nat} : ∀ {l : List Rel}, (l.map Rel.name).Nodup → ∀ b, bitT nm r (l.map (tabOf n)) b = match l.find? (namedB nm) with
    | some q => (tabOf n q).bits.getD r false
    | none => b
  | [], _, b => rfl
  | q :: l, hn, b => by
    rw [List.map_cons, List.nodup_cons] at hn
    rw [List.map_cons, bitT, bitT_find hn.2, List.find?_cons]
    cases hq : namedB nm q with
    | true =>
      have hq' : q.name == nm := hq
      have h0 : l.find? (namedB nm) = none := by
        rw [List.find?_eq_none]
        intro r hr hs
        simp only [namedB, beq_iff_eq] at hs hq'
        exact hn.1 (by rw [hq', ← hs]; exact List.mem_map_of_mem hr)
      rw [h0]
      simp only
      rw [if_pos (show ((tabOf n q).name == nm) = true from hq)]
    | false =>
      rw [if_neg (by rw [show ((tabOf n q).name == nm) = false from hq]; decide)]
theorem val_eq {n : Nat} {tabs : List Tab} {look : Str → Nat → Bool} : ∀ {l : List Gate}, (∀ g ∈ l, ∀ i d, valueB n tabs d i g = valueL look n d g) → ∀ i d, valGo n tabs l i d = valL look n l i d
  | [], _, _, _ => rfl
  | g :: l, h, i, d => by
    rw [valGo, valL, h g List.mem_cons_self, val_eq fun g' hg' => h g' (List.mem_cons_of_mem _ hg')]
/-- What the bits of an input are. -/
theorem input_bits {c : Circ} {s : Strc} {n : Nat} {m : MapL} {D : Str → Option (Nat × List Bool)} (hm : symsOf c = some m) (hf : c.fits) (hv : strcB s = true) (hn : s.size = (n : Int)) (hF : FitsD n s m D) (hA : AllD m D) {g : Gate} (hg : g ∈ c.gates.l) (k1 : g.kind = 1) :
    ∃ p r, D g.name = some p ∧ s.rels.l.find? (namedB g.name) = some r ∧ r.arity = (g.at_.l.length : Int) ∧ p.2 = bitsOf n g.at_.l.length r.tuples.l ∧ n ^ g.at_.l.length ≤ 4096 := by
  have hS := symsOf_facts hm
  have hin := hS.ins g hg k1
  have hD := hA _ (find_memI hin)
  obtain ⟨p, hp⟩ := Option.isSome_iff_exists.1 hD
  obtain ⟨k, r, h1, h2, h3⟩ := hF.to _ _ hp
  simp only at h1
  rw [hin] at h1
  obtain rfl : k = g.at_.l.length := by simp only [Option.some.injEq] at h1; omega
  have h4 := h2
  rw [find_symL (strc_names hv)] at h4
  cases hr : s.rels.l.find? (namedB g.name) with
  | none => rw [hr] at h4; cases h4
  | some q =>
    rw [hr] at h4
    simp only at h4
    split at h4
    · rename_i ha
      cases h4
      obtain ⟨i, hi⟩ := List.getElem?_of_mem (List.mem_of_find?_eq_some hr)
      have hrb := strc_rel hv hi
      rw [show s.size.toNat = n by omega] at hrb
      obtain ⟨k', e1, e2, e3, e4⟩ := rel_all hrb
      obtain rfl : k' = g.at_.l.length := by omega
      exact ⟨p, _, hp, rfl, ha, h3, e3⟩
    · cases h4
theorem size_fit {c : Circ} {s : Strc} {n : Nat} (hz : c.size = s.size) (hn : s.size = (n : Int)) (hf : c.fits) {g : Gate} (hg : g ∈ c.gates.l) (k1 : g.kind = 1) : g.at_.l.length ≤ 12 ∧ inB (n : Int) g.at_.l = true := by
  obtain ⟨i, hi⟩ := List.getElem?_of_mem hg
  have := fit_input (hf.2.2 i g hi) k1
  rw [hz, hn] at this
  exact this.2
theorem runsD_of {c : Circ} {s : Strc} {n : Nat} {m : MapL} {D : Str → Option (Nat × List Bool)} (hm : symsOf c = some m) (hf : c.fits) (hv : strcB s = true) (hz : c.size = s.size) (hn : s.size = (n : Int)) (hF : FitsD n s m D) (hA : AllD m D) : RunsD n D c := by
  refine ⟨fun g hg k1 => (size_fit hz hn hf hg k1).1, fun g hg k1 => ?_, fun g hg k1 => (size_fit hz hn hf hg k1).2, fun g hg k1 => ?_⟩
  · obtain ⟨p, r, h1, h2, h3, h4, h5⟩ := input_bits hm hf hv hn hF hA hg k1
    exact h5
  · obtain ⟨p, r, h1, h2, h3, h4, h5⟩ := input_bits hm hf hv hn hF hA hg k1
    exact ⟨p, h1, by rw [h4, bitsOf_len]; exact rkN_lt (size_fit hz hn hf hg k1).2⟩
theorem all_some {c : Circ} {s : Strc} {m : MapL} (hm : symsOf c = some m) (hf : c.fits) (hv : strcB s = true) (ha : (symsC c).all (fitZ s) = true) {g : Gate} (hg : g ∈ c.gates.l) (k1 : g.kind = 1) : ∃ r, s.rels.l.find? (namedB g.name) = some r ∧ r.arity = (g.at_.l.length : Int) := by
  have hin := (symsOf_facts hm).ins g hg k1
  have hy := (symsC_mem hm hf (g.name, (g.at_.l.length : Int))).2 hin
  have := List.all_eq_true.1 ha _ hy
  rw [fitZ] at this
  split at this
  · rename_i r hr; exact ⟨r, hr, by simpa using this⟩
  · cases this
theorem runs_of {c : Circ} {s : Strc} {n : Nat} {m : MapL} (hm : symsOf c = some m) (hf : c.fits) (hv : strcB s = true) (hz : c.size = s.size) (hn : s.size = (n : Int)) (ha : (symsC c).all (fitZ s) = true) : Runs n (tabsOf s) c := by
  have hrel : ∀ r ∈ s.rels.l, relB n r = true := fun r hr => by
    obtain ⟨i, hi⟩ := List.getElem?_of_mem hr
    have hrb := strc_rel hv hi
    rwa [show s.size.toNat = n by omega] at hrb
  refine ⟨fun g hg k1 => (size_fit hz hn hf hg k1).1, fun g hg k1 => ?_, fun g hg k1 => (size_fit hz hn hf hg k1).2, fun g hg k1 t ht htn => ?_⟩
  · obtain ⟨r, h1, h2⟩ := all_some hm hf hv ha hg k1
    obtain ⟨k', e1, e2, e3, e4⟩ := rel_all (hrel r (List.mem_of_find?_eq_some h1))
    obtain rfl : k' = g.at_.l.length := by omega
    exact e3
  · obtain ⟨r, h1, h2⟩ := all_some hm hf hv ha hg k1
    obtain ⟨q, hq, rfl⟩ := List.mem_map.1 ht
    have h3 := find_namedL (strc_names hv) q hq
    rw [show q.name = g.name from htn, h1] at h3
    cases h3
    simp only [tabOf, bitsOf_len, h2, show s.size.toNat = n by omega, Int.toNat_natCast]
    exact rkN_lt (size_fit hz hn hf hg k1).2

def runV (c : Circ) (s : Strc) : Bool := decide (errI c s = 0) && valB s.size.toNat (tabsOf s) c
end
end Go.AM
/- The law GateRuns. Conditions: none. -/
namespace Go.AM
open Go Go.Proofs
set_option linter.unusedVariables false
set_option linter.unusedSimpArgs false
noncomputable section

theorem err_ok {c : Circ} {s : Strc} (h : errI c s = 0) : validB c = true ∧ strcB s = true ∧ c.size = s.size ∧ (symsC c).all (fitZ s) = true := by
  unfold errI at h
  split at h
  · cases h
  rename_i h1
  split at h
  · cases h
  rename_i h2
  split at h
  · cases h
  rename_i h3
  simp only [not_or, Bool.not_eq_false] at h1
  exact ⟨h1.1, h1.2, Decidable.not_not.1 h2, by simpa using h3⟩
theorem row_strc (s : Strc) : rowS [.int .i64 0, .nils] [(0, 2)] [.agg (encStrc s)] = some (encStrc s) := by
  obtain ⟨n, r⟩ := s
  cases r <;> rfl
theorem runs_err {c : Circ} {s : Strc} (h : errI c s = 0) {n : Nat} (hn : s.size = (n : Int)) : Runs n (tabsOf s) c := by
  obtain ⟨h1, h2, h3, h4⟩ := err_ok h
  obtain ⟨m, hm⟩ := Option.isSome_iff_exists.1 (show (symsOf c).isSome = true from h1)
  exact runs_of hm (fits_valid h1) h2 h3 hn h4

end
end Go.AM
/- Structures, as what they say: which are valid, what is in them, what a change does. Conditions: none. -/
namespace Go.AM
open Go Go.Proofs
set_option linter.unusedVariables false
set_option linter.unusedSimpArgs false
noncomputable section

/-! ### Tuples in order -/
theorem lessB_rk {n : Nat} : ∀ {a b : List Int} (r : Nat), a.length = b.length → inB n a = true → inB n b = true → lessB a b = true → rkGo n a r < rkGo n b r
  | [], _, r, _, _, _, h => by simp [lessB] at h
  | _ :: _, [], r, _, _, _, h => by simp [lessB] at h
  | x :: a, y :: b, r, hl, ha, hb, h => by
    have ha' := ha
    have hb' := hb
    simp only [inB, List.all_cons, Bool.and_eq_true, Bool.not_eq_true', decide_eq_false_iff_not] at ha hb
    have ia : inB n a = true := by unfold inB; simpa using ha.2
    have ib : inB n b = true := by unfold inB; simpa using hb.2
    have hl' : a.length = b.length := by simpa using hl
    rw [lessB] at h
    simp only [rkGo]
    by_cases e : x = y
    · subst e
      rw [if_pos rfl] at h
      exact lessB_rk _ hl' ia ib h
    · rw [if_neg e] at h
      have hxy := of_decide_eq_true h
      have lo : ∀ (l : List Int) (r : Nat), r * n ^ l.length ≤ rkGo n l r := by
        intro l
        induction l with
        | nil => intro r; simp [rkGo]
        | cons z l ih =>
          intro r
          rw [rkGo]
          refine Nat.le_trans ?_ (ih _)
          rw [List.length_cons, Nat.pow_succ, Nat.mul_comm (n ^ l.length) n, ← Nat.mul_assoc]
          exact Nat.mul_le_mul_right _ (Nat.le_add_right _ _)
      have hi : ∀ (l : List Int) (r : Nat), inB n l = true → rkGo n l r < (r + 1) * n ^ l.length := by
        intro l
        induction l with
        | nil => intro r _; simp [rkGo]
        | cons z l ih =>
          intro r hz
          simp only [inB, List.all_cons, Bool.and_eq_true, Bool.not_eq_true', decide_eq_false_iff_not] at hz
          rw [rkGo]
          refine Nat.lt_of_lt_of_le (ih _ (by unfold inB; simpa using hz.2)) ?_
          rw [List.length_cons, Nat.pow_succ, Nat.mul_comm (n ^ l.length) n, ← Nat.mul_assoc]
          refine Nat.mul_le_mul_right _ ?_
          rw [Nat.succ_mul]; omega
      have q1 := hi a (r * n + x.toNat) ia
      have q2 := lo b (r * n + y.toNat)
      have q3 : (r * n + x.toNat + 1) * n ^ a.length ≤ (r * n + y.toNat) * n ^ b.length := by
        rw [hl']; exact Nat.mul_le_mul_right _ (by omega)
      omega
theorem lessB_rkN {n : Nat} {a b : List Int} (hl : a.length = b.length) (ha : inB n a = true) (hb : inB n b = true) (h : lessB a b = true) : rkN n a < rkN n b := lessB_rk 0 hl ha hb h
/-- The tuples of a relation, as a property of what it says. -/
def TupP (n k : Nat) (l : List (List Int)) : Prop := (∀ t ∈ l, t.length = k ∧ inB n t = true) ∧ SortT l
theorem chain_sort : ∀ {l : List (List Int)}, (∀ i a b, l[i]? = some a → l[i + 1]? = some b → lessB a b = true) → SortT l
  | [], _ => .nil
  | x :: l, h => by
    have ih : SortT l := chain_sort fun i a b ha hb => h (i + 1) a b (by simpa using ha) (by simpa using hb)
    refine List.pairwise_cons.2 ⟨fun y hy => ?_, ih⟩
    cases l with
    | nil => cases hy
    | cons z l =>
      have hz := h 0 x z rfl rfl
      rcases List.mem_cons.1 hy with rfl | hy
      · exact hz
      · exact lessB_trans hz ((List.pairwise_cons.1 ih).1 y hy)
theorem sort_chain {l : List (List Int)} (hs : SortT l) {i : Nat} {a b : List Int} (ha : l[i]? = some a) (hb : l[i + 1]? = some b) : lessB a b = true := by
  obtain ⟨h1, rfl⟩ := List.getElem?_eq_some_iff.1 ha
  obtain ⟨h2, rfl⟩ := List.getElem?_eq_some_iff.1 hb
  exact List.pairwise_iff_getElem.1 hs i (i + 1) h1 h2 (Nat.lt_succ_self i)
theorem tupB_iff {n k : Nat} {l : List (Sl Int)} : tupB n k l = true ↔ TupP n k (l.map Sl.l) := by
  constructor
  · intro h
    refine ⟨fun t ht => ?_, chain_sort fun i a b ha hb => ?_⟩
    · obtain ⟨u, hu, rfl⟩ := List.mem_map.1 ht
      obtain ⟨i, hi⟩ := List.getElem?_of_mem hu
      exact tup_in h hi
    · rw [List.getElem?_map] at ha hb
      obtain ⟨p, hp, rfl⟩ := Option.map_eq_some_iff.1 ha
      obtain ⟨t, ht, rfl⟩ := Option.map_eq_some_iff.1 hb
      have := allN_get h (List.getElem?_eq_some_iff.1 ht).1
      unfold tupAt at this
      rw [ht] at this
      simp only [hp, Bool.and_eq_true] at this
      exact this.2.2
  · rintro ⟨h1, h2⟩
    refine allN_true fun i hi => ?_
    have ht : l[i]? = some l[i] := List.getElem?_eq_getElem hi
    generalize l[i] = t at ht
    obtain ⟨q1, q2⟩ := h1 t.l (List.mem_map_of_mem (List.mem_of_getElem? ht))
    unfold tupAt
    rw [ht]
    simp only [q1, q2, decide_true, Bool.true_and]
    cases i with
    | zero => rfl
    | succ j =>
      have hj : j < l.length := by omega
      have hp : l[j]? = some l[j] := List.getElem?_eq_getElem hj
      generalize l[j] = p at hp
      simp only [hp]
      exact sort_chain h2 (i := j) (by rw [List.getElem?_map, hp]; rfl) (by rw [List.getElem?_map, ht]; rfl)
theorem tup_few {n k : Nat} {l : List (List Int)} (h : TupP n k l) : l.length ≤ n ^ k := by
  have key : ∀ i a, l[i]? = some a → i ≤ rkN n a := by
    intro i
    induction i with
    | zero => intro a _; exact Nat.zero_le _
    | succ i ih =>
      intro b hb
      have hi : i < l.length := by have := (List.getElem?_eq_some_iff.1 hb).1; omega
      have ha : l[i]? = some l[i] := List.getElem?_eq_getElem hi
      generalize l[i] = a at ha
      have := ih a ha
      obtain ⟨a1, a2⟩ := h.1 a (List.mem_of_getElem? ha)
      obtain ⟨b1, b2⟩ := h.1 b (List.mem_of_getElem? hb)
      have := lessB_rkN (by omega) a2 b2 (sort_chain h.2 ha hb)
      omega
  cases hl : l.length with
  | zero => exact Nat.zero_le _
  | succ m =>
    have hm : l[m]? = some (l[m]'(by omega)) := List.getElem?_eq_getElem _
    have h1 := key m _ hm
    obtain ⟨a1, a2⟩ := h.1 _ (List.mem_of_getElem? hm)
    have h2 := rkN_lt a2
    rw [a1] at h2
    omega

/-! ### Valid structures -/
abbrev DatR := Str × Int × List (List Int)
/-- A relation that is as it should be, by what it says. -/
def RelP (n : Nat) (d : DatR) : Prop := nameB d.1 = true ∧ ∃ k : Nat, d.2.1 = (k : Int) ∧ k ≤ 12 ∧ n ^ k ≤ 4096 ∧ TupP n k d.2.2
theorem relB_iff {n : Nat} {r : Rel} : relB n r = true ↔ RelP n (datR r) := by
  constructor
  · intro h
    obtain ⟨k, h1, h2, h3, h4⟩ := rel_all h
    simp only [relB, Bool.and_eq_true] at h
    exact ⟨h.1, k, h1, h2, h3, tupB_iff.1 h4⟩
  · rintro ⟨h0, k, h1, h2, h3, h4⟩
    have h1' : r.arity = (k : Int) := h1
    have hk : r.arity.toNat = k := by omega
    simp only [relB, Bool.and_eq_true, decide_eq_true_eq, hk]
    exact ⟨h0, by omega, by omega, h3, tupB_iff.2 h4⟩
structure StrcP (size : Int) (ds : List DatR) : Prop where
  lo : 1 ≤ size
  hi : size ≤ 64
  few : ds.length ≤ 8
  rel : ∀ d ∈ ds, RelP size.toNat d
  names : (ds.map (·.1)).Nodup
theorem strc_iff {s : Strc} : strcB s = true ↔ StrcP s.size (s.rels.l.map datR) := by
  constructor
  · intro h
    have h' := h
    simp only [strcB, Bool.and_eq_true, decide_eq_true_eq] at h'
    refine ⟨h'.1, h'.2.1, by simpa using h'.2.2.1, fun d hd => ?_, ?_⟩
    · obtain ⟨r, hr, rfl⟩ := List.mem_map.1 hd
      obtain ⟨i, hi⟩ := List.getElem?_of_mem hr
      exact relB_iff.1 (strc_rel h hi)
    · have := strc_names h
      rw [List.map_map]; exact this
  · rintro ⟨h1, h2, h3, h4, h5⟩
    rw [List.length_map] at h3
    simp only [strcB, Bool.and_eq_true, decide_eq_true_eq]
    refine ⟨h1, h2, h3, allN_true fun i hi => ?_⟩
    have hr : s.rels.l[i]? = some s.rels.l[i] := List.getElem?_eq_getElem hi
    have hr' := hr
    generalize s.rels.l[i] = r at hr
    rw [relAt, hr]
    simp only [Bool.and_eq_true, Bool.not_eq_true']
    refine ⟨relB_iff.2 (h4 _ (List.mem_map_of_mem (List.mem_of_getElem? hr))), ?_⟩
    rw [Bool.eq_false_iff]
    intro hany
    obtain ⟨q, hq, hqn⟩ := List.any_eq_true.1 hany
    obtain ⟨j, hj⟩ := List.getElem?_of_mem hq
    have hji : j < i := by have := (List.getElem?_eq_some_iff.1 hj).1; rw [List.length_take] at this; omega
    rw [List.getElem?_take_of_lt hji] at hj
    rw [List.map_map, List.Nodup, List.pairwise_iff_getElem] at h5
    have hjl : j < s.rels.l.length := by omega
    have := h5 j i (by simpa using hjl) (by simpa using hi) hji
    rw [List.getElem_map, List.getElem_map] at this
    rw [List.getElem?_eq_getElem hjl] at hj
    rw [List.getElem?_eq_getElem hi] at hr
    cases hj; cases hr
    simp only [beq_iff_eq] at hqn
    exact this hqn
theorem strc_small {s : Strc} (h : strcB s = true) : s.small ∧ s.ok := by
  have hp := strc_iff.1 h
  have len : ∀ r ∈ s.rels.l, r.tuples.l.length ≤ 4096 ∧ (∀ t ∈ r.tuples.l, t.l.length ≤ 12) ∧ r.name.length ≤ 12 := fun r hr => by
    obtain ⟨h0, k, h1, h2, h3, h4⟩ := hp.rel _ (List.mem_map_of_mem hr)
    have := tup_few h4
    simp only [datR, List.length_map] at this
    refine ⟨by omega, fun t ht => ?_, ?_⟩
    · have := (h4.1 t.l (List.mem_map_of_mem ht)).1; omega
    · replace h0 : nameB r.name = true := h0
      unfold nameB at h0
      split at h0
      · cases h0
      · simp only [Bool.and_eq_true, decide_eq_true_eq] at h0; exact h0.1
  have hl : s.rels.l.length ≤ 8 := by have := hp.few; simpa using this
  exact ⟨⟨by omega, fun r hr => by have := (len r hr).1; omega, fun r hr t ht => by have := (len r hr).2.1 t ht; omega⟩,
    ⟨by unfold big; omega, fun r hr => ⟨by have := (len r hr).2.2; unfold big; omega, by have := (len r hr).1; unfold big; omega, fun t ht => by have := (len r hr).2.1 t ht; unfold big; omega⟩⟩⟩

/-! ### What a structure says of a name and a rank -/
def HasF (n : Nat) (ds : List DatR) (nm : Str) (r : Nat) : Prop := ∃ d ∈ ds, d.1 = nm ∧ ∃ u ∈ d.2.2, rkN n u = r
def lookS (n : Nat) (s : Strc) (nm : Str) (r : Nat) : Bool := match s.rels.l.find? (namedB nm) with
  | some q => (tabOf n q).bits.getD r false
  | none => false
theorem bits_getD {n r : Nat} : ∀ (ts : List (Sl Int)) (d : List Bool), r < d.length → (bitsGo n ts d).getD r false = (d.getD r false || (ts.map Sl.l).any fun u => rkN n u == r)
  | [], d, _ => by simp [bitsGo]
  | t :: ts, d, hr => by
    rw [bitsGo, bits_getD ts _ (by simpa using hr), List.map_cons, List.any_cons]
    by_cases h : rkN n t.l = r
    · rw [h, List.getD_eq_getElem?_getD, List.getElem?_set_self hr]; simp
    · have : (rkN n t.l == r) = false := by simpa using h
      rw [List.getD_eq_getElem?_getD, List.getElem?_set_ne h, ← List.getD_eq_getElem?_getD, this, Bool.false_or]
theorem lookS_iff {n : Nat} {s : Strc} (hv : strcB s = true) (hn : s.size = (n : Int)) {nm : Str} {r k : Nat} {q : Rel} (hq : s.rels.l.find? (namedB nm) = some q) (hk : q.arity = (k : Int)) (hr : r < n ^ k) : lookS n s nm r = true ↔ HasF n (s.rels.l.map datR) nm r := by
  have hqm := List.mem_of_find?_eq_some hq
  have hqn : q.name = nm := by have := List.find?_some hq; simpa [namedB] using this
  unfold lookS
  rw [hq]
  simp only [tabOf, bitsOf, hk, Int.toNat_natCast]
  rw [bits_getD _ _ (by simpa using hr)]
  have : (List.replicate (n ^ k) false).getD r false = false := by rw [List.getD_eq_getElem?_getD, List.getElem?_replicate]; split <;> rfl
  rw [this, Bool.false_or, List.any_eq_true]
  constructor
  · rintro ⟨u, hu, he⟩
    exact ⟨datR q, List.mem_map_of_mem hqm, hqn, u, hu, by simpa using he⟩
  · rintro ⟨d, hd, hdn, u, hu, he⟩
    obtain ⟨p, hp, rfl⟩ := List.mem_map.1 hd
    have h1 := find_namedL (strc_names hv) p hp
    rw [show p.name = nm from hdn, hq] at h1
    cases h1
    exact ⟨u, hu, by simpa using he⟩
/-- The value of a circuit, by what the structure says. -/
theorem valB_look {c : Circ} {s : Strc} {n : Nat} (h0 : errI c s = 0) (hn : s.size = (n : Int)) : valB n (tabsOf s) c = valueOf (lookS n s) n c := by
  obtain ⟨h1, h2, h3, h4⟩ := err_ok h0
  obtain ⟨m, hm⟩ := Option.isSome_iff_exists.1 (show (symsOf c).isSome = true from h1)
  unfold valueOf valB valsL valsOf
  rw [val_eq (tabs := tabsOf s) (look := lookS n s)]
  intro g hg i d
  unfold valueB valueL
  split
  · rfl
  split
  · rename_i k1
    obtain ⟨q, hq, ha⟩ := all_some hm (fits_valid h1) h2 h4 hg k1
    rw [tabsOf, bitT_find (strc_names h2), hq, lookS, hq]
    simp only [show s.size.toNat = n by omega]
  · rfl

/-! ### Names and arities alone -/
def sigD (d : DatR) : Str × Int := (d.1, d.2.1)
theorem fitZ_sig {s s' : Strc} (h : (s.rels.l.map datR).map sigD = (s'.rels.l.map datR).map sigD) (y : Str × Int) : fitZ s y = fitZ s' y := by
  have key : ∀ l : List Rel, (match l.find? (namedB y.1) with | some r => decide (r.arity = y.2) | none => false) = (match ((l.map datR).map sigD).find? (fun p => p.1 == y.1) with | some p => decide (p.2 = y.2) | none => false) := by
    intro l
    induction l with
    | nil => rfl
    | cons q l ih =>
      rw [List.map_cons, List.map_cons, List.find?_cons, List.find?_cons]
      cases hq : namedB y.1 q with
      | true => rw [show ((sigD (datR q)).1 == y.1) = true from hq]; rfl
      | false => rw [show ((sigD (datR q)).1 == y.1) = false from hq]; exact ih
  have e1 := key s.rels.l
  have e2 := key s'.rels.l
  rw [h] at e1
  unfold fitZ
  exact e1.trans e2.symm
theorem err_sig {c : Circ} {s s' : Strc} (hz : s'.size = s.size) (hv : strcB s = true) (hv' : strcB s' = true) (h : (s'.rels.l.map datR).map sigD = (s.rels.l.map datR).map sigD) : errI c s' = errI c s := by
  unfold errI
  rw [hv, hv', hz]
  have : (fitZ s' : Str × Int → Bool) = fitZ s := by funext y; exact fitZ_sig h y
  rw [this]

/-! ### A change -/
theorem put_sig {s s' : Strc} {j : Nat} {r : Rel} {t : List Int} {is : Bool} (hr : s.rels.l[j]? = some r) (hp : PutR s j r t is s') : (s'.rels.l.map datR).map sigD = (s.rels.l.map datR).map sigD := by
  obtain ⟨ts, h1, h2, h3⟩ := hp.rels
  rw [h3, List.map_set]
  apply List.ext_getElem?
  intro i
  by_cases hi : j = i
  · subst hi
    have hl : j < s.rels.l.length := (List.getElem?_eq_some_iff.1 hr).1
    rw [List.getElem?_set_self (by simpa using hl)]
    simp only [List.getElem?_map, hr]; rfl
  · rw [List.getElem?_set_ne hi]
theorem put_valid {s s' : Strc} {j k : Nat} {r : Rel} {t : List Int} {is : Bool} (hv : strcB s = true) (hr : s.rels.l[j]? = some r) (hk : r.arity = (k : Int)) (ht : t.length = k) (hb : inB s.size.toNat t = true) (hp : PutR s j r t is s') : strcB s' = true := by
  have hS := strc_iff.1 hv
  have hsig := put_sig hr hp
  obtain ⟨ts, h1, h2, h3⟩ := hp.rels
  have hz := hp.size
  rw [strc_iff]
  have hnm : ∀ l : List DatR, l.map (·.1) = (l.map sigD).map (·.1) := fun l => by rw [List.map_map]; rfl
  refine ⟨by rw [hz]; exact hS.lo, by rw [hz]; exact hS.hi, ?_, fun d hd => ?_, ?_⟩
  · have := congrArg List.length hsig
    simp only [List.length_map] at this
    have := hS.few
    simp only [List.length_map] at this ⊢
    omega
  · rw [hz]
    rw [h3] at hd
    rcases List.mem_or_eq_of_mem_set hd with hd | rfl
    · exact hS.rel d hd
    · obtain ⟨q0, k', q1, q2, q3, q4⟩ := hS.rel _ (List.mem_map_of_mem (List.mem_of_getElem? hr))
      have q1' : r.arity = (k' : Int) := q1
      obtain rfl : k' = k := by omega
      refine ⟨q0, k', q1, q2, q3, fun u hu => ?_, h1⟩
      rcases (h2 u).1 hu with ⟨a, _⟩ | ⟨_, a⟩
      · exact q4.1 u a
      · rw [a]; exact ⟨ht, hb⟩
  · rw [hnm, hsig, ← hnm]; exact hS.names
/-- What a change does to what a structure says. -/
theorem put_has {s s' : Strc} {n j k : Nat} {r : Rel} {t : List Int} {is : Bool} (hv : strcB s = true) (hn : s.size = (n : Int)) (hr : s.rels.l[j]? = some r) (hk : r.arity = (k : Int)) (ht : t.length = k) (hb : inB n t = true) (hp : PutR s j r t is s') (nm : Str) (q : Nat) :
    HasF n (s'.rels.l.map datR) nm q ↔ if nm = r.name then ((HasF n (s.rels.l.map datR) nm q ∧ q ≠ rkN n t) ∨ (is = true ∧ q = rkN n t)) else HasF n (s.rels.l.map datR) nm q := by
  have hS := strc_iff.1 hv
  obtain ⟨ts, h1, h2, h3⟩ := hp.rels
  have hjl : j < (s.rels.l.map datR).length := by have := (List.getElem?_eq_some_iff.1 hr).1; simpa using this
  have hrd : (s.rels.l.map datR)[j]? = some (datR r) := by rw [List.getElem?_map, hr]; rfl
  have hnn : s.size.toNat = n := by omega
  have hrel := hS.rel _ (List.mem_of_getElem? hrd)
  rw [hnn] at hrel
  obtain ⟨_, k', q1, _, _, q4⟩ := hrel
  have q1' : r.arity = (k' : Int) := q1
  obtain rfl : k' = k := by omega
  have huniq : ∀ d ∈ s.rels.l.map datR, d.1 = r.name → d = datR r := fun d hd hdn => by
    obtain ⟨i, hi⟩ := List.getElem?_of_mem hd
    have hN := hS.names
    have e1 : ((s.rels.l.map datR).map (·.1))[i]? = some r.name := by rw [List.getElem?_map, hi, Option.map_some, hdn]
    have e2 : ((s.rels.l.map datR).map (·.1))[j]? = some r.name := by rw [List.getElem?_map, hrd]; rfl
    have : i = j := by
      obtain ⟨l1, l2⟩ := List.getElem?_eq_some_iff.1 e1
      obtain ⟨l3, l4⟩ := List.getElem?_eq_some_iff.1 e2
      by_cases hlt : i < j
      · exact absurd (l2.trans l4.symm) (List.pairwise_iff_getElem.1 hN i j l1 l3 hlt)
      · by_cases hgt : j < i
        · exact absurd (l4.trans l2.symm) (List.pairwise_iff_getElem.1 hN j i l3 l1 hgt)
        · omega
    subst this
    rw [hi] at hrd; cases hrd; rfl
  have hnew : (r.name, r.arity, ts) ∈ s'.rels.l.map datR := by rw [h3]; exact List.mem_of_getElem? (List.getElem?_set_self hjl)
  have hold : ∀ d ∈ s.rels.l.map datR, d.1 ≠ r.name → d ∈ s'.rels.l.map datR := fun d hd hdn => by
    obtain ⟨i, hi⟩ := List.getElem?_of_mem hd
    rw [h3]
    refine List.mem_of_getElem? (i := i) ?_
    rw [List.getElem?_set_ne (fun e => ?_)]
    · exact hi
    · subst e; rw [hi] at hrd; cases hrd; exact hdn rfl
  have hback : ∀ d ∈ s'.rels.l.map datR, (d = (r.name, r.arity, ts)) ∨ (d ∈ s.rels.l.map datR ∧ d.1 ≠ r.name) := fun d hd => by
    obtain ⟨i, hi⟩ := List.getElem?_of_mem hd
    rw [h3] at hi
    by_cases e : j = i
    · subst e; rw [List.getElem?_set_self hjl] at hi; cases hi; exact .inl rfl
    · rw [List.getElem?_set_ne e] at hi
      refine .inr ⟨List.mem_of_getElem? hi, fun hdn => e ?_⟩
      have e1 : ((s.rels.l.map datR).map (·.1))[i]? = some r.name := by rw [List.getElem?_map, hi, Option.map_some, hdn]
      have e2 : ((s.rels.l.map datR).map (·.1))[j]? = some r.name := by rw [List.getElem?_map, hrd]; rfl
      obtain ⟨l1, l2⟩ := List.getElem?_eq_some_iff.1 e1
      obtain ⟨l3, l4⟩ := List.getElem?_eq_some_iff.1 e2
      have hN := hS.names
      by_cases hlt : i < j
      · exact absurd (l2.trans l4.symm) (List.pairwise_iff_getElem.1 hN i j l1 l3 hlt)
      · by_cases hgt : j < i
        · exact absurd (l4.trans l2.symm) (List.pairwise_iff_getElem.1 hN j i l3 l1 hgt)
        · omega
  have hin : ∀ u, u ∈ r.tuples.l.map Sl.l → u.length = k' ∧ inB n u = true := fun u hu => q4.1 u hu
  by_cases hnm : nm = r.name
  · rw [if_pos hnm]
    subst hnm
    constructor
    · rintro ⟨d, hd, hdn, u, hu, he⟩
      rcases hback d hd with rfl | ⟨_, h⟩
      · rcases (h2 u).1 hu with ⟨a, b⟩ | ⟨a, b⟩
        · refine .inl ⟨⟨datR r, List.mem_of_getElem? hrd, rfl, u, a, he⟩, fun e => b ?_⟩
          obtain ⟨u1, u2⟩ := hin u a
          exact rkN_inj (by omega) u2 hb (he.trans e)
        · exact .inr ⟨a, by rw [← he, b]⟩
      · exact absurd hdn h
    · rintro (⟨⟨d, hd, hdn, u, hu, he⟩, hne⟩ | ⟨his, he⟩)
      · obtain rfl := huniq d hd hdn
        exact ⟨_, hnew, rfl, u, (h2 u).2 (.inl ⟨hu, fun e => hne (by rw [← he, e])⟩), he⟩
      · exact ⟨_, hnew, rfl, t, (h2 t).2 (.inr ⟨his, rfl⟩), he.symm⟩
  · rw [if_neg hnm]
    constructor
    · rintro ⟨d, hd, hdn, u, hu, he⟩
      rcases hback d hd with rfl | ⟨h, _⟩
      · exact absurd hdn.symm hnm
      · exact ⟨d, h, hdn, u, hu, he⟩
    · rintro ⟨d, hd, hdn, u, hu, he⟩
      exact ⟨d, hold d hd (by rw [hdn]; exact hnm), hdn, u, hu, he⟩
end
end Go.AM
/- More tuples never take a circuit without negations from true to false: the law GateMonotone. Conditions: none. -/
namespace Go.AM
open Go Go.Proofs
set_option linter.unusedVariables false
set_option linter.unusedSimpArgs false
noncomputable section

/-! ### The plain law -/
def LeB (d d' : List Bool) : Prop := ∀ k : Int, atB d k = true → atB d' k = true
theorem atB_set {d : List Bool} {i : Nat} {b : Bool} (k : Int) : atB (d.set i b) k = if k.toNat = i ∧ i < d.length then b else atB d k := by
  unfold atB
  rw [List.getD_eq_getElem?_getD, List.getD_eq_getElem?_getD]
  by_cases h : k.toNat = i
  · subst h
    by_cases hl : k.toNat < d.length
    · rw [if_pos ⟨rfl, hl⟩, List.getElem?_set_self hl]; rfl
    · rw [if_neg (fun h => hl h.2), List.set_eq_of_length_le (by omega)]
  · rw [if_neg (fun hh => h hh.1), List.getElem?_set_ne (Ne.symm h)]
theorem LeB.set {d d' : List Bool} (h : LeB d d') (hl : d.length = d'.length) (i : Nat) {b b' : Bool} (hb : b = true → b' = true) : LeB (d.set i b) (d'.set i b') := fun k hk => by
  rw [atB_set] at hk ⊢
  by_cases e : k.toNat = i ∧ i < d.length
  · rw [if_pos e] at hk
    rw [if_pos ⟨e.1, by omega⟩]; exact hb hk
  · rw [if_neg e] at hk
    rw [if_neg (fun hh => e ⟨hh.1, by omega⟩)]; exact h k hk
theorem value_mono {look look' : Str → Nat → Bool} {n : Nat} {d d' : List Bool} {g : Gate} (hd : LeB d d') (hk : g.kind ≠ 2) (hl : g.kind = 1 → look g.name (rkN n g.at_.l) = true → look' g.name (rkN n g.at_.l) = true) (h : valueL look n d g = true) : valueL look' n d' g = true := by
  unfold valueL at h ⊢
  by_cases c0 : g.kind = 0
  · rw [if_pos c0]
  rw [if_neg c0] at h ⊢
  by_cases c1 : g.kind = 1
  · rw [if_pos c1] at h ⊢; exact hl c1 h
  rw [if_neg c1, if_neg hk] at h ⊢
  unfold gateV at h ⊢
  by_cases c3 : g.kind = 3
  · rw [c3] at h ⊢
    simp only [decide_true] at h ⊢
    split at h
    · simp at h
    · rename_i hn
      rw [if_neg]
      intro ha
      apply hn
      obtain ⟨k, hk, hb⟩ := List.any_eq_true.1 ha
      refine List.any_eq_true.2 ⟨k, hk, ?_⟩
      cases hq : atB d k with
      | false => rfl
      | true => rw [hd k hq] at hb; simp at hb
  · rw [decide_eq_false c3] at h ⊢
    split at h
    · rename_i ha
      obtain ⟨k, hk, hb⟩ := List.any_eq_true.1 ha
      rw [if_pos]
      · exact h
      · refine List.any_eq_true.2 ⟨k, hk, ?_⟩
        have : atB d k = true := by simpa using hb
        rw [hd k this]; rfl
    · cases h
theorem val_mono {look look' : Str → Nat → Bool} {n : Nat} : ∀ {l : List Gate}, (∀ g ∈ l, g.kind ≠ 2 ∧ (g.kind = 1 → look g.name (rkN n g.at_.l) = true → look' g.name (rkN n g.at_.l) = true)) → ∀ (i : Nat) (d d' : List Bool), LeB d d' → d.length = d'.length → LeB (valL look n l i d) (valL look' n l i d')
  | [], _, i, d, d', h, _ => h
  | g :: l, hg, i, d, d', h, hl => by
    rw [valL, valL]
    obtain ⟨h1, h2⟩ := hg g List.mem_cons_self
    exact val_mono (fun g' hg' => hg g' (List.mem_cons_of_mem _ hg')) _ _ _ (h.set hl i (value_mono h h1 h2)) (by simpa using hl)
theorem valueOf_mono {look look' : Str → Nat → Bool} {n : Nat} {c : Circ} (hg : ∀ g ∈ c.gates.l, g.kind ≠ 2 ∧ (g.kind = 1 → look g.name (rkN n g.at_.l) = true → look' g.name (rkN n g.at_.l) = true)) (h : valueOf look n c = true) : valueOf look' n c = true :=
  val_mono hg 0 _ _ (fun _ h => h) rfl _ h

/-- A structure with the same symbols that says at least as much. -/
structure Ge (s s' : Strc) : Prop where
  valid : strcB s' = true
  size : s'.size = s.size
  sig : (s'.rels.l.map datR).map sigD = (s.rels.l.map datR).map sigD
  has : ∀ nm q, HasF s.size.toNat (s.rels.l.map datR) nm q → HasF s.size.toNat (s'.rels.l.map datR) nm q
theorem Ge.at_ {s s' : Strc} (hg : Ge s s') {i : Nat} {r r0 : Rel} (hr : s'.rels.l[i]? = some r) (hr0 : s.rels.l[i]? = some r0) : r.name = r0.name ∧ r.arity = r0.arity := by
  have := congrArg (fun l : List (Str × Int) => l[i]?) hg.sig
  simp only [List.getElem?_map, hr, hr0, Option.map_some, Option.some.injEq] at this
  exact ⟨congrArg Prod.fst this, congrArg Prod.snd this⟩
theorem Ge.refl {s : Strc} (hv : strcB s = true) : Ge s s := ⟨hv, rfl, rfl, fun _ _ h => h⟩
theorem Ge.put {s s' s'' : Strc} {j k : Nat} {r : Rel} {t : List Int} (hg : Ge s s') (hr : s'.rels.l[j]? = some r) (hk : r.arity = (k : Int)) (ht : t.length = k) (hb : inB s'.size.toNat t = true) (hp : PutR s' j r t true s'') : Ge s s'' := by
  obtain ⟨n, hn, _⟩ := strc_size hg.valid
  have hnn : s'.size.toNat = n := by omega
  refine ⟨put_valid hg.valid hr hk ht hb hp, by rw [hp.size, hg.size], by rw [put_sig hr hp, hg.sig], fun nm q hh => ?_⟩
  have h1 := hg.has nm q hh
  rw [← hg.size, hnn] at h1 ⊢
  rw [put_has hg.valid hn hr hk ht (by rw [← hnn]; exact hb) hp]
  by_cases e : nm = r.name
  · rw [if_pos e]
    by_cases hq : q = rkN n t
    · exact .inr ⟨rfl, hq⟩
    · exact .inl ⟨h1, hq⟩
  · rw [if_neg e]; exact h1
theorem Ge.run {c : Circ} {s s' : Strc} (h0 : errI c s = 0) (hg : Ge s s') (hk : ∀ g ∈ c.gates.l, g.kind ≠ 2) : errI c s' = 0 ∧ (runV c s = true → runV c s' = true) := by
  obtain ⟨h1, h2, h3, h4⟩ := err_ok h0
  have he : errI c s' = 0 := by rw [err_sig hg.size h2 hg.valid hg.sig]; exact h0
  obtain ⟨n, hn, n1, n64, _⟩ := strc_size h2
  have hnn : s.size.toNat = n := by omega
  have hn' : s'.size = (n : Int) := by rw [hg.size]; exact hn
  refine ⟨he, fun hr => ?_⟩
  unfold runV at hr ⊢
  rw [he]
  rw [h0] at hr
  simp only [decide_true, Bool.true_and, hg.size, hnn] at hr ⊢
  rw [valB_look h0 hn] at hr
  rw [valB_look he hn']
  refine valueOf_mono (fun g hgm => ⟨hk g hgm, fun k1 hl => ?_⟩) hr
  obtain ⟨m, hm⟩ := Option.isSome_iff_exists.1 (show (symsOf c).isSome = true from h1)
  obtain ⟨e1, e2, e3, e4⟩ := err_ok he
  obtain ⟨q, hq, ha⟩ := all_some hm (fits_valid h1) h2 h4 hgm k1
  obtain ⟨q', hq', ha'⟩ := all_some hm (fits_valid h1) e2 e4 hgm k1
  have hrk : rkN n g.at_.l < n ^ g.at_.l.length := rkN_lt (size_fit h3 hn (fits_valid h1) hgm k1).2
  have := (lookS_iff h2 hn hq ha hrk).1 hl
  refine (lookS_iff e2 hn' hq' ha' hrk).2 ?_
  have h5 := hg.has _ _ (by rw [hnn]; exact this)
  rwa [hnn] at h5

/-! ### The law -/
def encU (n : Int) : List AV := [.int .u8 n]
theorem rem_nat {a b : Nat} (hb : 0 < b) : binS .rem (.int .i64 (a : Int)) (.int .i64 (b : Int)) = some (.int .i64 ((a % b : Nat) : Int)) := by
  have h : ¬ (b : Int) = 0 := by omega
  simp only [binS, if_true, if_neg h]
  rw [Int.tmod_eq_emod_of_nonneg (by omega)]; rfl
theorem quo_nat {a b : Nat} (hb : 0 < b) (ha : a ≤ 1000000) : binS .quo (.int .i64 (a : Int)) (.int .i64 (b : Int)) = some (.int .i64 ((a / b : Nat) : Int)) := by
  have h : ¬ (b : Int) = 0 := by omega
  simp only [binS, if_true, if_neg h]
  have e : ((a : Int).tdiv (b : Int)) = ((a / b : Nat) : Int) := by rw [Int.tdiv_eq_ediv_of_nonneg (by omega)]; rfl
  have : a / b ≤ a := Nat.div_le_self _ _
  rw [e]
  generalize a / b = q at this
  rw [IntWalk.i64_in _ (by omega)]
theorem where_named {s : Strc} (hv : strcB s = true) {i : Nat} {r : Rel} (hr : s.rels.l[i]? = some r) : whereI (namedB r.name) s.rels.l = (i : Int) := by
  have hf := find_namedL (strc_names hv) r (List.mem_of_getElem? hr)
  rcases whereI_find (namedB r.name) s.rels.l with ⟨h1, h2⟩ | ⟨j, q, h1, h2, h3⟩
  · rw [h2] at hf; cases hf
  · rw [hf] at h3; cases h3
    rw [h1]
    have hN := strc_names hv
    obtain ⟨l1, e1⟩ := List.getElem?_eq_some_iff.1 h2
    obtain ⟨l2, e2⟩ := List.getElem?_eq_some_iff.1 hr
    by_cases hlt : j < i
    · have := List.pairwise_iff_getElem.1 hN j i (by simpa using l1) (by simpa using l2) hlt
      rw [List.getElem_map, List.getElem_map, e1, e2] at this; exact absurd rfl this
    · by_cases hgt : i < j
      · have := List.pairwise_iff_getElem.1 hN i j (by simpa using l2) (by simpa using l1) hgt
        rw [List.getElem_map, List.getElem_map, e1, e2] at this; exact absurd rfl this
      · have : i = j := by omega
        rw [this]
end
end Go.AM
/- Names in order out of a map; the tuple of a rank; facts. Conditions: none. -/
namespace Go.AM
open Go Go.Proofs
set_option linter.unusedVariables false
set_option linter.unusedSimpArgs false
noncomputable section

/-! ### The order of names -/
theorem strLt_irr : ∀ a : Str, strLt a a = false
  | [] => rfl
  | x :: a => by
    have := strLt_irr a
    unfold strLt at this ⊢
    simp [Op.bytesLess, this]
theorem strLt_trans : ∀ {a b c : Str}, strLt a b = true → strLt b c = true → strLt a c = true
  | _, [], _, h, _ => by unfold strLt at h; simp [Op.bytesLess] at h
  | _, _ :: _, [], _, h => by unfold strLt at h; simp [Op.bytesLess] at h
  | [], _ :: _, _ :: _, _, _ => rfl
  | x :: a, y :: b, z :: c, h1, h2 => by
    have ih := @strLt_trans a b c
    unfold strLt at h1 h2 ih ⊢
    simp only [Op.bytesLess, Bool.or_eq_true, decide_eq_true_eq, Bool.and_eq_true, beq_iff_eq] at h1 h2 ⊢
    rcases h1 with h1 | ⟨rfl, h1⟩ <;> rcases h2 with h2 | ⟨rfl, h2⟩
    · exact .inl (UInt8.lt_trans h1 h2)
    · exact .inl h1
    · exact .inl h2
    · exact .inr ⟨rfl, ih h1 h2⟩
theorem strLt_tri : ∀ {a b : Str}, strLt a b = false → a ≠ b → strLt b a = true
  | [], [], _, h => absurd rfl h
  | [], _ :: _, h, _ => by unfold strLt at h; simp [Op.bytesLess] at h
  | _ :: _, [], _, _ => rfl
  | x :: a, y :: b, h1, h2 => by
    have ih := @strLt_tri a b
    unfold strLt at h1 ih ⊢
    simp only [Op.bytesLess, Bool.or_eq_false_iff, decide_eq_false_iff_not, Bool.and_eq_false_iff, beq_eq_false_iff_ne] at h1
    simp only [Op.bytesLess, Bool.or_eq_true, decide_eq_true_eq, Bool.and_eq_true, beq_iff_eq]
    obtain ⟨h3, h4⟩ := h1
    by_cases e : x = y
    · subst e
      rcases h4 with h4 | h4
      · exact absurd rfl h4
      · exact .inr ⟨rfl, ih h4 (fun h => h2 (by rw [h]))⟩
    · refine .inl ?_
      rcases UInt8.lt_or_lt_of_ne e with h | h
      · exact absurd h h3
      · exact h
theorem leB_lt : ∀ {a b : Str}, leB a b = true → a ≠ b → strLt a b = true := fun {a b} h hne => by
  cases hs : strLt a b with
  | true => rfl
  | false =>
    exfalso
    have key : ∀ {a b : Str}, strLt b a = true → b < a := by
      intro a
      induction a with
      | nil => intro b h; unfold strLt at h; cases b <;> simp [Op.bytesLess] at h
      | cons x a ih =>
        intro b h
        cases b with
        | nil => exact List.nil_lt_cons _ _
        | cons y b =>
          unfold strLt at h
          simp only [Op.bytesLess, Bool.or_eq_true, decide_eq_true_eq, Bool.and_eq_true, beq_iff_eq] at h
          rcases h with h | ⟨rfl, h⟩
          · exact List.cons_lt_cons_iff.2 (.inl h)
          · exact List.cons_lt_cons_iff.2 (.inr ⟨rfl, ih h⟩)
    have h1 := key (strLt_tri hs hne)
    have h2 : a ≤ b := of_decide_eq_true h
    exact absurd h1 (List.not_lt.2 h2)
def SortS (l : List Str) : Prop := l.Pairwise fun a b => strLt a b = true
theorem sorted_unique : ∀ {l m : List Str}, SortS l → SortS m → (∀ x, x ∈ l ↔ x ∈ m) → l = m
  | [], [], _, _, _ => rfl
  | [], y :: m, _, _, h => by have := (h y).2 List.mem_cons_self; cases this
  | x :: l, [], _, _, h => by have := (h x).1 List.mem_cons_self; cases this
  | x :: l, y :: m, hl, hm, h => by
    obtain ⟨l1, l2⟩ := List.pairwise_cons.1 hl
    obtain ⟨m1, m2⟩ := List.pairwise_cons.1 hm
    have hxy : x = y := by
      rcases List.mem_cons.1 ((h x).1 List.mem_cons_self) with e | e
      · exact e
      · rcases List.mem_cons.1 ((h y).2 List.mem_cons_self) with e' | e'
        · exact e'.symm
        · have := strLt_trans (m1 x e) (l1 y e')
          rw [strLt_irr] at this; cases this
    subst hxy
    rw [sorted_unique l2 m2 fun z => ?_]
    constructor
    · intro hz
      rcases List.mem_cons.1 ((h z).1 (List.mem_cons_of_mem _ hz)) with e | e
      · subst e; have := l1 z hz; rw [strLt_irr] at this; cases this
      · exact e
    · intro hz
      rcases List.mem_cons.1 ((h z).2 (List.mem_cons_of_mem _ hz)) with e | e
      · subst e; have := m1 z hz; rw [strLt_irr] at this; cases this
      · exact e
theorem rising_sorted : ∀ {l : List Str}, SortS l → ∀ s, SortS (risingL l s)
  | [], _, s => List.pairwise_singleton _ _
  | x :: l, h, s => by
    obtain ⟨h1, h2⟩ := List.pairwise_cons.1 h
    rw [risingL]
    split
    · rename_i hx
      refine List.pairwise_cons.2 ⟨fun y hy => ?_, rising_sorted h2 s⟩
      rcases mem_rising.1 hy with hy | rfl
      · exact h1 y hy
      · exact hx
    · rename_i hx
      split
      · exact h
      · rename_i hne
        have hsx : strLt s x = true := strLt_tri (by simpa using hx) hne
        refine List.pairwise_cons.2 ⟨fun y hy => ?_, h⟩
        rcases List.mem_cons.1 hy with rfl | hy
        · exact hsx
        · exact strLt_trans hsx (h1 y hy)
theorem order_sorted : ∀ {ys : List (Str × Int)} {o : List Str}, SortS o → SortS (orderGo ys o)
  | [], o, h => h
  | y :: ys, o, h => by
    rw [orderGo]
    split
    · exact order_sorted h
    · exact order_sorted (rising_sorted h _)

/-! ### The names of a map in order -/
theorem entsOk_of {ck : Nat} : ∀ {es : List Entry}, (∀ e ∈ es, (∃ s, e.1 = .str s ∧ s.length ≤ 1000) ∧ e.2.2 < ck) → (es.map keyBytes).Nodup → (es.map (·.2.2)).Nodup → entsOk ck es = true
  | [], _, _, _ => rfl
  | e :: es, h, h1, h2 => by
    rw [List.map_cons, List.nodup_cons] at h1 h2
    obtain ⟨⟨s, hs, hl⟩, hc⟩ := h e List.mem_cons_self
    have ih := entsOk_of (ck := ck) (es := es) (fun f hf => h f (List.mem_cons_of_mem _ hf)) h1.2 h2.2
    have hb : Nat.ble s.length 140737488351232 = true := Nat.ble_eq_true_of_le (by omega)
    have hc' : Nat.ble (e.2.2 + 1) ck = true := Nat.ble_eq_true_of_le hc
    have hall : es.all (fun f => !(keyBytes e == keyBytes f) && !(Nat.beq e.2.2 f.2.2)) = true := by
      rw [List.all_eq_true]
      intro f hf
      have q1 : (keyBytes e == keyBytes f) = false := by
        simp only [beq_eq_false_iff_ne]
        exact fun q => h1.1 (by rw [q]; exact List.mem_map_of_mem hf)
      have q2 : Nat.beq e.2.2 f.2.2 = false := by
        cases hq : Nat.beq e.2.2 f.2.2 with
        | false => rfl
        | true => exact absurd (by rw [Nat.eq_of_beq_eq_true hq]; exact List.mem_map_of_mem hf) h2.1
      rw [q1, q2]; rfl
    simp only [entsOk, hs, isStr, hb, hc', hall, ih, Bool.and_self]
theorem keys_map {M : Nat} {h : Heap} {K : Out → Heap → Bool} (hK : K (.ret (.func 148 [] [.ptr h.next 0])) (h.alloc (.box (.map M))) = true) : Sem Tryz.prog 89 [.map M] h K :=
  F0_sound.sem (f := 89) (g := keysP 148) rfl hK
theorem sorted_map {M b : Nat} {es : List Entry} {ck : Nat} {h : Heap} {K : Out → Heap → Bool} (hb : h.get b = some (.box (.map M))) (hM : h.get M = some (.map es ck)) (hok : entsOk ck es = true) (hlen : es.length ≤ 1000000)
    (hK : ∀ a h', HExt h h' → Own encS 1 h.next h' a (sortK (es.map keyBytes)) → K (.ret a) h' = true) : Sem Tryz.prog 88 [.func 148 [] [.ptr b 0]] h K := by
  refine F0_sound.sem (f := 88) (g := orP (sortedP 172) (sortedP 148)) rfl ?_
  have hl : Nat.ble (es.length * 16) 140737488355328 = true := Nat.ble_eq_true_of_le (by omega)
  have h2 : sortedP 148 [.func 148 [] [.ptr b 0]] h K = true := by
    simp only [sortedP, hb, hM, hok, hl, Bool.true_and]
    rw [show Nat.beq 148 148 = true from rfl, Bool.true_and]
    generalize sortK (es.map keyBytes) = ns at hK ⊢
    cases ns with
    | nil => exact hK _ _ (HExt.refl _) .nil
    | cons k ks =>
      have e : (k :: ks).map AV.str = (k :: ks).flatMap encS := by
        generalize (k :: ks) = l
        induction l with
        | nil => rfl
        | cons x l ih => rw [List.map_cons, List.flatMap_cons, ih]; rfl
      refine hK _ _ (HExt.alloc _ _) ?_
      rw [e]
      exact .row _ (k :: ks) (Nat.le_refl _) (Nat.lt_succ_self _) (get_alloc_same _ _)
  simp only [orP, h2, Bool.or_true]
theorem sortK_strict {l : List Str} (hn : l.Nodup) : SortS (sortK l) ∧ ∀ x, x ∈ sortK l ↔ x ∈ l := by
  refine ⟨?_, fun x => (sortK_perm l).mem_iff⟩
  have h1 := sortK_sorted l
  have h2 : (sortK l).Nodup := (sortK_perm l).nodup_iff.2 hn
  unfold SortS
  unfold List.Nodup at h2
  exact (h1.and h2).imp fun {a b} h => leB_lt h.1 h.2

/-! ### The tuple of a rank -/
def tupN (n : Nat) : Nat → Nat → List Int
  | 0, _ => []
  | k + 1, r => tupN n k (r / n) ++ [((r % n : Nat) : Int)]
theorem tupN_len (n : Nat) : ∀ k r, (tupN n k r).length = k
  | 0, _ => rfl
  | k + 1, r => by rw [tupN, List.length_append, tupN_len n k]; rfl
theorem iterT_tup {n : Nat} (hn : 1 ≤ n) : ∀ (k r : Nat), r < n ^ k → (iterT n k)[r]? = some (tupN n k r)
  | 0, r, h => by
    obtain rfl : r = 0 := by simp at h; omega
    rfl
  | k + 1, r, h => by
    have hr : r / n < n ^ k := Nat.div_lt_of_lt_mul (by rw [Nat.mul_comm, ← Nat.pow_succ]; exact h)
    have hx : r % n < n := Nat.mod_lt _ hn
    have := stepT_get (n := n) (iterT_tup hn k (r / n) hr) hx
    rw [iterT, tupN]
    rwa [Nat.div_add_mod' r n] at this
theorem tupN_ok {n : Nat} (hn : 1 ≤ n) {k r : Nat} (h : r < n ^ k) : inB n (tupN n k r) = true ∧ rkN n (tupN n k r) = r := by
  obtain ⟨t, h1, h2, h3, h4⟩ := iterT_get hn k r h
  rw [iterT_tup hn k r h] at h1; cases h1
  exact ⟨h3, h4⟩
theorem shape_Tuple {n k r : Nat} (n1 : 1 ≤ n) (n64 : n ≤ 64) (hk : k ≤ 12) (hc : n ^ k ≤ 4096) (hr : r < n ^ k) {h : Heap} {K : Out → Heap → Bool} (hK : ∀ t : Sl Int, t.l = tupN n k r → K (.ret (.tuple [encSl encI 1 t, .int .i64 0])) h = true) : Sem Tryz.prog 90 [.int .i64 (n : Int), .int .i64 (k : Int), .int .i64 (r : Int)] h K := by
  have main : Sem Tryz.prog 90 [.int .i64 (n : Int), .int .i64 (k : Int), .int .i64 (r : Int)] Heap.empty (fun o h' => yes (∃ v, ∃ t : Sl Int, o = .ret (.tuple [v, .int .i64 0]) ∧ t.l = tupN n k r ∧ Fz true h' v (encSl encI 1 t))) := by
    refine F.shape_Tuple_sem ?_
    refine semCall_true (shape_Power n1 n64 (by unfold big; omega) ?_)
    rw [powA, if_neg (by omega), if_neg (by omega)]
    have hsub : binS .sub (.int .i64 (k : Int)) (.int .i64 1) = some (.int .i64 ((k : Int) - 1)) := sub_i64 (by omega) (by omega)
    simp only [bindO_some, bindO2_some, outK_ret, condB_bool, cond_t, cond_f, fa_ptr, fa_iptr, part_none, Nat.zero_add, Nat.add_zero, Nat.reduceAdd, List.getElem?_cons_zero, List.getElem?_cons_succ, len_str, lenS_enc, lss_int, leq_int, gtr_int, geq_int, eq_int, ne_int, eq_str, ne_str, eq_bool, ne_bool, not_bool, extract_0, extract_1, extract_2, setV_eq, Nat.reduceEqDiff, reduceIte, beq_self_eq_true, Bool.not_true, decide_eq_false (by omega : ¬ (r : Int) < 0), decide_eq_false (by omega : ¬ ((n ^ k : Nat) : Int) ≤ (r : Int)), make_sl (show k ≤ 1000000 by omega), next_empty, hsub]
    refine loopB_rule (fun j e h' => ∃ (q : Nat) (suf : List Int), j ≤ k ∧ tupN n k r = tupN n j q ++ suf ∧ j + suf.length = k ∧ q ≤ 4096 ∧ h'.get 0 = some (.cells ((List.replicate j (0 : Int) ++ suf).map iv)) ∧ e 0 = .int .i64 (n : Int) ∧ e 2 = .int .i64 (q : Int) ∧ e 10 = .slice 0 0 k 1 ∧ e 11 = .int .i64 ((j : Int) - 1)) k
      ⟨r, [], Nat.le_refl _, by simp, rfl, by omega, by rw [List.append_nil]; exact get_alloc_same _ _, rfl, rfl, rfl, rfl⟩ ?_
    rintro j e h' ⟨q, suf, hj, ht, hl, hq, g0, e0, e2, e10, e11⟩
    rw [F.shape_Tuple.L0_eq]
    cases j with
    | zero =>
      simp only [e11, geq_int, bindO_some, condB_bool, decide_eq_false (by omega : ¬ (0 : Int) ≤ ((0 : Nat) : Int) - 1), cond_f, loopK_exit]
      rw [F.shape_Tuple.L0_x0_eq]
      simp only [setV_eq, Nat.reduceEqDiff, reduceIte, e10]
      rw [List.replicate_zero, List.nil_append] at g0
      refine yes_eq.2 ⟨_, some suf, rfl, by rw [ht, tupN]; rfl, ?_⟩
      have := frz_ints g0
      rwa [show suf.length = k by omega] at this
    | succ j =>
      have e11' : ((j + 1 : Nat) : Int) - 1 = (j : Int) := by omega
      have hjk : j < k := by omega
      have hset : (List.replicate (j + 1) (0 : Int) ++ suf).set j ((q % n : Nat) : Int) = List.replicate j 0 ++ (((q % n : Nat) : Int) :: suf) := by
        rw [List.replicate_succ', List.append_assoc, List.set_append_right _ _ (by simp)]
        simp
      have hs1 : binS .sub (.int .i64 (j : Int)) (.int .i64 1) = some (.int .i64 ((j : Int) - 1)) := sub_i64 (by omega) (by omega)
      rw [e11'] at e11
      simp only [e0, e2, e10, e11, geq_int, bindO_some, condB_bool, decide_eq_true (by omega : (0 : Int) ≤ (j : Int)), cond_t, rem_nat n1, quo_nat n1 (show q ≤ 1000000 by omega), ia_sl hjk, store_sl g0 (show j < (List.replicate (j + 1) (0 : Int) ++ suf).length by simp; omega), hs1]
      refine yes_eq.2 ⟨j, by omega, rfl, rfl, ⟨q / n, (((q % n : Nat) : Int) :: suf), by omega, ?_, by simp; omega, by have := Nat.div_le_self q n; omega, by rw [Heap.get_set, if_pos rfl, hset], e0, rfl, e10, rfl⟩⟩
      rw [ht, tupN, List.append_assoc]; rfl
  refine main.frozen (by simp [AV.pureL, AV.pure]) fun o h' ho => ?_
  obtain ⟨v, t, rfl, ht, hf⟩ := yes_eq.1 ho
  have := FzL.cons hf (FzL.cons (.scalar (.int .i64 0) rfl) FzL.nil)
  exact ⟨_, _, rfl, .tuple _ _ this.len this.rel, hK t ht⟩

/-! ### Facts -/
abbrev Fct := Str × Sl Int
def encF (f : Fct) : List AV := [.str f.1, encSl encI 1 f.2]
theorem len_encF (f : Fct) : (encF f).length = 2 := rfl
theorem one_encF (f : Fct) : oneAll (encF f) = true := by
  obtain ⟨a, b⟩ := f
  cases b <;> rfl
def datF (f : Fct) : Str × List Int := (f.1, f.2.l)
theorem agg_F (s : Str) (t : Sl Int) : aggS [.str [], .nils] [(0, 1), (1, 1)] [.str s, encSl encI 1 t] = some (.agg (encF (s, t))) := by cases t <;> rfl
theorem row_F (f : Fct) : rowS [.str [], .nils] [(0, 2)] [.agg (encF f)] = some (encF f) := by
  obtain ⟨a, b⟩ := f
  cases b <;> rfl
theorem get_F {x : Sl Fct} {i : Nat} {f : Fct} (hf : x.l[i]? = some f) {h : Heap} : loadS none (.iptr (x.l.flatMap encF) (i * 2)) h = some (.str f.1) := by
  have := load_elem (h := h) len_encF hf (k := 0) (by omega)
  rw [Nat.add_zero] at this
  rw [this]; rfl
theorem get_F1 {x : Sl Fct} {i : Nat} {f : Fct} (hf : x.l[i]? = some f) {h : Heap} : loadS none (.iptr (x.l.flatMap encF) (i * 2 + 1)) h = some (encSl encI 1 f.2) := by
  rw [load_elem len_encF hf (by omega)]; rfl
theorem ref08_Same {x y : Sl Fct} (hx : x.l.length ≤ big) (ht : ∀ f ∈ x.l, f.2.l.length ≤ big) {h : Heap} {K : Out → Heap → Bool} (hK : K (.ret (.bool (x.l.map datF == y.l.map datF))) h = true) : Sem Tryz.prog 39 [encSl encF 2 x, encSl encF 2 y] h K := by
  refine F.ref08_Same_sem ?_
  simp only [bindO_some, bindO2_some, outK_ret, condB_bool, cond_t, cond_f, fa_ptr, fa_iptr, part_none, Nat.zero_add, Nat.add_zero, Nat.reduceAdd, List.getElem?_cons_zero, List.getElem?_cons_succ, len_str, lenS_enc, lss_int, leq_int, gtr_int, geq_int, eq_int, ne_int, eq_str, ne_str, eq_bool, ne_bool, not_bool, extract_0, extract_1, extract_2, setV_eq, Nat.reduceEqDiff, reduceIte, int_beq]
  by_cases hl : x.l.length = y.l.length
  · simp only [decide_eq_true (by omega : (x.l.length : Int) = (y.l.length : Int)), Bool.not_true, cond_f]
    refine loopB_range 0 x.l.length (Nat.zero_le _) (fun i e h' => h' = h ∧ e 0 = encSl encF 2 x ∧ e 1 = encSl encF 2 y ∧ e 5 = .int .i64 (i : Int) ∧ (x.l.map datF == y.l.map datF) = ((x.l.map datF).drop i == (y.l.map datF).drop i)) ⟨rfl, rfl, rfl, rfl, rfl⟩ ?_ ?_
    · rintro i e h' _ hi ⟨rfl, e0, e1, e5, hq⟩ K' hn hx' hr hp
      have hi2 : i < y.l.length := by omega
      have hv : x.l[i]? = some x.l[i] := List.getElem?_eq_getElem hi
      have hw : y.l[i]? = some y.l[i] := List.getElem?_eq_getElem hi2
      generalize x.l[i] = a at hv
      generalize y.l[i] = b at hw
      rw [list_drop_eq (a := datF a) (b := datF b) (by rw [List.getElem?_map, hv]; rfl) (by rw [List.getElem?_map, hw]; rfl)] at hq
      have hab : (datF a == datF b) = ((a.1 == b.1) && (a.2.l == b.2.l)) := rfl
      rw [F.ref08_Same.L0_eq]
      simp only [e0, e1, e5, bindO_some, bindO2_some, outK_ret, condB_bool, cond_t, cond_f, fa_ptr, fa_iptr, part_none, Nat.zero_add, Nat.add_zero, Nat.reduceAdd, List.getElem?_cons_zero, List.getElem?_cons_succ, len_str, lenS_enc, lss_int, leq_int, gtr_int, geq_int, eq_int, ne_int, eq_str, ne_str, eq_bool, ne_bool, not_bool, extract_0, extract_1, extract_2, setV_eq, Nat.reduceEqDiff, reduceIte, lt_true hi, iaS_enc x hi, iaS_enc y hi2, get_F hv, get_F hw, get_F1 hv, get_F1 hw]
      cases h1 : a.1 == b.1 with
      | false =>
        simp only [Bool.not_false, cond_t]
        rw [hr, F.ref08_Same.L0_r_eq]
        simp only [setV_eq, Nat.reduceEqDiff, reduceIte]
        rw [hq, hab, h1] at hK; exact hK
      | true =>
        simp only [Bool.not_true, cond_f, bindO_some, bindO2_some, outK_ret, condB_bool, cond_t, cond_f, fa_ptr, fa_iptr, part_none, Nat.zero_add, Nat.add_zero, Nat.reduceAdd, List.getElem?_cons_zero, List.getElem?_cons_succ, len_str, lenS_enc, lss_int, leq_int, gtr_int, geq_int, eq_int, ne_int, eq_str, ne_str, eq_bool, ne_bool, not_bool, extract_0, extract_1, extract_2, setV_eq, Nat.reduceEqDiff, reduceIte, e0, e1, e5, iaS_enc x hi, iaS_enc y hi2, get_F1 hv, get_F1 hw]
        refine semCall_true (ref01_Equal (ht a (List.mem_of_getElem? hv)) ?_)
        simp only [bindO_some, bindO2_some, outK_ret, condB_bool, cond_t, cond_f, fa_ptr, fa_iptr, part_none, Nat.zero_add, Nat.add_zero, Nat.reduceAdd, List.getElem?_cons_zero, List.getElem?_cons_succ, len_str, lenS_enc, lss_int, leq_int, gtr_int, geq_int, eq_int, ne_int, eq_str, ne_str, eq_bool, ne_bool, not_bool, extract_0, extract_1, extract_2, setV_eq, Nat.reduceEqDiff, reduceIte]
        cases h2 : a.2.l == b.2.l with
        | false =>
          simp only [Bool.not_false, cond_t]
          rw [hr, F.ref08_Same.L0_r_eq]
          simp only [setV_eq, Nat.reduceEqDiff, reduceIte]
          rw [hq, hab, h1, h2] at hK; exact hK
        | true =>
          simp only [Bool.not_true, cond_f, e5, succ_i64 hi hx, bindO_some]
          exact hn _ _ ⟨rfl, e0, e1, rfl, by rw [hq, hab, h1, h2]; rfl⟩
    · rintro e h' ⟨rfl, e0, e1, e5, hq⟩ K' hx'
      rw [F.ref08_Same.L0_eq]
      simp only [e0, e5, bindO_some, bindO2_some, outK_ret, condB_bool, cond_t, cond_f, fa_ptr, fa_iptr, part_none, Nat.zero_add, Nat.add_zero, Nat.reduceAdd, List.getElem?_cons_zero, List.getElem?_cons_succ, len_str, lenS_enc, lss_int, leq_int, gtr_int, geq_int, eq_int, ne_int, eq_str, ne_str, eq_bool, ne_bool, not_bool, extract_0, extract_1, extract_2, setV_eq, Nat.reduceEqDiff, reduceIte, lt_false]
      rw [hx', F.ref08_Same.L0_x0_eq]
      rw [List.drop_of_length_le (by simp), List.drop_of_length_le (by simp; omega)] at hq
      rw [hq] at hK; exact hK
  · simp only [decide_eq_false (by omega : ¬ (x.l.length : Int) = (y.l.length : Int)), Bool.not_false, cond_t]
    have : (x.l.map datF == y.l.map datF) = false := by
      simp only [beq_eq_false_iff_ne]; exact fun e => hl (by have := congrArg List.length e; simpa using this)
    rw [this] at hK; exact hK
end
end Go.AM
/- The program's Flips. Conditions: none. -/
namespace Go.AM
open Go Go.Proofs
set_option linter.unusedVariables false
set_option linter.unusedSimpArgs false
noncomputable section

/-! ### Heaps with a block changed for a while -/
theorem HExt.both {a b : Heap} (h : HExt a b) (i : Nat) (x : AObj) : HExt (a.set i x) (b.set i x) :=
  ⟨by rw [Heap.next_set, Heap.next_set]; exact h.next, fun c hc => by
    rw [Heap.next_set] at hc
    rw [Heap.get_set, Heap.get_set, h.get c hc]⟩
theorem HExt.back {a b : Heap} {i : Nat} {x o : AObj} (ho : a.get i = some o) (h : HExt (a.set i x) b) : HExt a (b.set i o) :=
  ⟨by have := h.next; rw [Heap.next_set] at this ⊢; exact this, fun c hc => by
    rw [Heap.get_set]
    by_cases e : c = i
    · subst e; rw [if_pos rfl, ho]
    · rw [if_neg e, h.get c (by rw [Heap.next_set]; exact hc), Heap.get_set, if_neg e]⟩
def tog (look : Str → Nat → Bool) (nm : Str) (r : Nat) : Str → Nat → Bool := fun nm' r' => if nm' = nm ∧ r' = r then !(look nm' r') else look nm' r'
theorem val_congr {look look' : Str → Nat → Bool} {n : Nat} : ∀ {l : List Gate}, (∀ g ∈ l, g.kind = 1 → look g.name (rkN n g.at_.l) = look' g.name (rkN n g.at_.l)) → ∀ (i : Nat) (d : List Bool), valL look n l i d = valL look' n l i d
  | [], _, _, _ => rfl
  | g :: l, h, i, d => by
    have hg : valueL look n d g = valueL look' n d g := by
      unfold valueL
      split
      · rfl
      split
      · rename_i k1; exact h g List.mem_cons_self k1
      · rfl
    rw [valL, valL, hg]
    exact val_congr (fun g' hg' => h g' (List.mem_cons_of_mem _ hg')) _ _
theorem valueOf_congr {look look' : Str → Nat → Bool} {n : Nat} {c : Circ} (h : ∀ g ∈ c.gates.l, g.kind = 1 → look g.name (rkN n g.at_.l) = look' g.name (rkN n g.at_.l)) : valueOf look n c = valueOf look' n c := by
  unfold valueOf valsL; rw [val_congr h]
theorem tog_congr {look look' : Str → Nat → Bool} {n : Nat} {c : Circ} (nm : Str) (r : Nat) (h : ∀ g ∈ c.gates.l, g.kind = 1 → look g.name (rkN n g.at_.l) = look' g.name (rkN n g.at_.l)) : valueOf (tog look nm r) n c = valueOf (tog look' nm r) n c :=
  valueOf_congr fun g hg k1 => by unfold tog; rw [h g hg k1]
def setD (D : Str → Option (Nat × List Bool)) (nm : Str) (b : Nat) (d : List Bool) : Str → Option (Nat × List Bool) := fun j => if j = nm then some (b, d) else D j
theorem BitsAt.set {D : Str → Option (Nat × List Bool)} {h : Heap} {B lo : Nat} (H : BitsAt D h B lo) {nm : Str} {p : Nat × List Bool} (hp : D nm = some p) {d : List Bool} (hd : d.length = p.2.length) : BitsAt (setD D nm p.1 d) (h.set p.1 (.cells (d.map bv))) B lo := by
  obtain ⟨es, ck, m, h1, h2, h3⟩ := H.ex
  obtain ⟨k1, k2, k3, k4⟩ := H.blk nm p hp
  refine ⟨⟨es, ck, m, by rw [Heap.get_set, if_neg (Ne.symm k3)]; exact h1, h2, fun j => ?_⟩, fun j q hq => ?_, fun j j' q q' hq hq' hqq => ?_, by rw [Heap.next_set]; exact H.lt⟩
  · rw [h3]; unfold setD
    by_cases e : j = nm
    · subst e; rw [if_pos rfl, hp, Option.map_some, Option.map_some, hd]
    · rw [if_neg e]
  · unfold setD at hq
    by_cases e : j = nm
    · rw [if_pos e] at hq; cases hq
      exact ⟨k1, by rw [Heap.next_set]; exact k2, k3, by rw [Heap.get_set, if_pos rfl]⟩
    · rw [if_neg e] at hq
      obtain ⟨q1, q2, q3, q4⟩ := H.blk j q hq
      exact ⟨q1, by rw [Heap.next_set]; exact q2, q3, by rw [Heap.get_set, if_neg (fun e' => e (H.inj j nm q p hq hp e'))]; exact q4⟩
  · unfold setD at hq hq'
    by_cases e : j = nm
    · by_cases e' : j' = nm
      · rw [e, e']
      · rw [if_pos e] at hq; rw [if_neg e'] at hq'; cases hq
        exact absurd (H.inj nm j' p q' hp hq' hqq).symm e'
    · by_cases e' : j' = nm
      · rw [if_neg e] at hq; rw [if_pos e'] at hq'; cases hq'
        exact absurd (H.inj j nm q p hq hp hqq) e
      · rw [if_neg e] at hq; rw [if_neg e'] at hq'; exact H.inj j j' q q' hq hq' hqq
theorem lookD_tog {D : Str → Option (Nat × List Bool)} {nm : Str} {p : Nat × List Bool} (hp : D nm = some p) {r : Nat} {v : Bool} (hv : p.2[r]? = some v) : lookD (setD D nm p.1 (p.2.set r (!v))) = tog (lookD D) nm r := by
  have hr := (List.getElem?_eq_some_iff.1 hv).1
  funext j q
  unfold lookD setD tog
  by_cases e : j = nm
  · subst e
    rw [if_pos rfl]
    simp only [hp, true_and]
    by_cases h : q = r
    · subst h
      simp only [if_pos, List.getD_eq_getElem?_getD, List.getElem?_set_self hr, hv, Option.getD_some]
    · rw [if_neg h, List.getD_eq_getElem?_getD, List.getD_eq_getElem?_getD, List.getElem?_set_ne (Ne.symm h)]
  · rw [if_neg e, if_neg (fun h => e h.1)]
theorem RunsD.set {n : Nat} {D : Str → Option (Nat × List Bool)} {c : Circ} (h : RunsD n D c) {nm : Str} {p : Nat × List Bool} (hp : D nm = some p) {d : List Bool} (hd : d.length = p.2.length) : RunsD n (setD D nm p.1 d) c :=
  ⟨h.len, h.pow, h.in_, fun g hg k1 => by
    obtain ⟨q, q1, q2⟩ := h.bit g hg k1
    unfold setD
    by_cases e : g.name = nm
    · rw [e, hp] at q1; cases q1
      exact ⟨_, if_pos e, by rw [hd]; exact q2⟩
    · exact ⟨q, by rw [if_neg e]; exact q1, q2⟩⟩
theorem lookup_mapf {b : Nat} {h : Heap} {es : List Entry} {ck : Nat} {m : MapL} (hb : h.get b = some (.map es ck)) (hm : MapI es m) (k : Str) :
    lookupS .string (.int .i64 0) false (.map b) (.str k) h = some (.int .i64 ((m.find k).getD 0)) := by
  obtain ⟨r, hr, hm'⟩ := MapI.findA (k := k) 0 hm
  simp only [lookupS, entriesS, hb, findK, keyOk, if_true, hr]
  cases r with
  | none => simp at hm'; simp [hm']
  | some jv =>
    obtain ⟨n, q, _, b, c, _⟩ := hm'
    obtain ⟨j, v⟩ := jv
    simp only at c
    subst c
    simp [b]
theorem upd_len (m : MapL) (k : Str) (v : Int) : (m.upd k v).length ≤ m.length + 1 := by
  induction m with
  | nil => simp [MapL.upd]
  | cons p m ih =>
    simp only [MapL.upd]
    split
    · simp
    · simp only [List.length_cons]; omega
theorem symsGo_len {n : Int} : ∀ (l : List Gate) (i : Nat) (m m' : MapL), symsGo n l i m = some m' → m'.length ≤ m.length + l.length
  | [], i, m, m', h => by simp only [symsGo, Option.some.injEq] at h; subst h; simp
  | g :: l, i, m, m', h => by
    have hu := upd_len m g.name g.at_.l.length
    simp only [symsGo] at h
    cases hf : fitB n i g with
    | false => rw [hf] at h; cases h
    | true =>
      rw [hf] at h
      simp only [cond_t] at h
      have key : ∀ m1 : MapL, m1.length ≤ m.length + 1 → symsGo n l (i + 1) m1 = some m' → m'.length ≤ m.length + (g :: l).length := fun m1 h1 h2 => by
        have := symsGo_len l (i + 1) m1 m' h2
        simp only [List.length_cons]; omega
      split at h
      · split at h
        · split at h
          · exact key _ hu h
          · cases h
        · exact key _ hu h
      · exact key _ (by omega) h
theorem keys_of : ∀ {es : List Entry} {m : MapL}, MapI es m → es.map keyBytes = m.map (·.1)
  | [], [], _ => rfl
  | e :: es, p :: m, ⟨h1, _, h3⟩ => by
    obtain ⟨ek, ev⟩ := e
    simp only at h1
    subst h1
    rw [List.map_cons, List.map_cons, keys_of h3]; rfl

/-! ### What flips -/
def fRow (look : Str → Nat → Bool) (n : Nat) (c : Circ) (was : Bool) (nm : Str) (k j : Nat) : List (Str × List Int) := ((List.range j).filter fun r => valueOf (tog look nm r) n c != was).map fun r => (nm, tupN n k r)
theorem fRow_succ (look : Str → Nat → Bool) (n : Nat) (c : Circ) (was : Bool) (nm : Str) (k j : Nat) : fRow look n c was nm k (j + 1) = fRow look n c was nm k j ++ (if (valueOf (tog look nm j) n c != was) = true then [(nm, tupN n k j)] else []) := by
  unfold fRow
  rw [List.range_succ, List.filter_append, List.map_append]
  congr 1
  cases h : valueOf (tog look nm j) n c != was <;> simp [h]
def flipsS (n : Nat) (s : Strc) (c : Circ) : List (Str × List Int) := (symsC c).flatMap fun y => fRow (lookS n s) n c (valueOf (lookS n s) n c) y.1 y.2.toNat (n ^ y.2.toNat)
theorem look_in {c : Circ} {s : Strc} {n : Nat} {m : MapL} {D : Str → Option (Nat × List Bool)} (hm : symsOf c = some m) (hf : c.fits) (hv : strcB s = true) (hn : s.size = (n : Int)) (hF : FitsD n s m D) (hA : AllD m D) : ∀ g ∈ c.gates.l, g.kind = 1 → lookD D g.name (rkN n g.at_.l) = lookS n s g.name (rkN n g.at_.l) := fun g hg k1 => by
  obtain ⟨p, r, h1, h2, h3, h4, h5⟩ := input_bits hm hf hv hn hF hA hg k1
  unfold lookD lookS
  rw [h1, h2]
  simp only [tabOf, h3, h4, Int.toNat_natCast]
theorem symsC_sorted (c : Circ) : SortS ((symsC c).map (·.1)) := by
  have : (symsC c).map (·.1) = orderL (atomsP (inputs c)) := by
    unfold symsC
    rw [List.map_map]
    exact (List.map_congr_left fun x _ => rfl).trans (List.map_id _)
  rw [this]
  exact order_sorted .nil
theorem bool_back {d : List Bool} {r : Nat} {v : Bool} (hv : d[r]? = some v) : (d.set r (!v)).set r v = d := by
  rw [List.set_set, setB_self hv]

theorem gate_Flips {c : Circ} {s : Strc} (hc : c.ok) (hs : s.ok) {h : Heap} {K : Out → Heap → Bool} (hbad : errI c s ≠ 0 → K (.ret (.tuple [.nils, .int .i64 (errI c s)])) h = true)
    (hok : errI c s = 0 → ∀ x : Sl Fct, x.l.map datF = flipsS s.size.toNat s c → K (.ret (.tuple [encSl encF 2 x, .int .i64 0])) h = true) : Sem Tryz.prog 38 [.agg (encCirc c), .agg (encStrc s)] h K := by
  have hmx : maxBytes = 140737488355328 := rfl
  have main : Sem Tryz.prog 38 [.agg (encCirc c), .agg (encStrc s)] Heap.empty (fun o h' => yes ((errI c s ≠ 0 ∧ o = .ret (.tuple [.nils, .int .i64 (errI c s)])) ∨ (errI c s = 0 ∧ ∃ v, ∃ x : Sl Fct, o = .ret (.tuple [v, .int .i64 0]) ∧ x.l.map datF = flipsS s.size.toNat s c ∧ Fz true h' v (encSl encF 2 x)))) := by
    have bad : ∀ (n : Int) (H : Heap), n = errI c s → n ≠ 0 → yes ((errI c s ≠ 0 ∧ Out.ret (.tuple [.nils, .int .i64 n]) = .ret (.tuple [.nils, .int .i64 (errI c s)])) ∨ (errI c s = 0 ∧ ∃ v, ∃ x : Sl Fct, Out.ret (.tuple [.nils, .int .i64 n]) = .ret (.tuple [v, .int .i64 0]) ∧ x.l.map datF = flipsS s.size.toNat s c ∧ Fz true H v (encSl encF 2 x))) = true := fun n H hn h0 => by
      subst hn; exact yes_eq.2 (.inl ⟨h0, rfl⟩)
    refine F.gate_Flips_sem ?_
    simp only [box_agg (one_encCirc c), box_agg (one_encStrc s), bindO_some, next_empty, Heap.next_alloc]
    have g0 : (Heap.alloc (Heap.alloc Heap.empty (.cells (encCirc c))) (.cells (encStrc s))).get 0 = some (.cells (encCirc c)) := by simp [Heap.get_alloc, next_empty]
    have g1 : (Heap.alloc (Heap.alloc Heap.empty (.cells (encCirc c))) (.cells (encStrc s))).get 1 = some (.cells (encStrc s)) := by simp [Heap.get_alloc, next_empty]
    have gn : (Heap.alloc (Heap.alloc Heap.empty (.cells (encCirc c))) (.cells (encStrc s))).next = 2 := rfl
    generalize (Heap.alloc (Heap.alloc Heap.empty (.cells (encCirc c))) (.cells (encStrc s))) = H at g0 g1 gn ⊢
    have l0 : loadS (some 2) (.ptr 0 0) H = some (.agg (encCirc c)) := by rw [load_ptr g0, part_whole (cs := encCirc c) (n := 2) rfl]
    have l1 : loadS (some 2) (.ptr 1 0) H = some (.agg (encStrc s)) := by rw [load_ptr g1, part_whole (cs := encStrc s) (n := 2) rfl]
    simp only [Nat.zero_add, l0, l1, bindO_some]
    refine semCall_true (gate_bits hc hs (fun hno h' hx => ?_) (fun hv hsv hz h' hx => ?_) (fun m hm hsv hz hex h' hx => ?_) (fun m hm hsv hz h' B M es ck D hx hB hF hA hM hI hBi hMn hM2 hMB hB2 => ?_))
    · simp only [bindO_some, bindO2_some, outK_ret, condB_bool, cond_t, cond_f, fa_ptr, fa_iptr, part_none, Nat.zero_add, Nat.add_zero, Nat.reduceAdd, List.getElem?_cons_zero, List.getElem?_cons_succ, len_str, lenS_enc, lss_int, leq_int, gtr_int, geq_int, eq_int, ne_int, eq_str, ne_str, eq_bool, ne_bool, not_bool, extract_0, extract_1, extract_2, setV_eq, Nat.reduceEqDiff, reduceIte]
      exact bad _ _ (by rw [errI, if_pos hno]) (by decide)
    · simp only [bindO_some, bindO2_some, outK_ret, condB_bool, cond_t, cond_f, fa_ptr, fa_iptr, part_none, Nat.zero_add, Nat.add_zero, Nat.reduceAdd, List.getElem?_cons_zero, List.getElem?_cons_succ, len_str, lenS_enc, lss_int, leq_int, gtr_int, geq_int, eq_int, ne_int, eq_str, ne_str, eq_bool, ne_bool, not_bool, extract_0, extract_1, extract_2, setV_eq, Nat.reduceEqDiff, reduceIte]
      exact bad _ _ (by rw [errI, if_neg (by simp [hv, hsv]), if_pos hz]) (by decide)
    · have hv : validB c = true := by rw [validB, hm]; rfl
      simp only [bindO_some, bindO2_some, outK_ret, condB_bool, cond_t, cond_f, fa_ptr, fa_iptr, part_none, Nat.zero_add, Nat.add_zero, Nat.reduceAdd, List.getElem?_cons_zero, List.getElem?_cons_succ, len_str, lenS_enc, lss_int, leq_int, gtr_int, geq_int, eq_int, ne_int, eq_str, ne_str, eq_bool, ne_bool, not_bool, extract_0, extract_1, extract_2, setV_eq, Nat.reduceEqDiff, reduceIte]
      exact bad _ _ (by rw [errI, if_neg (by simp [hv, hsv]), if_neg (by simp [hz]), if_pos ((all_found hm (fits_valid hv) hsv).2 hex)]) (by decide)
    have hv : validB c = true := by rw [validB, hm]; rfl
    have hf := fits_valid hv
    obtain ⟨n, hn, n1, n64, h8⟩ := strc_size hsv
    have hnn : s.size.toNat = n := by omega
    rw [hnn] at hF
    rw [gn] at hB hM2 hB2
    have hnd : (m.map (·.1)).Nodup := (symsOf_facts hm).nodup List.nodup_nil
    have he : errI c s = 0 := by
      have : ¬ (symsC c).all (fitZ s) = false := fun h => by
        obtain ⟨p, hp, hno⟩ := (all_found hm hf hsv).1 h
        obtain ⟨q, hq⟩ := Option.isSome_iff_exists.1 (hA p hp)
        obtain ⟨k, r, h1, h2, h3⟩ := hF.to _ _ hq
        rw [mem_findI hnd hp] at h1
        simp only [Option.some.injEq] at h1
        rw [h1, h2] at hno; cases hno
      rw [errI, if_neg (by simp [hv, hsv]), if_neg (by simp [hz]), if_neg this]
    have lc : ∀ hh : Heap, hh.get 0 = some (.cells (encCirc c)) → loadS (some 2) (.ptr 0 0) hh = some (.agg (encCirc c)) := fun hh h1 => by rw [load_ptr h1, part_whole (cs := encCirc c) (n := 2) rfl]
    have hnx := hx.next
    have p0 : h'.get 0 = some (.cells (encCirc c)) := by rw [hx.get _ (by omega)]; exact g0
    have p1 : h'.get 1 = some (.cells (encStrc s)) := by rw [hx.get _ (by omega)]; exact g1
    have hruns := runsD_of hm hf hsv hz hn hF hA
    simp only [bindO_some, bindO2_some, outK_ret, condB_bool, cond_t, cond_f, fa_ptr, fa_iptr, part_none, Nat.zero_add, Nat.add_zero, Nat.reduceAdd, List.getElem?_cons_zero, List.getElem?_cons_succ, len_str, lenS_enc, lss_int, leq_int, gtr_int, geq_int, eq_int, ne_int, eq_str, ne_str, eq_bool, ne_bool, not_bool, extract_0, extract_1, extract_2, setV_eq, Nat.reduceEqDiff, reduceIte, lc _ p0]
    refine semCall_true (gate_result hc hf (hz.trans hn) n1 n64 hruns hB fun h2 hx2 => ?_)
    simp only [outK_ret]
    refine semCall_true (keys_map ?_)
    simp only [outK_ret]
    have hx3 : HExt h' (h2.alloc (.box (.map M))) := hx2.trans (HExt.alloc _ _)
    have b3 : (h2.alloc (.box (.map M))).get h2.next = some (.box (.map M)) := get_alloc_same _ _
    have n3 : (h2.alloc (.box (.map M))).next = h2.next + 1 := rfl
    have hml : m.length ≤ 20000 := by
      have h1 : sizeB c = true := by
        cases h : sizeB c with
        | true => rfl
        | false => rw [symsOf, h] at hm; cases hm
      rw [symsOf, h1] at hm
      have := symsGo_len _ _ _ _ hm
      have := hf.1
      simp only [List.length_nil] at *; omega
    have hkeys := keys_of hI
    have hesl : es.length = m.length := by have := congrArg List.length hkeys; simpa using this
    have hent : entsOk ck es = true := entsOk_of (fun e hen => by
      obtain ⟨p, hp, h1, h2⟩ := hI.mem e hen
      refine ⟨⟨p.1, h1, ?_⟩, hBi.lt e hen⟩
      have hfi := mem_findI hnd hp
      rcases (symsOf_facts hm).from_ _ _ hfi with h3 | ⟨g, hg, k1, k2, k3⟩
      · cases h3
      · obtain ⟨i, hi⟩ := List.getElem?_of_mem hg
        have := hf.2.2 i g hi
        simp only [fitB, if_pos k1, Bool.and_eq_true] at this
        have h4 := this.2.2.2.1
        rw [← k2]
        unfold nameB at h4
        split at h4
        · cases h4
        · simp only [Bool.and_eq_true, decide_eq_true_eq] at h4; have := h4.1; omega) (by rw [hkeys]; exact hnd) hBi.nodup
    refine semCall_true (sorted_map b3 (by rw [hx3.get _ hMn]; exact hM) hent (by omega) fun a hb hx4 oN => ?_)
    rw [hkeys] at oN
    generalize hNe : sortK (m.map (·.1)) = N at oN
    have hNs : SortS N ∧ ∀ x, x ∈ N ↔ x ∈ m.map (·.1) := by rw [← hNe]; exact sortK_strict hnd
    have hNl : N.length = m.length := by rw [← hNe, (sortK_perm _).length_eq, List.length_map]
    have hxb : HExt h' hb := hx3.trans hx4
    have hBb := hB.ext hxb
    have hbn := hxb.next
    generalize hwas : valueOf (lookD D) n c = was
    -- an arity's number
    obtain ⟨kOf, hkOf⟩ : ∃ kOf : Str → Nat, ∀ nm, kOf nm = ((m.find nm).getD 0).toNat := ⟨_, fun _ => rfl⟩
    have hD : ∀ nm ∈ N, ∃ p, D nm = some p ∧ p.2.length = n ^ kOf nm ∧ m.find nm = some (kOf nm : Int) ∧ kOf nm ≤ 12 ∧ n ^ kOf nm ≤ 4096 := fun nm hnm => by
      obtain ⟨q, hq, rfl⟩ := List.mem_map.1 ((hNs.2 nm).1 hnm)
      obtain ⟨p, hp⟩ := Option.isSome_iff_exists.1 (hA q hq)
      obtain ⟨k, r, h1, h2, h3⟩ := hF.to _ _ hp
      have hk : kOf q.1 = k := by rw [hkOf, h1]; rfl
      have hrm := List.mem_of_find?_eq_some h2
      obtain ⟨i, hi⟩ := List.getElem?_of_mem hrm
      have hrb := strc_rel hsv hi
      rw [hnn] at hrb
      obtain ⟨k', e1, e2, e3, e4⟩ := rel_all hrb
      have hsy := List.find?_some h2
      simp only [symB, Bool.and_eq_true, decide_eq_true_eq] at hsy
      obtain rfl : k' = k := by omega
      exact ⟨p, hp, by rw [h3, bitsOf_len, hk], by rw [h1, hk], by omega, by rw [hk]; exact e3⟩
    obtain ⟨rows, hrows⟩ : ∃ rows : Str → List (Str × List Int), ∀ nm, rows nm = fRow (lookD D) n c was nm (kOf nm) (n ^ kOf nm) := ⟨_, fun _ => rfl⟩
    simp only [outK_ret, oN.len, bindO_some]
    have e0H : ∀ hh, HExt hb hh → hh.get 0 = some (.cells (encCirc c)) := fun hh hx => by rw [hx.get _ (by omega), hxb.get _ (by omega)]; exact p0
    have e1H : ∀ hh, HExt hb hh → hh.get 1 = some (.cells (encStrc s)) := fun hh hx => by rw [hx.get _ (by omega), hxb.get _ (by omega)]; exact p1
    refine loopB_range 0 N.length (Nat.zero_le _) (fun i e hh => ∃ fs fa, Own encF 2 hb.next hh fa fs ∧ fs.map datF = (N.take i).flatMap rows ∧ fs.length ≤ i * 4096 ∧ HExt hb hh ∧
      e 2 = .ptr 0 0 ∧ e 3 = .ptr 1 0 ∧ e 6 = .map B ∧ e 7 = .map M ∧ e 9 = .bool was ∧ e 10 = fa ∧ e 32 = a ∧ e 33 = .int .i64 (N.length : Int) ∧ e 34 = .int .i64 (i : Int))
      ⟨[], .nils, .nil, rfl, Nat.zero_le _, HExt.refl _, rfl, rfl, rfl, rfl, by rw [← hwas]; rfl, rfl, rfl, rfl, rfl⟩ ?_ ?_
    · rintro i e hh _ hi ⟨fs, fa, oF, hfs, hfl, hxh, e2, e3, e6, e7, e9, e10, e32, e33, e34⟩ K' hn' hx' hr' hp'
      have hnm : N[i]? = some N[i] := List.getElem?_eq_getElem hi
      generalize N[i] = nm at hnm
      obtain ⟨p, hp, hpl, hfd, hk12, hk4⟩ := hD nm (List.mem_of_getElem? hnm)
      obtain ⟨bN, _, ia1, ld1⟩ := own_name (oN.ext hxh) hnm
      have hBh := hBb.ext hxh
      obtain ⟨bes, bck, bm, m1, m2, m3⟩ := hBh.ex
      obtain ⟨k1, k2, k3, k4⟩ := hBb.blk nm p hp
      have hlk : lookupS .string .nils false (.map B) (.str nm) hh = some (.slice p.1 0 p.2.length 1) := by rw [lookup_mapA m1 m2, m3, hp]; rfl
      have hln : ∀ h : Heap, lenS .slice (.slice p.1 0 p.2.length 1) h = some (.int .i64 (p.2.length : Int)) := fun _ => rfl
      rw [F.gate_Flips.L0_eq]
      simp only [e6, e32, e33, e34, bindO_some, bindO2_some, outK_ret, condB_bool, cond_t, cond_f, fa_ptr, fa_iptr, part_none, Nat.zero_add, Nat.add_zero, Nat.reduceAdd, List.getElem?_cons_zero, List.getElem?_cons_succ, len_str, lenS_enc, lss_int, leq_int, gtr_int, geq_int, eq_int, ne_int, eq_str, ne_str, eq_bool, ne_bool, not_bool, extract_0, extract_1, extract_2, setV_eq, Nat.reduceEqDiff, reduceIte, lt_true hi, ia1, ld1, hlk, hln]
      refine loopB_range 0 p.2.length (Nat.zero_le _) (fun r e hh => ∃ fs fa, Own encF 2 hb.next hh fa fs ∧ fs.map datF = (N.take i).flatMap rows ++ fRow (lookD D) n c was nm (kOf nm) r ∧ fs.length ≤ i * 4096 + r ∧ HExt hb hh ∧
        e 2 = .ptr 0 0 ∧ e 3 = .ptr 1 0 ∧ e 6 = .map B ∧ e 7 = .map M ∧ e 9 = .bool was ∧ e 10 = fa ∧ e 12 = .str nm ∧ e 13 = .slice p.1 0 p.2.length 1 ∧ e 32 = a ∧ e 33 = .int .i64 (N.length : Int) ∧ e 34 = .int .i64 (i : Int) ∧ e 42 = .int .i64 (p.2.length : Int) ∧ e 43 = .int .i64 (r : Int))
        ⟨fs, fa, oF, by rw [hfs]; exact (List.append_nil _).symm, Nat.le_trans hfl (Nat.le_add_right _ _), hxh, e2, e3, e6, e7, e9, e10, rfl, rfl, e32, e33, e34, rfl, rfl⟩ ?_ ?_
      · clear hfs hfl oF hxh e2 e3 e6 e7 e9 e10 e32 e33 e34 hlk m1 m2 m3 hBh ia1 ld1
        rintro r e hh _ hr ⟨fs, fa, oF, hfs, hfl, hxh, e2, e3, e6, e7, e9, e10, e12, e13, e32, e33, e34, e42, e43⟩ K2 hn2 hx2' hr2 hp2
        have hBh := hBb.ext hxh
        obtain ⟨_, _, _, k4h⟩ := hBh.blk nm p hp
        have hbit : p.2[r]? = some p.2[r] := List.getElem?_eq_getElem hr
        generalize p.2[r] = v at hbit
        have hset := hBh.set hp (d := p.2.set r (!v)) (by simp)
        have xb := hxh.both p.1 (.cells ((p.2.set r (!v)).map bv))
        have c1 : (hh.set p.1 (.cells ((p.2.set r (!v)).map bv))).get 0 = some (.cells (encCirc c)) := by rw [Heap.get_set, if_neg (by omega)]; exact e0H _ hxh
        have c2 : (hh.set p.1 (.cells ((p.2.set r (!v)).map bv))).get 1 = some (.cells (encStrc s)) := by rw [Heap.get_set, if_neg (by omega)]; exact e1H _ hxh
        have c3 : (hh.set p.1 (.cells ((p.2.set r (!v)).map bv))).next = hh.next := Heap.next_set _ _ _
        have oF1 : Own encF 2 hb.next (hh.set p.1 (.cells ((p.2.set r (!v)).map bv))) fa fs := oF.setLow k2 _
        have hbk : hb.get p.1 = some (.cells (p.2.map bv)) := k4
        rw [F.gate_Flips.L1_eq]
        simp only [e2, e6, e13, e42, e43, bindO_some, bindO2_some, outK_ret, condB_bool, cond_t, cond_f, fa_ptr, fa_iptr, part_none, Nat.zero_add, Nat.add_zero, Nat.reduceAdd, List.getElem?_cons_zero, List.getElem?_cons_succ, len_str, lenS_enc, lss_int, leq_int, gtr_int, geq_int, eq_int, ne_int, eq_str, ne_str, eq_bool, ne_bool, not_bool, extract_0, extract_1, extract_2, setV_eq, Nat.reduceEqDiff, reduceIte, lt_true hr, ia_sl hr, load_bl k4h hbit, store_bl k4h hr, lc _ c1]
        refine semCall_true (gate_result hc hf (hz.trans hn) n1 n64 (hruns.set hp (by simp)) hset fun h39 hx39 => ?_)
        rw [lookD_tog hp hbit]
        have xb39 := xb.trans hx39
        have d39 : h39.get p.1 = some (.cells ((p.2.set r (!v)).map bv)) := by rw [hx39.get _ (by rw [c3]; have := hxh.next; omega), Heap.get_set, if_pos rfl]
        have hgb : (p.2.set r (!v))[r]? = some (!v) := List.getElem?_set_self hr
        have hbb : (p.2.set r (!v)).set r (!(!v)) = p.2 := by rw [Bool.not_not]; exact bool_back hbit
        have hrl : r < (p.2.set r (!v)).length := by simpa using hr
        simp only [outK_ret, e9, ne_bool, bindO_some, condB_bool]
        have hstep := fRow_succ (lookD D) n c was nm (kOf nm) r
        have hbne : (!(valueOf (tog (lookD D) nm r) n c == was)) = (valueOf (tog (lookD D) nm r) n c != was) := rfl
        rw [hbne]
        cases hq : valueOf (tog (lookD D) nm r) n c != was with
        | false =>
          rw [hq, if_neg (by decide), List.append_nil] at hstep
          simp only [cond_f, setV_eq, Nat.reduceEqDiff, reduceIte, e13, e43, ia_sl hr, load_bl d39 hgb, not_bool, store_bl d39 hrl, hbb, bindO_some, succ_i64 hr (show p.2.length ≤ big by unfold big; omega)]
          refine hn2 _ _ ⟨fs, fa, (oF1.ext hx39).setLow k2 _, by rw [hstep]; exact hfs, by omega, xb39.back hbk, e2, e3, e6, e7, e9, e10, e12, e13, e32, e33, e34, e42, rfl⟩
        | true =>
          rw [hq, if_pos rfl] at hstep
          have s39 : loadS none (.ptr 1 0) h39 = some (.int .i64 (n : Int)) := by rw [load_ptr (cs := encStrc s) (by rw [hx39.get _ (by rw [c3]; have := hxh.next; omega)]; exact c2), ← hn]; rfl
          have M39 : h39.get M = some (.map es ck) := by
            have hMp : M ≠ p.1 := fun e => by
              have h1 : hb.get M = some (.map es ck) := by rw [hxb.get _ hMn]; exact hM
              rw [e, hbk] at h1; cases h1
            rw [hx39.get _ (by rw [c3]; have := hxh.next; omega), Heap.get_set, if_neg hMp, hxh.get _ (by omega), hxb.get _ hMn]; exact hM
          have hlm : lookupS .string (.int .i64 0) false (.map M) (.str nm) h39 = some (.int .i64 (kOf nm : Int)) := by rw [lookup_mapf M39 hI, hfd]; rfl
          simp only [cond_t, setV_eq, Nat.reduceEqDiff, reduceIte, e3, e7, e12, e43, fa_ptr, Nat.add_zero, bindO_some, s39, hlm]
          refine semCall_true (shape_Tuple n1 n64 hk12 hk4 (by rw [← hpl]; exact hr) fun t ht => ?_)
          obtain ⟨a5, h5, p5, o5, f5, n5, x5, b5⟩ := (oF1.ext hx39).push len_encF one_encF (by have := hx39.next; have := hxh.next; omega) (bytes := 40) (by
            have : i * 4096 ≤ 20000 * 4096 := Nat.mul_le_mul_right _ (by omega)
            rw [hmx]; omega) (nm, t)
          have x5' := x5 _ xb39 (by rw [Heap.next_set]; omega)
          have d5 : h5.get p.1 = some (.cells ((p.2.set r (!v)).map bv)) := by rw [x5'.get _ (by rw [Heap.next_set]; exact k2), Heap.get_set, if_pos rfl]
          simp only [outK_ret, extract_0, extract_1, bindO_some, setV_eq, Nat.reduceEqDiff, reduceIte, e10, e12, e13, e43, agg_F, row_F, p5, bindO2_some, ia_sl hr, load_bl d5 hgb, not_bool, store_bl d5 hrl, hbb, succ_i64 hr (show p.2.length ≤ big by unfold big; omega)]
          refine hn2 _ _ ⟨_, a5, o5.setLow k2 _, ?_, by simp; omega, x5'.back hbk, e2, e3, e6, e7, e9, rfl, e12, e13, e32, e33, e34, e42, rfl⟩
          rw [hstep, List.map_append, hfs, ← List.append_assoc]
          simp [datF, ht]
      · clear hfs hfl oF hxh e2 e3 e6 e7 e9 e10 e32 e33 e34 hlk m1 m2 m3 hBh ia1 ld1
        rintro e hh ⟨fs, fa, oF, hfs, hfl, hxh, e2, e3, e6, e7, e9, e10, e12, e13, e32, e33, e34, e42, e43⟩ K2 hx2'
        rw [F.gate_Flips.L1_eq]
        simp only [e42, e43, bindO_some, bindO2_some, outK_ret, condB_bool, cond_t, cond_f, fa_ptr, fa_iptr, part_none, Nat.zero_add, Nat.add_zero, Nat.reduceAdd, List.getElem?_cons_zero, List.getElem?_cons_succ, len_str, lenS_enc, lss_int, leq_int, gtr_int, geq_int, eq_int, ne_int, eq_str, ne_str, eq_bool, ne_bool, not_bool, extract_0, extract_1, extract_2, setV_eq, Nat.reduceEqDiff, reduceIte, lt_false]
        rw [hx2', F.gate_Flips.L1_x2_eq]
        simp only [bindO_some, bindO2_some, outK_ret, condB_bool, cond_t, cond_f, fa_ptr, fa_iptr, part_none, Nat.zero_add, Nat.add_zero, Nat.reduceAdd, List.getElem?_cons_zero, List.getElem?_cons_succ, len_str, lenS_enc, lss_int, leq_int, gtr_int, geq_int, eq_int, ne_int, eq_str, ne_str, eq_bool, ne_bool, not_bool, extract_0, extract_1, extract_2, setV_eq, Nat.reduceEqDiff, reduceIte, e34, succ_i64 hi (show N.length ≤ big by unfold big; omega)]
        refine hn' _ _ ⟨fs, fa, oF, ?_, by rw [Nat.succ_mul]; omega, hxh, e2, e3, e6, e7, e9, e10, e32, e33, rfl⟩
        rw [hfs, List.take_add_one, hnm, List.flatMap_append, hpl, ← hrows]; simp
    · rintro e hh ⟨fs, fa, oF, hfs, hfl, hxh, e2, e3, e6, e7, e9, e10, e32, e33, e34⟩ K' hx'
      rw [F.gate_Flips.L0_eq]
      simp only [e33, e34, bindO_some, bindO2_some, outK_ret, condB_bool, cond_t, cond_f, fa_ptr, fa_iptr, part_none, Nat.zero_add, Nat.add_zero, Nat.reduceAdd, List.getElem?_cons_zero, List.getElem?_cons_succ, len_str, lenS_enc, lss_int, leq_int, gtr_int, geq_int, eq_int, ne_int, eq_str, ne_str, eq_bool, ne_bool, not_bool, extract_0, extract_1, extract_2, setV_eq, Nat.reduceEqDiff, reduceIte, lt_false]
      rw [hx', F.gate_Flips.L0_x0_eq]
      simp only [setV_eq, Nat.reduceEqDiff, reduceIte, e10]
      rw [List.take_of_length_le (Nat.le_refl _)] at hfs
      obtain ⟨x, hx1, hx2⟩ := oF.frzx (fun f y hy => by
        simp only [encF, List.mem_cons, List.not_mem_nil, or_false] at hy
        rcases hy with rfl | rfl
        · exact .scalar _ rfl
        · exact .of_pure (pure_encSl pure_encI _))
      refine yes_eq.2 (.inr ⟨he, fa, x, rfl, ?_, hx2⟩)
      have hNN : N = (symsC c).map (·.1) := sorted_unique hNs.1 (symsC_sorted c) fun x => by
        rw [hNs.2, List.mem_map, List.mem_map]
        constructor
        · rintro ⟨p, hp, rfl⟩; exact ⟨p, (symsC_mem hm hf p).2 (mem_findI hnd hp), rfl⟩
        · rintro ⟨y, hy, rfl⟩; exact ⟨y, find_memI ((symsC_mem hm hf y).1 hy), rfl⟩
      have hli := look_in hm hf hsv hn hF hA
      rw [hx1, hfs, hNN, hnn, flipsS, List.flatMap_map]
      have hw2 : was = valueOf (lookS n s) n c := by rw [← hwas]; exact valueOf_congr hli
      have : ∀ y ∈ symsC c, rows y.1 = fRow (lookS n s) n c (valueOf (lookS n s) n c) y.1 y.2.toNat (n ^ y.2.toNat) := fun y hy => by
        have hk : kOf y.1 = y.2.toNat := by rw [hkOf, (symsC_mem hm hf y).1 hy]; rfl
        rw [hrows, hk, hw2]
        unfold fRow
        congr 1
        refine List.filter_congr fun r _ => ?_
        rw [tog_congr _ _ hli]
      generalize symsC c = l at this
      clear hNN
      induction l with
      | nil => rfl
      | cons y l ih => rw [List.flatMap_cons, List.flatMap_cons, this y List.mem_cons_self, ih fun z hz => this z (List.mem_cons_of_mem _ hz)]
  refine main.frozen (by simp [AV.pureL, AV.pure, pure_encStrc, pure_encCirc]) fun o h' ho => ?_
  rcases yes_eq.1 ho with ⟨h1, rfl⟩ | ⟨h1, v, x, rfl, hx, hf⟩
  · exact ⟨_, _, rfl, .of_pure rfl, hbad h1⟩
  · have := FzL.cons hf (FzL.cons (.scalar (.int .i64 0) rfl) FzL.nil)
    exact ⟨_, _, rfl, .tuple _ _ this.len this.rel, hok h1 x hx⟩
end
end Go.AM
/- The reference's Flips; the law GateFlips. Conditions: none. -/
namespace Go.AM
open Go Go.Proofs
set_option linter.unusedVariables false
set_option linter.unusedSimpArgs false
noncomputable section

theorem ref01_Among {x : Sl (Sl Int)} {t : Sl Int} (hx : x.l.length ≤ big) (ht : ∀ u ∈ x.l, u.l.length ≤ big) {h : Heap} {K : Out → Heap → Bool} (hK : K (.ret (.bool ((x.l.map Sl.l).any fun u => u == t.l))) h = true) : Sem Tryz.prog 91 [encSl encT 1 x, encSl encI 1 t] h K := by
  refine F.ref01_Among_sem ?_
  refine loopB_range 0 x.l.length (Nat.zero_le _) (fun i e h' => h' = h ∧ e 0 = encSl encT 1 x ∧ e 1 = encSl encI 1 t ∧ e 5 = .int .i64 (i : Int) ∧ (((x.l.map Sl.l).take i).any fun u => u == t.l) = false) ⟨rfl, rfl, rfl, rfl, rfl⟩ ?_ ?_
  · rintro i e h' _ hi ⟨rfl, e0, e1, e5, hq⟩ K' hn hx' hr hp
    have hv : x.l[i]? = some x.l[i] := List.getElem?_eq_getElem hi
    generalize x.l[i] = u at hv
    have hv2 : (x.l.map Sl.l)[i]? = some u.l := by rw [List.getElem?_map, hv]; rfl
    rw [F.ref01_Among.L0_eq]
    simp only [e0, e1, e5, bindO_some, bindO2_some, outK_ret, condB_bool, cond_t, cond_f, fa_ptr, fa_iptr, part_none, Nat.zero_add, Nat.add_zero, Nat.reduceAdd, List.getElem?_cons_zero, List.getElem?_cons_succ, len_str, lenS_enc, lss_int, leq_int, gtr_int, geq_int, eq_int, ne_int, eq_str, ne_str, eq_bool, ne_bool, not_bool, extract_0, extract_1, extract_2, setV_eq, Nat.reduceEqDiff, reduceIte, lt_true hi, iaS_enc x hi, get_tup hv]
    refine semCall_true (ref01_Equal (ht u (List.mem_of_getElem? hv)) ?_)
    simp only [bindO_some, bindO2_some, outK_ret, condB_bool, cond_t, cond_f, fa_ptr, fa_iptr, part_none, Nat.zero_add, Nat.add_zero, Nat.reduceAdd, List.getElem?_cons_zero, List.getElem?_cons_succ, len_str, lenS_enc, lss_int, leq_int, gtr_int, geq_int, eq_int, ne_int, eq_str, ne_str, eq_bool, ne_bool, not_bool, extract_0, extract_1, extract_2, setV_eq, Nat.reduceEqDiff, reduceIte]
    cases h1 : u.l == t.l with
    | true =>
      simp only [cond_t]
      rw [hr, F.ref01_Among.L0_r_eq]
      simp only [setV_eq, Nat.reduceEqDiff, reduceIte]
      rw [List.any_eq_true.2 ⟨u.l, List.mem_of_getElem? hv2, h1⟩] at hK
      exact hK
    | false =>
      simp only [cond_f, e5, succ_i64 hi hx, bindO_some]
      exact hn _ _ ⟨rfl, e0, e1, rfl, any_take hv2 hq h1⟩
  · rintro e h' ⟨rfl, e0, e1, e5, hq⟩ K' hx'
    rw [F.ref01_Among.L0_eq]
    simp only [e0, e5, bindO_some, bindO2_some, outK_ret, condB_bool, cond_t, cond_f, fa_ptr, fa_iptr, part_none, Nat.zero_add, Nat.add_zero, Nat.reduceAdd, List.getElem?_cons_zero, List.getElem?_cons_succ, len_str, lenS_enc, lss_int, leq_int, gtr_int, geq_int, eq_int, ne_int, eq_str, ne_str, eq_bool, ne_bool, not_bool, extract_0, extract_1, extract_2, setV_eq, Nat.reduceEqDiff, reduceIte, lt_false]
    rw [hx', F.ref01_Among.L0_x0_eq]
    rw [List.take_of_length_le (by simp)] at hq
    rw [hq] at hK; exact hK

/-- How many cells: some number. -/
theorem symsC_arity {c : Circ} {m : MapL} (hm : symsOf c = some m) (hf : c.fits) {y : Str × Int} (hy : y ∈ symsC c) : ∃ k : Nat, y.2 = (k : Int) ∧ k ≤ 12 := by
  have h1 := (symsC_mem hm hf y).1 hy
  rcases (symsOf_facts hm).from_ _ _ h1 with h2 | ⟨g, hg, k1, k2, k3⟩
  · cases h2
  · obtain ⟨i, hi⟩ := List.getElem?_of_mem hg
    exact ⟨_, k3, (fit_input (hf.2.2 i g hi) k1).2.1⟩
theorem law11_cells {c : Circ} (hc : c.ok) (hv : validB c = true) {h : Heap} {K : Out → Heap → Bool} (hK : ∀ x : Int, K (.ret (.int .i64 x)) h = true) : Sem Tryz.prog 37 [.agg (encCirc c)] h K := by
  obtain ⟨m, hm⟩ := Option.isSome_iff_exists.1 (show (symsOf c).isSome = true from hv)
  have hf := fits_valid hv
  have hsz : ∃ n : Nat, c.size = (n : Int) ∧ 1 ≤ n ∧ n ≤ 64 := by
    have h1 : sizeB c = true := by
      cases h : sizeB c with
      | true => rfl
      | false => rw [symsOf, h] at hm; cases hm
    simp only [sizeB, Bool.and_eq_true, Bool.not_eq_true', decide_eq_false_iff_not] at h1
    exact ⟨c.size.toNat, by omega, by omega, by omega⟩
  obtain ⟨n, hn, n1, n64⟩ := hsz
  have main : Sem Tryz.prog 37 [.agg (encCirc c)] Heap.empty (fun o h' => yes (∃ x : Int, o = .ret (.int .i64 x))) := by
    refine F.law11_cells_sem ?_
    have b0 : (Heap.alloc Heap.empty (.cells (encCirc c))).get 0 = some (.cells (encCirc c)) := get_alloc_same _ _
    simp only [box_agg (one_encCirc c), bindO_some, next_empty]
    generalize (Heap.alloc Heap.empty (.cells (encCirc c))) = H at b0 ⊢
    have l0 : loadS (some 2) (.ptr 0 0) H = some (.agg (encCirc c)) := by rw [load_ptr b0, part_whole (cs := encCirc c) (n := 2) rfl]
    have lz : loadS none (.ptr 0 0) H = some (.int .i64 (n : Int)) := by rw [load_ptr b0, ← hn]; rfl
    simp only [l0, bindO_some]
    refine semCall_true (ref11_Symbols hc hf fun x hx => ?_)
    simp only [outK_ret]
    have hxl := symsC_len hf
    refine loopB_range 0 x.l.length (Nat.zero_le _) (fun i e h' => h' = H ∧ (∃ q : Int, e 4 = .int .i64 q) ∧ e 1 = .ptr 0 0 ∧ e 3 = encSl encZ 2 x ∧ e 5 = .int .i64 (i : Int)) ⟨rfl, ⟨0, rfl⟩, rfl, rfl, rfl⟩ ?_ ?_
    · rintro i e h' _ hi ⟨rfl, ⟨q, e4⟩, e1, e3, e5⟩ K' hnx hx' hr hp
      have hv : x.l[i]? = some x.l[i] := List.getElem?_eq_getElem hi
      generalize x.l[i] = y at hv
      obtain ⟨k, hk, k12⟩ := symsC_arity hm hf (by rw [← hx]; exact List.mem_of_getElem? hv)
      rw [F.law11_cells.L0_eq]
      simp only [e1, e3, e5, bindO_some, bindO2_some, outK_ret, condB_bool, cond_t, cond_f, fa_ptr, fa_iptr, part_none, Nat.zero_add, Nat.add_zero, Nat.reduceAdd, List.getElem?_cons_zero, List.getElem?_cons_succ, len_str, lenS_enc, lss_int, leq_int, gtr_int, geq_int, eq_int, ne_int, eq_str, ne_str, eq_bool, ne_bool, not_bool, extract_0, extract_1, extract_2, setV_eq, Nat.reduceEqDiff, reduceIte, lt_true hi, lz, iaS_enc x hi, get_z1 hv, hk]
      refine semCall_true (ref01_Pow n1 n64 (by unfold big; omega) fun v _ _ => ?_)
      obtain ⟨w, hw⟩ := add_ex q (v : Int)
      simp only [outK_ret, e4, e5, hw, bindO_some, succ_i64 hi (by rw [hx]; exact hxl)]
      exact hnx _ _ ⟨rfl, ⟨w, rfl⟩, e1, e3, rfl⟩
    · rintro e h' ⟨rfl, ⟨q, e4⟩, e1, e3, e5⟩ K' hx'
      rw [F.law11_cells.L0_eq]
      simp only [e3, e5, bindO_some, bindO2_some, outK_ret, condB_bool, cond_t, cond_f, fa_ptr, fa_iptr, part_none, Nat.zero_add, Nat.add_zero, Nat.reduceAdd, List.getElem?_cons_zero, List.getElem?_cons_succ, len_str, lenS_enc, lss_int, leq_int, gtr_int, geq_int, eq_int, ne_int, eq_str, ne_str, eq_bool, ne_bool, not_bool, extract_0, extract_1, extract_2, setV_eq, Nat.reduceEqDiff, reduceIte, lt_false]
      rw [hx', F.law11_cells.L0_x0_eq]
      simp only [setV_eq, Nat.reduceEqDiff, reduceIte, e4]
      exact yes_eq.2 ⟨q, rfl⟩
  refine main.frozen (by simp [AV.pureL, AV.pure, pure_encCirc]) fun o h' ho => ?_
  obtain ⟨x, rfl⟩ := yes_eq.1 ho
  exact ⟨_, _, rfl, .of_pure rfl, hK x⟩

/-- One tuple put in or taken out: what the circuit's inputs read. -/
theorem put_look {c : Circ} {s s' : Strc} {n j k : Nat} {r : Rel} {t : List Int} {is : Bool} (he : errI c s = 0) (hn : s.size = (n : Int)) (hr : s.rels.l[j]? = some r) (hk : r.arity = (k : Int)) (ht : t.length = k) (hb : inB n t = true) (hp : PutR s j r t is s')
    (his : is = !((r.tuples.l.map Sl.l).any fun u => u == t)) : strcB s' = true ∧ errI c s' = 0 ∧ s'.size = (n : Int) ∧ valB n (tabsOf s') c = valueOf (tog (lookS n s) r.name (rkN n t)) n c := by
  obtain ⟨h1, h2, h3, h4⟩ := err_ok he
  obtain ⟨m, hm⟩ := Option.isSome_iff_exists.1 (show (symsOf c).isSome = true from h1)
  have hnn : s.size.toNat = n := by omega
  have hv' := put_valid h2 hr hk ht (by rw [hnn]; exact hb) hp
  have hz' : s'.size = (n : Int) := by rw [hp.size]; exact hn
  have he' : errI c s' = 0 := by rw [err_sig hp.size h2 hv' (put_sig hr hp)]; exact he
  refine ⟨hv', he', hz', ?_⟩
  rw [valB_look he' hz']
  refine valueOf_congr fun g hg k1 => ?_
  obtain ⟨e1, e2, e3, e4⟩ := err_ok he'
  obtain ⟨q, hq, ha⟩ := all_some hm (fits_valid h1) h2 h4 hg k1
  obtain ⟨q', hq', ha'⟩ := all_some hm (fits_valid h1) e2 e4 hg k1
  have hrk : rkN n g.at_.l < n ^ g.at_.l.length := rkN_lt (size_fit h3 hn (fits_valid h1) hg k1).2
  have i1 := lookS_iff h2 hn hq ha hrk
  have i2 := lookS_iff e2 hz' hq' ha' hrk
  have i3 := put_has h2 hn hr hk ht hb hp g.name (rkN n g.at_.l)
  have hrd : HasF n (s.rels.l.map datR) r.name (rkN n t) ↔ is = false := by
    have hS := strc_iff.1 h2
    have hrel := hS.rel _ (List.mem_map_of_mem (List.mem_of_getElem? hr))
    rw [hnn] at hrel
    obtain ⟨_, k', q1, _, _, q4⟩ := hrel
    have q1' : r.arity = (k' : Int) := q1
    obtain rfl : k' = k := by omega
    constructor
    · rintro ⟨d, hd, hdn, u, hu, hue⟩
      obtain ⟨p, hp', rfl⟩ := List.mem_map.1 hd
      have f1 := find_namedL (strc_names h2) p hp'
      have f2 := find_namedL (strc_names h2) r (List.mem_of_getElem? hr)
      rw [show p.name = r.name from hdn, f2] at f1
      cases f1
      obtain ⟨u1, u2⟩ := q4.1 u hu
      have : u = t := rkN_inj (by omega) u2 hb hue
      have hu' : u ∈ r.tuples.l.map Sl.l := hu
      rw [his, List.any_eq_true.2 ⟨u, hu', by rw [this]; simp⟩]; rfl
    · intro h
      rw [h] at his
      have : ((r.tuples.l.map Sl.l).any fun u => u == t) = true := by
        cases hq : (r.tuples.l.map Sl.l).any fun u => u == t with
        | true => rfl
        | false => rw [hq] at his; cases his
      obtain ⟨u, hu, hue⟩ := List.any_eq_true.1 this
      exact ⟨datR r, List.mem_map_of_mem (List.mem_of_getElem? hr), rfl, u, hu, by rw [eq_of_beq hue]⟩
  rw [Bool.eq_iff_iff, i2, i3]
  unfold tog
  by_cases hnm : g.name = r.name
  · rw [if_pos hnm]
    by_cases hq2 : rkN n g.at_.l = rkN n t
    · rw [if_pos ⟨hnm, hq2⟩]
      have : (lookS n s g.name (rkN n g.at_.l) = true) ↔ is = false := by rw [i1, hnm, hq2]; exact hrd
      cases hl : lookS n s g.name (rkN n g.at_.l) with
      | true =>
        have hf := this.1 hl
        simp only [hq2, hf, Bool.not_true, Bool.false_eq_true]
        simp
      | false =>
        have hf : is = true := by
          cases his2 : is with
          | true => rfl
          | false => rw [this.2 his2] at hl; cases hl
        simp [hq2, hf]
    · rw [if_neg (fun h => hq2 h.2), i1]
      simp [hq2]
  · rw [if_neg hnm, if_neg (fun h => hnm h.1), i1]

theorem ref11_Flips {c : Circ} {s : Strc} (hc : c.ok) (he : errI c s = 0) {h : Heap} {K : Out → Heap → Bool} (hK : ∀ x : Sl Fct, x.l.map datF = flipsS s.size.toNat s c → K (.ret (encSl encF 2 x)) h = true) : Sem Tryz.prog 40 [.agg (encCirc c), .agg (encStrc s)] h K := by
  have hmx : maxBytes = 140737488355328 := rfl
  obtain ⟨hv, hsv, hz, hall⟩ := err_ok he
  obtain ⟨m, hm⟩ := Option.isSome_iff_exists.1 (show (symsOf c).isSome = true from hv)
  have hf := fits_valid hv
  obtain ⟨n, hn, n1, n64, h8⟩ := strc_size hsv
  have hnn : s.size.toNat = n := by omega
  obtain ⟨hsm, hs⟩ := strc_small hsv
  have main : Sem Tryz.prog 40 [.agg (encCirc c), .agg (encStrc s)] Heap.empty (fun o h' => yes (∃ v, ∃ x : Sl Fct, o = .ret v ∧ x.l.map datF = flipsS s.size.toNat s c ∧ Fz true h' v (encSl encF 2 x))) := by
    refine F.ref11_Flips_sem ?_
    simp only [box_agg (one_encCirc c), box_agg (one_encStrc s), bindO_some, next_empty, Heap.next_alloc]
    have g0 : (Heap.alloc (Heap.alloc Heap.empty (.cells (encCirc c))) (.cells (encStrc s))).get 0 = some (.cells (encCirc c)) := by simp [Heap.get_alloc, next_empty]
    have g1 : (Heap.alloc (Heap.alloc Heap.empty (.cells (encCirc c))) (.cells (encStrc s))).get 1 = some (.cells (encStrc s)) := by simp [Heap.get_alloc, next_empty]
    have gn : (Heap.alloc (Heap.alloc Heap.empty (.cells (encCirc c))) (.cells (encStrc s))).next = 2 := rfl
    generalize (Heap.alloc (Heap.alloc Heap.empty (.cells (encCirc c))) (.cells (encStrc s))) = H at g0 g1 gn ⊢
    have lc : ∀ hh, HExt H hh → loadS (some 2) (.ptr 0 0) hh = some (.agg (encCirc c)) := fun hh hx => by rw [load_ptr (cs := encCirc c) (by rw [hx.get _ (by omega)]; exact g0), part_whole (cs := encCirc c) (n := 2) rfl]
    have ls : ∀ hh, HExt H hh → loadS (some 2) (.ptr 1 0) hh = some (.agg (encStrc s)) := fun hh hx => by rw [load_ptr (cs := encStrc s) (by rw [hx.get _ (by omega)]; exact g1), part_whole (cs := encStrc s) (n := 2) rfl]
    have lz : ∀ hh, HExt H hh → loadS none (.ptr 1 0) hh = some (.int .i64 (n : Int)) := fun hh hx => by rw [load_ptr (cs := encStrc s) (by rw [hx.get _ (by omega)]; exact g1), ← hn]; rfl
    have lr : ∀ hh, HExt H hh → loadS none (.ptr 1 1) hh = some (encSl encRel 3 s.rels) := fun hh hx => by rw [load_ptr (cs := encStrc s) (by rw [hx.get _ (by omega)]; exact g1)]; rfl
    simp only [Nat.zero_add, lc _ (HExt.refl _), ls _ (HExt.refl _), bindO_some]
    refine semCall_true (ref11_Run hc hf hs hsv hn (runs_err he hn) ?_)
    simp only [outK_ret, lc _ (HExt.refl _), bindO_some]
    refine semCall_true (ref11_Symbols hc hf fun z hzl => ?_)
    simp only [outK_ret]
    have hzl2 := symsC_len hf
    rw [← hzl] at hzl2
    have hzl3 : z.l.length ≤ 20001 := by
      rw [hzl]
      have a := orderGo_len (atomsP (inputs c)) []
      have b := inGo_len c.gates.l []
      have h1 := hf.1
      simp only [symsC, orderL, List.length_map, List.length_nil] at a b ⊢
      have e : (atomsP (inputs c)).length = (inputs c).length + 1 := by simp [atomsP]
      have e2 : (inputs c).length ≤ c.gates.l.length := by rw [inputs]; omega
      omega
    have hwas : valB n (tabsOf s) c = valueOf (lookS n s) n c := valB_look he hn
    rw [hwas]
    generalize hwe : valueOf (lookS n s) n c = was
    obtain ⟨rows, hrows⟩ : ∃ rows : Str × Int → List (Str × List Int), ∀ y, rows y = fRow (lookS n s) n c was y.1 y.2.toNat (n ^ y.2.toNat) := ⟨_, fun _ => rfl⟩
    refine loopB_range 0 z.l.length (Nat.zero_le _) (fun i e hh => ∃ fs fa, Own encF 2 H.next hh fa fs ∧ fs.map datF = (z.l.take i).flatMap rows ∧ fs.length ≤ i * 4096 ∧ HExt H hh ∧
      e 2 = .ptr 0 0 ∧ e 3 = .ptr 1 0 ∧ e 5 = fa ∧ e 6 = .bool was ∧ e 7 = encSl encZ 2 z ∧ e 8 = .int .i64 (i : Int)) ⟨[], .nils, .nil, rfl, Nat.zero_le _, HExt.refl _, rfl, rfl, rfl, rfl, rfl, rfl⟩ ?_ ?_
    · rintro i e hh _ hi ⟨fs, fa, oF, hfs, hfl, hxh, e2, e3, e5, e6, e7, e8⟩ K' hn' hx' hr' hp'
      have hy : z.l[i]? = some z.l[i] := List.getElem?_eq_getElem hi
      generalize z.l[i] = y at hy
      have hyc : y ∈ symsC c := by rw [← hzl]; exact List.mem_of_getElem? hy
      obtain ⟨k, hk, k12⟩ := symsC_arity hm hf hyc
      have hfit := List.all_eq_true.1 hall y hyc
      obtain ⟨r, hr, hra⟩ : ∃ r, s.rels.l.find? (namedB y.1) = some r ∧ r.arity = y.2 := by
        rw [fitZ] at hfit
        split at hfit
        · rename_i r hr; exact ⟨r, hr, by simpa using hfit⟩
        · cases hfit
      have hrk : r.arity = (k : Int) := by omega
      have hrn : r.name = y.1 := by have := List.find?_some hr; simpa [namedB] using this
      obtain ⟨j, hj⟩ := List.getElem?_of_mem (List.mem_of_find?_eq_some hr)
      have hjl := (List.getElem?_eq_some_iff.1 hj).1
      have hrel := (strc_iff.1 hsv).rel _ (List.mem_map_of_mem (List.mem_of_find?_eq_some hr))
      rw [hnn] at hrel
      obtain ⟨_, k', q1, _, q3, q4⟩ := hrel
      have q1' : r.arity = (k' : Int) := q1
      obtain rfl : k' = k := by omega
      have hwh : whereI (namedB y.1) s.rels.l = (j : Int) := by rw [← hrn]; exact where_named hsv hj
      rw [F.ref11_Flips.L0_eq]
      simp only [e3, e7, e8, bindO_some, bindO2_some, outK_ret, condB_bool, cond_t, cond_f, fa_ptr, fa_iptr, part_none, Nat.zero_add, Nat.add_zero, Nat.reduceAdd, List.getElem?_cons_zero, List.getElem?_cons_succ, len_str, lenS_enc, lss_int, leq_int, gtr_int, geq_int, eq_int, ne_int, eq_str, ne_str, eq_bool, ne_bool, not_bool, extract_0, extract_1, extract_2, setV_eq, Nat.reduceEqDiff, reduceIte, lt_true hi, lz _ hxh, iaS_enc z hi, get_z1 hy, get_z hy, hk]
      refine semCall_true (ref01_Tuples n1 k12 q3 fun all ha => ?_)
      simp only [outK_ret, lr _ hxh, ls _ hxh, bindO_some, e7, e8, iaS_enc z hi, fa_iptr, Nat.add_zero, get_z hy]
      refine semCall_true (ref01_Find hs ?_)
      simp only [outK_ret, hwh, lr _ hxh, bindO_some, AV.beq_refl, Bool.and_self, if_true, iaS_enc s.rels hjl, fa_iptr, get_tups hj]
      have hal : all.l.length = n ^ k' := by have := congrArg List.length ha; rwa [List.length_map, iterT_len] at this
      refine loopB_range 0 all.l.length (Nat.zero_le _) (fun q e hh => ∃ fs fa, Own encF 2 H.next hh fa fs ∧ fs.map datF = (z.l.take i).flatMap rows ++ fRow (lookS n s) n c was y.1 k' q ∧ fs.length ≤ i * 4096 + q ∧ HExt H hh ∧
        e 2 = .ptr 0 0 ∧ e 3 = .ptr 1 0 ∧ e 5 = fa ∧ e 6 = .bool was ∧ e 7 = encSl encZ 2 z ∧ e 8 = .int .i64 (i : Int) ∧ e 9 = encSl encT 1 all ∧ e 10 = encSl encT 1 r.tuples ∧ e 11 = .int .i64 (q : Int))
        ⟨fs, fa, oF, by rw [hfs]; exact (List.append_nil _).symm, Nat.le_trans hfl (Nat.le_add_right _ _), hxh, e2, e3, e5, e6, e7, e8, rfl, rfl, rfl⟩ ?_ ?_
      · clear hfs hfl oF hxh e2 e3 e5 e6 e7 e8
        rintro q e hh _ hq ⟨fs, fa, oF, hfs, hfl, hxh, e2, e3, e5, e6, e7, e8, e9, e10, e11⟩ K2 hn2 hx2 hr2 hp2
        have ht : all.l[q]? = some all.l[q] := List.getElem?_eq_getElem hq
        generalize all.l[q] = t at ht
        have hqn : q < n ^ k' := by omega
        have htl : t.l = tupN n k' q := by
          have h1 : (iterT n k')[q]? = some t.l := by rw [← ha, List.getElem?_map, ht]; rfl
          rw [iterT_tup n1 _ _ hqn] at h1; exact (Option.some.inj h1).symm
        obtain ⟨tb, trk⟩ := tupN_ok n1 hqn
        rw [← htl] at tb trk
        have tlen : t.l.length = k' := by rw [htl, tupN_len]
        rw [F.ref11_Flips.L1_eq]
        simp only [e2, e3, e7, e8, e9, e10, e11, bindO_some, bindO2_some, outK_ret, condB_bool, cond_t, cond_f, fa_ptr, fa_iptr, part_none, Nat.zero_add, Nat.add_zero, Nat.reduceAdd, List.getElem?_cons_zero, List.getElem?_cons_succ, len_str, lenS_enc, lss_int, leq_int, gtr_int, geq_int, eq_int, ne_int, eq_str, ne_str, eq_bool, ne_bool, not_bool, extract_0, extract_1, extract_2, setV_eq, Nat.reduceEqDiff, reduceIte, lt_true hq, lc _ hxh, ls _ hxh, iaS_enc z hi, get_z hy, iaS_enc all hq, get_tup ht]
        refine semCall_true (ref01_Among (hs.2 r (List.mem_of_getElem? hj)).2.1 (hs.2 r (List.mem_of_getElem? hj)).2.2 ?_)
        simp only [outK_ret, lc _ hxh, ls _ hxh, get_z hy, get_tup ht, bindO_some, AV.beq_refl, Bool.and_self, if_true, not_bool]
        refine semCall_true (ref01_Put hs hsm hwh hj (fun u hu => by have := (q4.1 u.l (List.mem_map_of_mem hu)).1; omega) (by omega) fun s' hp => ?_)
        obtain ⟨v1, v2, v3, v4⟩ := put_look he hn hj hrk tlen tb hp rfl
        simp only [outK_ret, lc _ hxh, bindO_some, AV.beq_refl, Bool.and_self, if_true]
        refine semCall_true (ref11_Run hc hf (strc_small v1).2 v1 v3 (runs_err v2 v3) ?_)
        rw [v4, hrn, trk]
        have hstep := fRow_succ (lookS n s) n c was y.1 k' q
        have hbne : (!(valueOf (tog (lookS n s) y.1 q) n c == was)) = (valueOf (tog (lookS n s) y.1 q) n c != was) := rfl
        simp only [outK_ret, e6, ne_bool, bindO_some, condB_bool, hbne]
        cases hqq : valueOf (tog (lookS n s) y.1 q) n c != was with
        | false =>
          rw [hqq, if_neg (by decide), List.append_nil] at hstep
          simp only [cond_f, e11, succ_i64 hq (show all.l.length ≤ big by unfold big; omega), bindO_some]
          exact hn2 _ _ ⟨fs, fa, oF, by rw [hstep]; exact hfs, by omega, hxh, e2, e3, e5, e6, e7, e8, e9, e10, rfl⟩
        | true =>
          rw [hqq, if_pos rfl] at hstep
          obtain ⟨a5, h5, p5, o5, f5, n5, x5, b5⟩ := oF.push len_encF one_encF hxh.next (bytes := 40) (by
            have : i * 4096 ≤ 20001 * 4096 := Nat.mul_le_mul_right _ (by omega)
            rw [hmx]; omega) (y.1, t)
          simp only [cond_t, e5, e7, e8, e9, e11, bindO_some, bindO2_some, outK_ret, condB_bool, cond_t, cond_f, fa_ptr, fa_iptr, part_none, Nat.zero_add, Nat.add_zero, Nat.reduceAdd, List.getElem?_cons_zero, List.getElem?_cons_succ, len_str, lenS_enc, lss_int, leq_int, gtr_int, geq_int, eq_int, ne_int, eq_str, ne_str, eq_bool, ne_bool, not_bool, extract_0, extract_1, extract_2, setV_eq, Nat.reduceEqDiff, reduceIte, iaS_enc z hi, get_z hy, iaS_enc all hq, get_tup ht, agg_F, row_F, p5, succ_i64 hq (show all.l.length ≤ big by unfold big; omega)]
          refine hn2 _ _ ⟨_, a5, o5, ?_, by simp; omega, x5 _ hxh (Nat.le_refl _), e2, e3, rfl, e6, e7, e8, e9, e10, rfl⟩
          rw [hstep, List.map_append, hfs, ← List.append_assoc]
          simp [datF, htl]
      · clear hfs hfl oF hxh e2 e3 e5 e6 e7 e8
        rintro e hh ⟨fs, fa, oF, hfs, hfl, hxh, e2, e3, e5, e6, e7, e8, e9, e10, e11⟩ K2 hx2
        rw [F.ref11_Flips.L1_eq]
        simp only [e9, e11, bindO_some, bindO2_some, outK_ret, condB_bool, cond_t, cond_f, fa_ptr, fa_iptr, part_none, Nat.zero_add, Nat.add_zero, Nat.reduceAdd, List.getElem?_cons_zero, List.getElem?_cons_succ, len_str, lenS_enc, lss_int, leq_int, gtr_int, geq_int, eq_int, ne_int, eq_str, ne_str, eq_bool, ne_bool, not_bool, extract_0, extract_1, extract_2, setV_eq, Nat.reduceEqDiff, reduceIte, lt_false]
        rw [hx2, F.ref11_Flips.L1_x2_eq]
        simp only [bindO_some, bindO2_some, outK_ret, condB_bool, cond_t, cond_f, fa_ptr, fa_iptr, part_none, Nat.zero_add, Nat.add_zero, Nat.reduceAdd, List.getElem?_cons_zero, List.getElem?_cons_succ, len_str, lenS_enc, lss_int, leq_int, gtr_int, geq_int, eq_int, ne_int, eq_str, ne_str, eq_bool, ne_bool, not_bool, extract_0, extract_1, extract_2, setV_eq, Nat.reduceEqDiff, reduceIte, e8, succ_i64 hi hzl2]
        refine hn' _ _ ⟨fs, fa, oF, ?_, by rw [Nat.succ_mul]; omega, hxh, e2, e3, e5, e6, e7, rfl⟩
        rw [hfs, List.take_add_one, hy, List.flatMap_append, hal]
        have : rows y = fRow (lookS n s) n c was y.1 k' (n ^ k') := by rw [hrows, hk]; rfl
        simp [this]
    · rintro e hh ⟨fs, fa, oF, hfs, hfl, hxh, e2, e3, e5, e6, e7, e8⟩ K' hx'
      rw [F.ref11_Flips.L0_eq]
      simp only [e7, e8, bindO_some, bindO2_some, outK_ret, condB_bool, cond_t, cond_f, fa_ptr, fa_iptr, part_none, Nat.zero_add, Nat.add_zero, Nat.reduceAdd, List.getElem?_cons_zero, List.getElem?_cons_succ, len_str, lenS_enc, lss_int, leq_int, gtr_int, geq_int, eq_int, ne_int, eq_str, ne_str, eq_bool, ne_bool, not_bool, extract_0, extract_1, extract_2, setV_eq, Nat.reduceEqDiff, reduceIte, lt_false]
      rw [hx', F.ref11_Flips.L0_x0_eq]
      simp only [setV_eq, Nat.reduceEqDiff, reduceIte, e5]
      rw [List.take_of_length_le (Nat.le_refl _)] at hfs
      obtain ⟨x, hx1, hx2⟩ := oF.frzx (fun f y hy => by
        simp only [encF, List.mem_cons, List.not_mem_nil, or_false] at hy
        rcases hy with rfl | rfl
        · exact .scalar _ rfl
        · exact .of_pure (pure_encSl pure_encI _))
      refine yes_eq.2 ⟨fa, x, rfl, ?_, hx2⟩
      rw [hx1, hfs, hzl, hnn, flipsS, hwe]
      congr 1
      funext y
      exact hrows y
  refine main.frozen (by simp [AV.pureL, AV.pure, pure_encStrc, pure_encCirc]) fun o h' ho => ?_
  obtain ⟨v, x, rfl, hx, hf⟩ := yes_eq.1 ho
  exact ⟨v, _, rfl, hf, hK x hx⟩

/-- THE LAW. -/
theorem flips_small {n : Nat} {s : Strc} {c : Circ} (h : ∀ y ∈ symsC c, y.2.toNat ≤ 12) {x : Sl Fct} (hx : x.l.map datF = flipsS n s c) : ∀ f ∈ x.l, f.2.l.length ≤ big := fun f hf => by
  have : datF f ∈ flipsS n s c := by rw [← hx]; exact List.mem_map_of_mem hf
  obtain ⟨y, hy, hm⟩ := List.mem_flatMap.1 this
  unfold fRow at hm
  obtain ⟨r, _, hr⟩ := List.mem_map.1 hm
  have h2 : f.2.l = tupN n y.2.toNat r := (congrArg Prod.snd hr).symm
  rw [h2, tupN_len]
  have := h y hy
  unfold big; omega
theorem law_GateFlips {c : Circ} {s : Strc} (hc : c.ok) (hs : s.ok) : Sem Tryz.prog 7 [.agg (encCirc c), .agg (encStrc s)] Heap.empty trueK := by
  refine F.law11_GateFlips_sem ?_
  simp only [box_agg (one_encCirc c), box_agg (one_encStrc s), bindO_some, next_empty, Heap.next_alloc]
  have g0 : (Heap.alloc (Heap.alloc Heap.empty (.cells (encCirc c))) (.cells (encStrc s))).get 0 = some (.cells (encCirc c)) := by simp [Heap.get_alloc, next_empty]
  have g1 : (Heap.alloc (Heap.alloc Heap.empty (.cells (encCirc c))) (.cells (encStrc s))).get 1 = some (.cells (encStrc s)) := by simp [Heap.get_alloc, next_empty]
  have gn : (Heap.alloc (Heap.alloc Heap.empty (.cells (encCirc c))) (.cells (encStrc s))).next = 2 := rfl
  generalize (Heap.alloc (Heap.alloc Heap.empty (.cells (encCirc c))) (.cells (encStrc s))) = H at g0 g1 gn ⊢
  have l0 : loadS (some 2) (.ptr 0 0) H = some (.agg (encCirc c)) := by rw [load_ptr g0, part_whole (cs := encCirc c) (n := 2) rfl]
  have l1 : loadS (some 2) (.ptr 1 0) H = some (.agg (encStrc s)) := by rw [load_ptr g1, part_whole (cs := encStrc s) (n := 2) rfl]
  simp only [Nat.zero_add, l0, l1, bindO_some]
  refine semCall_true (law11_Few hc fun b => ?_)
  simp only [bindO_some, bindO2_some, outK_ret, condB_bool, cond_t, cond_f, fa_ptr, fa_iptr, part_none, Nat.zero_add, Nat.add_zero, Nat.reduceAdd, List.getElem?_cons_zero, List.getElem?_cons_succ, len_str, lenS_enc, lss_int, leq_int, gtr_int, geq_int, eq_int, ne_int, eq_str, ne_str, eq_bool, ne_bool, not_bool, extract_0, extract_1, extract_2, setV_eq, Nat.reduceEqDiff, reduceIte]
  cases b with
  | false =>
    simp only [Bool.not_false, cond_t]
    refine semCall_true (alive_sem ?_)
    rfl
  | true =>
  simp only [Bool.not_true, cond_f, l1, bindO_some, row_strc]
  have g2 : (Heap.alloc H (.cells (encStrc s))).get H.next = some (.cells (encStrc s)) := get_alloc_same _ _
  have k0 : loadS (some 2) (.ptr 0 0) (Heap.alloc H (.cells (encStrc s))) = some (.agg (encCirc c)) := by rw [load_ptr (cs := encCirc c) (by rw [Heap.get_alloc, gn, if_neg (by omega)]; exact g0), part_whole (cs := encCirc c) (n := 2) rfl]
  have k1 : loadS (some 2) (.ptr 1 0) (Heap.alloc H (.cells (encStrc s))) = some (.agg (encStrc s)) := by rw [load_ptr (cs := encStrc s) (by rw [Heap.get_alloc, gn, if_neg (by omega)]; exact g1), part_whole (cs := encStrc s) (n := 2) rfl]
  generalize (Heap.alloc H (.cells (encStrc s))) = H2 at g2 k0 k1 ⊢
  refine semCall_true (law01_Few hs g2 fun b => ?_)
  simp only [bindO_some, bindO2_some, outK_ret, condB_bool, cond_t, cond_f, fa_ptr, fa_iptr, part_none, Nat.zero_add, Nat.add_zero, Nat.reduceAdd, List.getElem?_cons_zero, List.getElem?_cons_succ, len_str, lenS_enc, lss_int, leq_int, gtr_int, geq_int, eq_int, ne_int, eq_str, ne_str, eq_bool, ne_bool, not_bool, extract_0, extract_1, extract_2, setV_eq, Nat.reduceEqDiff, reduceIte]
  cases b with
  | false =>
    simp only [Bool.not_false, cond_t]
    refine semCall_true (alive_sem ?_)
    rfl
  | true =>
  simp only [Bool.not_true, cond_f, k0, k1, bindO_some]
  refine semCall_true (ref11_Check hc hs ?_)
  simp only [bindO_some, bindO2_some, outK_ret, condB_bool, cond_t, cond_f, fa_ptr, fa_iptr, part_none, Nat.zero_add, Nat.add_zero, Nat.reduceAdd, List.getElem?_cons_zero, List.getElem?_cons_succ, len_str, lenS_enc, lss_int, leq_int, gtr_int, geq_int, eq_int, ne_int, eq_str, ne_str, eq_bool, ne_bool, not_bool, extract_0, extract_1, extract_2, setV_eq, Nat.reduceEqDiff, reduceIte, int_beq]
  by_cases he : errI c s = 0
  · obtain ⟨h1, h2, h3, h4⟩ := err_ok he
    obtain ⟨m, hm⟩ := Option.isSome_iff_exists.1 (show (symsOf c).isSome = true from h1)
    simp only [decide_eq_true he, cond_t, k0, bindO_some]
    refine semCall_true (law11_cells hc h1 fun q => ?_)
    simp only [bindO_some, bindO2_some, outK_ret, condB_bool, cond_t, cond_f, fa_ptr, fa_iptr, part_none, Nat.zero_add, Nat.add_zero, Nat.reduceAdd, List.getElem?_cons_zero, List.getElem?_cons_succ, len_str, lenS_enc, lss_int, leq_int, gtr_int, geq_int, eq_int, ne_int, eq_str, ne_str, eq_bool, ne_bool, not_bool, extract_0, extract_1, extract_2, setV_eq, Nat.reduceEqDiff, reduceIte]
    cases decide ((150 : Int) < q) with
    | true =>
      simp only [cond_t]
      refine semCall_true (alive_sem ?_)
      rfl
    | false =>
    simp only [cond_f, k0, k1, bindO_some]
    refine semCall_true (gate_Flips hc hs (fun hb => absurd he hb) fun _ x hx => ?_)
    simp only [bindO_some, bindO2_some, outK_ret, condB_bool, cond_t, cond_f, fa_ptr, fa_iptr, part_none, Nat.zero_add, Nat.add_zero, Nat.reduceAdd, List.getElem?_cons_zero, List.getElem?_cons_succ, len_str, lenS_enc, lss_int, leq_int, gtr_int, geq_int, eq_int, ne_int, eq_str, ne_str, eq_bool, ne_bool, not_bool, extract_0, extract_1, extract_2, setV_eq, Nat.reduceEqDiff, reduceIte, int_beq, he, decide_true, Bool.not_true, k0, k1]
    refine semCall_true (ref11_Flips hc he fun y hy => ?_)
    simp only [outK_ret]
    have hxl : x.l.length ≤ big := by
      have h5 := congrArg List.length hx
      rw [List.length_map] at h5
      have hl : (flipsS s.size.toNat s c).length ≤ (symsC c).length * 4096 := by
        unfold flipsS
        have hb : ∀ y ∈ symsC c, (fRow (lookS s.size.toNat s) s.size.toNat c (valueOf (lookS s.size.toNat s) s.size.toNat c) y.1 y.2.toNat (s.size.toNat ^ y.2.toNat)).length ≤ 4096 := fun y hy => by
          unfold fRow
          rw [List.length_map]
          refine Nat.le_trans (List.length_filter_le _ _) ?_
          rw [List.length_range]
          have hfit := List.all_eq_true.1 h4 y hy
          rw [fitZ] at hfit
          split at hfit
          · rename_i r hr
            have hra : r.arity = y.2 := by simpa using hfit
            obtain ⟨_, k', q1, _, q3, _⟩ := (strc_iff.1 h2).rel _ (List.mem_map_of_mem (List.mem_of_find?_eq_some hr))
            have q1' : r.arity = (k' : Int) := q1
            rw [show y.2.toNat = k' by omega]; exact q3
          · cases hfit
        generalize symsC c = l at hb
        induction l with
        | nil => simp
        | cons y l ih =>
          rw [List.flatMap_cons, List.length_append, List.length_cons, Nat.succ_mul]
          have := hb y List.mem_cons_self
          have := ih fun z hz => hb z (List.mem_cons_of_mem _ hz)
          omega
      have a := orderGo_len (atomsP (inputs c)) []
      have b := inGo_len c.gates.l []
      have h6 := (fits_valid h1).1
      have e : (atomsP (inputs c)).length = (inputs c).length + 1 := by simp [atomsP]
      have e2 : (inputs c).length ≤ c.gates.l.length := by rw [inputs]; simp only [List.length_nil] at b; omega
      have e3 : (symsC c).length ≤ 20001 := by simp only [symsC, orderL, List.length_map, List.length_nil] at a ⊢; omega
      unfold big; omega
    have har : ∀ y ∈ symsC c, y.2.toNat ≤ 12 := fun y hy => by
      obtain ⟨k, hk, k12⟩ := symsC_arity hm (fits_valid h1) hy; omega
    refine semCall_true (ref08_Same hxl (flips_small har hx) ?_)
    simp only [outK_ret, hx, hy, beq_self_eq_true, condB_bool, cond_t]
    refine semCall_true (alive_sem ?_)
    rfl
  · simp only [decide_eq_false he, cond_f, k0, k1, bindO_some]
    refine semCall_true (gate_Flips hc hs (fun _ => ?_) fun h0 => absurd h0 he)
    have hl0 : ∀ h : Heap, lenS .slice .nils h = some (.int .i64 0) := fun _ => rfl
    simp only [bindO_some, bindO2_some, outK_ret, condB_bool, cond_t, cond_f, fa_ptr, fa_iptr, part_none, Nat.zero_add, Nat.add_zero, Nat.reduceAdd, List.getElem?_cons_zero, List.getElem?_cons_succ, len_str, lenS_enc, lss_int, leq_int, gtr_int, geq_int, eq_int, ne_int, eq_str, ne_str, eq_bool, ne_bool, not_bool, extract_0, extract_1, extract_2, setV_eq, Nat.reduceEqDiff, reduceIte, int_beq, decide_eq_false he, Bool.not_false, decide_true, hl0]
    refine semCall_true (alive_sem ?_)
    rfl
end
end Go.AM
