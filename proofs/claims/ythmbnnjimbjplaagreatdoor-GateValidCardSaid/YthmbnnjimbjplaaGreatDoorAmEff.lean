/- Stores and appends: what the abstract machine answers, the model's run answers. Conditions: none. -/
import Derived.Test.YthmbnnjimbjplaaGreatDoorAmAlloc
set_option linter.unusedVariables false
set_option linter.unusedSimpArgs false
namespace Go.AM
open Go Go.RowKit

section
variable {P : Program} {w0 w : World} {μ : Mu} {h : Heap} {ρ : Operand → AV} {ρc : Operand → Value}

theorem setO_setO (w : World) (c : Nat) (O O' : Obj) : setO (setO w c O) c O' = setO w c O' := by simp [setO]
theorem setO_id {c : Nat} {O : Obj} (hO : w.heap[c]? = some O) : setO w c O = w := by
  have : w.heap.setIfInBounds c O = w.heap := by
    apply Array.ext_getElem?
    intro i
    rw [Array.getElem?_setIfInBounds]
    split
    · rename_i e
      subst e
      rw [hO]
      split
      · rfl
      · rename_i hn; have := (Array.getElem?_eq_some_iff.1 hO).1; omega
    · rfl
  simp [setO, this]
theorem setCell_eq {c o : Nat} {vs : Array Value} {e : TypeId} {fr : Nat × Nat} (hO : w.heap[c]? = some (.cells vs e fr)) (v : Value) :
    w.setCell ⟨c, o, none⟩ v = setO w c (.cells (vs.setIfInBounds o v) e fr) := by
  have : w.heap.modify c (fun | .cells c elem frozen => .cells (if (none : Option Nat).isSome then c else c.setIfInBounds o v) elem frozen | o => o) = w.heap.setIfInBounds c (.cells (vs.setIfInBounds o v) e fr) := by
    apply Array.ext_getElem?
    intro i
    rw [Array.getElem?_setIfInBounds, Array.getElem?_modify]
    split
    · rename_i e'
      subst e'
      have := (Array.getElem?_eq_some_iff.1 hO).1
      rw [if_pos this, hO]
      simp
    · rfl
  simp only [World.setCell, setO]
  exact congrArg (fun x => ({ w with heap := x } : World)) this

theorem run_storeRow (c o : Nat) (e : TypeId) (fr : Nat × Nat) : ∀ (us : List Value) (i : Nat) (vs : Array Value) (w : World), w.heap[c]? = some (.cells vs e fr) → (fr.2 ≤ fr.1 ∨ vs.size ≤ fr.1) → o + i + us.length ≤ vs.size → (∀ v ∈ us, v.oneCell' = true) →
    (storeCells ⟨c, o, none⟩ us i).run P w = .ok () (setO w c (.cells (putL vs.toList (o + i) us).toArray e fr))
  | [], i, vs, w, hO, hf, hl, h1 => by simp [storeCells, putL, setO_id hO]
  | u :: us, i, vs, w, hO, hf, hl, h1 => by
    simp only [List.length_cons] at hl
    have hst : (store ((⟨c, o, none⟩ : Addr).add i) u).run P w = .ok () (setO w c (.cells (vs.setIfInBounds (o + i) u) e fr)) := by
      rw [addr_add, run_store P w _ u _ (h1 u (by simp))]
      have hc : w.cell? ⟨c, o + i, none⟩ = some (vs[o + i]'(by omega)) := by rw [cell_of hO]; simp [show o + i < vs.size by omega]
      have hz : w.frozen? ⟨c, o + i, none⟩ = false := by
        simp only [World.frozen?, hO]
        rcases hf with h | h <;> simp <;> omega
      rw [hc]
      simp only [hz, setCell_eq hO, Bool.false_eq_true, if_false]
    have hO' : (setO w c (.cells (vs.setIfInBounds (o + i) u) e fr)).heap[c]? = some (.cells (vs.setIfInBounds (o + i) u) e fr) := setO_same (Array.getElem?_eq_some_iff.1 hO).1 _
    have ih := run_storeRow c o e fr us (i + 1) _ _ hO' (by simpa using hf) (by simp; omega) (fun v hv => h1 v (by simp [hv]))
    simp only [storeCells, Sem.run_bind, hst, Result.andThen_ok, ih, setO_setO, putL]
    simp [Nat.add_assoc]

theorem putL_get_in {α : Type} : ∀ (us cs : List α) (off j : Nat), j < us.length → off + us.length ≤ cs.length → (putL cs off us)[off + j]? = us[j]?
  | [], cs, off, j, h, hl => by simp at h
  | u :: us, cs, off, j, h, hl => by
    simp only [List.length_cons] at h hl
    simp only [putL]
    cases j with
    | zero =>
      have : ∀ (us cs : List α) (o i : Nat), i < o → (putL cs o us)[i]? = cs[i]? := by
        intro us
        induction us with
        | nil => intros; rfl
        | cons u us ih => intro cs o i hi; simp only [putL]; rw [ih _ _ _ (by omega), List.getElem?_set_ne (by omega)]
      rw [this _ _ _ _ (by omega)]
      simp [show off < cs.length by omega]
    | succ j =>
      have := putL_get_in us (cs.set off u) (off + 1) j (by omega) (by simp; omega)
      rw [show off + (j + 1) = off + 1 + j by omega, this]
      simp
theorem putL_get_out {α : Type} : ∀ (us cs : List α) (off i : Nat), i < off ∨ off + us.length ≤ i → (putL cs off us)[i]? = cs[i]?
  | [], cs, off, i, h => rfl
  | u :: us, cs, off, i, h => by
    simp only [List.length_cons] at h
    simp only [putL]
    rw [putL_get_out us _ _ _ (by omega), List.getElem?_set_ne (by omega)]

/-- Cells put into a row that is related, on both sides. -/
theorem obj_put {cs : List AV} {k : Blk} {ob : Option Obj} (ho : ObjR w0 μ (.cells cs) k ob) {xs : List AV} {us : List Value} (hx : VRL w0 μ xs us) (off : Nat) (hl : off + xs.length ≤ cs.length) :
    ∃ vs e fr, ob = some (.cells vs e fr) ∧ vs.size = k.size ∧ (fr.2 ≤ fr.1 ∨ vs.size ≤ fr.1) ∧ k.base + cs.length ≤ k.size ∧
      ObjR w0 μ (.cells (putL cs off xs)) k (some (.cells (putL vs.toList (k.base + off) us).toArray e fr)) := by
  obtain ⟨vs, e, fr, h1, h2, h3, h4, h5⟩ := ho
  refine ⟨vs, e, fr, h1, h2, by rw [h2]; exact h4, h3, (putL vs.toList (k.base + off) us).toArray, e, fr, rfl, by simp [putL_length, h2], by rw [putL_length]; exact h3, h4, fun i x hi => ?_⟩
  have hul : us.length = xs.length := hx.len.symm
  by_cases hin : off ≤ i ∧ i < off + xs.length
  · obtain ⟨j, rfl⟩ : ∃ j, i = off + j := ⟨i - off, by omega⟩
    rw [putL_get_in _ _ _ _ (by omega) hl] at hi
    obtain ⟨v, hv, hr⟩ := hx.get hi
    refine ⟨v, ?_, hr⟩
    have := putL_get_in us vs.toList (k.base + off) j (by omega) (by simp [h2]; omega)
    rw [← Nat.add_assoc]
    simp [this, hv]
  · rw [putL_get_out _ _ _ _ (by omega)] at hi
    obtain ⟨v, hv, hr⟩ := h5 i x hi
    refine ⟨v, ?_, hr⟩
    have := putL_get_out us vs.toList (k.base + off) (k.base + i) (by omega)
    simp [this, hv]

/-- What an operation that acts may leave. -/
def Left (P : Program) (w0 : World) (μ : Mu) (h : Heap) (w : World) (K : AV → Heap → Bool) (r : Result Next) : Prop :=
  ∃ v h' vc w' μ', K v h' = true ∧ (r = .ok (.value vc) w' ∨ (vc = undef ∧ r = .ok .skip w')) ∧ VR w0 μ' v vc ∧ Good w0 μ' h' w' ∧ Ext μ h w μ' h' w'

theorem eff_store (hg : Good w0 μ h w) {t : TypeId} {n : Nat} (hn : sizeT P t = some n) {x v : AV} {xv vv : Value} (hx : VR w0 μ x xv) (hv : VR w0 μ v vv) {h' : Heap} (hs : storeS n x v h = some h') :
    ∃ w', (Instr.storeAt t xv vv).run P w = .ok () w' ∧ Good w0 μ h' w' ∧ Ext μ h w μ h' w' := by
  unfold storeS at hs
  split at hs
  · rename_i b off
    split at hs
    · rename_i cs ho
      split at hs
      · rename_i hc
        cases hs
        simp only [Bool.and_eq_true, decide_eq_true_eq] at hc
        cases hx
        rename_i k hk
        have hcells := hv.cells hc.1.2
        obtain ⟨vs, e, fr, h1, h2, h3, h4, h5⟩ := obj_put (hg.obj b k _ hk ho) hcells off (by rw [hc.1.1]; exact hc.2)
        have hl : vv.cells.toList.length = n := by rw [← hcells.len]; exact hc.1.1
        have hrun := run_storeRow (P := P) k.c (k.base + off) e fr vv.cells.toList 0 vs w h1 h3 (by rw [hl, h2]; omega) (fun u hu => hcells.oneCells hc.1.2 u hu)
        rw [Nat.add_zero] at hrun
        obtain ⟨g1, g2⟩ := hg.set hk ho (by simp) (.cells (putL cs off v.cellsL)) _ h5
        refine ⟨_, ?_, g1, g2⟩
        have hsz : vv.cells.size = n := by simpa using hl
        simp [Instr.storeAt, Instr.sureAddr, storeVar, run_sizeT hn, hsz, hrun]
      · cases hs
    · cases hs
  · cases hs

theorem first_sim (hg : Good w0 μ h w) {sz n : Nat} {x : AV} {xv : Value} (hx : VR w0 μ x xv) {m : Nat} (hm : lenA x = some m) (hn : n ≤ m) {new : List AV} (hf : firstS sz n x h = some new) :
    ∃ us : Array Value, (∀ w' : World, w'.heap = w.heap → (Builtin.firstCells sz n xv).run P w' = .ok us w') ∧ VRL w0 μ new us.toList ∧ (∀ w' : World, (Builtin.lenOf xv).run P w' = .ok m w') ∧ new.length = n * sz := by
  have zero : ∀ (a : Addr) (w : World), (loadCells a 0).run P w = .ok #[] w := fun a w => by simp [loadCells, loadCellsFrom]
  have hcw : ∀ {w' : World}, w'.heap = w.heap → ∀ a : Addr, w'.cell? a = w.cell? a := fun e a => by simp [World.cell?, e]
  unfold firstS at hf
  split at hf
  · split at hf
    · cases hf
      cases hx
      simp only [lenA, Option.some.injEq] at hm
      subst hm
      obtain rfl : n = 0 := by omega
      exact ⟨#[], fun w' _ => by simp [Builtin.firstCells], .nil, fun w' => by simp [Builtin.lenOf], by simp⟩
    · cases hf
  · rename_i b off n' s
    simp only [lenA, Option.some.injEq] at hm
    subst hm
    split at hf
    · rename_i hs
      subst hs
      split at hf
      · rename_i cs ho
        split at hf
        · rename_i hle
          cases hf
          cases hx
          rename_i cap a k hk hle' ha
          by_cases h0 : n = 0
          · subst h0
            exact ⟨#[], fun w' _ => by simp [Builtin.firstCells, zero], by simpa using VRL.nil, fun w' => by simp [Builtin.lenOf], by simp⟩
          · obtain ⟨rfl, hb⟩ := ha (by omega)
            obtain ⟨us, e1, e2, e3⟩ := range_vals (hg.cells hk ho) (n * s) off hle
            refine ⟨us.toArray, fun w' hw' => ?_, by simpa using e3, fun w' => by simp [Builtin.lenOf], by simp; omega⟩
            have := run_loadCells_list (P := P) w' ⟨k.c, k.base + off, none⟩ us (fun j u hj => by rw [addr_add, hcw hw']; exact e2 j u hj)
            rw [e1] at this
            simp [Builtin.firstCells, this]
        · cases hf
      · cases hf
    · cases hf
  · rename_i cs off n' s
    simp only [lenA, Option.some.injEq] at hm
    subst hm
    split at hf
    · rename_i hc
      simp only [Bool.and_eq_true, decide_eq_true_eq] at hc
      obtain ⟨rfl, hle⟩ := hc
      cases hf
      cases hx
      rename_i cap a g o vs hgl hv hl hr ha hle'
      by_cases h0 : n = 0
      · subst h0
        exact ⟨#[], fun w' _ => by simp [Builtin.firstCells, zero], by simpa using VRL.nil, fun w' => by simp [Builtin.lenOf], by simp⟩
      · obtain rfl := ha (by omega)
        obtain ⟨us, e1, e2, e3⟩ := range_vals (hg.icells hgl hl hv hr) (n * s) off hle
        refine ⟨us.toArray, fun w' hw' => ?_, by simpa using e3, fun w' => by simp [Builtin.lenOf], by simp; omega⟩
        have := run_loadCells_list (P := P) w' ⟨g, o + off, none⟩ us (fun j u hj => by rw [addr_add, hcw hw']; exact e2 j u hj)
        rw [e1] at this
        simp [Builtin.firstCells, this]
    · cases hf
  · rename_i s
    split at hf
    · rename_i hs
      subst hs
      cases hf
      obtain ⟨s, rfl, rfl⟩ := hx.str_inv
      simp only [lenA, Option.some.injEq] at hm
      have hsl : s.data.toList.length = s.size := by rw [Array.length_toList]; rfl
      refine ⟨(s.extract 0 n).data.map fun b => .int .u8 b.toNat, fun w' _ => by simp [Builtin.firstCells], ?_, fun w' => by simp [Builtin.lenOf]; omega, by simp; omega⟩
      have e : ((s.extract 0 n).data.map fun b => Value.int .u8 (b.toNat : Int)).toList = (s.data.toList.take n).map fun b => Value.int .u8 (b.toNat : Int) := by
        rw [Array.toList_map, extract_toList s 0 n (Nat.zero_le _) (by omega)]; simp
      rw [e]
      exact VRL.map _ fun b _ => .int .u8 b.toNat
    · cases hf
  · cases hf

theorem growBy_le (n : Nat) : ∀ (r c : Nat), 256 ≤ c → c ≤ 2 * n → Builtin.growBy n r c ≤ 2 * n
  | 0, c, h, hc => by simpa [Builtin.growBy] using hc
  | r + 1, c, h, hc => by
    simp only [Builtin.growBy]
    split
    · exact hc
    · exact growBy_le n r _ (by omega) (by omega)
theorem nextcap_le {n c : Nat} (h : c < n) : Builtin.nextslicecap n c ≤ 2 * n := by
  unfold Builtin.nextslicecap
  split
  · omega
  · split
    · omega
    · exact growBy_le n 4 c (by omega) (by omega)

/-- What append's types may be. -/
theorem appendI_spec {t u : TypeId} {i : Nat × Nat} (hi : appendI P t u = some i) :
    ∃ e inf zv d, P.underlying t = some (.slice e) ∧ P.info? e = some inf ∧ inf.size = i.1 ∧ inf.bytes = i.2 ∧ 0 < i.1 ∧ 0 < i.2 ∧ inf.zero = some zv ∧ zv.cells.size = i.1 ∧ P.underlying u = some d ∧ ∀ k, d ≠ .int k := by
  unfold appendI at hi
  split at hi
  · rename_i e s b z hu hm
    cases hi
    obtain ⟨e', inf, zv, h1, h2, h3, h4, h5, h6, h7, h8⟩ := makeI_spec (w0 := default) (μ := Mu.zero) hm
    exact ⟨e', inf, zv, _, h1, h2, h3, h4, h5, h6, h7, by have h9 := h8.1.len; have h10 := h8.2; simp at h9 h10; show zv.cells.size = s; omega, hu, by simp⟩
  · rename_i s b z hu hm
    cases hi
    obtain ⟨e', inf, zv, h1, h2, h3, h4, h5, h6, h7, h8⟩ := makeI_spec (w0 := default) (μ := Mu.zero) hm
    exact ⟨e', inf, zv, _, h1, h2, h3, h4, h5, h6, h7, by have h9 := h8.1.len; have h10 := h8.2; simp at h9 h10; show zv.cells.size = s; omega, hu, by simp⟩
  · cases hi

section
variable {t u ty : TypeId} {i : Nat × Nat} {e : TypeId} {inf : TypeInfo} {zv : Value} {d : TypeDesc} (hu : P.underlying t = some (.slice e)) (hinf : P.info? e = some inf) (hs : inf.size = i.1) (hby : inf.bytes = i.2)
  (hp : 0 < i.2) (hzv : inf.zero = some zv) (hu' : P.underlying u = some d) (hd : ∀ k, d ≠ .int k) {base : Option Addr} {sLen sCap n : Nat} {xv : Value} {new old : Array Value}
include hu hinf hs hu' hd

theorem run_append_in (hlen : (Builtin.lenOf xv).run P w = .ok n w) (hnew : (Builtin.firstCells i.1 n xv).run P w = .ok new w) (hle : sLen + n ≤ sCap) {w' : World}
    (hst : match base with | some a => (storeCells (a.add (sLen * i.1)) new.toList).run P w = .ok () w' | none => w = w') :
    (Builtin.append_ #[t, u] ty #[.slice base sLen sCap, xv]).run P w = .ok (.slice base (sLen + n) sCap) w' := by
  have hsz : ∀ w, (sizeOf e).run P w = .ok i.1 w := fun w => by simp [sizeOf, typeInfo, hinf, hs]
  have hz' : (match d with | .int _ => true | _ => false) = false := by cases d <;> first | rfl | exact absurd rfl (hd _)
  cases base with
  | none =>
    simp only at hst
    subst hst
    simp [Builtin.append_, run_underlying hu, run_underlying hu', hsz, hz', hlen, hle, hnew]
  | some a =>
    simp only at hst
    simp [Builtin.append_, run_underlying hu, run_underlying hu', hsz, hz', hlen, hle, hnew, hst]

include hby hp hzv
theorem run_append_grow (hlen : (Builtin.lenOf xv).run P w = .ok n w) (hnew : ∀ w' : World, w'.heap = w.heap → (Builtin.firstCells i.1 n xv).run P w' = .ok new w')
    (hold : ∀ w' : World, w'.heap = w.heap → (Builtin.firstCells i.1 sLen (.slice base sLen sCap)).run P w' = .ok old w') (hb : (sLen + n) * i.2 ≤ maxBytes) (hgt : ¬ sLen + n ≤ sCap) :
    ∃ cap, sLen + n ≤ cap ∧ (Builtin.append_ #[t, u] ty #[.slice base sLen sCap, xv]).run P w =
      .ok (.slice (some ⟨w.heap.size, 0, none⟩) (sLen + n) cap) ((w.drew).alloc (.cells (old ++ new ++ Builtin.zeroCells zv.cells (cap - (sLen + n))) e)) := by
  have hsz : ∀ w, (sizeOf e).run P w = .ok i.1 w := fun w => by simp [sizeOf, typeInfo, hinf, hs]
  have hz' : (match d with | .int _ => true | _ => false) = false := by cases d <;> first | rfl | exact absurd rfl (hd _)
  have hcap := nextcap_le (n := sLen + n) (c := sCap) (by omega)
  have hlim : ¬ (281474976710656 < Builtin.nextslicecap (sLen + n) sCap * inf.bytes) := by
    have h1 : Builtin.nextslicecap (sLen + n) sCap * i.2 ≤ 2 * (sLen + n) * i.2 := Nat.mul_le_mul_right _ hcap
    have h2 : 2 * (sLen + n) * i.2 = 2 * ((sLen + n) * i.2) := Nat.mul_assoc _ _ _
    unfold maxBytes at hb
    rw [hby]; omega
  have hb0 : inf.bytes ≠ 0 := by omega
  have hz0 := run_zeroValue (P := P) hinf hzv
  refine ⟨(Question.appendCap (sLen + n) sCap e).cut (w.tape w.drawn (.appendCap (sLen + n) sCap e)), ?_, ?_⟩
  · show sLen + n ≤ sLen + n + _
    omega
  · have ho := hold w.drew rfl
    have hn := hnew w.drew rfl
    simp [Builtin.append_, run_underlying hu, run_underlying hu', hsz, hz', hlen, hgt, typeInfo, hinf, hlim, hb0, Question.forced, ho, hn, hz0, newRow]
end

theorem zeroCells_size (z : Array Value) (n : Nat) : (Builtin.zeroCells z n).size = n * z.size := by simp [Builtin.zeroCells]

theorem eff_append (hg : Good w0 μ h w) {t u ty : TypeId} {i : Nat × Nat} (hi : appendI P t u = some i) {s x v : AV} {sv xv : Value} (hs : VR w0 μ s sv) (hx : VR w0 μ x xv) {h' : Heap} (ha : appendS i.1 i.2 s x h = some (v, h')) :
    ∃ vc w' μ', (Builtin.append_ #[t, u] ty #[sv, xv]).run P w = .ok vc w' ∧ VR w0 μ' v vc ∧ Good w0 μ' h' w' ∧ Ext μ h w μ' h' w' := by
  obtain ⟨e, inf, zv, d, hu, hinf, hsz, hby, hp, hp', hzv, hzl, hu', hd⟩ := appendI_spec hi
  have hdrew : w.drew.heap = w.heap := rfl
  have extd : ∀ {h1 h2 : Heap} {μ' : Mu} {w' : World}, Ext μ h1 w.drew μ' h2 w' → Ext μ h1 w μ' h2 w' := fun x => Ext.of_same (v := w.drew) rfl x
  have hgd : Good w0 μ h w.drew := hg.same rfl rfl rfl rfl
  unfold appendS at ha
  split at ha
  · cases ha
  · rename_i n hn
    split at ha
    · cases ha
    · rename_i new hnew
      obtain ⟨us, hr1, hr2, hr3, hr4⟩ := first_sim (P := P) hg hx hn (Nat.le_refl n) hnew
      have husz : us.size = n * i.1 := by have := hr2.len; simp at this; omega
      split at ha
      · -- a nil slice
        cases hs
        split at ha
        · rename_i h0
          subst h0
          cases ha
          refine ⟨_, w, μ, run_append_in (base := none) (w' := w) hu hinf hsz hu' hd (hr3 w) (hr1 w rfl) (Nat.le_refl 0) rfl, .nils, hg, Ext.refl _ _ _⟩
        · rename_i h0
          split at ha
          · rename_i hc
            cases ha
            simp only [Bool.and_eq_true, decide_eq_true_eq] at hc
            obtain ⟨cap, hcap, hrun⟩ := run_append_grow (ty := ty) (base := none) (sLen := 0) (sCap := 0) (old := #[]) hu hinf hsz hby hp' hzv hu' hd (hr3 w) (fun w' hw' => hr1 w' hw') (fun w' hw' => by simp [Builtin.firstCells]) (by simpa using hc.1) (by omega)
            have hobj : ObjR w0 μ (.cells new) ⟨w.heap.size, 0, us.size + (Builtin.zeroCells zv.cells (cap - (0 + n))).size⟩ (some (.cells (#[] ++ us ++ Builtin.zeroCells zv.cells (cap - (0 + n))) e)) := by
              refine ⟨_, _, (0, 0), rfl, by simp, by simp; omega, .inl (Nat.le_refl _), fun j y hj => ?_⟩
              obtain ⟨v, hv, hr⟩ := hr2.get hj
              refine ⟨v, ?_, hr⟩
              have hlt := (List.getElem?_eq_some_iff.1 hv).1
              simp at hlt hv
              rw [Nat.zero_add, Array.getElem?_append_left (by simp; omega)]
              simp [hv]
            obtain ⟨g1, g2⟩ := hgd.alloc (.cells new) _ _ hobj
            refine ⟨_, _, _, hrun, ?_, g1, extd g2⟩
            have := VR.slice (w0 := w0) (μ := (μ.add h.next ⟨w.heap.size, 0, us.size + (Builtin.zeroCells zv.cells (cap - (0 + n))).size⟩)) h.next 0 n i.1 cap ⟨w.heap.size, 0, none⟩ _ (Mu.add_same _ _ _) (by omega) (fun _ => ⟨rfl, by
              show 0 + 0 + cap * i.1 ≤ us.size + _
              rw [zeroCells_size, husz, hzl, ← Nat.add_mul, show n + (cap - (0 + n)) = cap by omega]; omega⟩)
            simpa using this
          · cases ha
      · rename_i b off len s'
        split at ha
        · rename_i hs'
          subst hs'
          cases hs
          rename_i cap a k hk hle hac
          split at ha
          · rename_i h0
            subst h0
            cases ha
            have hst : us = #[] := by apply Array.eq_empty_of_size_eq_zero; omega
            subst hst
            refine ⟨_, w, μ, run_append_in (base := some a) (w' := w) hu hinf hsz hu' hd (hr3 w) (hr1 w rfl) (by omega) (by simp [storeCells]), ?_, hg, Ext.refl _ _ _⟩
            exact .slice b off len i.1 cap a k hk (by omega) hac
          · rename_i h0
            split at ha
            · rename_i cs ho
              split at ha
              · rename_i hc
                cases ha
                simp only [Bool.and_eq_true, decide_eq_true_eq] at hc
                obtain ⟨⟨hc1, hc2⟩, hc3⟩ := hc
                obtain ⟨vs, el, fr, o1, o2, o3, o4, o5⟩ := hg.obj b k _ hk ho
                have hoc := hg.own b k hk
                by_cases hroom : len + n ≤ cap
                · -- in place
                  obtain ⟨rfl, hin⟩ := hac (by omega)
                  have hm1 : len * i.1 + n * i.1 ≤ cap * i.1 := by rw [← Nat.add_mul]; exact Nat.mul_le_mul_right _ hroom
                  have hrow := run_storeRow (P := P) k.c (k.base + off + len * i.1) el fr us.toList 0 vs w o1 (by rw [o2]; exact o4) (by simp [husz, o2]; omega) (hr2.oneCells hc2)
                  rw [Nat.add_zero] at hrow
                  have hobj : ObjR w0 μ (.cells ((cs.drop off).take (len * i.1) ++ new)) ⟨k.c, k.base + off, k.size⟩ (some (.cells (putL vs.toList (k.base + off + len * i.1) us.toList).toArray el fr)) := by
                    have hlen : ((cs.drop off).take (len * i.1)).length = len * i.1 := by simp; omega
                    refine ⟨_, el, fr, rfl, by simp [putL_length, o2], by simp [hlen, hr4]; omega, o4, fun j y hj => ?_⟩
                    by_cases hjl : j < len * i.1
                    · rw [List.getElem?_append_left (by omega), List.getElem?_take, if_pos hjl, List.getElem?_drop] at hj
                      obtain ⟨v, hv, hr⟩ := o5 _ y hj
                      refine ⟨v, ?_, hr⟩
                      have := putL_get_out us.toList vs.toList (k.base + off + len * i.1) (k.base + off + j) (.inl (by omega))
                      simp only [List.getElem?_toArray, this, Array.getElem?_toList]
                      rw [Nat.add_assoc]; exact hv
                    · rw [List.getElem?_append_right (by omega), hlen] at hj
                      obtain ⟨v, hv, hr⟩ := hr2.get hj
                      refine ⟨v, ?_, hr⟩
                      have hlt := (List.getElem?_eq_some_iff.1 hv).1
                      have := putL_get_in us.toList vs.toList (k.base + off + len * i.1) (j - len * i.1) hlt (by simp [husz, o2]; omega)
                      rw [show k.base + off + len * i.1 + (j - len * i.1) = k.base + off + j by omega] at this
                      simp only [List.getElem?_toArray, this, hv]
                  obtain ⟨g1, g2⟩ := hg.renew hk ho (by simp) (k.base + off) _ _ hobj
                  refine ⟨_, _, _, run_append_in (base := some ⟨k.c, k.base + off, none⟩) hu hinf hsz hu' hd (hr3 w) (hr1 w rfl) hroom (by simp only [addr_add]; exact hrow), ?_, g1, g2⟩
                  exact .slice h.next 0 (len + n) i.1 cap ⟨k.c, k.base + off, none⟩ ⟨k.c, k.base + off, k.size⟩ (Mu.add_same _ _ _) (by omega) (fun _ => ⟨by simp, by simpa using hin⟩)
                · -- a new row
                  have hold : firstS i.1 len (.slice b off len i.1) h = some ((cs.drop off).take (len * i.1)) := by simp [firstS, ho, hc3]
                  obtain ⟨old, q1, q2, q3, q4⟩ := first_sim (P := P) hg (.slice b off len i.1 cap a k hk hle hac) (m := len) rfl (Nat.le_refl len) hold
                  have hosz : old.size = len * i.1 := by have := q2.len; simp only [Array.length_toList] at this; omega
                  obtain ⟨cap', hcap, hrun⟩ := run_append_grow (ty := ty) (base := some a) (sLen := len) (sCap := cap) (old := old) hu hinf hsz hby hp' hzv hu' hd (hr3 w) (fun w' hw' => hr1 w' hw') q1 hc1 hroom
                  have hall := q2.append hr2
                  have hobj : ObjR w0 μ (.cells ((cs.drop off).take (len * i.1) ++ new)) ⟨w.heap.size, 0, old.size + us.size + (Builtin.zeroCells zv.cells (cap' - (len + n))).size⟩ (some (.cells (old ++ us ++ Builtin.zeroCells zv.cells (cap' - (len + n))) e)) := by
                    refine ⟨_, _, (0, 0), rfl, by simp [Nat.add_assoc], by rw [List.length_append, q4, hr4]; show 0 + _ ≤ old.size + us.size + _; omega, .inl (Nat.le_refl _), fun j y hj => ?_⟩
                    obtain ⟨v, hv, hr⟩ := hall.get hj
                    refine ⟨v, ?_, hr⟩
                    have hlt := (List.getElem?_eq_some_iff.1 hv).1
                    rw [← Array.toList_append] at hv hlt
                    rw [Array.length_toList] at hlt
                    rw [Array.getElem?_toList] at hv
                    show (old ++ us ++ _)[0 + j]? = some v
                    rw [Nat.zero_add, Array.getElem?_append_left hlt, hv]
                  have hgk : Good w0 μ (h.set b .dead) w.drew := hgd.kill hk
                  obtain ⟨g1, g2⟩ := hgk.alloc (.cells ((cs.drop off).take (len * i.1) ++ new)) _ _ hobj
                  refine ⟨_, _, _, hrun, ?_, g1, (Ext.kill hk).trans (extd g2)⟩
                  refine .slice h.next 0 (len + n) i.1 cap' ⟨w.heap.size, 0, none⟩ ⟨w.heap.size, 0, old.size + us.size + (Builtin.zeroCells zv.cells (cap' - (len + n))).size⟩ (Mu.add_same _ _ _) hcap (fun _ => ⟨rfl, ?_⟩)
                  show 0 + 0 + cap' * i.1 ≤ old.size + us.size + _
                  rw [zeroCells_size, husz, hosz, hzl, ← Nat.add_mul, ← Nat.add_mul]
                  rw [show len + n + (cap' - (len + n)) = cap' by omega]; omega
              · cases ha
            · cases ha
        · cases ha
      · cases ha
end
end Go.AM
