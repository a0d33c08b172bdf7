/- The iterations' steps: what the abstract machine answers, the model's run answers. Conditions: none. -/
import Derived.Test.YthmbnnjimbjplaaGreatDoorAmEff3
set_option linter.unusedVariables false
set_option linter.unusedSimpArgs false
namespace Go.AM
open Go Go.RowKit

section
variable {P : Program} {w0 w : World} {μ : Mu} {h : Heap} {ρ : Operand → AV} {ρc : Operand → Value}

/-- What a step of an iteration may leave: one of the outcomes. -/
def LeftN (w0 : World) (μ : Mu) (h : Heap) (w : World) (L : List (AV × Heap)) (r : Result Value) : Prop :=
  ∃ p vc w' μ', p ∈ L ∧ r = .ok vc w' ∧ VR w0 μ' p.1 vc ∧ Good w0 μ' p.2 w' ∧ Ext μ h w μ' p.2 w'

theorem EntR.pairs : ∀ (es : List Entry) (ces : List MapEntry), EntR w0 μ es ces → ∃ L : List (Entry × MapEntry), es = L.map (·.1) ∧ ces = L.map (·.2) ∧ ∀ p ∈ L, VR w0 μ p.1.1 p.2.key ∧ VR w0 μ p.1.2.1 p.2.val ∧ p.2.born = p.1.2.2
  | [], ces, h => by obtain rfl := h.nil_inv; exact ⟨[], rfl, rfl, by simp⟩
  | (k, v, n) :: es, ces, h => by
    obtain ⟨e, ces', rfl, h1, h2, h3, h4⟩ := h.cons_inv
    obtain ⟨L, rfl, rfl, hL⟩ := EntR.pairs es ces' h4
    refine ⟨((k, v, n), e) :: L, rfl, rfl, fun p hp => ?_⟩
    rcases List.mem_cons.1 hp with rfl | hp
    · exact ⟨h1, h2, h3⟩
    · exact hL p hp

theorem filter_snd {α β : Type} (L : List (α × β)) (p : α → Bool) (q : β → Bool) (h : ∀ x ∈ L, q x.2 = p x.1) : (L.map (·.2)).filter q = (L.filter fun x => p x.1).map (·.2) := by
  rw [List.filter_map]
  congr 1
  apply List.filter_congr
  intro x hx
  exact h x hx
theorem filter_fst {α β : Type} (L : List (α × β)) (p : α → Bool) : (L.map (·.1)).filter p = (L.filter fun x => p x.1).map (·.1) := by rw [List.filter_map]; rfl

theorem cands_sim (L : List (Entry × MapEntry)) (hL : ∀ p ∈ L, p.2.born = p.1.2.2) (since : Nat) (seen : List Nat) :
    ∃ C : List (Option (Entry × MapEntry)), candsA (L.map (·.1)) since seen = C.map (Option.map (·.1)) ∧ C ≠ [] ∧ (∀ p, some p ∈ C → p ∈ L) ∧
      (let left := (L.map (·.2)).toArray.filter fun e => !seen.toArray.contains e.born
       let old := left.filter (·.born < since)
       let new := left.filter (·.born ≥ since)
       (if old.isEmpty then #[none] else #[]) ++ (old ++ new).map some) = (C.map (Option.map (·.2))).toArray := by
  let l0 := L.filter fun x => !seen.contains x.1.2.2
  let o := l0.filter fun x => decide (x.1.2.2 < since)
  let n := l0.filter fun x => decide (x.1.2.2 ≥ since)
  have m0 : ∀ p ∈ l0, p ∈ L := fun p hp => (List.mem_filter.1 hp).1
  refine ⟨(if o.isEmpty then [none] else []) ++ (o ++ n).map some, ?_, ?_, ?_, ?_⟩
  · unfold candsA
    simp only [filter_fst]
    have he : ((o.map (·.1)).isEmpty) = o.isEmpty := by simp
    show (if (o.map (·.1)).isEmpty then [none] else []) ++ (o.map (·.1) ++ n.map (·.1)).map some = _
    rw [he]
    cases o.isEmpty <;> simp <;> rfl
  · by_cases h : o.isEmpty = true
    · simp [h]
    · simp only [h, Bool.false_eq_true, if_false, List.nil_append, ne_eq, List.map_eq_nil_iff, List.append_eq_nil_iff, not_and]
      intro h1; simp [h1] at h
  · intro p hp
    simp only [List.mem_append, List.mem_map, Option.some.injEq, exists_eq_right] at hp
    rcases hp with hp | hp | hp
    · split at hp
      · simp at hp
      · simp at hp
    · exact m0 p (List.mem_filter.1 hp).1
    · exact m0 p (List.mem_filter.1 hp).1
  · have e0 : ((L.map (·.2)).toArray.filter fun e => !seen.toArray.contains e.born) = (l0.map (·.2)).toArray := by
      simp only [List.filter_toArray]
      congr 1
      exact filter_snd L (fun e => !seen.contains e.2.2) _ (fun x hx => by simp [hL x hx])
    have e1 : ((l0.map (·.2)).toArray.filter (·.born < since)) = (o.map (·.2)).toArray := by
      simp only [List.filter_toArray]
      congr 1
      exact filter_snd l0 (fun e => decide (e.2.2 < since)) _ (fun x hx => by simp [hL x (m0 x hx)])
    have e2 : ((l0.map (·.2)).toArray.filter (·.born ≥ since)) = (n.map (·.2)).toArray := by
      simp only [List.filter_toArray]
      congr 1
      exact filter_snd l0 (fun e => decide (e.2.2 ≥ since)) _ (fun x hx => by simp [hL x (m0 x hx)])
    simp only [e0, e1, e2]
    have he : ((o.map (·.2)).toArray.isEmpty) = o.isEmpty := by cases o <;> rfl
    rw [he]
    cases o.isEmpty <;> simp <;> rfl

theorem next_sim (hg : Good w0 μ h w) {x : AV} {xv : Value} (hx : VR w0 μ x xv) {isS : Bool} {L : List (AV × Heap)} (hn : nextS isS x h = some L) (ty : TypeId) : LeftN w0 μ h w L ((Instr.next xv isS ty).run P w) := by
  unfold nextS at hn
  split at hn
  · rename_i r
    cases hx
    rename_i k hk
    have one : ∀ {p : AV × Heap} {r : Result Value}, (∃ vc w' μ', r = .ok vc w' ∧ VR w0 μ' p.1 vc ∧ Good w0 μ' p.2 w' ∧ Ext μ h w μ' p.2 w') → LeftN w0 μ h w [p] r :=
      fun ⟨vc, w', μ', a, b, c, d⟩ => ⟨_, vc, w', μ', by simp, a, b, c, d⟩
    split at hn
    · rename_i s pos ho
      obtain ⟨r0, s', r1, rfl⟩ := hg.obj r k _ hk ho
      have hgo : (getObj k.c).run P w = .ok (.stringIter s' pos) w := by simp [getObj, Sem.run, r1]
      have hso : ∀ O, (setObj k.c O).run P w = .ok () (setO w k.c O) := fun O => by simp [setObj, Sem.run, r1, setO]
      have hsl : s'.data.toList.length = s'.size := by rw [Array.length_toList]; rfl
      split at hn
      · rename_i hlt
        cases hn
        rw [hsl] at hlt
        apply one
        have hs' : (⟨s'.data.toList.toArray⟩ : ByteArray) = s' := by cases s'; simp
        rw [hs']
        obtain ⟨g1, g2⟩ := hg.set hk ho (by simp) (.siter s'.data.toList (pos + (Utf8.decode s' pos).2)) (.stringIter s' (pos + (Utf8.decode s' pos).2)) ⟨r0, s', rfl, rfl⟩
        refine ⟨_, _, μ, ?_, VRL.tuple (.cons (.bool true) (.cons (.int _ _) (.cons (.int _ _) .nil))), g1, g2⟩
        simp [Instr.next, r0, hgo, hlt, hso, goInt]
      · rename_i hlt
        cases hn
        rw [hsl] at hlt
        apply one
        exact ⟨_, w, μ, by simp [Instr.next, r0, hgo, hlt], VRL.tuple (.cons (.bool false) .nil), hg, Ext.refl _ _ _⟩
    · rename_i x1 x2 x3 ho
      cases hn
      obtain ⟨r0, rr, r1, rfl⟩ := hg.obj r k _ hk ho
      have hgo : (getObj k.c).run P w = .ok (.mapIter none x1 x2.toArray x3) w := by simp [getObj, Sem.run, r1]
      apply one
      exact ⟨_, w, μ, by simp [Instr.next, r0, hgo], VRL.tuple (.cons (.bool false) .nil), hg, Ext.refl _ _ _⟩
    · rename_i m since seen last ho
      split at hn
      · rename_i es ck hm
        obtain ⟨r0, rr, r1, km, km1, rfl⟩ := hg.obj r k _ hk ho
        obtain ⟨ces, c1, c2⟩ := hg.map km1 hm
        have hgo : (getObj k.c).run P w = .ok (.mapIter (some km.c) since seen.toArray last) w := by simp [getObj, Sem.run, r1]
        split at hn
        · cases hn
        · rename_i hguard
          obtain ⟨Lp, rfl, hces, hL⟩ := EntR.pairs _ _ c2
          have hce : ces = (Lp.map (·.2)).toArray := by apply Array.ext'; simpa using hces
          subst hce
          obtain ⟨C, C1, C2, C3, C4⟩ := cands_sim Lp (fun p hp => (hL p hp).2.2) since seen
          have hg2 : (!seen.toArray.isEmpty && !(Lp.map (·.2)).toArray.isEmpty && (Lp.map (·.2)).toArray.all (·.born ≥ last)) = false := by
            have e1 : seen.toArray.isEmpty = seen.isEmpty := by cases seen <;> rfl
            have e2 : (Lp.map (·.2)).toArray.isEmpty = (Lp.map (·.1)).isEmpty := by cases Lp <;> rfl
            have e3 : ((Lp.map (·.2)).toArray.all (·.born ≥ last)) = ((Lp.map (·.1)).all fun e => decide (e.2.2 ≥ last)) := by
              simp only [List.all_toArray, List.all_map]
              clear hn hguard C1 C3 C4 c1 c2 hces hm e2
              induction Lp with
              | nil => rfl
              | cons p Lp ih =>
                simp only [List.all_cons, Function.comp]
                rw [(hL p (by simp)).2.2]
                congr 1
                exact ih (fun q hq => hL q (by simp [hq]))
            rw [e1, e2, e3]
            simpa using hguard
          have hsz : 0 < C.length := by cases C with | nil => exact absurd rfl C2 | cons c cs => simp
          -- whatever the tape says is a place in C
          have hch : ∃ (j : Nat) (w1 : World), j < C.length ∧ w1.heap = w.heap ∧ w1.os = w.os ∧ w1.tape = w.tape ∧ w1.output = w.output ∧ (choose (Question.mapNext C.length)).run P w = .ok j w1 := by
            by_cases hf : C.length ≤ 1
            · exact ⟨0, w, by omega, rfl, rfl, rfl, rfl, by simp [choose, Sem.run, Question.forced, hf]⟩
            · exact ⟨_, w.drew, Nat.mod_lt _ (by omega), rfl, rfl, rfl, rfl, by
                simp only [choose, Sem.run, Question.forced, decide_eq_true_eq, hf, if_false, Question.cut]
                rfl⟩
          obtain ⟨j, w1, hj, q1, q2, q3, q4, hrun⟩ := hch
          have hg1 : Good w0 μ h w1 := hg.same q1 q2 q3 q4
          have hext : ∀ {h' : Heap} {w' : World}, Ext μ h w1 μ h' w' → Ext μ h w μ h' w' := fun x => x.of_same q1
          have hlist : L = C.map fun c => yieldA r m since seen ck h (c.map (·.1)) := by
            rw [C1] at hn
            cases C with
            | nil => exact absurd rfl C2
            | cons c cs =>
              simp only [List.map_cons, Option.some.injEq] at hn
              rw [← hn]; simp
          have hnext : (Instr.next (.pointer (some ⟨k.c, k.base + 0, none⟩)) false ty).run P w =
              (match C[j]?.map (Option.map (·.2)) with
                | some (some e) => .ok (.tuple #[.bool true, e.key, e.val]) (setO w1 k.c (.mapIter (some km.c) since (seen.toArray.push e.born) ck))
                | some none => .ok (.tuple #[.bool false]) w1
                | none => .halt (.stuck "Next: no such candidate") w1) := by
            have hso : ∀ O, (setObj k.c O).run P w1 = .ok () (setO w1 k.c O) := fun O => by simp [setObj, Sem.run, q1, r1, setO]
            have hidx : (C.map (Option.map (·.2))).toArray[j]? = C[j]?.map (Option.map (·.2)) := by simp
            simp only [Instr.next, r0, Nat.zero_add, Nat.add_zero, Sem.run_bind, hgo, Result.andThen_ok, run_getMap c1, hg2, Bool.false_eq_true, if_false, C4]
            simp only [List.size_toArray, List.length_map, hrun, Result.andThen_ok, hidx]
            cases C[j]? with
            | none => simp
            | some c => cases c with
              | none => simp
              | some e => simp [hso]
          rw [hnext]
          have hcj : C[j]? = some C[j] := List.getElem?_eq_getElem hj
          have hmemC : C[j] ∈ C := List.getElem_mem hj
          cases hc : C[j] with
          | none =>
            rw [hcj, hc]
            refine ⟨(.tuple [.bool false], h), _, w1, μ, ?_, rfl, VRL.tuple (.cons (.bool false) .nil), hg1, hext (Ext.refl _ _ _)⟩
            rw [hlist, List.mem_map]
            exact ⟨none, hc ▸ hmemC, rfl⟩
          | some e =>
            rw [hcj, hc]
            obtain ⟨v1, v2, v3⟩ := hL e (C3 e (hc ▸ hmemC))
            obtain ⟨g1, g2⟩ := hg1.set hk ho (by simp) (.miter (some m) since (seen ++ [e.1.2.2]) ck) (.mapIter (some km.c) since (seen.toArray.push e.2.born) ck) ⟨r0, some km.c, by simp [v3], km, km1, rfl⟩
            refine ⟨yieldA r m since seen ck h (some e.1), _, _, μ, ?_, rfl, VRL.tuple (.cons (.bool true) (.cons v1 (.cons v2 .nil))), g1, hext g2⟩
            rw [hlist, List.mem_map]
            exact ⟨some e, hc ▸ hmemC, rfl⟩
      · cases hn
    · cases hn
  · cases hn
end
end Go.AM
