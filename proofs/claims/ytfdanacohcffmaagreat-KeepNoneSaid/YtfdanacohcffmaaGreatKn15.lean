/- Arguments of plain types, read as data of the abstract machine. Conditions: none. -/
import Derived.Test.YtfdanacohcffmaaGreatKn10
import Derived.Test.YtfdanacohcffmaaGreatKn14
import Derived.SizedLaws
set_option linter.unusedVariables false
set_option linter.unusedSimpArgs false
namespace Go.AM
open Go Go.RowKit Go.ChangeShapes Go.WideShapes
noncomputable section
variable {t e : TypeId}
section
variable {H : Type} {enc : TypeId × Value → H} {P : Program} {w : World}
def Small (P : Program) (t : TypeId) (d : DataW H) : Prop := ∀ n ∈ d.weights P t, n ≤ reachBytes
theorem reach_big : reachBytes ≤ big := by decide
theorem mem_weightsAll {e : TypeId} {d : DataW H} {n : Nat} (hn : n ∈ d.weights P e) : ∀ {l : List (DataW H)}, d ∈ l → n ∈ DataW.weightsAll P e l
  | x :: l, h => by
    simp only [DataW.weightsAll, List.mem_append]
    rcases List.mem_cons.1 h with rfl | h
    · exact .inl hn
    · exact .inr (mem_weightsAll hn h)
theorem small_slice {ds sp : List (DataW H)} (ht : P.underlying t = some (.slice e)) (hb : 0 < P.bytesOf e) (h : Small P t (.slice ds sp)) : ds.length ≤ big ∧ ∀ d ∈ ds, Small P e d := by
  refine ⟨?_, fun d hd n hn => h n ?_⟩
  · have h1 := h ((ds.length + sp.length) * P.bytesOf e) (by simp [DataW.weights, ht])
    have h2 : ds.length * 1 ≤ (ds.length + sp.length) * P.bytesOf e := Nat.mul_le_mul (by omega) hb
    have := reach_big
    omega
  · simp only [DataW.weights, ht, List.mem_cons, List.mem_append]
    exact .inr (.inl (mem_weightsAll hn hd))
theorem small_all {ts : List TypeId} {ds : List (DataW H)} (h : (DataW.weightsEach P ts ds).all (· ≤ reachBytes) = true) {j : Nat} {d : DataW H} (ht : ts[j]? = some t) (hd : ds[j]? = some d) : Small P t d := by
  intro n hn
  have := List.all_eq_true.1 h n (DataW.weights_mem_each ht hd n hn)
  simpa using this
def RD (enc : TypeId × Value → H) (P : Program) (w : World) (t : TypeId) {α : Type} (encA : α → List AV) (ok : α → Prop) : Prop :=
  Reads enc P w t fun d xs => ∃ a, xs = encA a ∧ (Small P t d → ok a)
def RD1 (enc : TypeId × Value → H) (P : Program) (w : World) (n : Nat) (t : TypeId) {α : Type} (encA : α → List AV) (ok : α → Prop) : Prop :=
  Reads1 enc P w n t fun d xs => ∃ a, xs = encA a ∧ (Small P t d → ok a)
theorem rd_int (ht : P.underlying t = some (.int .i64)) : RD enc P w t encI (fun _ => True) := fun fuel cs d ps h => by
  obtain ⟨xs, ⟨n, rfl, rfl, _⟩, hv⟩ := reads_int ht fuel cs d ps h
  exact ⟨_, ⟨n, rfl, fun _ => trivial⟩, hv⟩
theorem rd_bool (ht : P.underlying t = some .bool) : RD enc P w t encB (fun _ => True) := fun fuel cs d ps h => by
  obtain ⟨xs, ⟨n, rfl, rfl⟩, hv⟩ := reads_bool ht fuel cs d ps h
  exact ⟨_, ⟨n, rfl, fun _ => trivial⟩, hv⟩
theorem rd_string (ht : P.underlying t = some .string) : RD enc P w t encS (fun s => s.length ≤ big) := fun fuel cs d ps h => by
  obtain ⟨xs, ⟨n, rfl, rfl, _⟩, hv⟩ := reads_string ht fuel cs d ps h
  refine ⟨_, ⟨n, rfl, fun hs => ?_⟩, hv⟩
  have := hs n.length (by simp [DataW.weights])
  have := reach_big
  omega
theorem rows_of {α : Type} {encA : α → List AV} {ok : DataW H → α → Prop} : ∀ (ds : List (DataW H)) (rows : List (List AV)), rows.length = ds.length →
    (∀ (i : Nat) (d : DataW H) (r : List AV), ds[i]? = some d → rows[i]? = some r → ∃ a, r = encA a ∧ ok d a) → ∃ as : List α, rows = as.map encA ∧ as.length = ds.length ∧ ∀ a ∈ as, ∃ d ∈ ds, ok d a
  | [], [], _, _ => ⟨[], rfl, rfl, by simp⟩
  | d :: ds, r :: rows, hl, h => by
    obtain ⟨as, h1, h2, h3⟩ := rows_of ds rows (by simpa using hl) fun i d r hd hr => h (i + 1) d r (by simpa using hd) (by simpa using hr)
    obtain ⟨a, ha, hok⟩ := h 0 d r rfl rfl
    refine ⟨a :: as, by simp [ha, h1], by simp [h2], fun b hb => ?_⟩
    rcases List.mem_cons.1 hb with rfl | hb
    · exact ⟨d, by simp, hok⟩
    · obtain ⟨d', hd', hok'⟩ := h3 b hb
      exact ⟨d', by simp [hd'], hok'⟩
  | [], _ :: _, hl, _ => by simp at hl
  | _ :: _, [], hl, _ => by simp at hl
theorem rd1_slice {n : Nat} {α : Type} {encA : α → List AV} {ok : α → Prop} (ht : P.underlying t = some (.slice e)) {sz : Nat} (hc : P.cellsOf e = sz) (hz : 0 < sz) (hb : 0 < P.bytesOf e) (hR : RD1 enc P w n e encA ok) :
    RD1 enc P w (n + 1) t (fun x : Sl α => [encSl encA sz x]) (fun x => x.l.length ≤ big ∧ ∀ a ∈ x.l, ok a) := fun cs d ps h => by
  obtain ⟨xs, hx, hv⟩ := reads1_slice ht (by omega) hR cs d ps h
  rcases hx with ⟨rfl, rfl⟩ | ⟨ds, sp, rows, rfl, rfl, hl, hrow⟩
  · exact ⟨_, ⟨none, rfl, fun _ => ⟨by simp, by simp⟩⟩, hv⟩
  · obtain ⟨as, rfl, h2, h3⟩ := rows_of (encA := encA) (ok := fun d a => Small P e d → ok a) ds rows hl fun i d r hd hr => (hrow i d r hd hr).1
    refine ⟨_, ⟨some as, ?_, fun hs => ?_⟩, hv⟩
    · rw [hc]
      show [AV.islice (as.map encA).flatten 0 ds.length sz] = [AV.islice (as.flatMap encA) 0 as.length sz]
      rw [h2, List.flatMap_def]
    · obtain ⟨s1, s2⟩ := small_slice ht hb hs
      refine ⟨by simpa [h2] using s1, fun a ha => ?_⟩
      obtain ⟨d, hd, hok⟩ := h3 a ha
      exact hok (s2 d hd)
theorem rd_slice {α : Type} {encA : α → List AV} {ok : α → Prop} (ht : P.underlying t = some (.slice e)) {sz : Nat} (hc : P.cellsOf e = sz) (hz : 0 < sz) (hb : 0 < P.bytesOf e) (hR : RD enc P w e encA ok) :
    RD enc P w t (fun x : Sl α => [encSl encA sz x]) (fun x => x.l.length ≤ big ∧ ∀ a ∈ x.l, ok a) := fun fuel cs d ps h => by
  cases fuel with
  | zero => cases h
  | succ n => exact rd1_slice ht hc hz hb (fun cs d ps h => hR n cs d ps h) cs d ps h
end
end
end Go.AM
