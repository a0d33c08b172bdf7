/- A region whose order is drawn: whatever the order, it comes to what the walked order comes to. Conditions: none. -/
import Derived.Test.YthmbnnjimbjplaaGreatDoorAmCongr
import Derived.Orders
set_option linter.unusedVariables false
set_option linter.unusedSimpArgs false
namespace Go.AM
open Go Go.RowKit

/-! ### What comes ahead of what -/
theorem maskOf_spec (acc : List Nat) (j : Nat) : ∀ (es : List Edge), (maskOf acc es).testBit j = true → ∃ e ∈ es, Region.binds .any e = true ∧ (j = e.on ∨ (acc.getD e.on 0).testBit j = true)
  | [], h => by simp [maskOf] at h
  | e :: es, h => by
    simp only [maskOf] at h
    split at h
    · rename_i hb
      simp only [Nat.testBit_or, Bool.or_eq_true, Nat.testBit_two_pow, decide_eq_true_eq] at h
      rcases h with (h | h) | h
      · exact ⟨e, by simp, hb, .inl h.symm⟩
      · exact ⟨e, by simp, hb, .inr h⟩
      · obtain ⟨e', h1, h2⟩ := maskOf_spec acc j es h
        exact ⟨e', by simp [h1], h2⟩
    · obtain ⟨e', h1, h2⟩ := maskOf_spec acc j es h
      exact ⟨e', by simp [h1], h2⟩

theorem masksF_prefix : ∀ (os : List Oper) (acc : List Nat), ∃ r, masksF os acc = acc ++ r
  | [], acc => ⟨[], by simp [masksF]⟩
  | o :: os, acc => by
    obtain ⟨r, h⟩ := masksF_prefix os (acc ++ [maskOf acc o.after.toList])
    exact ⟨maskOf acc o.after.toList :: r, by simp [masksF, h]⟩
theorem masksF_get : ∀ (os : List Oper) (acc : List Nat) (k : Nat) (o : Oper), os[k]? = some o → (masksF os acc)[acc.length + k]? = some (maskOf ((masksF os acc).take (acc.length + k)) o.after.toList)
  | [], acc, k, o, h => by simp at h
  | o' :: os, acc, k, o, h => by
    simp only [masksF]
    cases k with
    | zero =>
      simp at h
      subst h
      obtain ⟨r, hr⟩ := masksF_prefix os (acc ++ [maskOf acc o'.after.toList])
      rw [hr]
      simp
    | succ k =>
      have := masksF_get os (acc ++ [maskOf acc o'.after.toList]) k o (by simpa using h)
      rw [List.length_append, List.length_singleton] at this
      rw [show acc.length + (k + 1) = acc.length + 1 + k by omega]
      exact this
theorem masksF_length : ∀ (os : List Oper) (acc : List Nat), (masksF os acc).length = acc.length + os.length
  | [], acc => by simp [masksF]
  | o :: os, acc => by simp only [masksF, masksF_length os]; simp; omega

theorem bef_spec {ops : List Oper} {i j : Nat} (h : bef (masks ops) i j = true) : ∃ o, ops[i]? = some o ∧ ∃ e ∈ o.after.toList, Region.binds .any e = true ∧ (j = e.on ∨ bef (masks ops) e.on j = true) := by
  unfold bef at h
  by_cases hi : i < ops.length
  · have ho : ops[i]? = some ops[i] := List.getElem?_eq_getElem hi
    have hm := masksF_get ops [] i _ ho
    simp only [List.length_nil, Nat.zero_add] at hm
    have hg : (masks ops).getD i 0 = maskOf ((masks ops).take i) ops[i].after.toList := by
      rw [List.getD_eq_getElem?_getD]
      show ((masksF ops [])[i]?).getD 0 = _
      rw [hm]; rfl
    rw [hg] at h
    obtain ⟨e, h1, h2, h3⟩ := maskOf_spec _ _ _ h
    refine ⟨_, ho, e, h1, h2, ?_⟩
    rcases h3 with h3 | h3
    · exact .inl h3
    · refine .inr ?_
      unfold bef
      rw [List.getD_eq_getElem?_getD, List.getElem?_take] at h3
      split at h3
      · rw [List.getD_eq_getElem?_getD]; exact h3
      · simp at h3
  · have : (masks ops).getD i 0 = 0 := by
      rw [List.getD_eq_getElem?_getD, List.getElem?_eq_none (by unfold masks; rw [masksF_length]; simp; omega)]; rfl
    rw [this] at h; simp at h

def Closed (ms : List Nat) (S : Nat → Bool) : Prop := ∀ i j, S i = true → bef ms i j = true → S j = true
def isIn (listed : Array Bool) (k : Nat) : Bool := listed.getD k false

theorem ready_bef {ops : Array Oper} {listed : Array Bool} {i j : Nat} (hc : Closed (masks ops.toList) (isIn listed)) (hr : i ∈ Region.ready .any ops listed) (hb : bef (masks ops.toList) i j = true) : isIn listed j = true := by
  obtain ⟨_, o, ho, he⟩ := mem_ready.1 hr
  obtain ⟨o', ho', e, h1, h2, h3⟩ := bef_spec hb
  rw [Array.getElem?_toList, ho] at ho'
  cases ho'
  have := he e (by simpa using h1) h2
  rcases h3 with rfl | h3
  · exact this
  · exact hc _ _ this h3

theorem isIn_set {listed : Array Bool} {i : Nat} (hi : i < listed.size) (k : Nat) : isIn (listed.setIfInBounds i true) k = (decide (k = i) || isIn listed k) := by
  unfold isIn
  by_cases e : k = i
  · subst e; simp [Array.getD, hi]
  · simp [e, getD_set_ne false (fun q => e q.symm)]

/-! ### The slots -/
structure Dn where
  i : Nat
  o : Oper
  v : AV
  env : Env
  b : Nat
  al : Bool
noncomputable def envOf (env0 : Env) (n : Nat) (S : Nat → Bool) : List Dn → Env
  | [] => env0
  | d :: ds => if S d.i then putE (envOf env0 n S ds) n d.o.dst d.v else envOf env0 n S ds

theorem putE_ne {env : Env} {n : Nat} {dst : Option Tmp} {v : AV} {t : Nat} (h : dst ≠ some t) : putE env n dst v t = env t := by
  cases dst with
  | none => rfl
  | some d =>
    have : t ≠ d := fun e => h (by rw [e])
    simp only [putE]
    split
    · simp [setV_eq, this]
    · rfl
theorem putE_comm {env : Env} {n : Nat} {x y : Option Tmp} {u v : AV} (h : ∀ t, x = some t → y ≠ some t) : putE (putE env n x u) n y v = putE (putE env n y v) n x u := by
  cases x with
  | none => rfl
  | some d => cases y with
    | none => rfl
    | some e =>
      have hne : d ≠ e := fun q => h d rfl (by rw [q])
      simp only [putE]
      split <;> split <;> try rfl
      funext t
      simp only [setV_eq]
      split <;> split <;> try rfl
      rename_i h1 h2; exact absurd (h2 ▸ h1) (by simpa using hne)

section
variable {env0 : Env} {n : Nat} {S S' : Nat → Bool}
theorem envOf_skip {t : Nat} : ∀ {pre ds : List Dn}, (∀ x ∈ pre, S x.i = true → x.o.dst ≠ some t) → envOf env0 n S (pre ++ ds) t = envOf env0 n S ds t
  | [], ds, h => rfl
  | x :: pre, ds, h => by
    simp only [List.cons_append, envOf]
    have ih := envOf_skip (pre := pre) (ds := ds) (fun y hy => h y (by simp [hy]))
    split
    · rename_i hx; rw [putE_ne (h x (by simp) hx), ih]
    · exact ih
theorem envOf_congr : ∀ {ds : List Dn}, (∀ x ∈ ds, S x.i = S' x.i) → envOf env0 n S ds = envOf env0 n S' ds
  | [], h => rfl
  | x :: ds, h => by
    simp only [envOf]
    rw [h x (by simp), envOf_congr (ds := ds) (fun y hy => h y (by simp [hy]))]
theorem envOf_full {t : Nat} : ∀ {ds : List Dn}, (∀ x ∈ ds, x.o.dst = some t → S x.i = true) → envOf env0 n S ds t = envOf env0 n (fun _ => true) ds t
  | [], h => rfl
  | x :: ds, h => by
    have ih := envOf_full (ds := ds) (fun y hy => h y (by simp [hy]))
    simp only [envOf, if_true]
    by_cases hd : x.o.dst = some t
    · rw [if_pos (h x (by simp) hd), hd]
      simp only [putE]
      split
      · simp [setV_eq]
      · exact ih
    · rw [putE_ne hd]
      split
      · rw [putE_ne hd]; exact ih
      · exact ih
theorem envOf_add {d : Dn} (hS : S d.i = false) (hS' : ∀ k, S' k = (decide (k = d.i) || S k)) : ∀ {pre ds : List Dn}, (∀ x ∈ pre, x.i ≠ d.i) → (∀ x ∈ ds, x.i ≠ d.i) → (∀ x ∈ pre, ∀ t, d.o.dst = some t → x.o.dst ≠ some t) →
    envOf env0 n S' (pre ++ d :: ds) = putE (envOf env0 n S (pre ++ d :: ds)) n d.o.dst d.v
  | [], ds, h1, h2, h3 => by
    simp only [List.nil_append, envOf]
    rw [if_pos (by rw [hS']; simp), if_neg (by rw [hS]; simp), envOf_congr (S := S') (S' := S) (fun x hx => by rw [hS']; simp [h2 x hx])]
  | x :: pre, ds, h1, h2, h3 => by
    have ih := envOf_add hS hS' (pre := pre) (ds := ds) (fun y hy => h1 y (by simp [hy])) h2 (fun y hy => h3 y (by simp [hy]))
    simp only [List.cons_append, envOf]
    have hx : S' x.i = S x.i := by rw [hS']; simp [h1 x (by simp)]
    rw [hx]
    split
    · rw [ih, putE_comm (h3 x (by simp))]
    · exact ih
end

/-! ### What the plan grants -/
structure Pair (ops : List Oper) (ms : List Nat) (a b : Nat × Oper) : Prop where
  ne : a.1 ≠ b.1
  nb : bef ms a.1 b.1 = false
  eff : isEff a.2 = true → bef ms b.1 a.1 = true
  dd : ∀ d, a.2.dst = some d → b.2.dst ≠ some d
  lb : ∀ d, a.2.dst = some d → d ∈ looksD ops b.2 → bef ms b.1 a.1 = true
  la : ∀ d, b.2.dst = some d → d ∈ looksD ops a.2 → bef ms b.1 a.1 = true
theorem pairOk_spec {ops : List Oper} {ms : List Nat} {a b : Nat × Oper} (h : pairOk ops ms a b = true) : Pair ops ms a b := by
  unfold pairOk at h
  simp only [Bool.and_eq_true, bne_iff_ne, ne_eq, Bool.not_eq_true', Bool.or_eq_true] at h
  obtain ⟨h1, h2, h3, h4, h5⟩ := h
  refine ⟨h1, h2, fun he => h3.resolve_left (by simp [he]), fun d hd e => ?_, fun d hd hl => ?_, fun d hd hl => ?_⟩
  · rw [hd, e] at h4; simp at h4
  · rw [hd] at h4
    simp only [Bool.and_eq_true, Bool.or_eq_true, Bool.not_eq_true'] at h4
    exact h4.2.resolve_left (by simp [hl])
  · rw [hd] at h5
    simp only [Bool.or_eq_true, Bool.not_eq_true'] at h5
    exact h5.resolve_left (by simp [hl])
theorem pairsOk_spec {ops : List Oper} {ms : List Nat} : ∀ {L : List (Nat × Oper)}, pairsOk ops ms L = true → L.Pairwise (Pair ops ms)
  | [], h => .nil
  | p :: ps, h => by
    simp only [pairsOk, Bool.and_eq_true, List.all_eq_true] at h
    exact .cons (fun b hb => pairOk_spec (h.1 b hb)) (pairsOk_spec h.2)
theorem coverOk_spec {L : List (Nat × Oper)} : ∀ {n : Nat}, coverOk L n = true → ∀ i, i < n → ∃ p ∈ L, p.1 = i
  | 0, h, i, hi => by omega
  | n + 1, h, i, hi => by
    simp only [coverOk, Bool.and_eq_true, List.any_eq_true, beq_iff_eq] at h
    by_cases e : i = n
    · subst e; exact h.1
    · exact coverOk_spec h.2 i (by omega)
theorem withIdx_spec : ∀ (os : List Oper) (k : Nat) (p : Nat × Oper), p ∈ withIdx os k → k ≤ p.1 ∧ os[p.1 - k]? = some p.2
  | [], k, p, h => by cases h
  | o :: os, k, p, h => by
    simp only [withIdx, List.mem_cons] at h
    rcases h with rfl | h
    · simp
    · obtain ⟨h1, h2⟩ := withIdx_spec os (k + 1) p h
      refine ⟨by omega, ?_⟩
      rw [show p.1 - k = (p.1 - (k + 1)) + 1 by omega]
      simpa using h2
theorem levelsL_mem {ms effs : List Nat} {L : List (Nat × Oper)} : ∀ (n k : Nat) (p : Nat × Oper), p ∈ levelsL ms effs L n k → p ∈ L
  | 0, k, p, h => (List.mem_filter.1 h).1
  | n + 1, k, p, h => by
    simp only [levelsL, List.mem_append] at h
    rcases h with h | h | h
    · exact (List.mem_filter.1 h).1
    · exact (List.mem_filter.1 h).1
    · exact levelsL_mem n (k + 1) p h
theorem edgesOk_spec : ∀ {os : List Oper} {k : Nat}, edgesOk os k = true → ∀ i o, os[i]? = some o → ∀ e ∈ o.after.toList, Region.binds .any e = true → e.on < k + i
  | [], k, h, i, o, ho => by simp at ho
  | o' :: os, k, h, i, o, ho => by
    simp only [edgesOk, Bool.and_eq_true, List.all_eq_true, Bool.or_eq_true, Bool.not_eq_true', decide_eq_true_eq] at h
    intro e he hb
    cases i with
    | zero =>
      simp at ho; subst ho
      have := (h.1 e he).resolve_left (by simp [hb])
      omega
    | succ i =>
      have := edgesOk_spec h.2 i o (by simpa using ho) e he hb
      omega

structure PlanR (ops : Array Oper) (ms : List Nat) (L : List (Nat × Oper)) : Prop where
  masks : ms = masks ops.toList
  pairs : L.Pairwise (Pair ops.toList ms)
  cover : ∀ i, i < ops.size → ∃ p ∈ L, p.1 = i
  mem : ∀ p ∈ L, ops[p.1]? = some p.2
  edges : ∀ (i : Nat) (o : Oper), ops[i]? = some o → ∀ e ∈ o.after.toList, Region.binds .any e = true → e.on < i
theorem planD_spec {ops : Array Oper} {p : Plan} (h : planD ops.toList = some p) : PlanR ops p.ms p.L := by
  unfold planD at h
  split at h
  · rename_i hc
    cases h
    simp only [Bool.and_eq_true] at hc
    obtain ⟨⟨h1, h2⟩, h3⟩ := hc
    refine ⟨rfl, pairsOk_spec h2, fun i hi => coverOk_spec h3 i (by simpa using hi), fun q hq => ?_, fun i o ho e he hb => ?_⟩
    · have := withIdx_spec _ _ _ (levelsL_mem _ _ _ hq)
      simpa using this.2
    · have := edgesOk_spec h1 i o (by simpa using ho) e he hb
      omega
  · cases h

theorem looks_op {ops : List Oper} {o : Oper} {env env' : Env} (h : ∀ t ∈ looksD ops o, env t = env' t) : ∀ x ∈ o.op.operands, evalArg env x = evalArg env' x := by
  intro x hx
  cases x with
  | tmp t =>
    apply h
    simp only [looksD, List.mem_append, List.mem_filterMap]
    exact .inl ⟨.tmp t, by simpa using hx, rfl⟩
  | const v => rfl
  | global g => rfl
  | func f => rfl
theorem looks_wanted {ops : List Oper} {o : Oper} {env env' : Env} (h : ∀ t ∈ looksD ops o, env t = env' t) : wantedA ops o env = wantedA ops o env' := by
  unfold wantedA
  split
  · rfl
  · rename_i j want hg
    split
    · rename_i g hj
      split
      · rename_i d hd
        have : env d = env' d := h d (by simp [looksD, hg, hj, hd])
        rw [this]
      · rfl
    · rfl
end Go.AM
