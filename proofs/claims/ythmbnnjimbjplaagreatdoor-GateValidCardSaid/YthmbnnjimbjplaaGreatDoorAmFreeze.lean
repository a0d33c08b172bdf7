/- What a function leaves behind that nobody writes any more reads as data that never changes. Conditions: none. -/
import Derived.Test.YthmbnnjimbjplaaGreatDoorAmSem
set_option linter.unusedVariables false
set_option linter.unusedSimpArgs false
namespace Go.AM
open Go Go.RowKit
noncomputable section

/-- A value of no parts. -/
def AV.scalar : AV → Bool
  | .undef | .bool _ | .int _ _ | .str _ | .nilp | .nils | .nilm | .nilf | .nili => true
  | _ => false

mutual
/-- No block is named. -/
def AV.pure : AV → Bool
  | .ptr _ _ | .slice _ _ _ _ | .map _ => false
  | .iptr cs _ => AV.pureL cs
  | .islice cs _ _ _ => AV.pureL cs
  | .func _ a b => AV.pureL a && AV.pureL b
  | .iface _ v => AV.pure v
  | .agg cs => AV.pureL cs
  | .tuple cs => AV.pureL cs
  | _ => true
def AV.pureL : List AV → Bool
  | [] => true
  | a :: as => AV.pure a && AV.pureL as
end
theorem AV.pureL_get : ∀ {l : List AV}, AV.pureL l = true → ∀ {i : Nat} {x : AV}, l[i]? = some x → x.pure = true
  | a :: l, h, 0, x, e => by simp [AV.pureL] at h; simp at e; subst e; exact h.1
  | a :: l, h, i + 1, x, e => by simp [AV.pureL] at h; exact AV.pureL_get h.2 (by simpa using e)
  | [], h, i, x, e => by simp at e
theorem AV.pureL_of : ∀ {l : List AV}, (∀ x ∈ l, x.pure = true) → AV.pureL l = true
  | [], _ => rfl
  | a :: l, h => by
    have h1 := h a (by simp)
    have h2 := AV.pureL_of (l := l) fun x hx => h x (List.mem_cons_of_mem _ hx)
    simp [AV.pureL, h1, h2]
theorem AV.pureL_append {l m : List AV} (h : AV.pureL l = true) (k : AV.pureL m = true) : AV.pureL (l ++ m) = true := by
  induction l with
  | nil => exact k
  | cons a l ih => simp only [AV.pureL, Bool.and_eq_true, List.cons_append] at h ⊢; exact ⟨h.1, ih h.2⟩

/-- A value, and the same where what it leads to is frozen. old: parts that never change may stay. -/
inductive Fz (old : Bool) (h : Heap) : AV → AV → Prop where
  | scalar (x : AV) (hx : x.scalar = true) : Fz old h x x
  | iptr (cs cs' : List AV) (off : Nat) (ho : old = true) (hl : cs.length = cs'.length) (hr : ∀ (i : Nat) (x y : AV), cs[i]? = some x → cs'[i]? = some y → Fz old h x y) : Fz old h (.iptr cs off) (.iptr cs' off)
  | islice (cs cs' : List AV) (off len sz : Nat) (ho : old = true) (hl : cs.length = cs'.length) (hr : ∀ (i : Nat) (x y : AV), cs[i]? = some x → cs'[i]? = some y → Fz old h x y) : Fz old h (.islice cs off len sz) (.islice cs' off len sz)
  | ptr (b off : Nat) (cs cs' : List AV) (hb : h.get b = some (.cells cs)) (hl : cs.length = cs'.length) (hr : ∀ (i : Nat) (x y : AV), cs[i]? = some x → cs'[i]? = some y → Fz old h x y) : Fz old h (.ptr b off) (.iptr cs' off)
  | slice (b off len sz : Nat) (cs cs' : List AV) (hb : h.get b = some (.cells cs)) (hl : cs.length = cs'.length) (hr : ∀ (i : Nat) (x y : AV), cs[i]? = some x → cs'[i]? = some y → Fz old h x y) : Fz old h (.slice b off len sz) (.islice cs' off len sz)
  | func (f : FuncId) (xs ys xs' ys' : List AV) (h1 : xs.length = xs'.length) (h2 : ys.length = ys'.length) (r1 : ∀ (i : Nat) (x y : AV), xs[i]? = some x → xs'[i]? = some y → Fz old h x y)
      (r2 : ∀ (i : Nat) (x y : AV), ys[i]? = some x → ys'[i]? = some y → Fz old h x y) : Fz old h (.func f xs ys) (.func f xs' ys')
  | iface (t : TypeId) (x y : AV) (hr : Fz old h x y) : Fz old h (.iface t x) (.iface t y)
  | agg (cs cs' : List AV) (hl : cs.length = cs'.length) (hr : ∀ (i : Nat) (x y : AV), cs[i]? = some x → cs'[i]? = some y → Fz old h x y) : Fz old h (.agg cs) (.agg cs')
  | tuple (cs cs' : List AV) (hl : cs.length = cs'.length) (hr : ∀ (i : Nat) (x y : AV), cs[i]? = some x → cs'[i]? = some y → Fz old h x y) : Fz old h (.tuple cs) (.tuple cs')

structure FzL (old : Bool) (h : Heap) (cs cs' : List AV) : Prop where
  len : cs.length = cs'.length
  rel : ∀ (i : Nat) (x y : AV), cs[i]? = some x → cs'[i]? = some y → Fz old h x y
theorem FzL.nil {old : Bool} {h : Heap} : FzL old h [] [] := ⟨rfl, by simp⟩
theorem FzL.cons {old : Bool} {h : Heap} {x y : AV} {xs ys : List AV} (h1 : Fz old h x y) (h2 : FzL old h xs ys) : FzL old h (x :: xs) (y :: ys) :=
  ⟨by simp [h2.len], fun i u v a b => by
    cases i with
    | zero => simp at a b; subst a; subst b; exact h1
    | succ i => simp at a b; exact h2.rel i u v a b⟩
theorem FzL.append {old : Bool} {h : Heap} {xs ys us vs : List AV} (h1 : FzL old h xs us) (h2 : FzL old h ys vs) : FzL old h (xs ++ ys) (us ++ vs) := by
  induction xs generalizing us with
  | nil => cases us with
    | nil => exact h2
    | cons u us => exact absurd h1.len (by simp)
  | cons x xs ih => cases us with
    | nil => exact absurd h1.len (by simp)
    | cons u us => exact .cons (h1.rel 0 x u rfl rfl) (ih ⟨by simpa using h1.len, fun i a b p q => h1.rel (i + 1) a b (by simpa using p) (by simpa using q)⟩)

mutual
theorem Fz.of_pure {h : Heap} : ∀ {x : AV}, x.pure = true → Fz true h x x
  | .undef, _ => .scalar _ rfl
  | .bool _, _ => .scalar _ rfl
  | .int _ _, _ => .scalar _ rfl
  | .str _, _ => .scalar _ rfl
  | .nilp, _ => .scalar _ rfl
  | .nils, _ => .scalar _ rfl
  | .nilm, _ => .scalar _ rfl
  | .nilf, _ => .scalar _ rfl
  | .nili, _ => .scalar _ rfl
  | .iptr cs off, hp => .iptr cs cs off rfl rfl (FzL.of_pure hp).rel
  | .islice cs off len sz, hp => .islice cs cs off len sz rfl rfl (FzL.of_pure hp).rel
  | .func f a b, hp => by
    simp only [AV.pure, Bool.and_eq_true] at hp
    exact .func f a b a b rfl rfl (FzL.of_pure hp.1).rel (FzL.of_pure hp.2).rel
  | .iface t x, hp => .iface t x x (Fz.of_pure hp)
  | .agg cs, hp => .agg cs cs rfl (FzL.of_pure hp).rel
  | .tuple cs, hp => .tuple cs cs rfl (FzL.of_pure hp).rel
  | .ptr _ _, hp => by cases hp
  | .slice _ _ _ _, hp => by cases hp
  | .map _, hp => by cases hp
theorem FzL.of_pure {h : Heap} : ∀ {l : List AV}, AV.pureL l = true → FzL true h l l
  | [], _ => .nil
  | a :: l, hp => by
    simp only [AV.pureL, Bool.and_eq_true] at hp
    exact .cons (Fz.of_pure hp.1) (FzL.of_pure hp.2)
end

section
variable {P : Program} {w0 w w' : World} {μ μ' : Mu} {h h' : Heap}

/-- All that is the callee's own, frozen; and what was frozen. -/
def Mu.ice (μ : Mu) (w : World) (c : Nat) : Option (List Value) :=
  match μ.z c with
  | some vs => some vs
  | none => @ite _ (∃ b k, μ b = some k ∧ k.c = c) (Classical.propDecidable _) (match w.heap[c]? with | some (.cells arr _ _) => some arr.toList | _ => none) none
theorem Mu.ice_old {c : Nat} {vs : List Value} (hz : μ.z c = some vs) : μ.ice w c = some vs := by unfold Mu.ice; rw [hz]
theorem Mu.ice_own {b : Nat} {k : Blk} (hb : μ b = some k) (hz : μ.z k.c = none) {arr : Array Value} {e : TypeId} {fr : Nat × Nat} (hc : w.heap[k.c]? = some (.cells arr e fr)) : μ.ice w k.c = some arr.toList := by
  unfold Mu.ice; rw [hz]; simp only; rw [if_pos ⟨b, k, hb, rfl⟩, hc]
theorem Mu.ice_inv {c : Nat} {vs : List Value} (h : μ.ice w c = some vs) : μ.z c = some vs ∨ ((∃ b k, μ b = some k ∧ k.c = c) ∧ ∃ arr e fr, w.heap[c]? = some (.cells arr e fr) ∧ arr.toList = vs) := by
  unfold Mu.ice at h
  split at h
  · rename_i vs' hz; cases h; exact .inl hz
  · split at h
    · rename_i hex
      split at h
      · rename_i arr e fr hc; cases h; exact .inr ⟨hex, arr, e, fr, hc, rfl⟩
      · cases h
    · cases h

/-- What is frozen for the caller: what was, and what is new. -/
def Mu.thaw (μ μ' : Mu) (w w' : World) : Mu := ⟨μ.m, fun c => @ite _ ((∃ vs, μ.z c = some vs) ∨ w.heap.size ≤ c) (Classical.propDecidable _) (μ'.ice w' c) none⟩

theorem vr_freeze {old : Bool} (hg' : Good w0 μ' h' w') {ν : Mu} (hown : ∀ b k, μ' b = some k → ∀ vs, μ'.ice w' k.c = some vs → ν.z k.c = some vs) (hold : old = true → ∀ c vs, μ'.z c = some vs → ν.z c = some vs) {x y : AV} (hf : Fz old h' x y) : ∀ v, VR w0 μ' x v → VR w0 ν y v := by
  have hblk : ∀ b k cs, μ' b = some k → h'.get b = some (.cells cs) → ∃ vs : List Value, vs.length = cs.length ∧ (ν.z k.c).isSome = true ∧ (∀ (i : Nat) (v : Value), vs[i]? = some v → ν.cell k.c (k.base + i) = some v) ∧
      ∀ (i : Nat) (x : AV) (v : Value), cs[i]? = some x → vs[i]? = some v → VR w0 μ' x v := by
    intro b k cs hb ho
    obtain ⟨arr, e, fr, h1, h2, h3, h4, h5⟩ := hg'.obj b k _ hb ho
    have hz : ν.z k.c = some arr.toList := hown b k hb _ (Mu.ice_own hb (hg'.apart b k hb) h1)
    refine ⟨(arr.toList.drop k.base).take cs.length, by simp; omega, by rw [hz]; rfl, fun i v hi => ?_, fun i x v hx hi => ?_⟩
    · rw [List.getElem?_take] at hi
      split at hi
      · rw [List.getElem?_drop] at hi
        unfold Mu.cell; rw [hz]; exact hi
      · cases hi
    · obtain ⟨v', hv1, hv2⟩ := h5 i x hx
      rw [List.getElem?_take] at hi
      split at hi
      · rw [List.getElem?_drop, Array.getElem?_toList, hv1] at hi
        cases hi; exact hv2
      · cases hi
  have rows : ∀ {cs cs' : List AV} {vs : List Value}, cs.length = cs'.length → cs.length = vs.length → (∀ (i : Nat) (x y : AV), cs[i]? = some x → cs'[i]? = some y → ∀ v, VR w0 μ' x v → VR w0 ν y v) →
      (∀ (i : Nat) (x : AV) (v : Value), cs[i]? = some x → vs[i]? = some v → VR w0 μ' x v) → ∀ (i : Nat) (y : AV) (v : Value), cs'[i]? = some y → vs[i]? = some v → VR w0 ν y v := by
    intro cs cs' vs hl hl2 ih hr i y v hy hv
    have hi : i < cs'.length := (List.getElem?_eq_some_iff.1 hy).1
    have hx : cs[i]? = some (cs[i]'(by omega)) := List.getElem?_eq_getElem (by omega)
    exact ih i _ y hx hy v (hr i _ v hx hv)
  induction hf with
  | scalar x hx =>
    intro v hv
    cases hv <;> simp only [AV.scalar, Bool.false_eq_true, reduceCtorEq] at hx <;> constructor
  | iptr cs cs' off ho hl hr ih =>
    intro v hv
    cases hv
    rename_i g o vs hg hv hl' hr'
    refine .iptr cs' off g o vs ?_ (by omega) (fun i v hi => ?_) (rows hl hl' ih hr')
    · trivial
    · have := hv i v hi
      unfold Mu.cell at this ⊢
      obtain ⟨zs, hz, hi2⟩ := Option.bind_eq_some_iff.1 this
      rw [hold ho _ _ hz]; exact hi2
  | islice cs cs' off len sz ho hl hr ih =>
    intro v hv
    cases hv
    rename_i cap a g o vs hg hv hl' hr' ha hc
    refine .islice cs' off len sz cap a g o vs ?_ (by omega) (fun i v hi => ?_) (rows hl hl' ih hr') hc ha
    · trivial
    · have := hv i v hi
      unfold Mu.cell at this ⊢
      obtain ⟨zs, hz, hi2⟩ := Option.bind_eq_some_iff.1 this
      rw [hold ho _ _ hz]; exact hi2
  | ptr b off cs cs' hb hl hr ih =>
    intro v hv
    cases hv
    rename_i k hk
    obtain ⟨vs, q1, q2, q3, q4⟩ := hblk b k cs hk hb
    exact .iptr cs' off k.c k.base vs trivial (by omega) q3 (rows hl (by omega) ih q4)
  | slice b off len sz cs cs' hb hl hr ih =>
    intro v hv
    cases hv
    rename_i cap a k hk hc ha
    obtain ⟨vs, q1, q2, q3, q4⟩ := hblk b k cs hk hb
    exact .islice cs' off len sz cap a k.c k.base vs trivial (by omega) q3 (rows hl (by omega) ih q4) hc (fun h0 => (ha h0).1)
  | func f xs ys xs' ys' h1 h2 r1 r2 ih1 ih2 =>
    intro v hv
    cases hv
    rename_i us vs g1 q1 g2 q2
    exact .func f xs' ys' us vs (by omega) (by omega) (rows h1 g1 ih1 q1) (rows h2 g2 ih2 q2)
  | iface t x y hr ih =>
    intro v hv
    cases hv
    rename_i v hv
    exact .iface t y v (ih v hv)
  | agg cs cs' hl hr ih =>
    intro v hv
    cases hv
    rename_i vs hl' hr'
    exact .agg cs' vs (by omega) (rows hl hl' ih hr')
  | tuple cs cs' hl hr ih =>
    intro v hv
    cases hv
    rename_i vs hl' hr'
    exact .tuple cs' vs (by omega) (rows hl hl' ih hr')

theorem thaw_good {ν : Mu} (hν : ν.m = fun _ => none) (hg : Good w0 μ h w) (hg' : Good w0 μ' h' w') (hx : Ext ν Heap.empty w μ' h' w') (hz : ∀ c vs, μ.z c = some vs → ν.z c = some vs) :
    Good w0 (μ.thaw μ' w w') h w' ∧ Ext μ h w (μ.thaw μ' w w') h w' := by
  have hf : ∀ k, k < w.heap.size → w'.heap[k]? = w.heap[k]? := fun k hk => hx.frame k hk (by simp [hν])
  have hnew : ∀ c vs, (μ.thaw μ' w w').z c = some vs → μ.z c = some vs ∨ w.heap.size ≤ c := by
    intro c vs hc
    have hc' : @ite _ ((∃ vs, μ.z c = some vs) ∨ w.heap.size ≤ c) (Classical.propDecidable _) (μ'.ice w' c) none = some vs := hc
    split at hc'
    · rename_i hor
      rcases hor with ⟨vs', hv⟩ | hge
      · rw [Mu.ice_old (hx.mono.frz _ _ (hz _ _ hv))] at hc'
        cases hc'; exact .inl hv
      · exact .inr hge
    · cases hc'
  have hmono : ∀ c vs, μ.z c = some vs → (μ.thaw μ' w w').z c = some vs := by
    intro c vs hv
    show @ite _ ((∃ vs, μ.z c = some vs) ∨ w.heap.size ≤ c) (Classical.propDecidable _) (μ'.ice w' c) none = some vs
    rw [if_pos (.inl ⟨vs, hv⟩)]
    exact Mu.ice_old (hx.mono.frz _ _ (hz _ _ hv))
  have hle : μ.le (μ.thaw μ' w w') := ⟨fun _ _ h => h, hmono⟩
  refine ⟨⟨hg'.below, hg.clean, hg.fresh, fun b k hb => ?_, fun c vs hc => ?_, fun b k hb => ?_, fun b k o hb ho => ?_, hg.inj⟩, ⟨hle, fun k hk _ => hf k hk, fun _ _ h => .inl h, hx.size, Nat.le_refl _, fun _ _ _ => rfl, fun _ _ h => .inl h, hnew⟩⟩
  · have := hg.own b k hb; have := hx.size; omega
  · have hc' : @ite _ ((∃ vs, μ.z c = some vs) ∨ w.heap.size ≤ c) (Classical.propDecidable _) (μ'.ice w' c) none = some vs := hc
    split at hc'
    · rcases Mu.ice_inv hc' with h1 | ⟨_, h1⟩
      · exact hg'.frz c vs h1
      · exact h1
    · cases hc'
  · cases hq : (μ.thaw μ' w w').z k.c with
    | none => rfl
    | some vs =>
      have hb' : μ b = some k := hb
      rcases hnew _ _ hq with h1 | h1
      · rw [hg.apart b k hb'] at h1; cases h1
      · have := (hg.own b k hb').2; omega
  · have hb' : μ b = some k := hb
    rw [hf _ (hg.own b k hb').2]
    exact ObjR.mono hle (hg.obj b k o hb' ho)

theorem VR.bare_of (hz : ∀ c vs, μ.z c = some vs → μ'.z c = some vs) {x : AV} {v : Value} (hv : VR w0 μ x v) (hp : x.pure = true) : VR w0 μ' x v := by
  have hsome : ∀ g, (μ.z g).isSome = true → (μ'.z g).isSome = true := fun g hg => by
    obtain ⟨zs, h1⟩ := Option.isSome_iff_exists.1 hg; rw [hz _ _ h1]; rfl
  have hcell : ∀ g i v, μ.cell g i = some v → μ'.cell g i = some v := fun g i v hc => by
    unfold Mu.cell at hc ⊢
    obtain ⟨zs, h1, h2⟩ := Option.bind_eq_some_iff.1 hc
    rw [hz _ _ h1]; exact h2
  induction hv with
  | undef v => exact .undef v
  | bool b => exact .bool b
  | int k n => exact .int k n
  | str s => exact .str s
  | nilp => exact .nilp
  | ptr b off k hk => cases hp
  | iptr cs off g o vs hg hl hv hr ih => exact .iptr cs off g o vs trivial hl (fun i v h => hcell _ _ _ (hv i v h)) (fun i x v hx hv => ih i x v hx hv (AV.pureL_get hp hx))
  | nils => exact .nils
  | slice b off len sz cap a k hk hc ha => cases hp
  | islice cs off len sz cap a g o vs hg hl hv hr hc ha ih => exact .islice cs off len sz cap a g o vs trivial hl (fun i v h => hcell _ _ _ (hv i v h)) (fun i x v hx hv => ih i x v hx hv (AV.pureL_get hp hx)) hc ha
  | nilm => exact .nilm
  | map b k hk => cases hp
  | nilf => exact .nilf
  | func f xs ys us vs h1 h2 r1 r2 ih1 ih2 =>
    simp only [AV.pure, Bool.and_eq_true] at hp
    exact .func f xs ys us vs h1 h2 (fun i x v hx hv => ih1 i x v hx hv (AV.pureL_get hp.1 hx)) (fun i x v hx hv => ih2 i x v hx hv (AV.pureL_get hp.2 hx))
  | nili => exact .nili
  | iface t x v h ih => exact .iface t x v (ih hp)
  | agg cs vs hl hr ih => exact .agg cs vs hl (fun i x v hx hv => ih i x v hx hv (AV.pureL_get hp hx))
  | tuple cs vs hl hr ih => exact .tuple cs vs hl (fun i x v hx hv => ih i x v hx hv (AV.pureL_get hp hx))

theorem thaw_vr {old : Bool} {ν : Mu} (hν : ν.m = fun _ => none) (hg' : Good w0 μ' h' w') (hx : Ext ν Heap.empty w μ' h' w') (hz : old = true → ∀ c vs, ν.z c = some vs → μ.z c = some vs) {x y : AV} (hf : Fz old h' x y) {v : Value} (hv : VR w0 μ' x v) :
    VR w0 (μ.thaw μ' w w') y v := by
  have key : ∀ c vs, μ'.ice w' c = some vs → ((∃ vs, μ.z c = some vs) ∨ w.heap.size ≤ c) → (μ.thaw μ' w w').z c = some vs := by
    intro c vs hi hor
    show @ite _ ((∃ vs, μ.z c = some vs) ∨ w.heap.size ≤ c) (Classical.propDecidable _) (μ'.ice w' c) none = some vs
    rw [if_pos hor]; exact hi
  refine vr_freeze hg' (ν := μ.thaw μ' w w') (fun b k hb vs hi => key _ _ hi (.inr ?_)) (fun ho c vs hc => key _ _ (Mu.ice_old hc) ?_) hf v hv
  · rcases hx.new b k hb with h1 | h1 | ⟨b0, k0, h1, _⟩
    · rw [hν] at h1; cases h1
    · exact h1
    · rw [hν] at h1; cases h1
  · rcases hx.iced c vs hc with h1 | h1
    · exact .inl ⟨vs, hz ho _ _ h1⟩
    · exact .inr h1

/-- A FUNCTION OF DATA THAT NEVER CHANGES: called from an empty heap, its answer frozen; the caller's heap stays as it was. -/
theorem Sem.frozen {f : FuncId} {args : List AV} {K0 K : Out → Heap → Bool} (hs : Sem P f args Heap.empty K0) (hp : AV.pureL args = true)
    (hk : ∀ o h', K0 o h' = true → ∃ v r, o = .ret v ∧ Fz true h' v r ∧ K (.ret r) h = true) : Sem P f args h K := by
  refine ⟨hs.1, fun w0 μ w vs hg hv => ?_⟩
  have hv0 : VRL w0 μ.bare args vs := ⟨hv.len, fun i x v hx hv' => VR.bare_of (μ := μ) (μ' := μ.bare) (fun _ _ h => h) (hv.rel i x v hx hv') (AV.pureL_get hp hx)⟩
  refine (hs.2 w0 μ.bare w vs hg.nothing hv0).mono fun e w' hr => ?_
  cases e with
  | returned vc =>
    obtain ⟨v, h', μ', k1, k2, k3, k4⟩ := hr
    obtain ⟨v', r, he, hf, hK⟩ := hk _ _ k1
    cases he
    obtain ⟨g1, g2⟩ := thaw_good rfl hg k3 k4 (fun _ _ h => h)
    exact ⟨r, h, _, hK, thaw_vr (μ := μ) rfl k3 k4 (fun _ _ _ h => h) hf k2, g1, g2⟩
  | panicked c =>
    obtain ⟨v, vc, h', μ', k1, _⟩ := hr
    obtain ⟨v', r, he, _⟩ := hk _ _ k1
    cases he
  | outgrown => exact hr.elim

theorem Good.lend (hg : Good w0 μ h w) : Good w0 ⟨fun _ => none, μ.ice w⟩ Heap.empty w :=
  ⟨hg.below, Heap.clean_empty, by simp, by simp, fun c vs hc => by
    rcases Mu.ice_inv hc with h1 | ⟨_, h1⟩
    · exact hg.frz c vs h1
    · exact h1, by simp, by simp, by simp⟩

/-- A FUNCTION THAT READS THE CALLER's BLOCKS: they are frozen while it runs; its answer is new. -/
theorem Sem.lent {f : FuncId} {args args' : List AV} {K0 K : Out → Heap → Bool} (hs : Sem P f args' Heap.empty K0) (hp : FzL true h args args')
    (hk : ∀ o h', K0 o h' = true → ∃ v r, o = .ret v ∧ Fz false h' v r ∧ K (.ret r) h = true) : Sem P f args h K := by
  refine ⟨hs.1, fun w0 μ w vs hg hv => ?_⟩
  have hv0 : VRL w0 ⟨fun _ => none, μ.ice w⟩ args' vs := by
    refine ⟨by rw [← hp.len]; exact hv.len, fun i y v hy hv' => ?_⟩
    have hi : i < args'.length := (List.getElem?_eq_some_iff.1 hy).1
    have hx : args[i]? = some (args[i]'(by rw [hp.len]; exact hi)) := List.getElem?_eq_getElem _
    exact vr_freeze hg (ν := ⟨fun _ => none, μ.ice w⟩) (fun _ _ _ _ h => h) (fun _ c vs h => Mu.ice_old h) (hp.rel i _ y hx hy) v (hv.rel i _ v hx hv')
  refine (hs.2 w0 _ w vs hg.lend hv0).mono fun e w' hr => ?_
  cases e with
  | returned vc =>
    obtain ⟨v, h', μ', k1, k2, k3, k4⟩ := hr
    obtain ⟨v', r, he, hf, hK⟩ := hk _ _ k1
    cases he
    obtain ⟨g1, g2⟩ := thaw_good rfl hg k3 k4 (fun c vs h => Mu.ice_old h)
    exact ⟨r, h, _, hK, thaw_vr (μ := μ) rfl k3 k4 (fun h => by cases h) hf k2, g1, g2⟩
  | panicked c =>
    obtain ⟨v, vc, h', μ', k1, _⟩ := hr
    obtain ⟨v', r, he, _⟩ := hk _ _ k1
    cases he
  | outgrown => exact hr.elim
end
end
end Go.AM
