/- Blocks numbered anew: a closed call's answer, what is live of it alone. Conditions: none. -/
import Derived.Test.YthmbnnjimbjplaaGreatDoorAmClosed
set_option linter.unusedVariables false
set_option linter.unusedSimpArgs false
namespace Go.AM
open Go Go.RowKit

mutual
def AV.ren (ρ : Nat → Nat) : AV → AV
  | .undef => .undef
  | .bool b => .bool b
  | .int k n => .int k n
  | .str s => .str s
  | .nilp => .nilp
  | .ptr b i => .ptr (ρ b) i
  | .iptr a i => .iptr (AV.renL ρ a) i
  | .nils => .nils
  | .slice b i l s => .slice (ρ b) i l s
  | .islice a i l s => .islice (AV.renL ρ a) i l s
  | .nilm => .nilm
  | .map a => .map (ρ a)
  | .nilf => .nilf
  | .func f a b => .func f (AV.renL ρ a) (AV.renL ρ b)
  | .nili => .nili
  | .iface t a => .iface t (AV.ren ρ a)
  | .agg a => .agg (AV.renL ρ a)
  | .tuple a => .tuple (AV.renL ρ a)
def AV.renL (ρ : Nat → Nat) : List AV → List AV
  | [] => []
  | a :: as => AV.ren ρ a :: AV.renL ρ as
end
theorem AV.renL_get (ρ : Nat → Nat) : ∀ (l : List AV) (i : Nat), (AV.renL ρ l)[i]? = (l[i]?).map (AV.ren ρ)
  | [], i => by simp [AV.renL]
  | a :: l, 0 => by simp [AV.renL]
  | a :: l, i + 1 => by simp [AV.renL, AV.renL_get ρ l i]
theorem AV.renL_length (ρ : Nat → Nat) : ∀ (l : List AV), (AV.renL ρ l).length = l.length
  | [] => rfl
  | a :: l => by simp [AV.renL, AV.renL_length ρ l]
def entsRen (ρ : Nat → Nat) : List Entry → List Entry
  | [] => []
  | e :: es => (AV.ren ρ e.1, AV.ren ρ e.2.1, e.2.2) :: entsRen ρ es
theorem entsRen_get (ρ : Nat → Nat) : ∀ (l : List Entry) (i : Nat), (entsRen ρ l)[i]? = (l[i]?).map fun e => (AV.ren ρ e.1, AV.ren ρ e.2.1, e.2.2)
  | [], i => by simp [entsRen]
  | a :: l, 0 => by simp [entsRen]
  | a :: l, i + 1 => by simp [entsRen, entsRen_get ρ l i]
theorem entsRen_length (ρ : Nat → Nat) : ∀ (l : List Entry), (entsRen ρ l).length = l.length
  | [] => rfl
  | a :: l => by simp [entsRen, entsRen_length ρ l]
def AObj.ren (ρ : Nat → Nat) : AObj → AObj
  | .dead => .dead
  | .cells cs => .cells (AV.renL ρ cs)
  | .map es c => .map (entsRen ρ es) c
  | .siter s p => .siter s p
  | .miter m s l k => .miter (m.map ρ) s l k
  | .box x => .box (AV.ren ρ x)

def Mu.ren (μ : Mu) (ρ : Nat → Nat) : Mu := ⟨fun b => μ (ρ b), μ.z⟩

section
variable {w0 : World} {μ : Mu} {ρ : Nat → Nat}

theorem renL_rel {cs cs0 : List AV} {vs : List Value} (e : AV.renL ρ cs0 = cs) (ih : ∀ (i : Nat) (x : AV) (v : Value), cs[i]? = some x → vs[i]? = some v → ∀ x0, AV.ren ρ x0 = x → VR w0 (μ.ren ρ) x0 v) :
    ∀ (i : Nat) (x : AV) (v : Value), cs0[i]? = some x → vs[i]? = some v → VR w0 (μ.ren ρ) x v := by
  intro i x v hx hv
  refine ih i (AV.ren ρ x) v ?_ hv x rfl
  rw [← e, AV.renL_get, hx]; rfl
theorem renL_len {cs cs0 : List AV} {n : Nat} (e : AV.renL ρ cs0 = cs) (h : cs.length = n) : cs0.length = n := by rw [← h, ← e, AV.renL_length]

theorem VR.ren {y : AV} {v : Value} (h : VR w0 μ y v) : ∀ x, AV.ren ρ x = y → VR w0 (μ.ren ρ) x v := by
  induction h with
  | undef v => intro x e; cases x <;> simp only [AV.ren, reduceCtorEq] at e; exact .undef v
  | bool b => intro x e; cases x <;> simp only [AV.ren, reduceCtorEq, AV.bool.injEq] at e; subst e; exact .bool _
  | int k n => intro x e; cases x <;> simp only [AV.ren, reduceCtorEq, AV.int.injEq] at e; obtain ⟨rfl, rfl⟩ := e; exact .int _ _
  | str s => intro x e; cases x <;> simp only [AV.ren, reduceCtorEq, AV.str.injEq] at e; subst e; exact .str s
  | nilp => intro x e; cases x <;> simp only [AV.ren, reduceCtorEq] at e; exact .nilp
  | ptr b off k hk => intro x e; cases x <;> simp only [AV.ren, reduceCtorEq, AV.ptr.injEq] at e; obtain ⟨rfl, rfl⟩ := e; exact .ptr _ _ k hk
  | iptr cs off g o vs hg hl hv hr ih =>
    intro x e; cases x <;> simp only [AV.ren, reduceCtorEq, AV.iptr.injEq] at e
    obtain ⟨e, rfl⟩ := e
    exact .iptr _ _ g o vs hg (renL_len e hl) hv (renL_rel e ih)
  | nils => intro x e; cases x <;> simp only [AV.ren, reduceCtorEq] at e; exact .nils
  | slice b off len sz cap a k hk hc ha => intro x e; cases x <;> simp only [AV.ren, reduceCtorEq, AV.slice.injEq] at e; obtain ⟨rfl, rfl, rfl, rfl⟩ := e; exact .slice _ _ _ _ cap a k hk hc ha
  | islice cs off len sz cap a g o vs hg hl hv hr hc ha ih =>
    intro x e; cases x <;> simp only [AV.ren, reduceCtorEq, AV.islice.injEq] at e
    obtain ⟨e, rfl, rfl, rfl⟩ := e
    exact .islice _ _ _ _ cap a g o vs hg (renL_len e hl) hv (renL_rel e ih) hc ha
  | nilm => intro x e; cases x <;> simp only [AV.ren, reduceCtorEq] at e; exact .nilm
  | map b k hk => intro x e; cases x <;> simp only [AV.ren, reduceCtorEq, AV.map.injEq] at e; subst e; exact .map _ k hk
  | nilf => intro x e; cases x <;> simp only [AV.ren, reduceCtorEq] at e; exact .nilf
  | func f xs ys us vs h1 h2 r1 r2 ih1 ih2 =>
    intro x e; cases x <;> simp only [AV.ren, reduceCtorEq, AV.func.injEq] at e
    obtain ⟨rfl, e1, e2⟩ := e
    exact .func _ _ _ us vs (renL_len e1 h1) (renL_len e2 h2) (renL_rel e1 ih1) (renL_rel e2 ih2)
  | nili => intro x e; cases x <;> simp only [AV.ren, reduceCtorEq] at e; exact .nili
  | iface t x v h ih =>
    intro x e; cases x <;> simp only [AV.ren, reduceCtorEq, AV.iface.injEq] at e
    obtain ⟨rfl, e⟩ := e
    exact .iface _ _ v (ih _ e)
  | agg cs vs hl hr ih =>
    intro x e; cases x <;> simp only [AV.ren, reduceCtorEq, AV.agg.injEq] at e
    exact .agg _ vs (renL_len e hl) (renL_rel e ih)
  | tuple cs vs hl hr ih =>
    intro x e; cases x <;> simp only [AV.ren, reduceCtorEq, AV.tuple.injEq] at e
    exact .tuple _ vs (renL_len e hl) (renL_rel e ih)

theorem ObjR.ren {o : AObj} {k : Blk} {ob : Option Obj} (h : ObjR w0 μ (o.ren ρ) k ob) : ObjR w0 (μ.ren ρ) o k ob := by
  cases o with
  | dead => trivial
  | cells cs =>
    obtain ⟨vs, e, fr, h1, h2, h3, h4, h5⟩ := h
    refine ⟨vs, e, fr, h1, h2, by rw [AV.renL_length] at h3; exact h3, h4, fun i x hx => ?_⟩
    obtain ⟨v, a, b⟩ := h5 i (AV.ren ρ x) (by rw [AV.renL_get, hx]; rfl)
    exact ⟨v, a, b.ren x rfl⟩
  | map es ck =>
    obtain ⟨ces, h1, h2, h3⟩ := h
    refine ⟨ces, h1, by rw [entsRen_length] at h2; exact h2, fun i k v n hx => ?_⟩
    obtain ⟨e, a, b, c, d⟩ := h3 i (AV.ren ρ k) (AV.ren ρ v) n (by rw [entsRen_get, hx]; rfl)
    exact ⟨e, a, b.ren k rfl, c.ren v rfl, d⟩
  | siter s pos => exact h
  | miter m since seen st =>
    obtain ⟨h0, r, h1, h2⟩ := h
    refine ⟨h0, r, h1, ?_⟩
    cases m with
    | none => exact h2
    | some b => exact h2
  | box x =>
    obtain ⟨h0, v, e, h1, h2⟩ := h
    exact ⟨h0, v, e, h1, h2.ren x rfl⟩
end

mutual
theorem AV.beq_refl : ∀ x : AV, AV.beq x x = true
  | .undef => rfl
  | .bool a => by simp [AV.beq]
  | .int k a => by simp [AV.beq]
  | .str a => by simp [AV.beq]
  | .nilp => rfl
  | .ptr a i => by simp [AV.beq]
  | .iptr a i => by simp [AV.beq, AV.beqL_refl a]
  | .nils => rfl
  | .slice b i l s => by simp [AV.beq]
  | .islice a i l s => by simp [AV.beq, AV.beqL_refl a]
  | .nilm => rfl
  | .map a => by simp [AV.beq]
  | .nilf => rfl
  | .func f a b => by simp [AV.beq, AV.beqL_refl a, AV.beqL_refl b]
  | .nili => rfl
  | .iface t v => by simp [AV.beq, AV.beq_refl v]
  | .agg a => by simp [AV.beq, AV.beqL_refl a]
  | .tuple a => by simp [AV.beq, AV.beqL_refl a]
theorem AV.beqL_refl : ∀ x : List AV, AV.beqL x x = true
  | [] => rfl
  | a :: l => by simp [AV.beqL, AV.beq_refl a, AV.beqL_refl l]
end
theorem nat_beq_refl : ∀ n : Nat, Nat.beq n n = true
  | 0 => rfl
  | n + 1 => nat_beq_refl n
theorem entsBeq_refl : ∀ l : List Entry, entsBeq l l = true
  | [] => rfl
  | e :: l => by simp [entsBeq, AV.beq_refl, nat_beq_refl, entsBeq_refl l]
theorem AObj.beq_refl (a : AObj) : AObj.beq a a = true := by
  cases a <;> simp [AObj.beq, AV.beqL_refl, AV.beq_refl, entsBeq_refl, nat_beq_refl]

/-- The numbers that were: below base the same, from there on those listed. -/
def renF (base : Nat) (rs : List Nat) (out b : Nat) : Nat := bif Nat.ble base b then rs.getD (b - base) out else b
def geAll (base : Nat) : List Nat → Bool
  | [] => true
  | r :: rs => Nat.ble base r && geAll base rs
def notIn (x : Nat) : List Nat → Bool
  | [] => true
  | r :: rs => !(Nat.beq x r) && notIn x rs
def distinctB : List Nat → Bool
  | [] => true
  | r :: rs => notIn r rs && distinctB rs
/-- What h1 holds alive among the first n blocks, h holds under the numbers that were. -/
def liveRen (ρ : Nat → Nat) (h1 h : Heap) : Nat → Bool
  | 0 => true
  | n + 1 => (match h1.get n with
    | some .dead => true
    | none => true
    | some o => optBeq (some (o.ren ρ)) (h.get (ρ n))) && liveRen ρ h1 h n
/-- What is among the first n blocks as it was, h1 holds as it was. -/
def keptTo (hA h1 h : Heap) : Nat → Bool
  | 0 => true
  | n + 1 => (bif optBeq (h.get n) (hA.get n) then optBeq (h1.get n) (hA.get n) else true) && keptTo hA h1 h n
def stageRK (rs : List Nat) (v1 : AV) (h1 hA : Heap) : Out → Heap → Bool
  | .ret v, h => AV.beq v (AV.ren (renF hA.next rs h.next) v1) && (Nat.beq h1.next (hA.next + rs.length) && (keptTo hA h1 h hA.next && (geAll hA.next rs && (distinctB rs && liveRen (renF hA.next rs h.next) h1 h h1.next))))
  | _, _ => false
theorem keptTo_spec {hA h1 h : Heap} : ∀ {n : Nat}, keptTo hA h1 h n = true → ∀ b, b < n → h.get b = hA.get b → h1.get b = hA.get b
  | 0, _, b, hb, _ => by omega
  | n + 1, hs, b, hb, he => by
    simp only [keptTo, Bool.and_eq_true] at hs
    by_cases e : b = n
    · subst e
      cases hq : optBeq (h.get b) (hA.get b) with
      | true => rw [hq] at hs; exact optBeq_eq hs.1
      | false =>
        rw [he] at hq
        have rf : ∀ o : Option AObj, optBeq o o = true := by
          intro o
          have : ∀ a : AObj, AObj.beq a a = true := AObj.beq_refl
          cases o with
          | none => rfl
          | some a => exact this a
        rw [rf] at hq; cases hq
    · exact keptTo_spec hs.2 b (by omega) he

theorem liveRen_spec {ρ : Nat → Nat} {h1 h : Heap} : ∀ {n : Nat}, liveRen ρ h1 h n = true → ∀ b o, b < n → h1.get b = some o → o ≠ .dead → h.get (ρ b) = some (o.ren ρ)
  | 0, _, b, o, hb, _, _ => by omega
  | n + 1, hs, b, o, hb, ho, hd => by
    simp only [liveRen, Bool.and_eq_true] at hs
    by_cases e : b = n
    · subst e
      rw [ho] at hs
      cases o <;> first | exact absurd rfl hd | exact (optBeq_eq hs.1).symm
    · exact liveRen_spec hs.2 b o (by omega) ho hd
theorem geAll_spec {base : Nat} : ∀ {rs : List Nat}, geAll base rs = true → ∀ (i r : Nat), rs[i]? = some r → base ≤ r
  | [], _, i, r, h => by simp at h
  | x :: rs, hs, i, r, h => by
    simp only [geAll, Bool.and_eq_true] at hs
    cases i with
    | zero => simp at h; subst h; exact Nat.le_of_ble_eq_true hs.1
    | succ i => exact geAll_spec hs.2 i r (by simpa using h)
theorem notIn_spec {x : Nat} : ∀ {rs : List Nat}, notIn x rs = true → ∀ (i r : Nat), rs[i]? = some r → x ≠ r
  | [], _, i, r, h => by simp at h
  | y :: rs, hs, i, r, h => by
    simp only [notIn, Bool.and_eq_true, Bool.not_eq_true'] at hs
    cases i with
    | zero => simp at h; subst h; exact Nat.ne_of_beq_eq_false hs.1
    | succ i => exact notIn_spec hs.2 i r (by simpa using h)
theorem distinctB_spec : ∀ {rs : List Nat}, distinctB rs = true → ∀ (i j r : Nat), rs[i]? = some r → rs[j]? = some r → i = j
  | [], _, i, j, r, h, _ => by simp at h
  | x :: rs, hs, i, j, r, h, k => by
    simp only [distinctB, Bool.and_eq_true] at hs
    cases i with
    | zero =>
      cases j with
      | zero => rfl
      | succ j => simp at h; subst h; exact absurd rfl (notIn_spec hs.1 j _ (by simpa using k))
    | succ i =>
      cases j with
      | zero => simp at k; subst k; exact absurd rfl (notIn_spec hs.1 i _ (by simpa using h))
      | succ j => rw [distinctB_spec hs.2 i j r (by simpa using h) (by simpa using k)]

theorem renF_cases (base : Nat) (rs : List Nat) (out b : Nat) : (b < base ∧ renF base rs out b = b) ∨ (base ≤ b ∧ b - base < rs.length ∧ ∃ r, rs[b - base]? = some r ∧ renF base rs out b = r) ∨ (base + rs.length ≤ b ∧ renF base rs out b = out) := by
  unfold renF
  cases h : Nat.ble base b with
  | false =>
    refine .inl ⟨?_, rfl⟩
    have : ¬ base ≤ b := fun q => by rw [Nat.ble_eq_true_of_le q] at h; cases h
    omega
  | true =>
    have hb := Nat.le_of_ble_eq_true h
    simp only [cond_true]
    rw [List.getD_eq_getElem?_getD]
    by_cases hl : b - base < rs.length
    · refine .inr (.inl ⟨hb, hl, rs[b - base], List.getElem?_eq_getElem hl, ?_⟩)
      rw [List.getElem?_eq_getElem hl]; rfl
    · refine .inr (.inr ⟨by omega, ?_⟩)
      rw [List.getElem?_eq_none (by omega)]; rfl

theorem stageR_sound {P : Program} {call : CallF} (hs : CallSound P call) {f : FuncId} {a0 : List AV} {lA l1 : List AObj} {rs : List Nat} {v1 : AV} (he : call f a0 (Heap.ofList lA) (stageRK rs v1 (Heap.ofList l1) (Heap.ofList lA)) = true)
    (args : List AV) (h : Heap) (K : Out → Heap → Bool) (hK : stageP a0 (Heap.ofList lA) v1 (Heap.ofList l1) args h K = true) :
    Enters P f ∧ ∀ (w0 : World) (μ : Mu) (w : World) (vs : List Value), Good w0 μ h w → VRL w0 μ args vs → Calls P f vs.toArray w (OutR w0 μ h w K) := by
  obtain ⟨hen, hc⟩ := hs _ _ _ _ he
  refine ⟨hen, fun w0 μ w vs hg hv => ?_⟩
  simp only [stageP, sameH, Bool.and_eq_true] at hK
  obtain ⟨e1, ⟨e2, e3⟩, e4⟩ := hK
  obtain rfl := AV.beqL_eq _ _ e1
  have hn := Nat.eq_of_beq_eq_true e2
  have hsame := sameTo_spec e3
  have hgA : Good w0 μ (Heap.ofList lA) w := hg.weaken hn.symm (Heap.clean_ofList _) fun b o ho _ => by
    by_cases hb : b < h.next
    · rw [hsame b hb]; exact ho
    · rw [Heap.clean_ofList lA b (by omega)] at ho; cases ho
  refine Calls.mono (hc w0 _ w vs hgA hv) fun e w' hR => ?_
  cases e with
  | returned vc =>
    obtain ⟨v, h', μ', k1, k2, k3, k4⟩ := hR
    simp only [stageRK, Bool.and_eq_true] at k1
    obtain ⟨q1, q2, q3, q4, q5, q6⟩ := k1
    have hv1 := AV.beq_eq _ _ q1
    have hn1 := Nat.eq_of_beq_eq_true q2
    have hs1 := keptTo_spec q3
    have hge := geAll_spec q4
    have hdi := distinctB_spec q5
    have hl1 := liveRen_spec q6
    rw [← hn] at hn1 hge hl1 hv1
    have hρ0 := renF_cases h.next rs h'.next
    generalize renF h.next rs h'.next = ρ at hv1 hl1 hρ0
    have hρ : ∀ b, (b < h.next ∧ ρ b = b) ∨ (h.next ≤ b ∧ b - h.next < rs.length ∧ ∃ r, rs[b - h.next]? = some r ∧ ρ b = r) ∨ (h.next + rs.length ≤ b ∧ ρ b = h'.next) := hρ0
    clear hρ0
    have hout : ∀ k, μ' h'.next ≠ some k := k3.not_next
    have hnx : h.next ≤ h'.next := by rw [hn]; exact k4.next
    have hlive : ∀ b o, (Heap.ofList l1).get b = some o → o ≠ .dead → b < (Heap.ofList l1).next ∧ h'.get (ρ b) = some (o.ren ρ) := fun b o ho hd => by
      have hb : b < (Heap.ofList l1).next := by
        refine Nat.lt_of_not_le fun q => ?_
        rw [Heap.clean_ofList l1 b q] at ho; cases ho
      exact ⟨hb, hl1 b o hb ho hd⟩
    refine ⟨v1, Heap.ofList l1, μ'.ren ρ, e4, k2.ren _ hv1.symm, ?_, ?_⟩
    · refine ⟨k3.below, Heap.clean_ofList _, fun b k hb => ?_, fun b k hb => k3.own _ k hb, k3.frz, fun b k hb => k3.apart _ k hb, fun b k o hb ho => ?_, fun b1 b2 ka kb o1 o2 a1 a2 g1 g2 n1 n2 hce => ?_⟩
      · rcases hρ b with ⟨h1, _⟩ | ⟨h1, h2, _⟩ | ⟨h1, h2⟩
        · omega
        · omega
        · have hb' : μ' (ρ b) = some k := hb
          rw [h2] at hb'
          exact absurd hb' (hout k)
      · cases o with
        | dead => trivial
        | _ => exact ObjR.ren (k3.obj _ k _ hb (hlive b _ ho (by simp)).2)
      · obtain ⟨l1', p1⟩ := hlive b1 o1 g1 n1
        obtain ⟨l2', p2⟩ := hlive b2 o2 g2 n2
        have nd : ∀ o : AObj, o ≠ .dead → o.ren ρ ≠ .dead := fun o h => by cases o <;> simp_all [AObj.ren]
        have := k3.inj _ _ ka kb _ _ a1 a2 p1 p2 (nd _ n1) (nd _ n2) hce
        rcases hρ b1 with ⟨h1, r1⟩ | ⟨h1, h2, r, h3, r1⟩ | ⟨h1, r1⟩
        · rcases hρ b2 with ⟨h4, r2⟩ | ⟨h4, h5, r', h6, r2⟩ | ⟨h4, r2⟩
          · have : b1 = b2 := by rw [← r1, ← r2]; exact this
            exact this
          · have e : b1 = r' := by rw [← r1, ← r2]; exact this
            have := hge _ _ h6; omega
          · omega
        · rcases hρ b2 with ⟨h4, r2⟩ | ⟨h4, h5, r', h6, r2⟩ | ⟨h4, r2⟩
          · have e : r = b2 := by rw [← r1, ← r2]; exact this
            have := hge _ _ h3; omega
          · have e : r = r' := by rw [← r1, ← r2]; exact this
            subst e
            have := hdi _ _ _ h3 h6; omega
          · omega
        · omega
    · refine ⟨⟨fun b k hb => ?_, k4.mono.frz⟩, k4.frame, fun b k hb => ?_, k4.size, by omega, fun b hb hu => ?_, fun b k hb => ?_, k4.iced⟩
      · have hb' := hg.fresh b k hb
        have e : ρ b = b := by
          rcases hρ b with ⟨_, r1⟩ | ⟨h1, _⟩ | ⟨h1, _⟩
          · exact r1
          · omega
          · omega
        show μ' (ρ b) = some k
        rw [e]; exact k4.mono.own _ _ hb
      · rcases k4.new (ρ b) k hb with q | q | q
        · exact .inr (.inr ⟨ρ b, k, q, rfl⟩)
        · exact .inr (.inl q)
        · exact .inr (.inr q)
      · rw [hs1 b (by omega) (k4.keep b (by omega) hu), hsame b hb]
      · rcases hρ b with ⟨h1, r1⟩ | ⟨h1, _⟩ | ⟨h1, _⟩
        · have hb' : μ' b = some k := by rw [← r1]; exact hb
          rcases k4.fresh b k hb' with q | q
          · exact .inl q
          · exact .inr (by omega)
        · exact .inr h1
        · exact .inr (by omega)
  | panicked c =>
    obtain ⟨v, vc, h', μ', k1, _⟩ := hR
    cases k1
  | outgrown => exact hR.elim
end Go.AM

namespace Go.AM
/-- One contract or the other. -/
def orP (g1 g2 : List AV → Heap → (Out → Heap → Bool) → Bool) : List AV → Heap → (Out → Heap → Bool) → Bool := fun args h K => g1 args h K || g2 args h K
end Go.AM
namespace Go.AM
theorem orP_eq {g1 g2 : List AV → Heap → (Out → Heap → Bool) → Bool} {args : List AV} {h : Heap} {K : Out → Heap → Bool} (hK : orP g1 g2 args h K = true) : g1 args h K = true ∨ g2 args h K = true := by
  simpa [orP] using hK
end Go.AM
