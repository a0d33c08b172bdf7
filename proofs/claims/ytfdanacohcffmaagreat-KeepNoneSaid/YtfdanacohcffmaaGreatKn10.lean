/- Parts of the proof. Conditions: none. -/
import Derived.Test.YtfdanacohcffmaaGreatKn9
set_option linter.unusedVariables false
namespace Go.AM
open Go Go.RowKit
noncomputable section
variable {K : AX → St → Bool} {defs : List ADef} {α : Type} {n : Nat}
def bindO2 (o : Option (AV × Heap)) (f : AV → Heap → Bool) : Bool := bindO o fun p => f p.1 p.2
def outK (r p : AV → Heap → Bool) : Out → Heap → Bool
  | .ret v, h => r v h
  | .panic v, h => p v h
def resK (ok : AV → Heap → Bool) (pn : AV → Heap → Bool) : R → Bool
  | .ok v _ h => ok v h
  | .panic v h => pn v h
def callV (x : AV) (f : FuncId → List AV → List AV → Bool) : Bool :=
  match x with
  | .func g a b => f g a b
  | _ => false
def codeOf (fn : Func) : Code := match fn.body with | some c => c | none => .skip
def partOf : Code → List Nat → Code
  | c, [] => c
  | .seq a b, n :: ns => match n with | 0 => partOf a ns | _ => partOf b ns
  | .cond _ a b, n :: ns => match n with | 0 => partOf a ns | _ => partOf b ns
  | .block _ c, _ :: ns => partOf c ns
  | .loop c, _ :: ns => partOf c ns
  | c, _ => c
theorem eq_via {a b : α} (h : a = b) : a = b := by subst h; exact Eq.refl a
@[simp] theorem bindO_some {α : Type} (a : α) (f : α → Bool) : bindO (some a) f = f a := eq_via rfl
@[simp] theorem bindO_none {α : Type} (f : α → Bool) : bindO none f = false := rfl
@[simp] theorem bindO2_some (v : AV) (h : Heap) (f : AV → Heap → Bool) : bindO2 (some (v, h)) f = f v h := eq_via rfl
@[simp] theorem outK_ret (r p : AV → Heap → Bool) (v : AV) (h : Heap) : outK r p (.ret v) h = r v h := eq_via rfl
@[simp] theorem outK_panic (r p : AV → Heap → Bool) (v : AV) (h : Heap) : outK r p (.panic v) h = p v h := eq_via rfl
@[simp] theorem callV_func (g : FuncId) (a b : List AV) (f : FuncId → List AV → List AV → Bool) : callV (.func g a b) f = f g a b := eq_via rfl
theorem cond_t (a b : α) : cond true a b = a := eq_via rfl
theorem cond_f (a b : α) : cond false a b = b := eq_via rfl
@[simp] theorem condB_bool (t a b : Bool) : condB (.bool t) a b = bif t then a else b := by cases t <;> rfl
@[congr] theorem bindO_cg {α : Type} {o o' : Option α} {f : α → Bool} (h : o = o') : bindO o f = bindO o' f := by rw [h]
@[congr] theorem bindO2_cg {o o' : Option (AV × Heap)} {f : AV → Heap → Bool} (h : o = o') : bindO2 o f = bindO2 o' f := by rw [h]
@[congr] theorem condB_cg {x x' : AV} {a b : Bool} (h : x = x') : condB x a b = condB x' a b := by rw [h]
@[congr] theorem cond_cg {α : Type} {c c' : Bool} {a b : α} (h : c = c') : cond c a b = cond c' a b := by rw [h]
@[congr] theorem semCall_cg {P : Program} {f : FuncId} {args args' : List AV} {h h' : Heap} {K : Out → Heap → Bool} (e1 : args = args') (e2 : h = h') : semCall P f args h K = semCall P f args' h' K := by rw [e1, e2]
theorem loopB_rule {f : St → (AX → St → Bool) → Bool} {e0 : Env} {h0 : Heap} (I : Nat → Env → Heap → Prop) (m : Nat) (hI : I m e0 h0)
    (step : ∀ m e h, I m e h → f ⟨e, n, defs, h⟩ (loopK (fun m s => s.n = n ∧ s.defs = defs ∧ I m s.env s.h) m K) = true) : loopB f ⟨e0, n, defs, h0⟩ K = true := by
  refine yes_eq.2 ⟨fun m s => s.n = n ∧ s.defs = defs ∧ I m s.env s.h, ⟨m, rfl, rfl, hI⟩, fun m s hs => ?_⟩
  obtain ⟨e, n', d, h⟩ := s
  obtain ⟨h1, h2, h3⟩ := hs
  simp only at h1 h2 h3
  subst h1; subst h2
  exact step m e h h3
theorem loopK_normal {I : Nat → Env → Heap → Prop} {m : Nat} {e : Env} {h : Heap} (m' : Nat) (hm : m' < m) (hI : I m' e h) :
    loopK (fun m s => s.n = n ∧ s.defs = defs ∧ I m s.env s.h) m K .normal ⟨e, n, defs, h⟩ = true := yes_eq.2 ⟨m', hm, rfl, rfl, hI⟩
@[simp] theorem loopK_exit (I : Nat → St → Prop) (m : Nat) (K : AX → St → Bool) (id : Nat) (s : St) : loopK I m K (.exit id) s = K (.exit id) s := rfl
@[simp] theorem loopK_ret (I : Nat → St → Prop) (m : Nat) (K : AX → St → Bool) (s : St) : loopK I m K .ret s = K .ret s := rfl
@[simp] theorem loopK_panic (I : Nat → St → Prop) (m : Nat) (K : AX → St → Bool) (v : AV) (s : St) : loopK I m K (.panic v) s = K (.panic v) s := rfl
theorem loopB_range {f : St → (AX → St → Bool) → Bool} {e0 : Env} {h0 : Heap} (a N : Nat) (ha : a ≤ N) (J : Nat → Env → Heap → Prop) (hJ : J a e0 h0)
    (step : ∀ i e h, a ≤ i → i < N → J i e h → ∀ K' : AX → St → Bool, (∀ e' h', J (i + 1) e' h' → K' .normal ⟨e', n, defs, h'⟩ = true) → (∀ id s, K' (.exit id) s = K (.exit id) s) → (∀ s, K' .ret s = K .ret s) → (∀ v s, K' (.panic v) s = K (.panic v) s) → f ⟨e, n, defs, h⟩ K' = true)
    (done : ∀ e h, J N e h → ∀ K' : AX → St → Bool, (∀ id s, K' (.exit id) s = K (.exit id) s) → f ⟨e, n, defs, h⟩ K' = true) : loopB f ⟨e0, n, defs, h0⟩ K = true := by
  refine loopB_rule (fun m e h => ∃ i, a ≤ i ∧ i ≤ N ∧ m = N - i ∧ J i e h) (N - a) ⟨a, ZrF _, ha, rfl, hJ⟩ fun m e h hi => ?_
  obtain ⟨i, hai, hi, rfl, hj⟩ := hi
  by_cases hlt : i < N
  · exact step i e h hai hlt hj _ (fun e' h' hj' => loopK_normal (I := fun m e h => ∃ i, a ≤ i ∧ i ≤ N ∧ m = N - i ∧ J i e h) (N - (i + 1)) (by omega) ⟨i + 1, by omega, by omega, rfl, hj'⟩) (fun _ _ => rfl) (fun _ => rfl) (fun _ _ => rfl)
  · obtain rfl : i = N := by omega
    exact done e h hj _ (fun _ _ => rfl)
end
end Go.AM
set_option linter.unusedVariables false
set_option linter.unusedSimpArgs false
namespace Go.AM
open Go Go.RowKit
noncomputable section
variable {k : IntKind} {h : Heap} {α : Type} {sz i n b : Nat} {es : List Entry} {cs : List AV} {a : Int} {r : AV}
abbrev Str := List UInt8
abbrev Sl (α : Type) := Option (List α)
def Sl.l {α : Type} (x : Sl α) : List α := x.getD []
@[simp] theorem Sl.l_none {α : Type} : Sl.l (none : Sl α) = [] := rfl
@[simp] theorem Sl.l_some {α : Type} (l : List α) : Sl.l (some l) = l := rfl
def encSl {α : Type} (enc : α → List AV) (sz : Nat) : Sl α → AV
  | none => .nils
  | some l => .islice (l.flatMap enc) 0 l.length sz
def encI (n : Int) : List AV := [.int .i64 n]
def encS (s : Str) : List AV := [.str s]
def encB (b : Bool) : List AV := [.bool b]
theorem len_flatMap {enc : α → List AV} (he : ∀ a, (enc a).length = sz) (l : List α) : (l.flatMap enc).length = l.length * sz := by
  induction l with
  | nil => simp
  | cons a l ih => rw [List.flatMap_cons, List.length_append, ih, he, List.length_cons, Nat.add_mul]; omega
theorem get_flatMap {α : Type} {enc : α → List AV} {sz : Nat} (he : ∀ a, (enc a).length = sz) : ∀ (l : List α) (i k : Nat) (a : α), l[i]? = some a → k < sz → (l.flatMap enc)[i * sz + k]? = (enc a)[k]?
  | [], i, k, a, h, _ => by simp at h
  | b :: l, 0, k, a, h, hk => by
    simp at h; subst h
    rw [List.flatMap_cons, Nat.zero_mul, Nat.zero_add, List.getElem?_append_left (by rw [he]; exact hk)]
  | b :: l, i + 1, k, a, h, hk => by
    rw [List.flatMap_cons, List.getElem?_append_right (by rw [he, Nat.add_mul]; omega), he, ← get_flatMap he l i k a (by simpa using h) hk]
    congr 1
    rw [Nat.add_mul]; omega
theorem part_flatMap {α : Type} {enc : α → List AV} {sz : Nat} (he : ∀ a, (enc a).length = sz) : ∀ (l : List α) (i : Nat) (a : α), l[i]? = some a → ((l.flatMap enc).drop (i * sz)).take sz = enc a
  | [], i, a, h => by simp at h
  | b :: l, 0, a, h => by
    simp at h; subst h
    rw [List.flatMap_cons, Nat.zero_mul, List.drop_zero, List.take_append_of_le_length (by rw [he]; exact ZrF _), ZtL (by rw [he]; exact ZrF _)]
  | b :: l, i + 1, a, h => by
    have hd : List.drop sz (enc b) = [] := List.drop_of_length_le (by rw [he]; exact ZrF _)
    rw [List.flatMap_cons, Nat.add_mul, Nat.one_mul, Nat.add_comm, ← List.drop_drop, List.drop_append_of_le_length (by rw [he]; exact ZrF _), hd, List.nil_append]
    exact part_flatMap he l i a (by simpa using h)
theorem lenS_enc {enc : α → List AV} (x : Sl α) (h : Heap) : lenS .slice (encSl enc sz x) h = some (.int .i64 (x.l.length : Int)) := by
  cases x <;> rfl
theorem iaS_enc {enc : α → List AV} (x : Sl α) (hi : i < x.l.length) : iaS sz (encSl enc sz x) (.int k (i : Int)) = some (.iptr (x.l.flatMap enc) (i * sz)) := by
  cases x with
  | none => simp at hi
  | some l =>
    have hi' : i < l.length := hi
    simp [iaS, encSl, asNat, hi']
theorem load_elem {enc : α → List AV} (he : ∀ a, (enc a).length = sz) {l : List α} {a : α} (ha : l[i]? = some a) {k : Nat} (hk : k < sz) :
    loadS none (.iptr (l.flatMap enc) (i * sz + k)) h = (enc a)[k]? := get_flatMap he l i k a ha hk
theorem load_elem1 {enc : α → List AV} (he : ∀ a, (enc a).length = 1) {l : List α} {a : α} (ha : l[i]? = some a) :
    loadS none (.iptr (l.flatMap enc) (i * 1)) h = (enc a)[0]? := get_flatMap he l i 0 a ha (by omega)
theorem load_agg {enc : α → List AV} (he : ∀ a, (enc a).length = sz) {l : List α} {a : α} (ha : l[i]? = some a) :
    loadS (some sz) (.iptr (l.flatMap enc) (i * sz)) h = some (.agg (enc a)) := by
  have hi : i < l.length := (ZgI.1 ha).1
  have hle : i * sz + sz ≤ (l.flatMap enc).length := by
    rw [len_flatMap he]
    have : (i + 1) * sz ≤ l.length * sz := Nat.mul_le_mul_right _ hi
    rw [Nat.add_mul] at this; omega
  show partS (some sz) _ _ = _
  simp only [partS]
  rw [if_pos hle, part_flatMap he l i a ha]
theorem fa_iptr (n : Nat) (cs : List AV) (o : Nat) : faS n (.iptr cs o) = some (.iptr cs (o + n)) := rfl
theorem fa_ptr (n b o : Nat) : faS n (.ptr b o) = some (.ptr b (o + n)) := rfl
theorem load_ptr {r : Option Nat} {o : Nat} (hb : h.get b = some (.cells cs)) : loadS r (.ptr b o) h = partS r cs o := by simp [loadS, hb]
theorem part_none (cs : List AV) (o : Nat) : partS none cs o = cs[o]? := rfl
theorem get_alloc_same (h : Heap) (o : AObj) : (Heap.alloc h o).get h.next = some o := by rw [Heap.get_alloc, if_pos rfl]
theorem next_empty : Heap.next Heap.empty = 0 := rfl
def frzK (r : AV) : Out → Heap → Bool := fun o h => yes (∃ v, o = .ret v ∧ Fz true h v r)
theorem frzK_ret {v : AV} (hf : Fz true h v r) : frzK r (.ret v) h = true := yes_eq.2 ⟨v, rfl, hf⟩
theorem frzK_same (hp : r.pure = true) : frzK r (.ret r) h = true := frzK_ret (.of_pure hp)
theorem Sem.data {P : Program} {f : FuncId} {args : List AV} (hs : Sem P f args Heap.empty (frzK r)) (hp : AV.pureL args = true) {K : Out → Heap → Bool} (hK : K (.ret r) h = true) : Sem P f args h K :=
  hs.frozen hp fun o h' ho => by
    obtain ⟨v, rfl, hf⟩ := yes_eq.1 ho
    exact ⟨v, r, rfl, hf, hK⟩
theorem pureL_flatMap {enc : α → List AV} (he : ∀ a, AV.pureL (enc a) = true) (l : List α) : AV.pureL (l.flatMap enc) = true := by
  induction l with
  | nil => rfl
  | cons a l ih => rw [List.flatMap_cons]; exact AV.pureL_append (he a) ih
theorem pure_encSl {enc : α → List AV} (he : ∀ a, AV.pureL (enc a) = true) (x : Sl α) : (encSl enc sz x).pure = true := by
  cases x with
  | none => rfl
  | some l => exact pureL_flatMap he l
theorem pure_encI (n : Int) : AV.pureL (encI n) = true := rfl
theorem pure_encS (s : Str) : AV.pureL (encS s) = true := rfl
theorem len_encI (n : Int) : (encI n).length = 1 := rfl
theorem len_encS (s : Str) : (encS s).length = 1 := rfl
theorem add_i64 {b : Int} (h1 : -9223372036854775808 ≤ a + b) (h2 : a + b ≤ 9223372036854775807) : binS .add (.int .i64 a) (.int .i64 b) = some (.int .i64 (a + b)) := by
  simp only [binS, if_true]; rw [IntWalk.i64_in _ (by omega)]
theorem sub_i64 {b : Int} (h1 : -9223372036854775808 ≤ a - b) (h2 : a - b ≤ 9223372036854775807) : binS .sub (.int .i64 a) (.int .i64 b) = some (.int .i64 (a - b)) := by
  simp only [binS, if_true]; rw [IntWalk.i64_in _ (by omega)]
theorem mul_i64 {b : Int} (h1 : -9223372036854775808 ≤ a * b) (h2 : a * b ≤ 9223372036854775807) : binS .mul (.int .i64 a) (.int .i64 b) = some (.int .i64 (a * b)) := by
  simp only [binS, if_true]; rw [IntWalk.i64_in _ ⟨h1, h2⟩]
theorem lss_int (a b : Int) : binS .lss (.int k a) (.int k b) = some (.bool (decide (a < b))) := by simp [binS]
theorem leq_int (a b : Int) : binS .leq (.int k a) (.int k b) = some (.bool (decide (a ≤ b))) := by simp [binS]
theorem gtr_int (a b : Int) : binS .gtr (.int k a) (.int k b) = some (.bool (decide (b < a))) := by simp [binS]
theorem geq_int (a b : Int) : binS .geq (.int k a) (.int k b) = some (.bool (decide (b ≤ a))) := by simp [binS]
theorem eq_int (d : TypeDesc) (a b : Int) : eqV d (.int k a) (.int k b) = some (.bool (a == b)) := by simp [eqV, eqS]
theorem ne_int (d : TypeDesc) (a b : Int) : neV d (.int k a) (.int k b) = some (.bool (!(a == b))) := by simp [neV, eqS]
theorem eq_str (d : TypeDesc) (a b : Str) : eqV d (.str a) (.str b) = some (.bool (a == b)) := by simp [eqV, eqS]
theorem ne_str (d : TypeDesc) (a b : Str) : neV d (.str a) (.str b) = some (.bool (!(a == b))) := by simp [neV, eqS]
theorem eq_bool (a b : Bool) : eqV .bool (.bool a) (.bool b) = some (.bool (a == b)) := by simp [eqV, eqS]
theorem ne_bool (a b : Bool) : neV .bool (.bool a) (.bool b) = some (.bool (!(a == b))) := by simp [neV, eqS]
theorem not_bool (a : Bool) : unS .not (.bool a) = some (.bool (!a)) := rfl
theorem len_str (s : Str) (h : Heap) : lenS .str (.str s) h = some (.int .i64 (s.length : Int)) := rfl
theorem idx_str {s : Str} {b : UInt8} (hb : s[i]? = some b) : strIdxS (.str s) (.int k (i : Int)) = some (.int .u8 (b.toNat : Int)) := by
  simp [strIdxS, asNat, hb]
theorem extract_0 (v : AV) (vs : List AV) : extractS (.tuple (v :: vs)) 0 = some v := rfl
theorem extract_1 (u v : AV) (vs : List AV) : extractS (.tuple (u :: v :: vs)) 1 = some v := rfl
theorem extract_2 (u v w : AV) (vs : List AV) : extractS (.tuple (u :: v :: w :: vs)) 2 = some w := rfl
theorem box_agg (h : oneAll cs = true) : boxS (.agg cs) = some cs := by simp [boxS, AV.cellsL, h]
theorem box_one {x : AV} (h : x.one = true) : boxS x = some [x] := by
  cases x <;> simp_all [boxS, AV.cellsL, oneAll, AV.one]
theorem one_encSl {enc : α → List AV} (x : Sl α) : (encSl enc sz x).one = true := by cases x <;> rfl
theorem store_ptr {o : Nat} {v : AV} (hb : h.get b = some (.cells cs)) (hn : v.cellsL.length = n) (hv : oneAll v.cellsL = true) (hle : o + n ≤ cs.length) : storeS n (.ptr b o) v h = some (h.set b (.cells (putL cs o v.cellsL))) := by
  simp [storeS, hb, hn, hv, hle]
theorem int_beq {b : Int} : (a == b) = decide (a = b) := by
  by_cases h : a = b <;> simp [h]
def big : Nat := 4611686018427387904
theorem add_any (a b : Int) : binS .add (.int k a) (.int k b) = some (.int k (k.wrap (a + b))) := by simp [binS]
theorem succ_i64 (h : i < n) (hn : n ≤ big) : binS .add (.int .i64 (i : Int)) (.int .i64 1) = some (.int .i64 ((i + 1 : Nat) : Int)) := by
  unfold big at hn
  rw [add_i64 (by omega) (by omega)]; rfl
theorem lt_true (h : i < n) : decide ((i : Int) < (n : Int)) = true := by simp; omega
theorem lt_false : decide ((n : Int) < (n : Int)) = false := by simp
structure HExt (h h' : Heap) : Prop where
  next : h.next ≤ h'.next
  get : ∀ b, b < h.next → h'.get b = h.get b
theorem HExt.refl (h : Heap) : HExt h h := ⟨ZrF _, fun _ _ => rfl⟩
theorem HExt.trans {a b c : Heap} (x : HExt a b) (y : HExt b c) : HExt a c := ⟨Nat.le_trans x.next y.next, fun i hi => by rw [y.get i (Nat.lt_of_lt_of_le hi x.next), x.get i hi]⟩
theorem HExt.alloc (h : Heap) (o : AObj) : HExt h (h.alloc o) := ⟨Nat.le_succ _, fun b hb => by rw [Heap.get_alloc, if_neg (by omega)]⟩
theorem HExt.set {h h' : Heap} (x : HExt h h') {b : Nat} (hb : h.next ≤ b) (o : AObj) : HExt h (h'.set b o) := ⟨x.next, fun c hc => by rw [Heap.get_set, if_neg (by omega)]; exact x.get c hc⟩
theorem store_new {zs : List AV} (hz : zs.length = n) (hc : cs.length = n) (ho : oneAll cs = true) :
    ∃ h', storeS n (.ptr h.next 0) (.agg cs) (Heap.alloc h (.cells zs)) = some h' ∧ h'.get h.next = some (.cells cs) ∧ (∀ b, b ≠ h.next → h'.get b = h.get b) ∧ h'.next = h.next + 1 := by
  have hput : ∀ (cs zs pre : List AV), zs.length = cs.length → putL (pre ++ zs) pre.length cs = pre ++ cs := by
    intro cs
    induction cs with
    | nil => intro zs pre hl; have : zs = [] := List.eq_nil_of_length_eq_zero (by simpa using hl); simp [putL, this]
    | cons c cs ih =>
      intro zs pre hl
      cases zs with
      | nil => simp at hl
      | cons z zs =>
        simp only [putL]
        rw [List.set_append_right _ _ (ZrF _)]
        simp only [Nat.sub_self, List.set_cons_zero]
        have := ih zs (pre ++ [c]) (by simpa using hl)
        simpa using this
  refine ⟨(Heap.alloc h (.cells zs)).set h.next (.cells cs), ?_, ?_, fun b hb => ?_, rfl⟩
  · rw [store_ptr (get_alloc_same h _) (by simpa [AV.cellsL] using hc) (by simpa [AV.cellsL] using ho) (by simp [AV.cellsL]; omega)]
    have := hput cs zs [] (by omega)
    simp only [List.nil_append, List.length_nil] at this
    simp [AV.cellsL, this]
  · rw [Heap.get_set, if_pos rfl]
  · rw [Heap.get_set, if_neg hb, Heap.get_alloc, if_neg hb]
abbrev MapL := List (Str × Int)
def MapL.find (m : MapL) (k : Str) : Option Int := (List.find? (fun p => k == p.1) m).map (·.2)
def MapL.upd : MapL → Str → Int → MapL
  | [], k, v => [(k, v)]
  | p :: m, k, v => if k == p.1 then (p.1, v) :: m else p :: MapL.upd m k v
def MapI : List Entry → MapL → Prop
  | [], [] => True
  | e :: es, p :: m => e.1 = .str p.1 ∧ e.2.1 = .int .i64 p.2 ∧ MapI es m
  | _, _ => False
theorem MapI.findA {k : Str} : ∀ {es : List Entry} {m : MapL} (i : Nat), MapI es m → ∃ r, findA .string (.str k) es i = some r ∧ match r with
    | none => m.find k = none
    | some (j, v) => ∃ n q, j = i + n ∧ m.find k = some q ∧ v = .int .i64 q ∧ MapI (setEntry es n v) m ∧ ∀ w, MapI (setEntry es n (.int .i64 w)) (m.upd k w)
  | [], [], i, _ => ⟨none, rfl, rfl⟩
  | e :: es, p :: m, i, ⟨h1, h2, h3⟩ => by
    obtain ⟨ek, ev, en⟩ := e
    simp only at h1 h2
    subst h1; subst h2
    by_cases hk : k = p.1
    · subst hk
      refine ⟨some (i, .int .i64 p.2), by simp [Go.AM.findA, keyEq], 0, p.2, rfl, by simp [MapL.find], rfl, ?_, fun w => ?_⟩
      · simp [setEntry, MapI, h3]
      · simp [setEntry, MapI, MapL.upd, h3]
    · obtain ⟨r, hr, hm⟩ := MapI.findA (k := k) (i + 1) h3
      have hkb : (k == p.1) = false := by simpa using hk
      refine ⟨r, by simp only [Go.AM.findA, keyEq, hkb, hr], ?_⟩
      cases r with
      | none => simpa [MapL.find, hk] using hm
      | some jv =>
        obtain ⟨n, q, a, b, c, d, e⟩ := hm
        refine ⟨n + 1, q, by omega, by simpa [MapL.find, hk] using b, c, ?_, fun w => ?_⟩
        · have := d
          simp only [setEntry, List.getElem?_cons_succ] at this ⊢
          split at this <;> simp_all [MapI]
        · have := e w
          simp only [setEntry, List.getElem?_cons_succ, MapL.upd, hkb] at this ⊢
          split at this <;> simp_all [MapI]
theorem MapI.append {m : MapL} (h : MapI es m) {k : Str} (hk : m.find k = none) (v : Int) (n : Nat) : MapI (es ++ [(.str k, .int .i64 v, n)]) (m.upd k v) := by
  induction es generalizing m with
  | nil => cases m with
    | nil => simp [MapI, MapL.upd]
    | cons p m => exact h.elim
  | cons e es ih => cases m with
    | nil => exact h.elim
    | cons p m =>
      obtain ⟨h1, h2, h3⟩ := h
      have hne : k ≠ p.1 := fun e => by subst e; simp [MapL.find] at hk
      have hk' : MapL.find m k = none := by simpa [MapL.find, hne] using hk
      have := ih h3 hk'
      simp only [List.cons_append, MapL.upd]
      rw [if_neg (by simpa using hne)]
      exact ⟨h1, h2, this⟩
theorem lookup_map {ck : Nat} {m : MapL} (hb : h.get b = some (.map es ck)) (hm : MapI es m) (k : Str) :
    lookupS .string (.int .i64 0) true (.map b) (.str k) h = some (.tuple [.int .i64 ((m.find k).getD 0), .bool (m.find k).isSome]) := by
  obtain ⟨r, hr, hm'⟩ := MapI.findA (k := k) 0 hm
  simp only [lookupS, entriesS, hb, findK, keyOk, if_true, hr]
  cases r with
  | none => simp at hm'; simp [hm']
  | some jv =>
    obtain ⟨n, q, _, b, c, _⟩ := hm'
    obtain ⟨j, v⟩ := jv
    simp only at c
    subst c
    simp [b]
theorem update_map {ck : Nat} {m : MapL} (hb : h.get b = some (.map es ck)) (hm : MapI es m) (k : Str) (v : Int) :
    ∃ es' ck', mapUpdateS .string (.map b) (.str k) (.int .i64 v) h = some (h.set b (.map es' ck')) ∧ MapI es' (m.upd k v) := by
  obtain ⟨r, hr, hm'⟩ := MapI.findA (k := k) 0 hm
  simp only [mapUpdateS, hb, findK, keyOk, if_true, hr]
  cases r with
  | none => simp at hm'; exact ⟨_, _, rfl, hm.append hm' v ck⟩
  | some jv =>
    obtain ⟨n, q, hj, _, _, _, e⟩ := hm'
    obtain ⟨j, w⟩ := jv
    simp only [Nat.zero_add] at hj
    subst hj
    exact ⟨_, _, rfl, e v⟩
theorem AMc : (∀ {α : Type} (a : α) (f : α → Bool), bindO (some a) f = f a) ∧ (∀ (v : AV) (h : Heap) (f : AV → Heap → Bool), bindO2 (some (v, h)) f = f v h) ∧ (∀ (r p : AV → Heap → Bool) (v : AV) (h : Heap), outK r p (.ret v) h = r v h) ∧
    (∀ t a b : Bool, condB (.bool t) a b = bif t then a else b) ∧ (∀ {α : Type} (a b : α), cond true a b = a) ∧ (∀ {α : Type} (a b : α), cond false a b = b) ∧ (∀ n b o : Nat, faS n (.ptr b o) = some (.ptr b (o + n))) ∧ (∀ (n : Nat) (cs : List AV) (o : Nat), faS n (.iptr cs o) = some (.iptr cs (o + n))) ∧
    (∀ (cs : List AV) (o : Nat), partS none cs o = cs[o]?) ∧ (∀ n : Nat, 0 + n = n) ∧ (∀ n : Nat, n + 0 = n) ∧ (∀ {α : Type} (a : α) (l : List α), (a :: l)[0]? = some a) ∧ (∀ {α : Type} (a : α) (l : List α) (i : Nat), (a :: l)[i + 1]? = l[i]?) ∧
    (∀ (s : Str) (h : Heap), lenS .str (.str s) h = some (.int .i64 (s.length : Int))) ∧ (∀ {α : Type} {enc : α → List AV} {sz : Nat} (x : Sl α) (h : Heap), lenS .slice (encSl enc sz x) h = some (.int .i64 (x.l.length : Int))) ∧
    (∀ {k : IntKind} (a b : Int), binS .lss (.int k a) (.int k b) = some (.bool (decide (a < b)))) ∧ (∀ {k : IntKind} (a b : Int), binS .leq (.int k a) (.int k b) = some (.bool (decide (a ≤ b)))) ∧ (∀ {k : IntKind} (a b : Int), binS .gtr (.int k a) (.int k b) = some (.bool (decide (b < a)))) ∧ (∀ {k : IntKind} (a b : Int), binS .geq (.int k a) (.int k b) = some (.bool (decide (b ≤ a)))) ∧
    (∀ {k : IntKind} (d : TypeDesc) (a b : Int), eqV d (.int k a) (.int k b) = some (.bool (a == b))) ∧ (∀ {k : IntKind} (d : TypeDesc) (a b : Int), neV d (.int k a) (.int k b) = some (.bool (!(a == b)))) ∧ (∀ (d : TypeDesc) (a b : Str), eqV d (.str a) (.str b) = some (.bool (a == b))) ∧ (∀ (d : TypeDesc) (a b : Str), neV d (.str a) (.str b) = some (.bool (!(a == b)))) ∧
    (∀ a b : Bool, eqV .bool (.bool a) (.bool b) = some (.bool (a == b))) ∧ (∀ a b : Bool, neV .bool (.bool a) (.bool b) = some (.bool (!(a == b)))) ∧ (∀ a : Bool, unS .not (.bool a) = some (.bool (!a))) ∧
    (∀ (v : AV) (vs : List AV), extractS (.tuple (v :: vs)) 0 = some v) ∧ (∀ (u v : AV) (vs : List AV), extractS (.tuple (u :: v :: vs)) 1 = some v) ∧ (∀ (u v w : AV) (vs : List AV), extractS (.tuple (u :: v :: w :: vs)) 2 = some w) ∧ (∀ (env : Env) (d : Nat) (v : AV) (t : Nat), setV env d v t = if t = d then v else env t) :=
  ⟨bindO_some, bindO2_some, outK_ret, condB_bool, cond_t, cond_f, fa_ptr, fa_iptr, part_none, Nat.zero_add, Nat.add_zero, fun _ _ => rfl, fun _ _ _ => rfl, len_str, lenS_enc, lss_int, leq_int, gtr_int, geq_int, eq_int, ne_int, eq_str, ne_str, eq_bool, ne_bool, not_bool, extract_0, extract_1, extract_2, setV_eq⟩
end
end Go.AM
