/- Operations that read memory: what the abstract machine answers, the model's run answers. Conditions: none. -/
import Derived.Test.YthmbnnjimbjplaaGreatDoorAmFill
set_option linter.unusedVariables false
set_option linter.unusedSimpArgs false
namespace Go.AM
open Go Go.RowKit

/-- What an operation that reads yields. -/
def readV (P : Program) (ρ : Operand → AV) (h : Heap) : Op → Option AV
  | .load t a => (readT P t).bind fun i => loadS i (ρ a) h
  | .lookup t x i ok => (lookupI P t).bind fun d => lookupS d.1 d.2 ok (ρ x) (ρ i) h
  | .call c => (match c.callee with
    | .builtin .len => (match c.argTypes.toList, c.args.toList.map ρ with
      | t :: _, [x] => (lenI P t).bind fun i => lenS i x h
      | _, _ => none)
    | _ => none)
  | _ => none

theorem opFn_read {P : Program} {ρ : Operand → AV} {op : Op} (hk : opKind op = .read) (h : Heap) (K : AV → Heap → Bool) : opFn op P ρ h K = bindO (readV P ρ h op) fun v => K v h := by
  cases op <;> simp only [opKind, reduceCtorEq] at hk
  case load => simp only [opFn, valK, readV, bindO_bind]
  case lookup => simp only [opFn, exLookup, valK, readV, bindO_bind]
  case call c =>
    obtain ⟨cal, args, ts⟩ := c
    cases cal with
    | value f => simp [callKind] at hk
    | invoke r m => simp [callKind] at hk
    | builtin b =>
      cases b <;> simp only [callKind, reduceCtorEq] at hk
      simp only [opFn, exCall, bltFn, bltLen, readV]
      cases h1 : ts.toList with
      | nil => rfl
      | cons t l => cases h2 : args.toList.map ρ with
        | nil => rfl
        | cons x l2 => cases l2 with
          | nil => simp only [valK, bindO_bind]
          | cons y l3 => rfl

section
variable {P : Program} {w0 w : World} {μ : Mu} {h : Heap} {ρ : Operand → AV} {ρc : Operand → Value}

theorem cell_of {c : Nat} {vs : Array Value} {e : TypeId} {fr : Nat × Nat} (ho : w.heap[c]? = some (.cells vs e fr)) (i : Nat) : w.cell? ⟨c, i, none⟩ = vs[i]? := by
  simp [World.cell?, ho]

theorem Good.cells (hg : Good w0 μ h w) {b : Nat} {k : Blk} (hk : μ b = some k) {cs : List AV} (ho : h.get b = some (.cells cs)) :
    ∀ (i : Nat) (x : AV), cs[i]? = some x → ∃ v, w.cell? ⟨k.c, k.base + i, none⟩ = some v ∧ VR w0 μ x v := by
  obtain ⟨vs, e, fr, h1, h2, h3, h4, h5⟩ := hg.obj b k _ hk ho
  intro i x hx
  obtain ⟨v, a, b⟩ := h5 i x hx
  exact ⟨v, by rw [cell_of h1]; exact a, b⟩

theorem Good.icells (hg : Good w0 μ h w) {cs : List AV} {g o : Nat} {vs : List Value} (hgl : True) (hl : cs.length = vs.length)
    (hv : ∀ (i : Nat) (v : Value), vs[i]? = some v → μ.cell g (o + i) = some v) (hr : ∀ (i : Nat) (x : AV) (v : Value), cs[i]? = some x → vs[i]? = some v → VR w0 μ x v) :
    ∀ (i : Nat) (x : AV), cs[i]? = some x → ∃ v, w.cell? ⟨g, o + i, none⟩ = some v ∧ VR w0 μ x v := by
  intro i x hx
  obtain ⟨v, a, b⟩ := (VRL.mk hl hr).get hx
  have hc := hv i v a
  unfold Mu.cell at hc
  obtain ⟨zs, hz, hi⟩ := Option.bind_eq_some_iff.1 hc
  obtain ⟨arr, e, fr, h1, h2⟩ := hg.frz g zs hz
  refine ⟨v, ?_, b⟩
  rw [cell_of h1, ← hi, ← h2, Array.getElem?_toList]

/-- A range of cells that are related, loaded. -/
theorem range_vals {cs : List AV} {c base : Nat} (hc : ∀ (i : Nat) (x : AV), cs[i]? = some x → ∃ v, w.cell? ⟨c, base + i, none⟩ = some v ∧ VR w0 μ x v) :
    ∀ (n off : Nat), off + n ≤ cs.length → ∃ vs : List Value, vs.length = n ∧ (∀ (j : Nat) (v : Value), vs[j]? = some v → w.cell? ⟨c, base + off + j, none⟩ = some v) ∧ VRL w0 μ ((cs.drop off).take n) vs := by
  intro n
  induction n with
  | zero => intro off hle; exact ⟨[], rfl, by simp, by simpa using VRL.nil⟩
  | succ n ih =>
    intro off hle
    obtain ⟨vs, h1, h2, h3⟩ := ih (off + 1) (by omega)
    have hx : cs[off]? = some (cs[off]'(by omega)) := List.getElem?_eq_getElem (by omega)
    obtain ⟨v, hv, hr⟩ := hc off _ hx
    refine ⟨v :: vs, by simp [h1], fun j u hj => ?_, ?_⟩
    · cases j with
      | zero => simp at hj; subst hj; exact hv
      | succ j =>
        have := h2 j u (by simpa using hj)
        rwa [show base + off + (j + 1) = base + (off + 1) + j by omega]
    · rw [List.drop_eq_getElem_cons (by omega), List.take_succ_cons]
      exact .cons hr h3

theorem run_loadVar {t : TypeId} {r : Option Nat} (hr : readT P t = some r) {cs : List AV} {c base off : Nat} (hc : ∀ (i : Nat) (x : AV), cs[i]? = some x → ∃ v, w.cell? ⟨c, base + i, none⟩ = some v ∧ VR w0 μ x v)
    {v : AV} (h : partS r cs off = some v) : ∃ vc, (loadVar t ⟨c, base + off, none⟩).run P w = .ok vc w ∧ VR w0 μ v vc := by
  rcases readT_spec hr with ⟨n, rfl, h1, h2⟩ | ⟨rfl, h1⟩
  · simp only [partS] at h
    split at h
    · rename_i hle
      cases h
      obtain ⟨vs, e1, e2, e3⟩ := range_vals hc n off hle
      refine ⟨.agg vs.toArray, ?_, e3.agg⟩
      have := run_loadCells_list (P := P) w ⟨c, base + off, none⟩ vs (fun j u hj => by rw [addr_add]; exact e2 j u hj)
      rw [e1] at this
      simp [loadVar, h1, h2, this]
    · cases h
  · simp only [partS] at h
    obtain ⟨u, hu, hr⟩ := hc off v h
    exact ⟨u, by simp [loadVar, h1, hu], hr⟩

theorem read_load (hg : Good w0 μ h w) {t : TypeId} {r : Option Nat} (hr : readT P t = some r) {x v : AV} {xv : Value} (hx : VR w0 μ x xv) (hl : loadS r x h = some v) :
    ∃ vc, (Instr.loadAt t xv).run P w = .ok vc w ∧ VR w0 μ v vc := by
  unfold loadS at hl
  split at hl
  · rename_i b off
    split at hl
    · rename_i cs ho
      cases hx
      rename_i k hk
      obtain ⟨vc, h1, h2⟩ := run_loadVar hr (hg.cells hk ho) hl
      exact ⟨vc, by simp [Instr.loadAt, Instr.sureAddr, h1], h2⟩
    · cases hl
  · rename_i cs off
    cases hx
    rename_i g o vs hgl hv hl' hr'
    obtain ⟨vc, h1, h2⟩ := run_loadVar hr (hg.icells hgl hl' hv hr') hl
    exact ⟨vc, by simp [Instr.loadAt, Instr.sureAddr, h1], h2⟩
  · cases hl

/-! ### Maps -/
structure EntR (w0 : World) (μ : Mu) (es : List Entry) (ces : List MapEntry) : Prop where
  len : ces.length = es.length
  rel : ∀ (i : Nat) (k v : AV) (n : Nat), es[i]? = some (k, v, n) → ∃ e, ces[i]? = some e ∧ VR w0 μ k e.key ∧ VR w0 μ v e.val ∧ e.born = n
theorem EntR.cons_inv {k v : AV} {n : Nat} {es : List Entry} {ces : List MapEntry} (h : EntR w0 μ ((k, v, n) :: es) ces) :
    ∃ e ces', ces = e :: ces' ∧ VR w0 μ k e.key ∧ VR w0 μ v e.val ∧ e.born = n ∧ EntR w0 μ es ces' := by
  cases ces with
  | nil => exact absurd h.len (by simp)
  | cons e ces =>
    obtain ⟨e', h1, h2, h3, h4⟩ := h.rel 0 k v n rfl
    simp at h1; subst h1
    exact ⟨e, ces, rfl, h2, h3, h4, by have := h.len; simpa using this, fun i k v n hi => by
      have := h.rel (i + 1) k v n (by simpa using hi)
      simpa using this⟩
theorem EntR.nil_inv {ces : List MapEntry} (h : EntR w0 μ [] ces) : ces = [] := List.eq_nil_of_length_eq_zero (by simpa using h.len)
theorem Good.map (hg : Good w0 μ h w) {b : Nat} {k : Blk} (hk : μ b = some k) {es : List Entry} {ck : Nat} (ho : h.get b = some (.map es ck)) :
    ∃ ces : Array MapEntry, w.heap[k.c]? = some (.map ces ck) ∧ EntR w0 μ es ces.toList := by
  obtain ⟨ces, h1, h2, h3⟩ := hg.obj b k _ hk ho
  exact ⟨ces, h1, by simpa using h2, fun i k v n hi => by simpa using h3 i k v n hi⟩

theorem keyOk_inv {d : TypeDesc} {k : AV} {kv : Value} (hk : VR w0 μ k kv) (h : keyOk d k = true) :
    (∃ j i n, d = .int j ∧ k = .int i n ∧ kv = .int i n) ∨ (∃ s : ByteArray, d = .string ∧ k = .str s.data.toList ∧ kv = .string s) ∨ (∃ b, d = .bool ∧ k = .bool b ∧ kv = .bool b) := by
  unfold keyOk at h
  split at h
  · rw [hk.int_inv]; exact .inl ⟨_, _, _, rfl, rfl, rfl⟩
  · obtain ⟨s, rfl, rfl⟩ := hk.str_inv; exact .inr (.inl ⟨s, rfl, rfl, rfl⟩)
  · rw [hk.bool_inv]; exact .inr (.inr ⟨_, rfl, rfl, rfl⟩)
  · cases h

theorem run_checkKey {kt : TypeId} {d : TypeDesc} (hd : P.underlying kt = some d) {k : AV} {kv : Value} (hk : VR w0 μ k kv) (h : keyOk d k = true) (e : Bool) (n : Nat) :
    (Instr.checkKey e (n + 1) kt kv).run P w = .ok () w := by
  rcases keyOk_inv hk h with ⟨j, i, m, rfl, rfl, rfl⟩ | ⟨s, rfl, rfl, rfl⟩ | ⟨b, rfl, rfl, rfl⟩ <;> simp [Instr.checkKey, run_underlying hd]

theorem keyEq_sim {d : TypeDesc} {k : AV} {kv : Value} (hk : VR w0 μ k kv) {x : AV} {xv : Value} (hx : VR w0 μ x xv) {b : Bool} (h : keyEq d k x = some b) : Instr.sameNow d kv xv = some b := by
  unfold keyEq at h
  split at h
  · rename_i k1 a k2 b'
    rw [hk.int_inv, hx.int_inv]
    simpa [Instr.sameNow] using h
  · obtain ⟨s, rfl, rfl⟩ := hk.str_inv
    obtain ⟨u, rfl, rfl⟩ := hx.str_inv
    cases h
    simp only [Instr.sameNow, Option.some.injEq]
    rw [beq_toListBytes, ByteArray.toList_eq, ByteArray.toList_eq]
  · rw [hk.bool_inv, hx.bool_inv]; cases h; rfl
  · cases h

theorem findA_sim {d : TypeDesc} {k : AV} {kv : Value} (hk : VR w0 μ k kv) : ∀ (es : List Entry) (ces : List MapEntry) (i : Nat) (r : Option (Nat × AV)), EntR w0 μ es ces → findA d k es i = some r →
    ∃ r', Instr.findNow d kv ces i = some r' ∧ ((r = none ∧ r' = none) ∨ ∃ j v vc, r = some (j, v) ∧ r' = some (j, vc) ∧ VR w0 μ v vc ∧ i ≤ j ∧ ∃ e, es[j - i]? = some e ∧ e.2.1 = v ∧ keyEq d k e.1 = some true) := by
  intro es
  induction es with
  | nil => intro ces i r he h; obtain rfl := he.nil_inv; cases h; exact ⟨none, rfl, .inl ⟨rfl, rfl⟩⟩
  | cons e es ih =>
    intro ces i r he h
    obtain ⟨x, v, n⟩ := e
    obtain ⟨c, ces', rfl, h1, h2, h3, h4⟩ := he.cons_inv
    simp only [findA] at h
    split at h
    · rename_i hb
      cases h
      refine ⟨some (i, c.val), ?_, .inr ⟨i, v, c.val, rfl, rfl, h2, Nat.le_refl _, (x, v, n), by simp, rfl, hb⟩⟩
      simp [Instr.findNow, keyEq_sim hk h1 hb]
    · rename_i hb
      obtain ⟨r', h5, h6⟩ := ih ces' (i + 1) r h4 h
      refine ⟨r', by simp [Instr.findNow, keyEq_sim hk h1 hb, h5], ?_⟩
      rcases h6 with h6 | ⟨j, v', vc, a, b, c', hij, e', he', hv'⟩
      · exact .inl h6
      · refine .inr ⟨j, v', vc, a, b, c', by omega, e', ?_, hv'⟩
        rw [show j - i = (j - (i + 1)) + 1 by omega]; simpa using he'
    · cases h

theorem run_findKey {kt : TypeId} {d : TypeDesc} (hd : P.underlying kt = some d) {kv : Value} {ces : List MapEntry} {r : Option (Nat × Value)} (h : Instr.findNow d kv ces 0 = some r) : (Instr.findKey kt kv ces).run P w = .ok r w := by
  simp [Instr.findKey, run_underlying hd, h]

theorem mapT_spec {t : TypeId} {o : TypeDesc × TypeId} (h : mapT P t = some o) : ∃ kt, P.underlying t = some (.map kt o.2) ∧ P.underlying kt = some o.1 := by
  unfold mapT at h
  split at h
  · rename_i k e hu
    split at h
    · rename_i d hd; cases h; exact ⟨k, hu, hd⟩
    · cases h
  · cases h

theorem findK_spec {d : TypeDesc} {k : AV} {es : List Entry} {r : Option (Nat × AV)} (h : findK d k es = some r) : keyOk d k = true ∧ findA d k es 0 = some r := by
  unfold findK at h
  split at h
  · exact ⟨‹_›, h⟩
  · cases h

theorem run_zeroValue {t : TypeId} {inf : TypeInfo} {zv : Value} (hi : P.info? t = some inf) (hz : inf.zero = some zv) (w : World) : (zeroValue t).run P w = .ok zv w := by simp [zeroValue, typeInfo, hi, hz]

theorem lookup_core {t kt : TypeId} {d : TypeDesc} {et : TypeId} (hu : P.underlying t = some (.map kt et)) (hd : P.underlying kt = some d) {z : AV} (hz : zeroT P et = some z) {k v : AV} {kv xv : Value} (hk : VR w0 μ k kv)
    {es : List Entry} {ces : Array MapEntry} (he : EntR w0 μ es ces.toList) (hxv : (xv = .map none ∧ ces = #[]) ∨ ∃ r ck, xv = .map (some r) ∧ w.heap[r]? = some (.map ces ck)) {ok : Bool}
    (h : (match findK d k es with
      | some (some (_, v)) => some (if ok then .tuple [v, .bool true] else v)
      | some none => some (if ok then .tuple [z, .bool false] else z)
      | none => none) = some v) : ∃ vc, (Instr.lookup t xv kv ok).run P w = .ok vc w ∧ VR w0 μ v vc := by
  obtain ⟨inf, zv, hinf, hzv, rfl⟩ := zeroT_spec hz
  have hz0 := run_zeroValue (P := P) hinf hzv w
  have step : ∀ r', Instr.findNow d kv ces.toList 0 = some r' → keyOk d k = true →
      (Instr.lookup t xv kv ok).run P w = (match r' with
        | some (_, u) => .ok (if ok then .tuple #[u, .bool true] else u) w
        | none => .ok (if ok then .tuple #[zv, .bool false] else zv) w) := by
    intro r' hr' hko
    have hck := fun b => run_checkKey (w := w) hd hk hko b 9999
    have hfk := run_findKey (w := w) hd hr'
    have hck' : ∀ b, (Instr.checkKey b 10000 kt kv).run P w = .ok () w := hck
    rcases hxv with ⟨rfl, rfl⟩ | ⟨r, ck, rfl, ho⟩
    · simp only [Instr.lookup, Sem.run_bind, run_underlying hu, Result.andThen_ok, Sem.run_pure, hck', hfk]
      cases r' with
      | none => simp [hz0]
      | some p => obtain ⟨j, u⟩ := p; simp
    · have hgo : (getObj r).run P w = .ok (.map ces ck) w := by simp [getObj, Sem.run, ho]
      simp only [Instr.lookup, Sem.run_bind, run_underlying hu, Result.andThen_ok, Sem.run_pure, hgo, hck', hfk]
      cases r' with
      | none => simp [hz0]
      | some p => obtain ⟨j, u⟩ := p; simp
  split at h
  · rename_i p j v' hf
    obtain ⟨hko, hfa⟩ := findK_spec hf
    obtain ⟨r', h1, h2⟩ := findA_sim hk es ces.toList 0 _ he hfa
    rcases h2 with ⟨a, _⟩ | ⟨j', v'', vc, a, rfl, h3, _⟩
    · cases a
    · cases a
      refine ⟨_, step _ h1 hko, ?_⟩
      cases h
      cases ok
      · exact h3
      · exact VRL.tuple (.cons h3 (.cons (.bool true) .nil))
  · rename_i hf
    obtain ⟨hko, hfa⟩ := findK_spec hf
    obtain ⟨r', h1, h2⟩ := findA_sim hk es ces.toList 0 _ he hfa
    rcases h2 with ⟨_, rfl⟩ | ⟨j', v'', vc, a, _⟩
    · refine ⟨_, step _ h1 hko, ?_⟩
      cases h
      cases ok
      · exact VR.ofConst zv
      · exact VRL.tuple (.cons (VR.ofConst zv) (.cons (.bool false) .nil))
    · cases a
  · cases h

theorem read_lookup (hg : Good w0 μ h w) {t : TypeId} {o : TypeDesc × AV} (hi : lookupI P t = some o) {m k v : AV} {mv kv : Value} (hm : VR w0 μ m mv) (hk : VR w0 μ k kv) {ok : Bool}
    (hl : lookupS o.1 o.2 ok m k h = some v) : ∃ vc, (Instr.lookup t mv kv ok).run P w = .ok vc w ∧ VR w0 μ v vc := by
  unfold lookupI at hi
  split at hi
  · rename_i d e hmt
    split at hi
    · rename_i z hz
      cases hi
      obtain ⟨kt, hu, hd⟩ := mapT_spec hmt
      unfold lookupS entriesS at hl
      split at hl
      · cases hl
      · rename_i es hes
        split at hes
        · cases hes
          cases hm
          exact lookup_core hu hd hz hk (es := []) (ces := #[]) ⟨rfl, by simp⟩ (.inl ⟨rfl, rfl⟩) hl
        · rename_i b
          split at hes
          · rename_i es' ck ho
            cases hes
            cases hm
            rename_i kk hkk
            obtain ⟨ces, h1, h2⟩ := hg.map hkk ho
            exact lookup_core hu hd hz hk h2 (.inr ⟨_, ck, rfl, h1⟩) hl
          · cases hes
        · cases hes
    · cases hi
  · cases hi

theorem read_len (hg : Good w0 μ h w) {t ty : TypeId} {ts : List TypeId} {i : LenK} (hi : lenI P t = some i) {x v : AV} {xv : Value} (hx : VR w0 μ x xv) (hl : lenS i x h = some v) :
    ∃ vc, (Builtin.len_ (t :: ts).toArray ty #[xv]).run P w = .ok vc w ∧ VR w0 μ v vc := by
  unfold lenI at hi
  split at hi
  · rename_i hu
    cases hi
    cases x <;> simp only [lenS, reduceCtorEq, Option.some.injEq] at hl
    subst hl
    obtain ⟨s, rfl, rfl⟩ := hx.str_inv
    refine ⟨.int .i64 s.size, by simp [Builtin.len_, run_underlying hu, goInt], ?_⟩
    have : s.data.toList.length = s.size := by rw [Array.length_toList]; rfl
    rw [this]; exact .int _ _
  · rename_i e hu
    cases hi
    cases x <;> simp only [lenS, reduceCtorEq, Option.some.injEq] at hl <;> subst hl <;> cases hx <;> exact ⟨.int .i64 _, by simp [Builtin.len_, run_underlying hu, goInt], .int _ _⟩
  · rename_i k e hu
    cases hi
    cases x <;> simp only [lenS, reduceCtorEq, Option.some.injEq] at hl
    · subst hl; cases hx; exact ⟨.int .i64 0, by simp [Builtin.len_, run_underlying hu, goInt], .int _ _⟩
    · split at hl
      · rename_i es ck ho
        cases hl
        cases hx
        rename_i kk hkk
        obtain ⟨ces, h1, h2⟩ := hg.map hkk ho
        refine ⟨.int .i64 es.length, ?_, .int _ _⟩
        have := h2.len
        simp at this
        simp [Builtin.len_, run_underlying hu, goInt, getObj, Sem.run, h1, this]
      · cases hl
  · rename_i n e hu
    cases hi
    simp only [lenS, Option.some.injEq] at hl
    subst hl
    exact ⟨.int .i64 n, by simp [Builtin.len_, run_underlying hu, goInt], .int _ _⟩
  · cases hi

/-- AN OPERATION THAT READS. -/
theorem read_sim (hg : Good w0 μ h w) (hρ : ∀ x, VR w0 μ (ρ x) (ρc x)) {o : Oper} (hk : opKind o.op = .read) {v : AV} (hv : readV P ρ h o.op = some v) :
    ∃ vc, (execOp ρc o).run P w = .ok (.value vc) w ∧ VR w0 μ v vc := by
  obtain ⟨dst, op, type, pos, after, guard⟩ := o
  cases op <;> simp only [opKind, reduceCtorEq] at hk <;> simp only [readV] at hv
  case load t a =>
    obtain ⟨i, hi, he⟩ := Option.bind_eq_some_iff.1 hv
    obtain ⟨vc, h1, h2⟩ := read_load hg hi (hρ a) he
    exact ⟨vc, by simp [execOp, h1], h2⟩
  case lookup t x i ok =>
    obtain ⟨d, hi, he⟩ := Option.bind_eq_some_iff.1 hv
    obtain ⟨vc, h1, h2⟩ := read_lookup hg hi (hρ x) (hρ i) he
    exact ⟨vc, by simp [execOp, h1], h2⟩
  case call c =>
    obtain ⟨cal, args, ts⟩ := c
    cases cal with
    | value f => simp [callKind] at hk
    | invoke r m => simp [callKind] at hk
    | builtin b =>
      cases b <;> simp only [callKind, reduceCtorEq] at hk
      simp only at hv
      split at hv
      · rename_i t l x e1 e2
        obtain ⟨i, hi, he⟩ := Option.bind_eq_some_iff.1 hv
        have hx : VRL w0 μ (args.toList.map ρ) (args.toList.map ρc) := VRL.map _ fun a _ => hρ a
        rw [e2] at hx
        obtain ⟨u, us, hus, h1, h2⟩ := hx.cons_inv
        obtain rfl := h2.nil_inv
        obtain ⟨vc, h3, h4⟩ := read_len (ty := type) (ts := l) hg hi h1 he
        refine ⟨vc, ?_, h4⟩
        have ea : args.map ρc = #[u] := by apply Array.ext'; simpa using hus
        have et : ts = (t :: l).toArray := by apply Array.ext'; simpa using e1
        simp only [execOp, resolve, invoke, builtin, Sem.run_bind, Sem.run_pure, Result.andThen_ok, ea, et, h3]
      · cases hv
end
end Go.AM
