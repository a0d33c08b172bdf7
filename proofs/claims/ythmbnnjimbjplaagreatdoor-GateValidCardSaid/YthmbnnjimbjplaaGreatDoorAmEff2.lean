/- Maps, conversions, iterations: what the abstract machine answers, the model's run answers. Conditions: none. -/
import Derived.Test.YthmbnnjimbjplaaGreatDoorAmEff
import Derived.Laws.IdiomStrings
import Derived.MapKept
set_option linter.unusedVariables false
set_option linter.unusedSimpArgs false
namespace Go.AM
open Go Go.RowKit

section
variable {P : Program} {w0 w : World} {μ : Mu} {h : Heap} {ρ : Operand → AV} {ρc : Operand → Value}

theorem eff_copy (hg : Good w0 μ h w) {t u ty : TypeId} {ts : List TypeId} {i : Nat × Nat} (hi : elemI P t = some i) {d s v : AV} {dv sv : Value} (hd : VR w0 μ d dv) (hs : VR w0 μ s sv) {h' : Heap} (ha : copyS i.1 d s h = some (v, h')) :
    ∃ vc w', (Builtin.copy_ (t :: ts).toArray ty #[dv, sv]).run P w = .ok vc w' ∧ VR w0 μ v vc ∧ Good w0 μ h' w' ∧ Ext μ h w μ h' w' := by
  obtain ⟨e, inf, hu, hinf, hsz, hb, hp, hp'⟩ := elemI_spec hi
  have hz : ∀ w, (sizeOf e).run P w = .ok i.1 w := fun w => by simp [sizeOf, typeInfo, hinf, hsz]
  unfold copyS at ha
  split at ha
  · cases ha
  · rename_i m hm
    split at ha
    · cases ha
      cases hd
      -- nothing to copy
      have hlen : (Builtin.lenOf sv).run P w = .ok m w := by
        cases s <;> simp only [lenA, reduceCtorEq, Option.some.injEq] at hm
        · subst hm
          obtain ⟨s, rfl, rfl⟩ := hs.str_inv
          simp [Builtin.lenOf]
        · subst hm; cases hs; simp [Builtin.lenOf]
        · subst hm; cases hs; simp [Builtin.lenOf]
        · subst hm; cases hs; simp [Builtin.lenOf]
      have hf0 : ∃ us, (Builtin.firstCells i.1 0 sv).run P w = .ok us w := by
        have zero : ∀ (a : Addr) (w : World), (loadCells a 0).run P w = .ok #[] w := fun a w => by simp [loadCells, loadCellsFrom]
        cases s <;> simp only [lenA, reduceCtorEq, Option.some.injEq] at hm
        · obtain ⟨s, rfl, rfl⟩ := hs.str_inv; exact ⟨_, by simp [Builtin.firstCells]; rfl⟩
        · cases hs; exact ⟨_, by simp [Builtin.firstCells]; rfl⟩
        · cases hs; exact ⟨_, by simp [Builtin.firstCells, zero]; rfl⟩
        · cases hs; exact ⟨_, by simp [Builtin.firstCells, zero]; rfl⟩
      obtain ⟨us, hus⟩ := hf0
      refine ⟨.int .i64 0, w, ?_, .int _ _, hg, Ext.refl _ _ _⟩
      simp [Builtin.copy_, run_underlying hu, hlen, hz, hus, goInt]
    · rename_i b off len s'
      split at ha
      · rename_i hs'
        subst hs'
        split at ha
        · rename_i new hnew
          split at ha
          · rename_i cs ho
            split at ha
            · rename_i hc
              cases ha
              simp only [Bool.and_eq_true, decide_eq_true_eq] at hc
              obtain ⟨⟨hc1, hc2⟩, hc3⟩ := hc
              obtain ⟨us, q1, q2, q3, q4⟩ := first_sim (P := P) hg hs hm (Nat.min_le_left m len) hnew
              cases hd
              rename_i cap a k hk hle hac
              by_cases h0 : cap = 0
              · subst h0
                obtain rfl : len = 0 := by omega
                have hus : us = #[] := by
                  have := q2.len
                  simp only [Array.length_toList] at this
                  apply Array.eq_empty_of_size_eq_zero
                  rw [← this, hc3]; simp
                subst hus
                have hnl := q2.len
                simp at hnl
                subst hnl
                have hid : h.set b (.cells (putL cs off [])) = h.set b (.cells cs) := rfl
                obtain ⟨vs, el, fr, o1, o2, o3, o4, o5⟩ := hg.obj b k _ hk ho
                obtain ⟨g1, g2⟩ := hg.set hk ho (by simp) (.cells cs) (.cells vs el fr) ⟨vs, el, fr, rfl, o2, o3, o4, o5⟩
                rw [setO_id o1] at g1 g2
                refine ⟨.int .i64 (Nat.min m 0), w, ?_, .int _ _, g1, g2⟩
                simp [Builtin.copy_, run_underlying hu, q3, hz, goInt, storeCells]
                have := q1 w rfl
                simp at this
                simp [this, storeCells]
              · obtain ⟨rfl, hin⟩ := hac h0
                have hlen : us.size = Nat.min m len * i.1 := by have := q2.len; simp only [Array.length_toList] at this; omega
                obtain ⟨vs, el, fr, o1, o2, o3, o4, o5⟩ := obj_put (hg.obj b k _ hk ho) q2 off (by rw [hc3]; exact hc2)
                have hrow := run_storeRow (P := P) k.c (k.base + off) el fr us.toList 0 vs w o1 o3 (by simp only [Array.length_toList, hlen, o2]; omega) (q2.oneCells hc1)
                rw [Nat.add_zero] at hrow
                obtain ⟨g1, g2⟩ := hg.set hk ho (by simp) (.cells (putL cs off new)) _ o5
                refine ⟨.int .i64 (Nat.min m len), _, ?_, .int _ _, g1, g2⟩
                have := q1 w rfl
                simp [Builtin.copy_, run_underlying hu, q3, hz, this, hrow, goInt]
            · cases ha
          · cases ha
        · cases ha
      · cases ha
    · cases ha

/-! ### Maps -/
theorem run_getObj_map {r : Nat} {o : Obj} (ho : w.heap[r]? = some o) : (getObj r).run P w = .ok o w ∨ True := .inr trivial
theorem run_getMap {r : Nat} {ces : Array MapEntry} {ck : Nat} (ho : w.heap[r]? = some (.map ces ck)) : (getObj r).run P w = .ok (.map ces ck) w := by simp [getObj, Sem.run, ho]
theorem run_setMap {r : Nat} {ces : Array MapEntry} {ck : Nat} (ho : w.heap[r]? = some (.map ces ck)) (o : Obj) : (setObj r o).run P w = .ok () (setO w r o) := by simp [setObj, Sem.run, ho, setO]

theorem keyEq_eq {d : TypeDesc} {k : AV} {kv : Value} (hk : VR w0 μ k kv) {x : AV} {xv : Value} (hx : VR w0 μ x xv) (h : keyEq d k x = some true) : xv = kv ∧ x = k ∧ ∀ n, Instr.sameBits n kv kv = true := by
  unfold keyEq at h
  split at h
  · rename_i k1 a k2 b'
    rw [hk.int_inv, hx.int_inv]
    split at h
    · rename_i e
      subst e
      simp only [Option.some.injEq, beq_iff_eq] at h
      subst h
      exact ⟨rfl, rfl, fun n => by cases n <;> simp [Instr.sameBits]⟩
    · cases h
  · obtain ⟨s, rfl, rfl⟩ := hk.str_inv
    obtain ⟨u, rfl, rfl⟩ := hx.str_inv
    simp only [Option.some.injEq, beq_iff_eq] at h
    have : u = s := by
      obtain ⟨u⟩ := u; obtain ⟨s⟩ := s
      congr 1
      exact (Array.toList_inj.1 h).symm
    subst this
    exact ⟨rfl, rfl, fun n => by cases n <;> simp [Instr.sameBits, MapKept.bytes_beq]⟩
  · rw [hk.bool_inv, hx.bool_inv]
    simp only [Option.some.injEq, beq_iff_eq] at h
    subst h
    exact ⟨rfl, rfl, fun n => by cases n <;> simp [Instr.sameBits]⟩
  · cases h

theorem EntR.push {es : List Entry} {ces : Array MapEntry} (h : EntR w0 μ es ces.toList) {k v : AV} {kv vv : Value} {n : Nat} (hk : VR w0 μ k kv) (hv : VR w0 μ v vv) :
    EntR w0 μ (es ++ [(k, v, n)]) (ces.push { key := kv, val := vv, born := n }).toList := by
  refine ⟨by simp [h.len], fun i k' v' n' hi => ?_⟩
  have hlen : ces.toList.length = es.length := h.len
  rw [Array.toList_push]
  by_cases e : i < es.length
  · rw [List.getElem?_append_left e] at hi
    rw [List.getElem?_append_left (by omega)]
    exact h.rel i k' v' n' hi
  · have hi0 : i = es.length := by
      have := (List.getElem?_eq_some_iff.1 hi).1
      simp at this; omega
    subst hi0
    rw [List.getElem?_append_right (Nat.le_refl _)] at hi
    simp only [Nat.sub_self, List.getElem?_cons_zero, Option.some.injEq, Prod.mk.injEq] at hi
    obtain ⟨rfl, rfl, rfl⟩ := hi
    refine ⟨{ key := kv, val := vv, born := n }, ?_, hk, hv, rfl⟩
    rw [← hlen, List.getElem?_append_right (Nat.le_refl _)]
    simp

theorem EntR.modify {es : List Entry} {ces : Array MapEntry} (h : EntR w0 μ es ces.toList) {j : Nat} {k v : AV} {kv vv : Value} {n : Nat} (hj : es[j]? = some (k, v, n)) {v' : AV} (hk : VR w0 μ k kv) (hv : VR w0 μ v' vv) (f : MapEntry → MapEntry)
    (hf : ∀ e : MapEntry, (f e).key = kv ∨ (f e).key = e.key) (hf1 : ∀ e : MapEntry, (f e).val = vv) (hf2 : ∀ e : MapEntry, (f e).born = e.born) :
    EntR w0 μ (setEntry es j v') (ces.modify j f).toList := by
  have hs : setEntry es j v' = es.set j (k, v', n) := by simp [setEntry, hj]
  rw [hs]
  refine ⟨by simpa using h.len, fun i k1 v1 n1 hi => ?_⟩
  rw [List.getElem?_set] at hi
  rw [Array.getElem?_toList, Array.getElem?_modify]
  split at hi
  · rename_i e
    subst e
    have hjl := (List.getElem?_eq_some_iff.1 hj).1
    rw [if_pos hjl] at hi
    cases hi
    obtain ⟨e, h1, h2, h3, h4⟩ := h.rel j k v n hj
    rw [Array.getElem?_toList] at h1
    refine ⟨f e, by simp [h1], ?_, by rw [hf1]; exact hv, by rw [hf2]; exact h4⟩
    rcases hf e with q | q
    · rw [q]; exact hk
    · rw [q]; exact h2
  · rename_i e
    rw [if_neg e]
    have := h.rel i k1 v1 n1 hi
    rwa [Array.getElem?_toList] at this

theorem mapObj {es : List Entry} {ces : Array MapEntry} (h : EntR w0 μ es ces.toList) (ck : Nat) (k : Blk) : ObjR w0 μ (.map es ck) k (some (.map ces ck)) :=
  ⟨ces, rfl, by simpa using h.len, fun i k v n hi => by simpa using h.rel i k v n hi⟩

theorem eff_mapUpdate (hg : Good w0 μ h w) {t : TypeId} {o : TypeDesc × TypeId} (hi : mapT P t = some o) {m k x : AV} {mv kv xv : Value} (hm : VR w0 μ m mv) (hk : VR w0 μ k kv) (hx : VR w0 μ x xv) {h' : Heap} (ha : mapUpdateS o.1 m k x h = some h') :
    ∃ w', (Instr.mapUpdate t mv kv xv).run P w = .ok () w' ∧ Good w0 μ h' w' ∧ Ext μ h w μ h' w' := by
  obtain ⟨kt, hu, hd⟩ := mapT_spec hi
  unfold mapUpdateS at ha
  split at ha
  · rename_i b
    split at ha
    · rename_i es ck ho
      cases hm
      rename_i kk hkk
      obtain ⟨ces, h1, h2⟩ := hg.map hkk ho
      split at ha
      · rename_i j v hf
        cases ha
        obtain ⟨hko, hfa⟩ := findK_spec hf
        obtain ⟨r', h3, h4⟩ := findA_sim hk es ces.toList 0 _ h2 hfa
        rcases h4 with ⟨a, _⟩ | ⟨j', v'', vc, a, rfl, h5, _, ⟨ek, ev, en⟩, he1, he2, he3⟩
        · cases a
        · cases a
          simp only [Nat.sub_zero] at he1
          obtain ⟨c, c1, c2, c3, c4⟩ := h2.rel _ _ _ _ he1
          rw [Array.getElem?_toList] at c1
          obtain ⟨e1, e2, e3⟩ := keyEq_eq hk c2 he3
          have hck := run_checkKey (w := w) hd hk hko false 9999
          have hck' : (Instr.checkKey false 10000 kt kv).run P w = .ok () w := hck
          have hfk := run_findKey (w := w) hd h3
          have hent := h2.modify he1 c2 hx (fun e => { e with key := kv, val := xv }) (fun e => .inl e1.symm) (fun _ => rfl) (fun _ => rfl)
          obtain ⟨g1, g2⟩ := hg.set hkk ho (by simp) (.map (setEntry es j x) ck) _ (mapObj hent ck kk)
          refine ⟨_, ?_, g1, g2⟩
          have hst : (Instr.keyThatStays kv kv).run P w = .ok kv w := by simp [Instr.keyThatStays, e3]
          have hge : ∀ z, ((ces[j]?.map (·.key)).getD z) = kv := fun z => by simp [c1, e1]
          simp only [Instr.mapUpdate, Sem.run_bind, run_underlying hu, Result.andThen_ok, run_getMap h1, hck', hfk, hge, hst, run_setMap h1]
      · rename_i hf
        cases ha
        obtain ⟨hko, hfa⟩ := findK_spec hf
        obtain ⟨r', h3, h4⟩ := findA_sim hk es ces.toList 0 _ h2 hfa
        rcases h4 with ⟨_, rfl⟩ | ⟨j', v'', vc, a, _⟩
        · have hck' : (Instr.checkKey false 10000 kt kv).run P w = .ok () w := run_checkKey (w := w) hd hk hko false 9999
          have hfk := run_findKey (w := w) hd h3
          obtain ⟨g1, g2⟩ := hg.set hkk ho (by simp) (.map (es ++ [(k, x, ck)]) (ck + 1)) _ (mapObj (h2.push (n := ck) hk hx) (ck + 1) kk)
          refine ⟨_, ?_, g1, g2⟩
          simp only [Instr.mapUpdate, Sem.run_bind, run_underlying hu, Result.andThen_ok, run_getMap h1, hck', hfk, run_setMap h1]
        · cases a
      · cases ha
    · cases ha
  · cases ha

theorem eff_mapEntry (hg : Good w0 μ h w) {t : TypeId} {o : TypeDesc × AV} (hi : lookupI P t = some o) {m k v : AV} {mv kv : Value} (hm : VR w0 μ m mv) (hk : VR w0 μ k kv) {h' : Heap} (ha : mapEntryS o.1 o.2 m k h = some (v, h')) :
    ∃ vc w', (Instr.mapEntry t mv kv).run P w = .ok vc w' ∧ VR w0 μ v vc ∧ Good w0 μ h' w' ∧ Ext μ h w μ h' w' := by
  unfold lookupI at hi
  split at hi
  · rename_i d et hmt
    split at hi
    · rename_i z hz
      cases hi
      obtain ⟨kt, hu, hd⟩ := mapT_spec hmt
      obtain ⟨inf, zv, hinf, hzv, rfl⟩ := zeroT_spec hz
      have hz0 := run_zeroValue (P := P) hinf hzv w
      unfold mapEntryS at ha
      split at ha
      · rename_i b
        split at ha
        · rename_i es ck ho
          cases hm
          rename_i kk hkk
          obtain ⟨ces, h1, h2⟩ := hg.map hkk ho
          split at ha
          · rename_i j v' hf
            cases ha
            obtain ⟨hko, hfa⟩ := findK_spec hf
            obtain ⟨r', h3, h4⟩ := findA_sim hk es ces.toList 0 _ h2 hfa
            rcases h4 with ⟨a, _⟩ | ⟨j', v'', vc, a, rfl, h5, _, ⟨ek, ev, en⟩, he1, he2, he3⟩
            · cases a
            · cases a
              simp only [Nat.sub_zero] at he1
              obtain ⟨c, c1, c2, c3, c4⟩ := h2.rel _ _ _ _ he1
              rw [Array.getElem?_toList] at c1
              obtain ⟨e1, e2, e3⟩ := keyEq_eq hk c2 he3
              have hck' : (Instr.checkKey false 10000 kt kv).run P w = .ok () w := run_checkKey (w := w) hd hk hko false 9999
              have hfk := run_findKey (w := w) hd h3
              -- the entry's key stays what it is
              have hsame : ces.modify j (fun e => { e with key := kv }) = ces := by
                apply Array.ext_getElem?
                intro i
                rw [Array.getElem?_modify]
                split
                · rename_i e; subst e; rw [c1]; simp [← e1]
                · rfl
              have hst : (Instr.keyThatStays kv kv).run P w = .ok kv w := by simp [Instr.keyThatStays, e3]
              have hge : ∀ z, ((ces[j]?.map (·.key)).getD z) = kv := fun z => by simp [c1, e1]
              have hbo : bornAt es j = en := by simp [bornAt, he1]
              refine ⟨.tuple #[vc, goInt en], w, ?_, ?_, hg, Ext.refl _ _ _⟩
              · have hb2 : (((ces[j]?).map (fun x => (x.born : Int))).getD 0) = en := by simp [c1, c4]
                simp only [Instr.mapEntry, Sem.run_bind, run_underlying hu, Result.andThen_ok, run_getMap h1, hck', hfk, hge, hst, hsame, run_setMap h1, Sem.run_pure, setO_id h1, hb2]
              · rw [hbo]; exact VRL.tuple (.cons h5 (.cons (.int _ _) .nil))
          · rename_i hf
            cases ha
            obtain ⟨hko, hfa⟩ := findK_spec hf
            obtain ⟨r', h3, h4⟩ := findA_sim hk es ces.toList 0 _ h2 hfa
            rcases h4 with ⟨_, rfl⟩ | ⟨j', v'', vc, a, _⟩
            · have hck' : (Instr.checkKey false 10000 kt kv).run P w = .ok () w := run_checkKey (w := w) hd hk hko false 9999
              have hfk := run_findKey (w := w) hd h3
              obtain ⟨g1, g2⟩ := hg.set hkk ho (by simp) (.map (es ++ [(k, ofConst zv, ck)]) (ck + 1)) _ (mapObj (h2.push (n := ck) hk (VR.ofConst zv)) (ck + 1) kk)
              refine ⟨.tuple #[zv, goInt ck], _, ?_, VRL.tuple (.cons (VR.ofConst zv) (.cons (.int _ _) .nil)), g1, g2⟩
              simp only [Instr.mapEntry, Sem.run_bind, run_underlying hu, Result.andThen_ok, run_getMap h1, hck', hfk, run_setMap h1, hz0, Sem.run_pure]
            · cases a
          · cases ha
        · cases ha
      · cases ha
    · cases hi
  · cases hi

theorem findBorn_sim {n : Int} : ∀ (es : List Entry) (ces : List MapEntry) (i j : Nat), EntR w0 μ es ces → findBorn n es i = some j → ∃ m, j = i + m ∧ ces.findIdx? (fun e => (e.born : Int) == n) = some m ∧ ∃ e, es[m]? = some e
  | [], ces, i, j, h, hf => by cases hf
  | (k, v, b) :: es, ces, i, j, h, hf => by
    obtain ⟨e, ces', rfl, h1, h2, h3, h4⟩ := h.cons_inv
    simp only [findBorn] at hf
    split at hf
    · rename_i hb
      cases hf
      exact ⟨0, rfl, by simp [List.findIdx?_cons, h3, hb], _, rfl⟩
    · rename_i hb
      obtain ⟨m, rfl, q, e', he'⟩ := findBorn_sim es ces' (i + 1) j h4 hf
      refine ⟨m + 1, by omega, ?_, e', by simpa using he'⟩
      simp [List.findIdx?_cons, h3, hb, q]

theorem eff_entryStore (hg : Good w0 μ h w) {t : TypeId} {m s x : AV} {mv sv xv : Value} (hm : VR w0 μ m mv) (hs : VR w0 μ s sv) (hx : VR w0 μ x xv) {h' : Heap} (ha : entryStoreS m s x h = some h') :
    ∃ w', (Instr.entryStore t mv sv xv).run P w = .ok () w' ∧ Good w0 μ h' w' ∧ Ext μ h w μ h' w' := by
  unfold entryStoreS at ha
  split at ha
  · rename_i b kk n
    split at ha
    · rename_i es ck ho
      split at ha
      · rename_i j hf
        cases ha
        cases hm
        rename_i bk hkk
        rw [hs.int_inv]
        obtain ⟨ces, h1, h2⟩ := hg.map hkk ho
        obtain ⟨m, rfl, q, ⟨ek, ev, en⟩, he⟩ := findBorn_sim es ces.toList 0 j h2 hf
        rw [Nat.zero_add]
        have hq : ces.findIdx? (fun e => (e.born : Int) == n) = some m := by
          cases ces; simpa using q
        obtain ⟨c, c1, c2, c3, c4⟩ := h2.rel _ _ _ _ he
        have hent := h2.modify he c2 hx (fun e => { e with val := xv }) (fun e => .inr rfl) (fun _ => rfl) (fun _ => rfl)
        obtain ⟨g1, g2⟩ := hg.set hkk ho (by simp) (.map (setEntry es m x) ck) _ (mapObj hent ck bk)
        refine ⟨_, ?_, g1, g2⟩
        have hai : (asInt (.int kk n)).run P w = .ok n w := by simp [asInt, asIntOf]
        simp only [Instr.entryStore, Sem.run_bind, Result.andThen_ok, run_getMap h1, hai, hq, run_setMap h1]
      · cases ha
    · cases ha
  · cases ha

theorem EntR.erase {es : List Entry} {ces : Array MapEntry} (h : EntR w0 μ es ces.toList) (j : Nat) : EntR w0 μ (es.eraseIdx j) (ces.eraseIdxIfInBounds j).toList := by
  have hlen : ces.toList.length = es.length := h.len
  have e : (ces.eraseIdxIfInBounds j).toList = ces.toList.eraseIdx j := by simp
  rw [e]
  refine ⟨by rw [List.length_eraseIdx, List.length_eraseIdx, hlen], fun i k v n hi => ?_⟩
  rw [List.getElem?_eraseIdx] at hi ⊢
  split at hi
  · rename_i hlt; rw [if_pos hlt]; exact h.rel i k v n hi
  · rename_i hlt; rw [if_neg hlt]; exact h.rel (i + 1) k v n hi

theorem eff_delete (hg : Good w0 μ h w) {t ty : TypeId} {ts : List TypeId} {o : TypeDesc × TypeId} (hi : mapT P t = some o) {m k : AV} {mv kv : Value} (hm : VR w0 μ m mv) (hk : VR w0 μ k kv) {h' : Heap} (ha : deleteS o.1 m k h = some h') :
    ∃ w', (Builtin.delete_ (t :: ts).toArray ty #[mv, kv]).run P w = .ok undef w' ∧ Good w0 μ h' w' ∧ Ext μ h w μ h' w' := by
  obtain ⟨kt, hu, hd⟩ := mapT_spec hi
  unfold deleteS at ha
  split at ha
  · split at ha
    · rename_i hko
      cases ha
      cases hm
      have hck' : (Instr.checkKey true 10000 kt kv).run P w = .ok () w := run_checkKey (w := w) hd hk hko true 9999
      exact ⟨w, by simp [Builtin.delete_, run_underlying hu, hck']; rfl, hg, Ext.refl _ _ _⟩
    · cases ha
  · rename_i b
    split at ha
    · rename_i es ck ho
      cases hm
      rename_i kk hkk
      obtain ⟨ces, h1, h2⟩ := hg.map hkk ho
      split at ha
      · rename_i j v hf
        cases ha
        obtain ⟨hko, hfa⟩ := findK_spec hf
        obtain ⟨r', h3, h4⟩ := findA_sim hk es ces.toList 0 _ h2 hfa
        rcases h4 with ⟨a, _⟩ | ⟨j', v'', vc, a, rfl, h5, _⟩
        · cases a
        · cases a
          have hck' : ∀ e, (Instr.checkKey e 10000 kt kv).run P w = .ok () w := fun e => run_checkKey (w := w) hd hk hko e 9999
          have hfk := run_findKey (w := w) hd h3
          obtain ⟨g1, g2⟩ := hg.set hkk ho (by simp) (.map (es.eraseIdx j) ck) _ (mapObj (h2.erase j) ck kk)
          refine ⟨_, ?_, g1, g2⟩
          simp [Builtin.delete_, run_underlying hu, run_getMap h1, hck', hfk, run_setMap h1]; rfl
      · rename_i hf
        cases ha
        obtain ⟨hko, hfa⟩ := findK_spec hf
        obtain ⟨r', h3, h4⟩ := findA_sim hk es ces.toList 0 _ h2 hfa
        rcases h4 with ⟨_, rfl⟩ | ⟨j', v'', vc, a, _⟩
        · have hck' : ∀ e, (Instr.checkKey e 10000 kt kv).run P w = .ok () w := fun e => run_checkKey (w := w) hd hk hko e 9999
          have hfk := run_findKey (w := w) hd h3
          obtain ⟨g1, g2⟩ := hg.set hkk ho (by simp) (.map es ck) _ (mapObj h2 ck kk)
          refine ⟨_, ?_, g1, g2⟩
          simp [Builtin.delete_, run_underlying hu, run_getMap h1, hck', hfk, run_setMap h1]; rfl
        · cases a
      · cases ha
    · cases ha
  · cases ha
end
end Go.AM
