/- Parts of the proof. Conditions: none. -/
import Derived.Test.YtfdanacohcffmaaGreatKn6
import Derived.Laws.IdiomStrings
import Derived.MapKept
set_option linter.unusedVariables false
set_option linter.unusedSimpArgs false
namespace Go.AM
open Go Go.RowKit
variable {ces : Array MapEntry} {h' : Heap} {t : TypeId} {kv mv xv : Value} {k m x : AV}
section
variable {P : Program} {w0 w : World} {μ : Mu} {h : Heap} {ρ : Operand → AV} {ρc : Operand → Value}
theorem eff_copy (hg : Good w0 μ h w) {u ty : TypeId} {ts : List TypeId} {i : Nat × Nat} (hi : elemI P t = some i) {d s v : AV} {dv sv : Value} (hd : VR w0 μ d dv) (hs : VR w0 μ s sv) (ha : copyS i.1 d s h = some (v, h')) :
    ∃ vc w', (Builtin.copy_ (t :: ts).toArray ty #[dv, sv]).run P w = .ok vc w' ∧ VR w0 μ v vc ∧ Good w0 μ h' w' ∧ Ext μ h w μ h' w' := by
  obtain ⟨e, inf, hu, hinf, hsz, hb, hp, hp'⟩ := elemI_spec hi
  have hz : ∀ w, (sizeOf e).run P w = .ok i.1 w := fun w => by simp [sizeOf, typeInfo, hinf, hsz]
  unfold copyS at ha
  split at ha
  · cases ha
  · rename_i m hm
    split at ha
    · cases ha
      cases hd
      have hlen : (Builtin.lenOf sv).run P w = .ok m w := by
        cases s <;> simp only [lenA, reduceCtorEq, Option.some.injEq] at hm
        · subst hm
          obtain ⟨s, rfl, rfl⟩ := hs.str_inv
          simp [Builtin.lenOf]
        · subst hm; cases hs; simp [Builtin.lenOf]
        · subst hm; cases hs; simp [Builtin.lenOf]
        · subst hm; cases hs; simp [Builtin.lenOf]
      have hf0 : ∃ us, (Builtin.firstCells i.1 0 sv).run P w = .ok us w := by
        have zero : ∀ (a : Addr) (w : World), (loadCells a 0).run P w = .ok #[] w := fun a w => by simp [loadCells, loadCellsFrom]
        cases s <;> simp only [lenA, reduceCtorEq, Option.some.injEq] at hm
        · obtain ⟨s, rfl, rfl⟩ := hs.str_inv; exact ⟨_, by simp [Builtin.firstCells]; rfl⟩
        · cases hs; exact ⟨_, by simp [Builtin.firstCells]; rfl⟩
        · cases hs; exact ⟨_, by simp [Builtin.firstCells, zero]; rfl⟩
        · cases hs; exact ⟨_, by simp [Builtin.firstCells, zero]; rfl⟩
      obtain ⟨us, hus⟩ := hf0
      refine ⟨.int .i64 0, w, ?_, .int _ _, hg, Ext.refl _ _ _⟩
      simp [Builtin.copy_, run_underlying hu, hlen, hz, hus, goInt]
    · rename_i b off len s'
      split at ha
      · rename_i hs'
        subst hs'
        split at ha
        · rename_i new hnew
          split at ha
          · rename_i cs ho
            split at ha
            · rename_i hc
              cases ha
              simp only [Bool.and_eq_true, decide_eq_true_eq] at hc
              obtain ⟨⟨hc1, hc2⟩, hc3⟩ := hc
              obtain ⟨us, q1, q2, q3, q4⟩ := first_sim (P := P) hg hs hm (Nat.min_le_left m len) hnew
              cases hd
              rename_i cap a k hk hle hac
              by_cases h0 : cap = 0
              · subst h0
                obtain rfl : len = 0 := by omega
                have hus : us = #[] := by
                  have := q2.len
                  simp only [Array.length_toList] at this
                  apply Array.eq_empty_of_size_eq_zero
                  rw [← this, hc3]; simp
                subst hus
                have hnl := q2.len
                simp at hnl
                subst hnl
                have hid : h.set b (.cells (putL cs off [])) = h.set b (.cells cs) := rfl
                obtain ⟨vs, el, fr, o1, o2, o3, o4, o5⟩ := hg.obj b k _ hk ho
                obtain ⟨g1, g2⟩ := hg.set hk ho (by simp) (.cells cs) (.cells vs el fr) ⟨vs, el, fr, rfl, o2, o3, o4, o5⟩
                rw [setO_id o1] at g1 g2
                refine ⟨.int .i64 (Nat.min m 0), w, ?_, .int _ _, g1, g2⟩
                simp [Builtin.copy_, run_underlying hu, q3, hz, goInt, storeCells]
                have := q1 w rfl
                simp at this
                simp [this, storeCells]
              · obtain ⟨rfl, hin⟩ := hac h0
                have hlen : us.size = Nat.min m len * i.1 := by have := q2.len; simp only [Array.length_toList] at this; omega
                obtain ⟨vs, el, fr, o1, o2, o3, o4, o5⟩ := obj_put (hg.obj b k _ hk ho) q2 off (by rw [hc3]; exact hc2)
                have hrow := run_storeRow (P := P) k.c (k.base + off) el fr us.toList 0 vs w o1 o3 (by simp only [Array.length_toList, hlen, o2]; omega) (q2.oneCells hc1)
                rw [Nat.add_zero] at hrow
                obtain ⟨g1, g2⟩ := hg.set hk ho (by simp) (.cells (putL cs off new)) _ o5
                refine ⟨.int .i64 (Nat.min m len), _, ?_, .int _ _, g1, g2⟩
                have := q1 w rfl
                simp [Builtin.copy_, run_underlying hu, q3, hz, this, hrow, goInt]
            · cases ha
          · cases ha
        · cases ha
      · cases ha
    · cases ha
theorem run_getMap {r : Nat} {ck : Nat} (ho : w.heap[r]? = some (.map ces ck)) : (getObj r).run P w = .ok (.map ces ck) w := by simp [getObj, Sem.run, ho]
theorem run_setMap {r : Nat} {ck : Nat} (ho : w.heap[r]? = some (.map ces ck)) (o : Obj) : (setObj r o).run P w = .ok () (setO w r o) := by simp [setObj, Sem.run, ho, setO]
theorem keyEq_eq {d : TypeDesc} (hk : VR w0 μ k kv) (hx : VR w0 μ x xv) (h : keyEq d k x = some true) : xv = kv ∧ x = k ∧ ∀ n, Instr.sameBits n kv kv = true := by
  unfold keyEq at h
  split at h
  · rename_i k1 a k2 b'
    rw [hk.int_inv, hx.int_inv]
    split at h
    · rename_i e
      subst e
      simp only [Option.some.injEq, beq_iff_eq] at h
      subst h
      exact ⟨rfl, rfl, fun n => by cases n <;> simp [Instr.sameBits]⟩
    · cases h
  · obtain ⟨s, rfl, rfl⟩ := hk.str_inv
    obtain ⟨u, rfl, rfl⟩ := hx.str_inv
    simp only [Option.some.injEq, beq_iff_eq] at h
    have : u = s := by
      obtain ⟨u⟩ := u; obtain ⟨s⟩ := s
      congr 1
      exact (Array.toList_inj.1 h).symm
    subst this
    exact ⟨rfl, rfl, fun n => by cases n <;> simp [Instr.sameBits, MapKept.bytes_beq]⟩
  · rw [hk.bool_inv, hx.bool_inv]
    simp only [Option.some.injEq, beq_iff_eq] at h
    subst h
    exact ⟨rfl, rfl, fun n => by cases n <;> simp [Instr.sameBits]⟩
  · cases h
theorem EntR.push {es : List Entry} {ces : Array MapEntry} (h : EntR w0 μ es ces.toList) {k v : AV} {kv vv : Value} {n : Nat} (hk : VR w0 μ k kv) (hv : VR w0 μ v vv) :
    EntR w0 μ (es ++ [(k, v, n)]) (ces.push { key := kv, val := vv, born := n }).toList := by
  refine ⟨by simp [h.len], fun i k' v' n' hi => ?_⟩
  have hlen : ces.toList.length = es.length := h.len
  rw [Array.toList_push]
  by_cases e : i < es.length
  · rw [List.getElem?_append_left e] at hi
    rw [List.getElem?_append_left (by omega)]
    exact h.rel i k' v' n' hi
  · have hi0 : i = es.length := by
      have := (ZgI.1 hi).1
      simp at this; omega
    subst hi0
    rw [List.getElem?_append_right (ZrF _)] at hi
    simp only [Nat.sub_self, List.getElem?_cons_zero, Option.some.injEq, Prod.mk.injEq] at hi
    obtain ⟨rfl, rfl, rfl⟩ := hi
    refine ⟨{ key := kv, val := vv, born := n }, ?_, hk, hv, rfl⟩
    rw [← hlen, List.getElem?_append_right (ZrF _)]
    simp
theorem EntR.modify {es : List Entry} {ces : Array MapEntry} (h : EntR w0 μ es ces.toList) {j : Nat} {k v : AV} {kv vv : Value} {n : Nat} (hj : es[j]? = some (k, v, n)) {v' : AV} (hk : VR w0 μ k kv) (hv : VR w0 μ v' vv) (f : MapEntry → MapEntry)
    (hf : ∀ e : MapEntry, (f e).key = kv ∨ (f e).key = e.key) (hf1 : ∀ e : MapEntry, (f e).val = vv) (hf2 : ∀ e : MapEntry, (f e).born = e.born) :
    EntR w0 μ (setEntry es j v') (ces.modify j f).toList := by
  have hs : setEntry es j v' = es.set j (k, v', n) := by simp [setEntry, hj]
  rw [hs]
  refine ⟨by simpa using h.len, fun i k1 v1 n1 hi => ?_⟩
  rw [List.getElem?_set] at hi
  rw [Array.getElem?_toList, Array.getElem?_modify]
  split at hi
  · rename_i e
    subst e
    have hjl := (ZgI.1 hj).1
    rw [if_pos hjl] at hi
    cases hi
    obtain ⟨e, h1, h2, h3, h4⟩ := h.rel j k v n hj
    rw [Array.getElem?_toList] at h1
    refine ⟨f e, by simp [h1], ?_, by rw [hf1]; exact hv, by rw [hf2]; exact h4⟩
    rcases hf e with q | q
    · rw [q]; exact hk
    · rw [q]; exact h2
  · rename_i e
    rw [if_neg e]
    have := h.rel i k1 v1 n1 hi
    rwa [Array.getElem?_toList] at this
theorem mapObj {es : List Entry} (h : EntR w0 μ es ces.toList) (ck : Nat) (k : Blk) : ObjR w0 μ (.map es ck) k (some (.map ces ck)) :=
  ⟨ces, rfl, by simpa using h.len, fun i k v n hi => by simpa using h.rel i k v n hi⟩
theorem eff_mapUpdate (hg : Good w0 μ h w) {o : TypeDesc × TypeId} (hi : mapT P t = some o) (hm : VR w0 μ m mv) (hk : VR w0 μ k kv) (hx : VR w0 μ x xv) (ha : mapUpdateS o.1 m k x h = some h') :
    ∃ w', (Instr.mapUpdate t mv kv xv).run P w = .ok () w' ∧ Good w0 μ h' w' ∧ Ext μ h w μ h' w' := by
  obtain ⟨kt, hu, hd⟩ := mapT_spec hi
  unfold mapUpdateS at ha
  split at ha
  · rename_i b
    split at ha
    · rename_i es ck ho
      cases hm
      rename_i kk hkk
      obtain ⟨ces, h1, h2⟩ := hg.map hkk ho
      split at ha
      · rename_i j v hf
        cases ha
        obtain ⟨hko, hfa⟩ := findK_spec hf
        obtain ⟨r', h3, h4⟩ := findA_sim hk es ces.toList 0 _ h2 hfa
        rcases h4 with ⟨a, _⟩ | ⟨j', v'', vc, a, rfl, h5, _, ⟨ek, ev, en⟩, he1, he2, he3⟩
        · cases a
        · cases a
          simp only [Nat.sub_zero] at he1
          obtain ⟨c, c1, c2, c3, c4⟩ := h2.rel _ _ _ _ he1
          rw [Array.getElem?_toList] at c1
          obtain ⟨e1, e2, e3⟩ := keyEq_eq hk c2 he3
          have hck := run_checkKey (w := w) hd hk hko false 9999
          have hck' : (Instr.checkKey false 10000 kt kv).run P w = .ok () w := hck
          have hfk := run_findKey (w := w) hd h3
          have hent := h2.modify he1 c2 hx (fun e => { e with key := kv, val := xv }) (fun e => .inl e1.symm) (fun _ => rfl) (fun _ => rfl)
          obtain ⟨g1, g2⟩ := hg.set hkk ho (by simp) (.map (setEntry es j x) ck) _ (mapObj hent ck kk)
          refine ⟨_, ?_, g1, g2⟩
          have hst : (Instr.keyThatStays kv kv).run P w = .ok kv w := by simp [Instr.keyThatStays, e3]
          have hge : ∀ z, ((ces[j]?.map (·.key)).getD z) = kv := fun z => by simp [c1, e1]
          simp only [Instr.mapUpdate, Sem.run_bind, run_underlying hu, Result.andThen_ok, run_getMap h1, hck', hfk, hge, hst, run_setMap h1]
      · rename_i hf
        cases ha
        obtain ⟨hko, hfa⟩ := findK_spec hf
        obtain ⟨r', h3, h4⟩ := findA_sim hk es ces.toList 0 _ h2 hfa
        rcases h4 with ⟨_, rfl⟩ | ⟨j', v'', vc, a, _⟩
        · have hck' : (Instr.checkKey false 10000 kt kv).run P w = .ok () w := run_checkKey (w := w) hd hk hko false 9999
          have hfk := run_findKey (w := w) hd h3
          obtain ⟨g1, g2⟩ := hg.set hkk ho (by simp) (.map (es ++ [(k, x, ck)]) (ck + 1)) _ (mapObj (h2.push (n := ck) hk hx) (ck + 1) kk)
          refine ⟨_, ?_, g1, g2⟩
          simp only [Instr.mapUpdate, Sem.run_bind, run_underlying hu, Result.andThen_ok, run_getMap h1, hck', hfk, run_setMap h1]
        · cases a
      · cases ha
    · cases ha
  · cases ha
theorem eff_mapEntry (hg : Good w0 μ h w) {o : TypeDesc × AV} (hi : lookupI P t = some o) {v : AV} (hm : VR w0 μ m mv) (hk : VR w0 μ k kv) (ha : mapEntryS o.1 o.2 m k h = some (v, h')) :
    ∃ vc w', (Instr.mapEntry t mv kv).run P w = .ok vc w' ∧ VR w0 μ v vc ∧ Good w0 μ h' w' ∧ Ext μ h w μ h' w' := by
  unfold lookupI at hi
  split at hi
  · rename_i d et hmt
    split at hi
    · rename_i z hz
      cases hi
      obtain ⟨kt, hu, hd⟩ := mapT_spec hmt
      obtain ⟨inf, zv, hinf, hzv, rfl⟩ := zeroT_spec hz
      have hz0 := run_zeroValue (P := P) hinf hzv w
      unfold mapEntryS at ha
      split at ha
      · rename_i b
        split at ha
        · rename_i es ck ho
          cases hm
          rename_i kk hkk
          obtain ⟨ces, h1, h2⟩ := hg.map hkk ho
          split at ha
          · rename_i j v' hf
            cases ha
            obtain ⟨hko, hfa⟩ := findK_spec hf
            obtain ⟨r', h3, h4⟩ := findA_sim hk es ces.toList 0 _ h2 hfa
            rcases h4 with ⟨a, _⟩ | ⟨j', v'', vc, a, rfl, h5, _, ⟨ek, ev, en⟩, he1, he2, he3⟩
            · cases a
            · cases a
              simp only [Nat.sub_zero] at he1
              obtain ⟨c, c1, c2, c3, c4⟩ := h2.rel _ _ _ _ he1
              rw [Array.getElem?_toList] at c1
              obtain ⟨e1, e2, e3⟩ := keyEq_eq hk c2 he3
              have hck' : (Instr.checkKey false 10000 kt kv).run P w = .ok () w := run_checkKey (w := w) hd hk hko false 9999
              have hfk := run_findKey (w := w) hd h3
              have hsame : ces.modify j (fun e => { e with key := kv }) = ces := by
                apply Array.ext_getElem?
                intro i
                rw [Array.getElem?_modify]
                split
                · rename_i e; subst e; rw [c1]; simp [← e1]
                · rfl
              have hst : (Instr.keyThatStays kv kv).run P w = .ok kv w := by simp [Instr.keyThatStays, e3]
              have hge : ∀ z, ((ces[j]?.map (·.key)).getD z) = kv := fun z => by simp [c1, e1]
              have hbo : bornAt es j = en := by simp [bornAt, he1]
              refine ⟨.tuple #[vc, goInt en], w, ?_, ?_, hg, Ext.refl _ _ _⟩
              · have hb2 : (((ces[j]?).map (fun x => (x.born : Int))).getD 0) = en := by simp [c1, c4]
                simp only [Instr.mapEntry, Sem.run_bind, run_underlying hu, Result.andThen_ok, run_getMap h1, hck', hfk, hge, hst, hsame, run_setMap h1, Sem.run_pure, setO_id h1, hb2]
              · rw [hbo]; exact VRL.tuple (.cons h5 (.cons (.int _ _) .nil))
          · rename_i hf
            cases ha
            obtain ⟨hko, hfa⟩ := findK_spec hf
            obtain ⟨r', h3, h4⟩ := findA_sim hk es ces.toList 0 _ h2 hfa
            rcases h4 with ⟨_, rfl⟩ | ⟨j', v'', vc, a, _⟩
            · have hck' : (Instr.checkKey false 10000 kt kv).run P w = .ok () w := run_checkKey (w := w) hd hk hko false 9999
              have hfk := run_findKey (w := w) hd h3
              obtain ⟨g1, g2⟩ := hg.set hkk ho (by simp) (.map (es ++ [(k, ofConst zv, ck)]) (ck + 1)) _ (mapObj (h2.push (n := ck) hk (VR.ofConst zv)) (ck + 1) kk)
              refine ⟨.tuple #[zv, goInt ck], _, ?_, VRL.tuple (.cons (VR.ofConst zv) (.cons (.int _ _) .nil)), g1, g2⟩
              simp only [Instr.mapEntry, Sem.run_bind, run_underlying hu, Result.andThen_ok, run_getMap h1, hck', hfk, run_setMap h1, hz0, Sem.run_pure]
            · cases a
          · cases ha
        · cases ha
      · cases ha
    · cases hi
  · cases hi
theorem findBorn_sim {n : Int} : ∀ (es : List Entry) (ces : List MapEntry) (i j : Nat), EntR w0 μ es ces → findBorn n es i = some j → ∃ m, j = i + m ∧ ces.findIdx? (fun e => (e.born : Int) == n) = some m ∧ ∃ e, es[m]? = some e
  | [], ces, i, j, h, hf => by cases hf
  | (k, v, b) :: es, ces, i, j, h, hf => by
    obtain ⟨e, ces', rfl, h1, h2, h3, h4⟩ := h.cons_inv
    simp only [findBorn] at hf
    split at hf
    · rename_i hb
      cases hf
      exact ⟨0, rfl, by simp [List.findIdx?_cons, h3, hb], _, rfl⟩
    · rename_i hb
      obtain ⟨m, rfl, q, e', he'⟩ := findBorn_sim es ces' (i + 1) j h4 hf
      refine ⟨m + 1, by omega, ?_, e', by simpa using he'⟩
      simp [List.findIdx?_cons, h3, hb, q]
theorem eff_entryStore (hg : Good w0 μ h w) {s : AV} {sv : Value} (hm : VR w0 μ m mv) (hs : VR w0 μ s sv) (hx : VR w0 μ x xv) (ha : entryStoreS m s x h = some h') :
    ∃ w', (Instr.entryStore t mv sv xv).run P w = .ok () w' ∧ Good w0 μ h' w' ∧ Ext μ h w μ h' w' := by
  unfold entryStoreS at ha
  split at ha
  · rename_i b kk n
    split at ha
    · rename_i es ck ho
      split at ha
      · rename_i j hf
        cases ha
        cases hm
        rename_i bk hkk
        rw [hs.int_inv]
        obtain ⟨ces, h1, h2⟩ := hg.map hkk ho
        obtain ⟨m, rfl, q, ⟨ek, ev, en⟩, he⟩ := findBorn_sim es ces.toList 0 j h2 hf
        rw [Nat.zero_add]
        have hq : ces.findIdx? (fun e => (e.born : Int) == n) = some m := by
          cases ces; simpa using q
        obtain ⟨c, c1, c2, c3, c4⟩ := h2.rel _ _ _ _ he
        have hent := h2.modify he c2 hx (fun e => { e with val := xv }) (fun e => .inr rfl) (fun _ => rfl) (fun _ => rfl)
        obtain ⟨g1, g2⟩ := hg.set hkk ho (by simp) (.map (setEntry es m x) ck) _ (mapObj hent ck bk)
        refine ⟨_, ?_, g1, g2⟩
        have hai : (asInt (.int kk n)).run P w = .ok n w := by simp [asInt, asIntOf]
        simp only [Instr.entryStore, Sem.run_bind, Result.andThen_ok, run_getMap h1, hai, hq, run_setMap h1]
      · cases ha
    · cases ha
  · cases ha
theorem EntR.erase {es : List Entry} (h : EntR w0 μ es ces.toList) (j : Nat) : EntR w0 μ (es.eraseIdx j) (ces.eraseIdxIfInBounds j).toList := by
  have hlen : ces.toList.length = es.length := h.len
  have e : (ces.eraseIdxIfInBounds j).toList = ces.toList.eraseIdx j := by simp
  rw [e]
  refine ⟨by rw [List.length_eraseIdx, List.length_eraseIdx, hlen], fun i k v n hi => ?_⟩
  rw [List.getElem?_eraseIdx] at hi ⊢
  split at hi
  · rename_i hlt; rw [if_pos hlt]; exact h.rel i k v n hi
  · rename_i hlt; rw [if_neg hlt]; exact h.rel (i + 1) k v n hi
theorem eff_delete (hg : Good w0 μ h w) {ty : TypeId} {ts : List TypeId} {o : TypeDesc × TypeId} (hi : mapT P t = some o) (hm : VR w0 μ m mv) (hk : VR w0 μ k kv) (ha : deleteS o.1 m k h = some h') :
    ∃ w', (Builtin.delete_ (t :: ts).toArray ty #[mv, kv]).run P w = .ok undef w' ∧ Good w0 μ h' w' ∧ Ext μ h w μ h' w' := by
  obtain ⟨kt, hu, hd⟩ := mapT_spec hi
  unfold deleteS at ha
  split at ha
  · split at ha
    · rename_i hko
      cases ha
      cases hm
      have hck' : (Instr.checkKey true 10000 kt kv).run P w = .ok () w := run_checkKey (w := w) hd hk hko true 9999
      exact ⟨w, by simp [Builtin.delete_, run_underlying hu, hck']; rfl, hg, Ext.refl _ _ _⟩
    · cases ha
  · rename_i b
    split at ha
    · rename_i es ck ho
      cases hm
      rename_i kk hkk
      obtain ⟨ces, h1, h2⟩ := hg.map hkk ho
      split at ha
      · rename_i j v hf
        cases ha
        obtain ⟨hko, hfa⟩ := findK_spec hf
        obtain ⟨r', h3, h4⟩ := findA_sim hk es ces.toList 0 _ h2 hfa
        rcases h4 with ⟨a, _⟩ | ⟨j', v'', vc, a, rfl, h5, _⟩
        · cases a
        · cases a
          have hck' : ∀ e, (Instr.checkKey e 10000 kt kv).run P w = .ok () w := fun e => run_checkKey (w := w) hd hk hko e 9999
          have hfk := run_findKey (w := w) hd h3
          obtain ⟨g1, g2⟩ := hg.set hkk ho (by simp) (.map (es.eraseIdx j) ck) _ (mapObj (h2.erase j) ck kk)
          refine ⟨_, ?_, g1, g2⟩
          simp [Builtin.delete_, run_underlying hu, run_getMap h1, hck', hfk, run_setMap h1]; rfl
      · rename_i hf
        cases ha
        obtain ⟨hko, hfa⟩ := findK_spec hf
        obtain ⟨r', h3, h4⟩ := findA_sim hk es ces.toList 0 _ h2 hfa
        rcases h4 with ⟨_, rfl⟩ | ⟨j', v'', vc, a, _⟩
        · have hck' : ∀ e, (Instr.checkKey e 10000 kt kv).run P w = .ok () w := fun e => run_checkKey (w := w) hd hk hko e 9999
          have hfk := run_findKey (w := w) hd h3
          obtain ⟨g1, g2⟩ := hg.set hkk ho (by simp) (.map es ck) _ (mapObj h2 ck kk)
          refine ⟨_, ?_, g1, g2⟩
          simp [Builtin.delete_, run_underlying hu, run_getMap h1, hck', hfk, run_setMap h1]; rfl
        · cases a
      · cases ha
    · cases ha
  · cases ha
end
end Go.AM
set_option linter.unusedVariables false
set_option linter.unusedSimpArgs false
namespace Go.AM
open Go Go.RowKit
variable {xv : Value} {x v : AV}
section
variable {P : Program} {w0 w : World} {μ : Mu} {h : Heap} {ρ : Operand → AV} {ρc : Operand → Value}
theorem bytesOf_sim : ∀ (cs : List AV) (bs : List UInt8) (us : List Value), bytesOf cs = some bs → VRL w0 μ cs us → ∃ ns : List Int, us = ns.map (Value.int .u8) ∧ ns.map (fun n => UInt8.ofNat n.toNat) = bs
  | [], bs, us, h, hu => by
    cases h
    obtain rfl := hu.nil_inv
    exact ⟨[], rfl, rfl⟩
  | c :: cs, bs, us, h, hu => by
    unfold bytesOf at h
    split at h
    · rename_i h0; cases h0
    · rename_i n l heq
      cases heq
      obtain ⟨u, us, rfl, h1, h2⟩ := hu.cons_inv
      split at h
      · rename_i bs' hb
        cases h
        obtain ⟨ns, rfl, e⟩ := bytesOf_sim cs bs' us hb h2
        exact ⟨n :: ns, by rw [h1.int_inv]; rfl, by simp [e]⟩
      · cases h
    · cases h
theorem foldl_push (ns : List Int) : ∀ s : ByteArray, (ns.foldl (fun r n => r.push (UInt8.ofNat n.toNat)) s).data.toList = s.data.toList ++ ns.map (fun n => UInt8.ofNat n.toNat) := by
  induction ns with
  | nil => intro s; simp
  | cons n ns ih => intro s; rw [List.foldl_cons, ih]; simp [ByteArray.push]
theorem conv_string (hg : Good w0 μ h w) {src dst e : TypeId} (hs : P.underlying src = some (.slice e)) (he : P.underlying e = some (.int .u8)) (hd : P.underlying dst = some .string) (hx : VR w0 μ x xv) {n : Nat}
    (hn : lenA x = some n) {cs : List AV} (hf : firstS 1 n x h = some cs) {bs : List UInt8} (hb : bytesOf cs = some bs) (hxs : ∀ s, x ≠ .str s) :
    ∃ s : ByteArray, (convert src dst xv).run P w = .ok (.string s) w ∧ s.data.toList = bs := by
  obtain ⟨us, q1, q2, q3, q4⟩ := first_sim (P := P) hg hx hn (ZrF n) hf
  obtain ⟨ns, e1, e2⟩ := bytesOf_sim _ _ _ hb q2
  have key : ∀ (a : Option Addr) (l c : Nat), xv = .slice a l c → ∃ s : ByteArray, (convert src dst xv).run P w = .ok (.string s) w ∧ s.data.toList = bs := by
    intro a l c hxv
    subst hxv
    rw [run_convert_bytes_string w src dst e a l c hs he hd]
    cases a with
    | none =>
      refine ⟨.empty, by simp [Conv.bytesToString], ?_⟩
      have := q1 w rfl
      simp [Builtin.firstCells] at this
      subst this
      simp at e1
      subst e1
      simpa using e2
    | some a =>
      have h1 := q1 w rfl
      have h2 := q3 w
      simp [Builtin.lenOf] at h2
      subst h2
      simp [Builtin.firstCells] at h1
      refine ⟨_, run_bytesToString w a l c ns (by rw [h1]; congr 1; apply Array.ext'; simpa using e1), ?_⟩
      rw [foldl_push]; simpa using e2
  cases x <;> simp only [lenA, reduceCtorEq] at hn
  · exact absurd rfl (hxs _)
  · cases hx; exact key _ _ _ rfl
  · cases hx; exact key _ _ _ rfl
  · cases hx; exact key _ _ _ rfl
theorem eff_convert (hg : Good w0 μ h w) {src dst : TypeId} {i : ConvK} (hi : convertI P src dst = some i) (hx : VR w0 μ x xv) {h' : Heap} (ha : convertS i x h = some (v, h')) :
    ∃ vc w' μ', (convert src dst xv).run P w = .ok vc w' ∧ VR w0 μ' v vc ∧ Good w0 μ' h' w' ∧ Ext μ h w μ' h' w' := by
  unfold convertI at hi
  split at hi
  · rename_i k1 k hs hd
    cases hi
    cases x <;> simp only [convertS, reduceCtorEq, Option.some.injEq, Prod.mk.injEq] at ha
    obtain ⟨rfl, rfl⟩ := ha
    rw [hx.int_inv]
    exact ⟨_, w, μ, by simp [convert, run_underlying hs, run_underlying hd, Conv.intToInt], .int _ _, hg, Ext.refl _ _ _⟩
  · rename_i hs hd
    cases hi
    cases x <;> simp only [convertS, reduceCtorEq, Option.some.injEq, Prod.mk.injEq] at ha
    obtain ⟨rfl, rfl⟩ := ha
    obtain ⟨s, rfl, rfl⟩ := hx.str_inv
    exact ⟨_, w, μ, by simp [convert, run_underlying hs, run_underlying hd], .str _, hg, Ext.refl _ _ _⟩
  · rename_i e hs hd
    split at hi
    · rename_i he hsz
      cases hi
      cases x <;> simp only [convertS, reduceCtorEq] at ha
      split at ha
      · rename_i hm
        cases ha
        obtain ⟨s, rfl, rfl⟩ := hx.str_inv
        have hgd : Good w0 μ h w.drew := hg.same rfl rfl rfl rfl
        have hsl : s.data.toList.length = s.size := by rw [Array.length_toList]; rfl
        have hcap : s.size ≤ grownCap w s.size 0 e := by
          unfold grownCap; show s.size ≤ s.size + _; omega
        have hbs : (bytesRow s (grownCap w s.size 0 e)).size = grownCap w s.size 0 e := by
          have : s.data.size = s.size := rfl
          simp [bytesRow, this]; omega
        have hobj : ObjR w0 μ (.cells (s.data.toList.map fun b => .int .u8 (b.toNat : Int))) ⟨w.heap.size, 0, grownCap w s.size 0 e⟩
            (some (.cells (bytesRow s (grownCap w s.size 0 e)) e ((bytesRow s (grownCap w s.size 0 e)).size, (bytesRow s (grownCap w s.size 0 e)).size + 1))) := by
          refine ⟨_, e, _, rfl, hbs, by simp [hsl]; exact hcap, .inr ⟨hm.1, by simp [hbs]⟩, fun j y hj => ?_⟩
          rw [List.getElem?_map] at hj
          obtain ⟨b, hb, rfl⟩ := Option.map_eq_some_iff.1 hj
          refine ⟨.int .u8 b.toNat, ?_, .int _ _⟩
          have hlt := (ZgI.1 hb).1
          show (bytesRow s _)[0 + j]? = _
          rw [Nat.zero_add]
          unfold bytesRow
          rw [Array.getElem?_append_left (by simpa using hlt), Array.getElem?_map, ← Array.getElem?_toList, hb]
          rfl
        obtain ⟨g1, g2⟩ := hgd.alloc _ _ _ hobj
        refine ⟨_, _, _, run_bytes_of_string w src dst e s hs hd he, ?_, g1, Ext.of_same (v := w.drew) rfl g2⟩
        rw [hsl]
        exact .slice h.next 0 s.size 1 _ ⟨w.heap.size, 0, none⟩ ⟨w.heap.size, 0, grownCap w s.size 0 e⟩ (Mu.add_same _ _ _) hcap (fun _ => ⟨rfl, by simp⟩)
      · cases ha
    · cases hi
  · rename_i e hs hd
    split at hi
    · rename_i he
      cases hi
      unfold convertS at ha
      split at ha <;> first | (rename_i h0; cases h0; done) | skip
      all_goals first
        | (rename_i h0 h1; cases h0; done)
        | skip
      · cases ha
        cases hx
        rw [run_convert_bytes_string w src dst e none 0 0 hs he hd]
        exact ⟨.string .empty, w, μ, by simp [Conv.bytesToString], .str .empty, hg, Ext.refl _ _ _⟩
      · split at ha
        · rename_i cs hf
          split at ha
          · rename_i bs hb
            cases ha
            obtain ⟨s, h1, h2⟩ := conv_string hg hs he hd hx rfl hf hb (by simp)
            exact ⟨_, w, μ, h1, h2 ▸ .str s, hg, Ext.refl _ _ _⟩
          · cases ha
        · cases ha
      · split at ha
        · rename_i cs hf
          split at ha
          · rename_i bs hb
            cases ha
            obtain ⟨s, h1, h2⟩ := conv_string hg hs he hd hx rfl hf hb (by simp)
            exact ⟨_, w, μ, h1, h2 ▸ .str s, hg, Ext.refl _ _ _⟩
          · cases ha
        · cases ha
      · cases ha
    · cases hi
  · cases hi
theorem eff_range (hg : Good w0 μ h w) {t : TypeId} {i : RangeK} (hi : rangeI P t = some i) (hx : VR w0 μ x xv) {h' : Heap} (ha : rangeS i x h = some (v, h')) :
    ∃ vc w' μ', (Instr.range t xv).run P w = .ok vc w' ∧ VR w0 μ' v vc ∧ Good w0 μ' h' w' ∧ Ext μ h w μ' h' w' := by
  have key : ∀ (o : AObj) (O : Obj), (∀ n, ObjR w0 μ o ⟨w.heap.size, 0, n⟩ (some O)) → (v, h') = (AV.ptr h.next 0, h.alloc o) →
      ∃ μ', VR w0 μ' v (.pointer (some ⟨w.heap.size, 0, none⟩)) ∧ Good w0 μ' h' (w.alloc O) ∧ Ext μ h w μ' h' (w.alloc O) := by
    intro o O hr he
    cases he
    obtain ⟨g1, g2⟩ := hg.alloc o O 0 (hr 0)
    exact ⟨_, .ptr h.next 0 ⟨w.heap.size, 0, 0⟩ (Mu.add_same _ _ _), g1, g2⟩
  unfold rangeI at hi
  split at hi
  · rename_i hu
    cases hi
    cases x <;> simp only [rangeS, reduceCtorEq, Option.some.injEq] at ha
    obtain ⟨s, rfl, rfl⟩ := hx.str_inv
    obtain ⟨μ', a, b, c⟩ := key (.siter s.data.toList 0) (.stringIter s 0) (fun n => ⟨rfl, s, rfl, rfl⟩) ha.symm
    exact ⟨_, _, μ', by simp [Instr.range, run_underlying hu], a, b, c⟩
  · rename_i k e hu
    cases hi
    cases x <;> simp only [rangeS, reduceCtorEq, Option.some.injEq] at ha
    · cases hx
      obtain ⟨μ', a, b, c⟩ := key (.miter none 0 [] 0) (.mapIter none 0 #[] 0) (fun n => ⟨rfl, none, rfl, rfl⟩) ha.symm
      exact ⟨_, _, μ', by simp [Instr.range, run_underlying hu], a, b, c⟩
    · rename_i m
      split at ha
      · rename_i es ck ho
        cases hx
        rename_i kk hkk
        obtain ⟨ces, h1, h2⟩ := hg.map hkk ho
        simp only [Option.some.injEq] at ha
        obtain ⟨μ', a, b, c⟩ := key (.miter (some m) ck [] ck) (.mapIter (some kk.c) ck #[] ck) (fun n => ⟨rfl, some kk.c, rfl, kk, hkk, rfl⟩) ha.symm
        exact ⟨_, _, μ', by simp [Instr.range, run_underlying hu, run_getMap h1], a, b, c⟩
      · cases ha
  · cases hi
theorem findBornNat_sim {n : Nat} : ∀ (es : List Entry) (ces : List MapEntry) (e : Entry), EntR w0 μ es ces → findBornNat n es = some e → ∃ c, ces.find? (·.born == n) = some c ∧ VR w0 μ e.1 c.key ∧ VR w0 μ e.2.1 c.val
  | [], ces, e, h, hf => by cases hf
  | (k, v, b) :: es, ces, e, h, hf => by
    obtain ⟨c, ces', rfl, h1, h2, h3, h4⟩ := h.cons_inv
    simp only [findBornNat] at hf
    split at hf
    · rename_i hb
      cases hf
      exact ⟨c, by simp [List.find?_cons, h3, hb], h1, h2⟩
    · rename_i hb
      obtain ⟨c', q, a, b⟩ := findBornNat_sim es ces' e h4 hf
      refine ⟨c', ?_, a, b⟩
      have : (c.born == n) = false := by simp [h3, hb]
      simp [List.find?_cons, this, q]
theorem eff_entry (hg : Good w0 μ h w) (hx : VR w0 μ x xv) (ha : entryS x h = some v) : ∃ vc, (Instr.entry xv).run P w = .ok vc w ∧ VR w0 μ v vc := by
  unfold entryS at ha
  split at ha
  · rename_i r
    split at ha
    · rename_i m since seen st ho
      split at ha
      · rename_i stamp es ck hl hm
        split at ha
        · rename_i hck
          split at ha
          · rename_i e he
            cases ha
            cases hx
            rename_i k hk
            obtain ⟨r0, rr, r1, km, km1, rfl⟩ := hg.obj r k _ hk ho
            obtain ⟨ces, c1, c2⟩ := hg.map km1 hm
            obtain ⟨c, d1, d2, d3⟩ := findBornNat_sim es ces.toList e c2 he
            have hf : ces.find? (·.born == stamp) = some c := by cases ces; simpa using d1
            have hback : seen.toArray.back? = some stamp := by simpa using hl
            have hgo : (getObj k.c).run P w = .ok (.mapIter (some km.c) since seen.toArray st) w := by simp [getObj, Sem.run, r1]
            refine ⟨.tuple #[c.key, c.val], ?_, VRL.tuple (.cons d2 (.cons d3 .nil))⟩
            have hne : (ck != st) = false := by simp [hck]
            simp only [r0, Nat.zero_add, Nat.add_zero, Instr.entry, Sem.run_bind, Sem.run_pure, hgo, Result.andThen_ok, hback, run_getMap c1, hne, hf, Bool.false_eq_true, if_false]
          · cases ha
        · cases ha
      · cases ha
    · cases ha
  · cases ha
end
end Go.AM
set_option linter.unusedVariables false
set_option linter.unusedSimpArgs false
namespace Go.AM
open Go Go.RowKit
section
variable {P : Program} {w0 w : World} {μ : Mu} {h : Heap} {ρ : Operand → AV} {ρc : Operand → Value}
def LeftN (w0 : World) (μ : Mu) (h : Heap) (w : World) (L : List (AV × Heap)) (r : Result Value) : Prop :=
  ∃ p vc w' μ', p ∈ L ∧ r = .ok vc w' ∧ VR w0 μ' p.1 vc ∧ Good w0 μ' p.2 w' ∧ Ext μ h w μ' p.2 w'
theorem EntR.pairs : ∀ (es : List Entry) (ces : List MapEntry), EntR w0 μ es ces → ∃ L : List (Entry × MapEntry), es = L.map (·.1) ∧ ces = L.map (·.2) ∧ ∀ p ∈ L, VR w0 μ p.1.1 p.2.key ∧ VR w0 μ p.1.2.1 p.2.val ∧ p.2.born = p.1.2.2
  | [], ces, h => by obtain rfl := h.nil_inv; exact ⟨[], rfl, rfl, by simp⟩
  | (k, v, n) :: es, ces, h => by
    obtain ⟨e, ces', rfl, h1, h2, h3, h4⟩ := h.cons_inv
    obtain ⟨L, rfl, rfl, hL⟩ := EntR.pairs es ces' h4
    refine ⟨((k, v, n), e) :: L, rfl, rfl, fun p hp => ?_⟩
    rcases List.mem_cons.1 hp with rfl | hp
    · exact ⟨h1, h2, h3⟩
    · exact hL p hp
theorem filter_snd {α β : Type} (L : List (α × β)) (p : α → Bool) (q : β → Bool) (h : ∀ x ∈ L, q x.2 = p x.1) : (L.map (·.2)).filter q = (L.filter fun x => p x.1).map (·.2) := by
  rw [List.filter_map]
  congr 1
  apply List.filter_congr
  intro x hx
  exact h x hx
theorem filter_fst {α β : Type} (L : List (α × β)) (p : α → Bool) : (L.map (·.1)).filter p = (L.filter fun x => p x.1).map (·.1) := by rw [List.filter_map]; rfl
theorem cands_sim (L : List (Entry × MapEntry)) (hL : ∀ p ∈ L, p.2.born = p.1.2.2) (since : Nat) (seen : List Nat) :
    ∃ C : List (Option (Entry × MapEntry)), candsA (L.map (·.1)) since seen = C.map (Option.map (·.1)) ∧ C ≠ [] ∧ (∀ p, some p ∈ C → p ∈ L) ∧
      (let left := (L.map (·.2)).toArray.filter fun e => !seen.toArray.contains e.born
       let old := left.filter (·.born < since)
       let new := left.filter (·.born ≥ since)
       (if old.isEmpty then #[none] else #[]) ++ (old ++ new).map some) = (C.map (Option.map (·.2))).toArray := by
  let l0 := L.filter fun x => !seen.contains x.1.2.2
  let o := l0.filter fun x => decide (x.1.2.2 < since)
  let n := l0.filter fun x => decide (x.1.2.2 ≥ since)
  have m0 : ∀ p ∈ l0, p ∈ L := fun p hp => (List.mem_filter.1 hp).1
  refine ⟨(if o.isEmpty then [none] else []) ++ (o ++ n).map some, ?_, ?_, ?_, ?_⟩
  · unfold candsA
    simp only [filter_fst]
    have he : ((o.map (·.1)).isEmpty) = o.isEmpty := by simp
    show (if (o.map (·.1)).isEmpty then [none] else []) ++ (o.map (·.1) ++ n.map (·.1)).map some = _
    rw [he]
    cases o.isEmpty <;> simp <;> rfl
  · by_cases h : o.isEmpty = true
    · simp [h]
    · simp only [h, Bool.false_eq_true, if_false, List.nil_append, ne_eq, List.map_eq_nil_iff, List.append_eq_nil_iff, not_and]
      intro h1; simp [h1] at h
  · intro p hp
    simp only [List.mem_append, List.mem_map, Option.some.injEq, exists_eq_right] at hp
    rcases hp with hp | hp | hp
    · split at hp
      · simp at hp
      · simp at hp
    · exact m0 p (List.mem_filter.1 hp).1
    · exact m0 p (List.mem_filter.1 hp).1
  · have e0 : ((L.map (·.2)).toArray.filter fun e => !seen.toArray.contains e.born) = (l0.map (·.2)).toArray := by
      simp only [List.filter_toArray]
      congr 1
      exact filter_snd L (fun e => !seen.contains e.2.2) _ (fun x hx => by simp [hL x hx])
    have e1 : ((l0.map (·.2)).toArray.filter (·.born < since)) = (o.map (·.2)).toArray := by
      simp only [List.filter_toArray]
      congr 1
      exact filter_snd l0 (fun e => decide (e.2.2 < since)) _ (fun x hx => by simp [hL x (m0 x hx)])
    have e2 : ((l0.map (·.2)).toArray.filter (·.born ≥ since)) = (n.map (·.2)).toArray := by
      simp only [List.filter_toArray]
      congr 1
      exact filter_snd l0 (fun e => decide (e.2.2 ≥ since)) _ (fun x hx => by simp [hL x (m0 x hx)])
    simp only [e0, e1, e2]
    have he : ((o.map (·.2)).toArray.isEmpty) = o.isEmpty := by cases o <;> rfl
    rw [he]
    cases o.isEmpty <;> simp <;> rfl
theorem next_sim (hg : Good w0 μ h w) {x : AV} {xv : Value} (hx : VR w0 μ x xv) {isS : Bool} {L : List (AV × Heap)} (hn : nextS isS x h = some L) (ty : TypeId) : LeftN w0 μ h w L ((Instr.next xv isS ty).run P w) := by
  unfold nextS at hn
  split at hn
  · rename_i r
    cases hx
    rename_i k hk
    have one : ∀ {p : AV × Heap} {r : Result Value}, (∃ vc w' μ', r = .ok vc w' ∧ VR w0 μ' p.1 vc ∧ Good w0 μ' p.2 w' ∧ Ext μ h w μ' p.2 w') → LeftN w0 μ h w [p] r :=
      fun ⟨vc, w', μ', a, b, c, d⟩ => ⟨_, vc, w', μ', by simp, a, b, c, d⟩
    split at hn
    · rename_i s pos ho
      obtain ⟨r0, s', r1, rfl⟩ := hg.obj r k _ hk ho
      have hgo : (getObj k.c).run P w = .ok (.stringIter s' pos) w := by simp [getObj, Sem.run, r1]
      have hso : ∀ O, (setObj k.c O).run P w = .ok () (setO w k.c O) := fun O => by simp [setObj, Sem.run, r1, setO]
      have hsl : s'.data.toList.length = s'.size := by rw [Array.length_toList]; rfl
      split at hn
      · rename_i hlt
        cases hn
        rw [hsl] at hlt
        apply one
        have hs' : (⟨s'.data.toList.toArray⟩ : ByteArray) = s' := by cases s'; simp
        rw [hs']
        obtain ⟨g1, g2⟩ := hg.set hk ho (by simp) (.siter s'.data.toList (pos + (Utf8.decode s' pos).2)) (.stringIter s' (pos + (Utf8.decode s' pos).2)) ⟨r0, s', rfl, rfl⟩
        refine ⟨_, _, μ, ?_, VRL.tuple (.cons (.bool true) (.cons (.int _ _) (.cons (.int _ _) .nil))), g1, g2⟩
        simp [Instr.next, r0, hgo, hlt, hso, goInt]
      · rename_i hlt
        cases hn
        rw [hsl] at hlt
        apply one
        exact ⟨_, w, μ, by simp [Instr.next, r0, hgo, hlt], VRL.tuple (.cons (.bool false) .nil), hg, Ext.refl _ _ _⟩
    · rename_i x1 x2 x3 ho
      cases hn
      obtain ⟨r0, rr, r1, rfl⟩ := hg.obj r k _ hk ho
      have hgo : (getObj k.c).run P w = .ok (.mapIter none x1 x2.toArray x3) w := by simp [getObj, Sem.run, r1]
      apply one
      exact ⟨_, w, μ, by simp [Instr.next, r0, hgo], VRL.tuple (.cons (.bool false) .nil), hg, Ext.refl _ _ _⟩
    · rename_i m since seen last ho
      split at hn
      · rename_i es ck hm
        obtain ⟨r0, rr, r1, km, km1, rfl⟩ := hg.obj r k _ hk ho
        obtain ⟨ces, c1, c2⟩ := hg.map km1 hm
        have hgo : (getObj k.c).run P w = .ok (.mapIter (some km.c) since seen.toArray last) w := by simp [getObj, Sem.run, r1]
        split at hn
        · cases hn
        · rename_i hguard
          obtain ⟨Lp, rfl, hces, hL⟩ := EntR.pairs _ _ c2
          have hce : ces = (Lp.map (·.2)).toArray := by apply Array.ext'; simpa using hces
          subst hce
          obtain ⟨C, C1, C2, C3, C4⟩ := cands_sim Lp (fun p hp => (hL p hp).2.2) since seen
          have hg2 : (!seen.toArray.isEmpty && !(Lp.map (·.2)).toArray.isEmpty && (Lp.map (·.2)).toArray.all (·.born ≥ last)) = false := by
            have e1 : seen.toArray.isEmpty = seen.isEmpty := by cases seen <;> rfl
            have e2 : (Lp.map (·.2)).toArray.isEmpty = (Lp.map (·.1)).isEmpty := by cases Lp <;> rfl
            have e3 : ((Lp.map (·.2)).toArray.all (·.born ≥ last)) = ((Lp.map (·.1)).all fun e => decide (e.2.2 ≥ last)) := by
              simp only [List.all_toArray, List.all_map]
              clear hn hguard C1 C3 C4 c1 c2 hces hm e2
              induction Lp with
              | nil => rfl
              | cons p Lp ih =>
                simp only [List.all_cons, Function.comp]
                rw [(hL p (by simp)).2.2]
                congr 1
                exact ih (fun q hq => hL q (by simp [hq]))
            rw [e1, e2, e3]
            simpa using hguard
          have hsz : 0 < C.length := by cases C with | nil => exact absurd rfl C2 | cons c cs => simp
          have hch : ∃ (j : Nat) (w1 : World), j < C.length ∧ w1.heap = w.heap ∧ w1.os = w.os ∧ w1.tape = w.tape ∧ w1.output = w.output ∧ (choose (Question.mapNext C.length)).run P w = .ok j w1 := by
            by_cases hf : C.length ≤ 1
            · exact ⟨0, w, by omega, rfl, rfl, rfl, rfl, by simp [choose, Sem.run, Question.forced, hf]⟩
            · exact ⟨_, w.drew, Nat.mod_lt _ (by omega), rfl, rfl, rfl, rfl, by
                simp only [choose, Sem.run, Question.forced, decide_eq_true_eq, hf, if_false, Question.cut]
                rfl⟩
          obtain ⟨j, w1, hj, q1, q2, q3, q4, hrun⟩ := hch
          have hg1 : Good w0 μ h w1 := hg.same q1 q2 q3 q4
          have hext : ∀ {h' : Heap} {w' : World}, Ext μ h w1 μ h' w' → Ext μ h w μ h' w' := fun x => x.of_same q1
          have hlist : L = C.map fun c => yieldA r m since seen ck h (c.map (·.1)) := by
            rw [C1] at hn
            cases C with
            | nil => exact absurd rfl C2
            | cons c cs =>
              simp only [List.map_cons, Option.some.injEq] at hn
              rw [← hn]; simp
          have hnext : (Instr.next (.pointer (some ⟨k.c, k.base + 0, none⟩)) false ty).run P w =
              (match C[j]?.map (Option.map (·.2)) with
                | some (some e) => .ok (.tuple #[.bool true, e.key, e.val]) (setO w1 k.c (.mapIter (some km.c) since (seen.toArray.push e.born) ck))
                | some none => .ok (.tuple #[.bool false]) w1
                | none => .halt (.stuck "Next: no such candidate") w1) := by
            have hso : ∀ O, (setObj k.c O).run P w1 = .ok () (setO w1 k.c O) := fun O => by simp [setObj, Sem.run, q1, r1, setO]
            have hidx : (C.map (Option.map (·.2))).toArray[j]? = C[j]?.map (Option.map (·.2)) := by simp
            simp only [Instr.next, r0, Nat.zero_add, Nat.add_zero, Sem.run_bind, hgo, Result.andThen_ok, run_getMap c1, hg2, Bool.false_eq_true, if_false, C4]
            simp only [List.size_toArray, List.length_map, hrun, Result.andThen_ok, hidx]
            cases C[j]? with
            | none => simp
            | some c => cases c with
              | none => simp
              | some e => simp [hso]
          rw [hnext]
          have hcj : C[j]? = some C[j] := ZgE hj
          have hmemC : C[j] ∈ C := List.getElem_mem hj
          cases hc : C[j] with
          | none =>
            rw [hcj, hc]
            refine ⟨(.tuple [.bool false], h), _, w1, μ, ?_, rfl, VRL.tuple (.cons (.bool false) .nil), hg1, hext (Ext.refl _ _ _)⟩
            rw [hlist, List.mem_map]
            exact ⟨none, hc ▸ hmemC, rfl⟩
          | some e =>
            rw [hcj, hc]
            obtain ⟨v1, v2, v3⟩ := hL e (C3 e (hc ▸ hmemC))
            obtain ⟨g1, g2⟩ := hg1.set hk ho (by simp) (.miter (some m) since (seen ++ [e.1.2.2]) ck) (.mapIter (some km.c) since (seen.toArray.push e.2.born) ck) ⟨r0, some km.c, by simp [v3], km, km1, rfl⟩
            refine ⟨yieldA r m since seen ck h (some e.1), _, _, μ, ?_, rfl, VRL.tuple (.cons (.bool true) (.cons v1 (.cons v2 .nil))), g1, hext g2⟩
            rw [hlist, List.mem_map]
            exact ⟨some e, hc ▸ hmemC, rfl⟩
      · cases hn
    · cases hn
  · cases hn
end
end Go.AM
set_option linter.unusedVariables false
set_option linter.unusedSimpArgs false
namespace Go.AM
open Go Go.RowKit
variable {K : AV → Heap → Bool}
section
variable {P : Program} {w0 w : World} {μ : Mu} {h : Heap} {ρ : Operand → AV} {ρc : Operand → Value}
theorem bothK_eq {o : Option (AV × Heap)} (h : bothK K o = true) : ∃ v h', o = some (v, h') ∧ K v h' = true := by
  cases o with
  | none => cases h
  | some p => exact ⟨p.1, p.2, rfl, h⟩
theorem heapK_eq {o : Option Heap} (h : heapK K o = true) : ∃ h', o = some h' ∧ K noV h' = true := by
  cases o with
  | none => cases h
  | some p => exact ⟨p, rfl, h⟩
theorem valK_eq {h0 : Heap} {o : Option AV} (h : valK h0 K o = true) : ∃ v, o = some v ∧ K v h0 = true := by
  cases o with
  | none => cases h
  | some p => exact ⟨p, rfl, h⟩
theorem left_val {v : AV} {h' : Heap} {s : Sem Value} (hK : K v h' = true) (hx : ∃ vc w' μ', s.run P w = .ok vc w' ∧ VR w0 μ' v vc ∧ Good w0 μ' h' w' ∧ Ext μ h w μ' h' w') {s' : Sem Next}
    (hs : ∀ vc w', s.run P w = .ok vc w' → s'.run P w = .ok (.value vc) w') : Left P w0 μ h w K (s'.run P w) :=
  let ⟨vc, w', μ', a, b, c, d⟩ := hx
  ⟨v, h', vc, w', μ', hK, .inl (hs _ _ a), b, c, d⟩
theorem left_unit {h' : Heap} {s : Sem Unit} (hK : K noV h' = true) (hx : ∃ w', s.run P w = .ok () w' ∧ Good w0 μ h' w' ∧ Ext μ h w μ h' w') {s' : Sem Next}
    (hs : ∀ w', s.run P w = .ok () w' → s'.run P w = .ok .skip w') : Left P w0 μ h w K (s'.run P w) :=
  let ⟨w', a, c, d⟩ := hx
  ⟨noV, h', undef, w', μ, hK, .inr ⟨rfl, hs _ a⟩, VR.noV, c, d⟩
theorem map_args {args : Array Operand} {xs : List AV} (hρ : ∀ x, VR w0 μ (ρ x) (ρc x)) (h : args.toList.map ρ = xs) : ∃ us : List Value, args.map ρc = us.toArray ∧ VRL w0 μ xs us := by
  refine ⟨args.toList.map ρc, by apply Array.ext'; simp, ?_⟩
  rw [← h]
  exact VRL.map _ fun a _ => hρ a
theorem eff_call (hg : Good w0 μ h w) (hρ : ∀ x, VR w0 μ (ρ x) (ρc x)) {c : Call} {dst : Option Tmp} {type : TypeId} {pos : String} {after : Array Edge} {guard : Option (Nat × Bool)} (hk : callKind c.callee = .eff)
    (hh : exCall c P ρ h K = true) : Left P w0 μ h w K ((execOp ρc ⟨dst, .call c, type, pos, after, guard⟩).run P w) := by
  obtain ⟨cal, args, ts⟩ := c
  cases cal with
  | value f => cases hh
  | invoke r m => cases hh
  | builtin b =>
    simp only [exCall] at hh
    cases b <;> simp only [callKind, reduceCtorEq] at hk <;> simp only [bltFn, bltBad, reduceCtorEq, Bool.false_eq_true] at hh
    case append =>
      unfold bltAppend at hh
      split at hh
      · rename_i t u s x e1 e2
        obtain ⟨i, hi, hh⟩ := bindO_eq hh
        obtain ⟨v, h', ha, hK⟩ := bothK_eq hh
        obtain ⟨us, q1, q2⟩ := map_args hρ e2
        obtain ⟨sv, us', rfl, r1, q3⟩ := q2.cons_inv
        obtain ⟨xv, us'', rfl, r2, q4⟩ := q3.cons_inv
        obtain rfl := q4.nil_inv
        have et : ts = #[t, u] := by apply Array.ext'; simpa using e1
        refine left_val hK (eff_append (ty := type) hg hi r1 r2 ha) fun vc w' hr => ?_
        simp only [execOp, resolve, invoke, builtin, Sem.run_bind, Sem.run_pure, Result.andThen_ok, q1, et, hr]
      · cases hh
    case copy =>
      unfold bltCopy at hh
      split at hh
      · rename_i t l d s e1 e2
        obtain ⟨i, hi, hh⟩ := bindO_eq hh
        obtain ⟨v, h', ha, hK⟩ := bothK_eq hh
        obtain ⟨us, q1, q2⟩ := map_args hρ e2
        obtain ⟨sv, us', rfl, r1, q3⟩ := q2.cons_inv
        obtain ⟨xv, us'', rfl, r2, q4⟩ := q3.cons_inv
        obtain rfl := q4.nil_inv
        have et : ts = (t :: l).toArray := by apply Array.ext'; simpa using e1
        obtain ⟨vc, w', a, b, c, d⟩ := eff_copy (u := t) (ty := type) (ts := l) hg hi r1 r2 ha
        refine left_val hK ⟨vc, w', μ, a, b, c, d⟩ fun vc w' hr => ?_
        simp only [execOp, resolve, invoke, builtin, Sem.run_bind, Sem.run_pure, Result.andThen_ok, q1, et, hr]
      · cases hh
    case delete =>
      unfold bltDelete at hh
      split at hh
      · rename_i t l m k e1 e2
        obtain ⟨i, hi, hh⟩ := bindO_eq hh
        obtain ⟨h', ha, hK⟩ := heapK_eq hh
        obtain ⟨us, q1, q2⟩ := map_args hρ e2
        obtain ⟨sv, us', rfl, r1, q3⟩ := q2.cons_inv
        obtain ⟨xv, us'', rfl, r2, q4⟩ := q3.cons_inv
        obtain rfl := q4.nil_inv
        have et : ts = (t :: l).toArray := by apply Array.ext'; simpa using e1
        obtain ⟨w', a, c, d⟩ := eff_delete (ty := type) (ts := l) hg hi r1 r2 ha
        refine left_val hK ⟨undef, w', μ, a, VR.noV, c, d⟩ fun vc w' hr => ?_
        simp only [execOp, resolve, invoke, builtin, Sem.run_bind, Sem.run_pure, Result.andThen_ok, q1, et, hr]
      · cases hh
theorem eff_sim (hg : Good w0 μ h w) (hρ : ∀ x, VR w0 μ (ρ x) (ρc x)) {o : Oper} (hk : opKind o.op = .eff) (hh : opFn o.op P ρ h K = true) : Left P w0 μ h w K ((execOp ρc o).run P w) := by
  obtain ⟨dst, op, type, pos, after, guard⟩ := o
  cases op <;> simp only [opKind, reduceCtorEq] at hk <;> simp only [opFn, Bool.false_eq_true] at hh
  case store t a x =>
    obtain ⟨n, hi, hh⟩ := bindO_eq hh
    obtain ⟨h', ha, hK⟩ := heapK_eq hh
    exact left_unit hK (eff_store hg hi (hρ a) (hρ x) ha) fun w' hr => by simp [execOp, hr]
  case convert s d x =>
    obtain ⟨n, hi, hh⟩ := bindO_eq hh
    obtain ⟨v, h', ha, hK⟩ := bothK_eq hh
    exact left_val hK (eff_convert hg hi (hρ x) ha) fun vc w' hr => by simp [execOp, hr]
  case mapUpdate t m k x =>
    obtain ⟨n, hi, hh⟩ := bindO_eq hh
    obtain ⟨h', ha, hK⟩ := heapK_eq hh
    exact left_unit hK (eff_mapUpdate hg hi (hρ m) (hρ k) (hρ x) ha) fun w' hr => by simp [execOp, hr]
  case insert t m k x =>
    obtain ⟨n, hi, hh⟩ := bindO_eq hh
    obtain ⟨h', ha, hK⟩ := heapK_eq hh
    exact left_unit hK (eff_mapUpdate hg hi (hρ m) (hρ k) (hρ x) ha) fun w' hr => by simp [execOp, hr]
  case mapEntry t m k =>
    obtain ⟨n, hi, hh⟩ := bindO_eq hh
    obtain ⟨v, h', ha, hK⟩ := bothK_eq hh
    obtain ⟨vc, w', a, b, c, d⟩ := eff_mapEntry hg hi (hρ m) (hρ k) ha
    exact left_val hK ⟨vc, w', μ, a, b, c, d⟩ fun vc w' hr => by simp [execOp, hr]
  case entryStore t m s x =>
    obtain ⟨h', ha, hK⟩ := heapK_eq hh
    exact left_unit hK (eff_entryStore (t := t) hg (hρ m) (hρ s) (hρ x) ha) fun w' hr => by simp [execOp, hr]
  case range t x =>
    obtain ⟨n, hi, hh⟩ := bindO_eq hh
    obtain ⟨v, h', ha, hK⟩ := bothK_eq hh
    exact left_val hK (eff_range hg hi (hρ x) ha) fun vc w' hr => by simp [execOp, hr]
  case entry x =>
    obtain ⟨v, ha, hK⟩ := valK_eq hh
    obtain ⟨vc, a, b⟩ := eff_entry (P := P) hg (hρ x) ha
    exact left_val hK ⟨vc, w, μ, a, b, hg, Ext.refl _ _ _⟩ fun vc w' hr => by simp [execOp, hr]
  case call c => exact eff_call (dst := dst) (pos := pos) (after := after) (guard := guard) hg hρ hk hh
theorem Left.of_value {v : AV} {vc : Value} {r : Result Next} (hK : K v h = true) (hr : r = .ok (.value vc) w) (hv : VR w0 μ v vc) (hg : Good w0 μ h w) : Left P w0 μ h w K r :=
  ⟨v, h, vc, w, μ, hK, .inl hr, hv, hg, Ext.refl _ _ _⟩
theorem op_sim (hg : Good w0 μ h w) (hρ : ∀ x, VR w0 μ (ρ x) (ρc x)) {o : Oper} (hh : opFn o.op P ρ h K = true) : Left P w0 μ h w K ((execOp ρc o).run P w) := by
  cases hk : opKind o.op with
  | pure =>
    rw [opFn_pure hk] at hh
    obtain ⟨v, hv, hK⟩ := bindO_eq hh
    obtain ⟨vc, h1, h2⟩ := pure_sim hρ hk hv
    exact .of_value hK (h1 w) h2 hg
  | read =>
    rw [opFn_read hk] at hh
    obtain ⟨v, hv, hK⟩ := bindO_eq hh
    obtain ⟨vc, h1, h2⟩ := read_sim hg hρ hk hv
    exact .of_value hK h1 h2 hg
  | alloc =>
    rw [opFn_alloc hk] at hh
    obtain ⟨⟨k, ob⟩, hv, hK⟩ := bindO_eq hh
    obtain ⟨O, n, f, hm⟩ := alloc_sim (w0 := w0) (μ := μ) hρ hk hv
    obtain ⟨g1, g2⟩ := hg.alloc ob O n (hm.obj _)
    exact ⟨_, _, _, _, _, hK, .inl (hm.run w), hm.val _ _ _ (Mu.add_same _ _ _), g1, g2⟩
  | eff => exact eff_sim hg hρ hk hh
end
end Go.AM
