/- Conversions, iterations, and one theorem for every operation that acts and calls nothing. Conditions: none. -/
import Derived.Test.YthmbnnjimbjplaaGreatDoorAmEff2
set_option linter.unusedVariables false
set_option linter.unusedSimpArgs false
namespace Go.AM
open Go Go.RowKit

section
variable {P : Program} {w0 w : World} {μ : Mu} {h : Heap} {ρ : Operand → AV} {ρc : Operand → Value}

theorem bytesOf_sim : ∀ (cs : List AV) (bs : List UInt8) (us : List Value), bytesOf cs = some bs → VRL w0 μ cs us → ∃ ns : List Int, us = ns.map (Value.int .u8) ∧ ns.map (fun n => UInt8.ofNat n.toNat) = bs
  | [], bs, us, h, hu => by
    cases h
    obtain rfl := hu.nil_inv
    exact ⟨[], rfl, rfl⟩
  | c :: cs, bs, us, h, hu => by
    unfold bytesOf at h
    split at h
    · rename_i h0; cases h0
    · rename_i n l heq
      cases heq
      obtain ⟨u, us, rfl, h1, h2⟩ := hu.cons_inv
      split at h
      · rename_i bs' hb
        cases h
        obtain ⟨ns, rfl, e⟩ := bytesOf_sim cs bs' us hb h2
        exact ⟨n :: ns, by rw [h1.int_inv]; rfl, by simp [e]⟩
      · cases h
    · cases h

theorem foldl_push (ns : List Int) : ∀ s : ByteArray, (ns.foldl (fun r n => r.push (UInt8.ofNat n.toNat)) s).data.toList = s.data.toList ++ ns.map (fun n => UInt8.ofNat n.toNat) := by
  induction ns with
  | nil => intro s; simp
  | cons n ns ih => intro s; rw [List.foldl_cons, ih]; simp [ByteArray.push]

theorem conv_string (hg : Good w0 μ h w) {src dst e : TypeId} (hs : P.underlying src = some (.slice e)) (he : P.underlying e = some (.int .u8)) (hd : P.underlying dst = some .string) {x : AV} {xv : Value} (hx : VR w0 μ x xv) {n : Nat}
    (hn : lenA x = some n) {cs : List AV} (hf : firstS 1 n x h = some cs) {bs : List UInt8} (hb : bytesOf cs = some bs) (hxs : ∀ s, x ≠ .str s) :
    ∃ s : ByteArray, (convert src dst xv).run P w = .ok (.string s) w ∧ s.data.toList = bs := by
  obtain ⟨us, q1, q2, q3, q4⟩ := first_sim (P := P) hg hx hn (Nat.le_refl n) hf
  obtain ⟨ns, e1, e2⟩ := bytesOf_sim _ _ _ hb q2
  have key : ∀ (a : Option Addr) (l c : Nat), xv = .slice a l c → ∃ s : ByteArray, (convert src dst xv).run P w = .ok (.string s) w ∧ s.data.toList = bs := by
    intro a l c hxv
    subst hxv
    rw [run_convert_bytes_string w src dst e a l c hs he hd]
    cases a with
    | none =>
      refine ⟨.empty, by simp [Conv.bytesToString], ?_⟩
      have := q1 w rfl
      simp [Builtin.firstCells] at this
      subst this
      simp at e1
      subst e1
      simpa using e2
    | some a =>
      have h1 := q1 w rfl
      have h2 := q3 w
      simp [Builtin.lenOf] at h2
      subst h2
      simp [Builtin.firstCells] at h1
      refine ⟨_, run_bytesToString w a l c ns (by rw [h1]; congr 1; apply Array.ext'; simpa using e1), ?_⟩
      rw [foldl_push]; simpa using e2
  cases x <;> simp only [lenA, reduceCtorEq] at hn
  · exact absurd rfl (hxs _)
  · cases hx; exact key _ _ _ rfl
  · cases hx; exact key _ _ _ rfl
  · cases hx; exact key _ _ _ rfl

theorem eff_convert (hg : Good w0 μ h w) {src dst : TypeId} {i : ConvK} (hi : convertI P src dst = some i) {x v : AV} {xv : Value} (hx : VR w0 μ x xv) {h' : Heap} (ha : convertS i x h = some (v, h')) :
    ∃ vc w' μ', (convert src dst xv).run P w = .ok vc w' ∧ VR w0 μ' v vc ∧ Good w0 μ' h' w' ∧ Ext μ h w μ' h' w' := by
  unfold convertI at hi
  split at hi
  · rename_i k1 k hs hd
    cases hi
    cases x <;> simp only [convertS, reduceCtorEq, Option.some.injEq, Prod.mk.injEq] at ha
    obtain ⟨rfl, rfl⟩ := ha
    rw [hx.int_inv]
    exact ⟨_, w, μ, by simp [convert, run_underlying hs, run_underlying hd, Conv.intToInt], .int _ _, hg, Ext.refl _ _ _⟩
  · rename_i hs hd
    cases hi
    cases x <;> simp only [convertS, reduceCtorEq, Option.some.injEq, Prod.mk.injEq] at ha
    obtain ⟨rfl, rfl⟩ := ha
    obtain ⟨s, rfl, rfl⟩ := hx.str_inv
    exact ⟨_, w, μ, by simp [convert, run_underlying hs, run_underlying hd], .str _, hg, Ext.refl _ _ _⟩
  · rename_i e hs hd
    split at hi
    · rename_i he hsz
      cases hi
      cases x <;> simp only [convertS, reduceCtorEq] at ha
      split at ha
      · rename_i hm
        cases ha
        obtain ⟨s, rfl, rfl⟩ := hx.str_inv
        have hgd : Good w0 μ h w.drew := hg.same rfl rfl rfl rfl
        have hsl : s.data.toList.length = s.size := by rw [Array.length_toList]; rfl
        have hcap : s.size ≤ grownCap w s.size 0 e := by
          unfold grownCap; show s.size ≤ s.size + _; omega
        have hbs : (bytesRow s (grownCap w s.size 0 e)).size = grownCap w s.size 0 e := by
          have : s.data.size = s.size := rfl
          simp [bytesRow, this]; omega
        have hobj : ObjR w0 μ (.cells (s.data.toList.map fun b => .int .u8 (b.toNat : Int))) ⟨w.heap.size, 0, grownCap w s.size 0 e⟩
            (some (.cells (bytesRow s (grownCap w s.size 0 e)) e ((bytesRow s (grownCap w s.size 0 e)).size, (bytesRow s (grownCap w s.size 0 e)).size + 1))) := by
          refine ⟨_, e, _, rfl, hbs, by simp [hsl]; exact hcap, .inr (by simp [hbs]), fun j y hj => ?_⟩
          rw [List.getElem?_map] at hj
          obtain ⟨b, hb, rfl⟩ := Option.map_eq_some_iff.1 hj
          refine ⟨.int .u8 b.toNat, ?_, .int _ _⟩
          have hlt := (List.getElem?_eq_some_iff.1 hb).1
          show (bytesRow s _)[0 + j]? = _
          rw [Nat.zero_add]
          unfold bytesRow
          rw [Array.getElem?_append_left (by simpa using hlt), Array.getElem?_map, ← Array.getElem?_toList, hb]
          rfl
        obtain ⟨g1, g2⟩ := hgd.alloc _ _ _ hobj
        refine ⟨_, _, _, run_bytes_of_string w src dst e s hs hd he, ?_, g1, Ext.of_same (v := w.drew) rfl g2⟩
        rw [hsl]
        exact .slice h.next 0 s.size 1 _ ⟨w.heap.size, 0, none⟩ ⟨w.heap.size, 0, grownCap w s.size 0 e⟩ (Mu.add_same _ _ _) hcap (fun _ => ⟨rfl, by simp⟩)
      · cases ha
    · cases hi
  · rename_i e hs hd
    split at hi
    · rename_i he
      cases hi
      unfold convertS at ha
      split at ha <;> first | (rename_i h0; cases h0; done) | skip
      all_goals first
        | (rename_i h0 h1; cases h0; done)
        | skip
      · cases ha
        cases hx
        rw [run_convert_bytes_string w src dst e none 0 0 hs he hd]
        exact ⟨.string .empty, w, μ, by simp [Conv.bytesToString], .str .empty, hg, Ext.refl _ _ _⟩
      · split at ha
        · rename_i cs hf
          split at ha
          · rename_i bs hb
            cases ha
            obtain ⟨s, h1, h2⟩ := conv_string hg hs he hd hx rfl hf hb (by simp)
            exact ⟨_, w, μ, h1, h2 ▸ .str s, hg, Ext.refl _ _ _⟩
          · cases ha
        · cases ha
      · split at ha
        · rename_i cs hf
          split at ha
          · rename_i bs hb
            cases ha
            obtain ⟨s, h1, h2⟩ := conv_string hg hs he hd hx rfl hf hb (by simp)
            exact ⟨_, w, μ, h1, h2 ▸ .str s, hg, Ext.refl _ _ _⟩
          · cases ha
        · cases ha
      · cases ha
    · cases hi
  · cases hi

theorem eff_range (hg : Good w0 μ h w) {t : TypeId} {i : RangeK} (hi : rangeI P t = some i) {x v : AV} {xv : Value} (hx : VR w0 μ x xv) {h' : Heap} (ha : rangeS i x h = some (v, h')) :
    ∃ vc w' μ', (Instr.range t xv).run P w = .ok vc w' ∧ VR w0 μ' v vc ∧ Good w0 μ' h' w' ∧ Ext μ h w μ' h' w' := by
  have key : ∀ (o : AObj) (O : Obj), (∀ n, ObjR w0 μ o ⟨w.heap.size, 0, n⟩ (some O)) → (v, h') = (AV.ptr h.next 0, h.alloc o) →
      ∃ μ', VR w0 μ' v (.pointer (some ⟨w.heap.size, 0, none⟩)) ∧ Good w0 μ' h' (w.alloc O) ∧ Ext μ h w μ' h' (w.alloc O) := by
    intro o O hr he
    cases he
    obtain ⟨g1, g2⟩ := hg.alloc o O 0 (hr 0)
    exact ⟨_, .ptr h.next 0 ⟨w.heap.size, 0, 0⟩ (Mu.add_same _ _ _), g1, g2⟩
  unfold rangeI at hi
  split at hi
  · rename_i hu
    cases hi
    cases x <;> simp only [rangeS, reduceCtorEq, Option.some.injEq] at ha
    obtain ⟨s, rfl, rfl⟩ := hx.str_inv
    obtain ⟨μ', a, b, c⟩ := key (.siter s.data.toList 0) (.stringIter s 0) (fun n => ⟨rfl, s, rfl, rfl⟩) ha.symm
    exact ⟨_, _, μ', by simp [Instr.range, run_underlying hu], a, b, c⟩
  · rename_i k e hu
    cases hi
    cases x <;> simp only [rangeS, reduceCtorEq, Option.some.injEq] at ha
    · cases hx
      obtain ⟨μ', a, b, c⟩ := key (.miter none 0 [] 0) (.mapIter none 0 #[] 0) (fun n => ⟨rfl, none, rfl, rfl⟩) ha.symm
      exact ⟨_, _, μ', by simp [Instr.range, run_underlying hu], a, b, c⟩
    · rename_i m
      split at ha
      · rename_i es ck ho
        cases hx
        rename_i kk hkk
        obtain ⟨ces, h1, h2⟩ := hg.map hkk ho
        simp only [Option.some.injEq] at ha
        obtain ⟨μ', a, b, c⟩ := key (.miter (some m) ck [] ck) (.mapIter (some kk.c) ck #[] ck) (fun n => ⟨rfl, some kk.c, rfl, kk, hkk, rfl⟩) ha.symm
        exact ⟨_, _, μ', by simp [Instr.range, run_underlying hu, run_getMap h1], a, b, c⟩
      · cases ha
  · cases hi

theorem findBornNat_sim {n : Nat} : ∀ (es : List Entry) (ces : List MapEntry) (e : Entry), EntR w0 μ es ces → findBornNat n es = some e → ∃ c, ces.find? (·.born == n) = some c ∧ VR w0 μ e.1 c.key ∧ VR w0 μ e.2.1 c.val
  | [], ces, e, h, hf => by cases hf
  | (k, v, b) :: es, ces, e, h, hf => by
    obtain ⟨c, ces', rfl, h1, h2, h3, h4⟩ := h.cons_inv
    simp only [findBornNat] at hf
    split at hf
    · rename_i hb
      cases hf
      exact ⟨c, by simp [List.find?_cons, h3, hb], h1, h2⟩
    · rename_i hb
      obtain ⟨c', q, a, b⟩ := findBornNat_sim es ces' e h4 hf
      refine ⟨c', ?_, a, b⟩
      have : (c.born == n) = false := by simp [h3, hb]
      simp [List.find?_cons, this, q]

theorem eff_entry (hg : Good w0 μ h w) {x v : AV} {xv : Value} (hx : VR w0 μ x xv) (ha : entryS x h = some v) : ∃ vc, (Instr.entry xv).run P w = .ok vc w ∧ VR w0 μ v vc := by
  unfold entryS at ha
  split at ha
  · rename_i r
    split at ha
    · rename_i m since seen st ho
      split at ha
      · rename_i stamp es ck hl hm
        split at ha
        · rename_i hck
          split at ha
          · rename_i e he
            cases ha
            cases hx
            rename_i k hk
            obtain ⟨r0, rr, r1, km, km1, rfl⟩ := hg.obj r k _ hk ho
            obtain ⟨ces, c1, c2⟩ := hg.map km1 hm
            obtain ⟨c, d1, d2, d3⟩ := findBornNat_sim es ces.toList e c2 he
            have hf : ces.find? (·.born == stamp) = some c := by cases ces; simpa using d1
            have hback : seen.toArray.back? = some stamp := by simpa using hl
            have hgo : (getObj k.c).run P w = .ok (.mapIter (some km.c) since seen.toArray st) w := by simp [getObj, Sem.run, r1]
            refine ⟨.tuple #[c.key, c.val], ?_, VRL.tuple (.cons d2 (.cons d3 .nil))⟩
            have hne : (ck != st) = false := by simp [hck]
            simp only [r0, Nat.zero_add, Nat.add_zero, Instr.entry, Sem.run_bind, Sem.run_pure, hgo, Result.andThen_ok, hback, run_getMap c1, hne, hf, Bool.false_eq_true, if_false]
          · cases ha
        · cases ha
      · cases ha
    · cases ha
  · cases ha
end
end Go.AM
