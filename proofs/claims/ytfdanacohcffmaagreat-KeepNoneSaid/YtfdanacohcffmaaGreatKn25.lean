/- Parts of the proof. Conditions: none. -/
import Derived.Test.YtfdanacohcffmaaGreatKn19
import Derived.Test.YtfdanacohcffmaaGreatKn24
namespace Go.AM
open Go Go.Proofs
set_option linter.unusedVariables false
set_option linter.unusedSimpArgs false
noncomputable section
variable {K : Out → Heap → Bool} {h : Heap} {i n b k : Nat} {α : Type} {p : Nat → Bool} {g : FuncId} {x : Sl Int} {t : List Int} {lv : Lev.Lv} {a : List AV}
def Gate.ok (g : Gate) : Prop := g.name.length ≤ big ∧ g.at_.l.length ≤ big ∧ g.kids.l.length ≤ big
def Circ.ok (c : Circ) : Prop := c.gates.l.length ≤ big ∧ ∀ g ∈ c.gates.l, g.ok
def Rel.ok (r : Rel) : Prop := r.name.length ≤ big ∧ r.tuples.l.length ≤ big ∧ ∀ t ∈ r.tuples.l, t.l.length ≤ big
def Strc.ok (s : Strc) : Prop := s.rels.l.length ≤ big ∧ ∀ r ∈ s.rels.l, r.ok
theorem SameDim.trans {A B C : DB} (h1 : SameDim A B) (h2 : SameDim B C) : SameDim A C := fun nm => (h1 nm).trans (h2 nm)
theorem SameDim.symm {A B : DB} (h1 : SameDim A B) : SameDim B A := fun nm => (h1 nm).symm
def upOf (ns : List Str) (lv : Lev.Lv) : List Int := ns.map fun s => (lv s : Int)
theorem upOf_len (ns : List Str) (lv : Lev.Lv) : (upOf ns lv).length = ns.length := by simp [upOf]
theorem upOf_get {ns : List Str} {s : Str} (h : ns[i]? = some s) : (upOf ns lv)[i]? = some (lv s : Int) := by
  unfold upOf; rw [List.getElem?_map, h]; rfl
theorem nodup_inj {α : Type} : ∀ {l : List α} {i j : Nat} {s : α}, l.Nodup → l[i]? = some s → l[j]? = some s → i = j
  | [], i, j, s, _, h, _ => by simp at h
  | a :: l, 0, 0, s, _, _, _ => rfl
  | a :: l, 0, j + 1, s, hn, h1, h2 => by
    simp only [List.getElem?_cons_zero, Option.some.injEq, List.getElem?_cons_succ] at h1 h2
    subst h1
    exact absurd (ZmG h2) (List.nodup_cons.1 hn).1
  | a :: l, i + 1, 0, s, hn, h1, h2 => by
    simp only [List.getElem?_cons_zero, Option.some.injEq, List.getElem?_cons_succ] at h1 h2
    subst h2
    exact absurd (ZmG h1) (List.nodup_cons.1 hn).1
  | a :: l, i + 1, j + 1, s, hn, h1, h2 => by
    rw [List.getElem?_cons_succ] at h1 h2
    rw [nodup_inj (List.nodup_cons.1 hn).2 h1 h2]
theorem upOf_set {ns : List Str} (hn : ns.Nodup) {e : Lev.Edge} {a : Nat} (ha : ns[a]? = some e.h) (hlt : lv e.h < lv e.b + e.w) : (upOf ns lv).set a ((lv e.b + e.w : Nat) : Int) = upOf ns (Lev.relax lv e) := by
  have hal := (ZgI.1 ha).1
  refine List.ext_getElem? fun j => ?_
  rw [List.getElem?_set]
  have hrel : ∀ x, Lev.relax lv e x = if x = e.h then lv e.b + e.w else lv x := fun x => by unfold Lev.relax; rw [if_pos hlt]
  by_cases hj : a = j
  · subst hj
    rw [if_pos rfl, if_pos (by rw [upOf_len]; exact hal), upOf_get ha, hrel, if_pos rfl]
  · rw [if_neg hj]
    cases hs : ns[j]? with
    | none => unfold upOf; rw [List.getElem?_map, List.getElem?_map, hs]; rfl
    | some t =>
      rw [upOf_get hs, upOf_get hs, hrel, if_neg]
      intro e1
      subst e1
      exact hj (nodup_inj hn ha hs)
theorem relax_other {e : Lev.Edge} {s : Str} (h : s ≠ e.h) : Lev.relax lv e s = lv s := by
  unfold Lev.relax; split
  · exact if_neg h
  · rfl
set_option maxHeartbeats 2000000 in
theorem ref07_Levels {rules : Sl RuleD} (h60 : rules.l.length ≤ 60) (h20 : ∀ r ∈ rules.l, r.body.l.length ≤ 20) {h : Heap} {K : Out → Heap → Bool}
    (hno : (∀ k, ¬ Lev.Stable (edgesP rules.l) (Lev.iter (edgesP rules.l) k)) → K (.ret (.tuple [.nils, .bool false])) h = true)
    (hyes : ∀ (y : Sl Int) k, Lev.Stable (edgesP rules.l) (Lev.iter (edgesP rules.l) k) → y.l = upOf (defL rules.l) (Lev.iter (edgesP rules.l) k) → K (.ret (.tuple [encSl encI 1 y, .bool true])) h = true) :
    Sem TP 114 [encSl encRu 3 rules] h K := by
  have hbig : rules.l.length ≤ big := by unfold big; omega
  have hN : ∀ e ∈ edgesP rules.l, e.b ∈ defL rules.l ∧ e.h ∈ defL rules.l := fun e he => by
    obtain ⟨r, hr, c, hc, _, hin, rfl⟩ := edges_of he
    exact ⟨(defL_mem _).2 hin, (defL_mem _).2 (List.mem_map_of_mem hr)⟩
  have hw : ∀ e ∈ edgesP rules.l, e.w ≤ 1 := fun e he => by
    obtain ⟨r, hr, c, hc, _, hin, rfl⟩ := edges_of he
    exact edge_w r c
  have hnd := sortS_nodup (defL_sorted rules.l)
  have hdl : (defL rules.l).length ≤ 60 := by have := defL_len rules.l; omega
  have main : Sem TP 114 [encSl encRu 3 rules] Heap.empty (fun o h' => yes (((∀ k, ¬ Lev.Stable (edgesP rules.l) (Lev.iter (edgesP rules.l) k)) ∧ o = .ret (.tuple [.nils, .bool false])) ∨
      ∃ (a : AV) (y : Sl Int) (k : Nat), o = .ret (.tuple [a, .bool true]) ∧ Fz true h' a (encSl encI 1 y) ∧ Lev.Stable (edgesP rules.l) (Lev.iter (edgesP rules.l) k) ∧ y.l = upOf (defL rules.l) (Lev.iter (edgesP rules.l) k))) := by
    refine F.ref07_Levels_sem ?_
    rw [F.ref07_Levels_eq]
    generalize hR : (fun (o : Out) (h' : Heap) => yes (((∀ k, ¬ Lev.Stable (edgesP rules.l) (Lev.iter (edgesP rules.l) k)) ∧ o = .ret (.tuple [.nils, .bool false])) ∨
      ∃ (a : AV) (y : Sl Int) (k : Nat), o = .ret (.tuple [a, .bool true]) ∧ Fz true h' a (encSl encI 1 y) ∧ Lev.Stable (edgesP rules.l) (Lev.iter (edgesP rules.l) k) ∧ y.l = upOf (defL rules.l) (Lev.iter (edgesP rules.l) k))) = R
    have finN : (∀ k, ¬ Lev.Stable (edgesP rules.l) (Lev.iter (edgesP rules.l) k)) → ∀ h', R (.ret (.tuple [.nils, .bool false])) h' = true := fun hk h' => by
      subst hR; exact yes_eq.2 (.inl ⟨hk, rfl⟩)
    have finY : ∀ h' a (y : Sl Int) k, Fz true h' a (encSl encI 1 y) → Lev.Stable (edgesP rules.l) (Lev.iter (edgesP rules.l) k) → y.l = upOf (defL rules.l) (Lev.iter (edgesP rules.l) k) → R (.ret (.tuple [a, .bool true])) h' = true := fun h' a y k q1 q2 q3 => by
      subst hR; exact yes_eq.2 (.inr ⟨a, y, k, rfl, q1, q2, q3⟩)
    clear hR
    refine semCall_true (ref07_Defined h60 fun x hx1 => ?_)
    have hxl : x.l.length ≤ 60 := by rw [hx1]; exact hdl
    have hxb : x.l.length ≤ big := by unfold big; omega
    simp only [AMc, Nat.reduceAdd, Nat.reduceEqDiff, reduceIte, make_sl (show x.l.length ≤ 1000000 by omega)]
    have gU : (Heap.alloc Heap.empty (.cells ((List.replicate x.l.length (0 : Int)).map iv))).get 0 = some (.cells ((upOf x.l (Lev.iter (edgesP rules.l) 0)).map iv)) := by
      have : upOf x.l (Lev.iter (edgesP rules.l) 0) = List.replicate x.l.length (0 : Int) := by
        show x.l.map (fun _ => (0 : Int)) = _; exact List.map_const'
      rw [this]; exact get_alloc_same _ _
    have gn : (Heap.alloc Heap.empty (.cells ((List.replicate x.l.length (0 : Int)).map iv))).next = 1 := rfl
    simp only [next_empty]
    generalize (Heap.alloc Heap.empty (.cells ((List.replicate x.l.length (0 : Int)).map iv))) = H0 at gU gn ⊢
    rw [← hx1] at hN hnd finY
    refine loopB_while (fun m e h' => ∃ k, h'.get 0 = some (.cells ((upOf x.l (Lev.iter (edgesP rules.l) k)).map iv)) ∧ 0 < h'.next ∧ (∀ s, Lev.iter (edgesP rules.l) k s ≤ x.l.length) ∧ e 0 = encSl encRu 3 rules ∧ e 4 = encSl encS 1 x ∧ e 5 = .slice 0 0 x.l.length 1 ∧
      ((e 6 = .bool true ∧ m = x.l.length * x.l.length + 2 - (x.l.map (Lev.iter (edgesP rules.l) k)).sum) ∨ (e 6 = .bool false ∧ m = 0 ∧ Lev.Stable (edgesP rules.l) (Lev.iter (edgesP rules.l) k)))) _
      ⟨0, gU, by omega, fun s => Nat.zero_le _, rfl, rfl, rfl, .inl ⟨rfl, rfl⟩⟩ ?_
    rintro m e h' ⟨k, qU, qn, bd, e0, e4, e5, hch⟩ K0 hN0 hx0 hr0
    rw [F.ref07_Levels.L0_eq]
    rcases hch with ⟨e6, hm⟩ | ⟨e6, hm, hst⟩
    · have hsum : (x.l.map (Lev.iter (edgesP rules.l) k)).sum ≤ x.l.length * x.l.length := Lev.sum_le x.l fun s _ => bd s
      simp only [e6, condB_bool, cond_t]
      refine loopB_range 0 rules.l.length (Nat.zero_le _) (fun i e h' => ∃ cur ch, Lev.RS (Lev.iter (edgesP rules.l) k) cur (edges (headsOf rules.l) (rules.l.take i)) ch ∧ h'.get 0 = some (.cells ((upOf x.l cur).map iv)) ∧ 0 < h'.next ∧ (∀ s, cur s ≤ x.l.length) ∧
        e 0 = encSl encRu 3 rules ∧ e 4 = encSl encS 1 x ∧ e 5 = .slice 0 0 x.l.length 1 ∧ e 6 = .bool ch ∧ e 7 = .int .i64 (i : Int)) ⟨_, false, Lev.RS.nil _, qU, qn, bd, e0, e4, e5, rfl, rfl⟩ ?_ ?_
      · rintro i e h' _ hi ⟨cur, ch, rs, qU, qn, bd, e0, e4, e5, e6, e7⟩ K1 hn1 hx1' hr1 hp1
        have hv : rules.l[i]? = some rules.l[i] := ZgE hi
        generalize rules.l[i] = r at hv
        have hb20 := h20 r (ZmG hv)
        have hbb : r.body.l.length ≤ big := by unfold big; omega
        have hrin : r.name ∈ x.l := by rw [hx1]; exact (defL_mem _).2 (List.mem_map_of_mem (ZmG hv))
        have ld : ∀ j, j < 3 → ∀ h, loadS none (.iptr (rules.l.flatMap encRu) (i * 3 + j)) h = (encRu r)[j]? := fun j hj h => load_elem len_encRu hv hj
        have ld0 : ∀ h, loadS none (.iptr (rules.l.flatMap encRu) (i * 3)) h = some (.str r.name) := fun h => ld 0 (by omega) h
        rw [F.ref07_Levels.L1_eq]
        simp only [e0, e4, e7, AMc, Nat.reduceAdd, Nat.reduceEqDiff, reduceIte, lt_true hi, iaS_enc rules hi, ld0]
        refine semCall_true (ref07_place hxb (fun a ha => ?_) (fun hnot => absurd hrin hnot))
        have hal := (ZgI.1 ha).1
        simp only [AMc, Nat.reduceAdd, Nat.reduceEqDiff, reduceIte]
        refine loopB_range 0 r.body.l.length (Nat.zero_le _) (fun j e h2 => ∃ cur ch, Lev.RS (Lev.iter (edgesP rules.l) k) cur (edges (headsOf rules.l) (rules.l.take i) ++ edgesR (headsOf rules.l) r (r.body.l.take j)) ch ∧ h2.get 0 = some (.cells ((upOf x.l cur).map iv)) ∧ 0 < h2.next ∧ (∀ s, s ≠ r.name → cur s ≤ x.l.length) ∧ (∀ s, cur s ≤ x.l.length + j) ∧
          e 0 = encSl encRu 3 rules ∧ e 4 = encSl encS 1 x ∧ e 5 = .slice 0 0 x.l.length 1 ∧ e 6 = .bool ch ∧ e 7 = .int .i64 (i : Int) ∧ e 8 = .int .i64 (a : Int) ∧ e 9 = .int .i64 (j : Int))
          ⟨cur, ch, by simpa [edgesR] using rs, qU, qn, fun s _ => bd s, by simpa using bd, e0, e4, e5, e6, e7, rfl, rfl⟩ ?_ ?_
        · rintro j e h2 _ hj ⟨cur, ch, rs, qU, qn, bd1, bd2, e0, e4, e5, e6, e7, e8, e9⟩ K2 hn2 hx2 hr2 hp2
          have hc : r.body.l[j]? = some r.body.l[j] := ZgE hj
          generalize r.body.l[j] = c at hc
          obtain ⟨H2, hs2, k1, ko, kn⟩ := store_new (h := h2) (zs := [.int .i64 0, .bool false, .str [], .nils]) (cs := encCo c) (n := 4) rfl rfl (one_encCo c)
          have kU : H2.get 0 = some (.cells ((upOf x.l cur).map iv)) := by rw [ko 0 (by omega)]; exact qU
          have hst := edgesR_step (hs := headsOf rules.l) (r := r) hc
          have skip : edgeR (headsOf rules.l) r c = [] → ∀ e' : Env, e' 0 = encSl encRu 3 rules → e' 4 = encSl encS 1 x → e' 5 = .slice 0 0 x.l.length 1 → e' 6 = .bool ch → e' 7 = .int .i64 (i : Int) → e' 8 = .int .i64 (a : Int) → e' 9 = .int .i64 ((j + 1 : Nat) : Int) → K2 .normal ⟨e', 89, [], H2⟩ = true := by
            intro hed e' e0 e4 e5 e6 e7 e8 e9
            rw [hed, List.append_nil] at hst
            exact hn2 _ _ ⟨cur, ch, by rw [hst]; exact rs, kU, by omega, bd1, fun s => by have := bd2 s; omega, e0, e4, e5, e6, e7, e8, e9⟩
          rw [F.ref07_Levels.L2_eq]
          simp only [e0, e4, e7, e9, AMc, Nat.reduceAdd, Nat.reduceEqDiff, reduceIte, iaS_enc rules hi, ld 2 (by omega), encRu, lt_true hj, iaS_enc r.body hj, load_agg len_encCo hc, hs2]
          simp only [AMc, Nat.reduceAdd, Nat.reduceEqDiff, reduceIte, load_ptr k1, encCo]
          refine semCall_true (ref07_place hxb (fun b hb => ?_) (fun hnot => ?_))
          · have hbl := (ZgI.1 hb).1
            have hcin : c.name ∈ headsOf rules.l := by rw [← defL_mem, ← hx1]; exact ZmG hb
            simp only [AMc, Nat.reduceAdd, Nat.reduceEqDiff, reduceIte, load_ptr k1, encCo, int_beq]
            by_cases k0 : c.kind = 0
            · have hed : edgeR (headsOf rules.l) r c = [edgeOf r c] := by unfold edgeR; rw [if_pos ⟨k0, hcin⟩]
              rw [hed] at hst
              simp only [ZdT k0, cond_t, ZdT (show (0 : Int) ≤ (b : Int) by omega), e5, ia_sl hbl, load_sl kU (upOf_get hb), AMc, Nat.reduceAdd, Nat.reduceEqDiff, reduceIte, load_ptr k1, encCo]
              have J : ∀ e' : Env, e' 0 = encSl encRu 3 rules → e' 4 = encSl encS 1 x → e' 5 = .slice 0 0 x.l.length 1 → e' 6 = .bool ch → e' 7 = .int .i64 (i : Int) → e' 8 = .int .i64 (a : Int) → e' 9 = .int .i64 (j : Int) → e' 12 = .int .i64 ((cur c.name + (edgeOf r c).w : Nat) : Int) →
                  F.ref07_Levels.J0 K2 ⟨e', 89, [], H2⟩ = true := by
                intro e' e0 e4 e5 e6 e7 e8 e9 e12
                rw [F.ref07_Levels.J0_eq]
                simp only [e5, e8, e12, ia_sl hal, load_sl kU (upOf_get ha), AMc, Nat.reduceAdd, Nat.reduceEqDiff, reduceIte]
                by_cases hlt : cur r.name < cur c.name + (edgeOf r c).w
                · have hset := upOf_set hnd (e := edgeOf r c) ha hlt
                  have hstore := store_sl (v := ((cur c.name + (edgeOf r c).w : Nat) : Int)) kU (i := a) (by rw [upOf_len]; exact hal)
                  have hset' : (upOf x.l cur).set a ((cur c.name + (edgeOf r c).w : Nat) : Int) = upOf x.l (Lev.relax cur (edgeOf r c)) := hset
                  rw [hset'] at hstore
                  simp only [lt_true hlt, cond_t, e5, e8, e9, e12, ia_sl hal, hstore, AMc, Nat.reduceAdd, Nat.reduceEqDiff, reduceIte, succ_i64 hj hbb]
                  refine hn2 _ _ ⟨_, true, ?_, by rw [Heap.get_set, if_pos rfl], by rw [Heap.next_set]; omega, fun s hs => ?_, fun s => ?_, e0, e4, e5, rfl, e7, e8, rfl⟩
                  · rw [hst, ← List.append_assoc]; exact rs.up hlt
                  · rw [relax_other (e := edgeOf r c) hs]; exact bd1 s hs
                  · have := Lev.relax_bound (e := edgeOf r c) bd2 (edge_w r c) s; omega
                · simp only [ZdF (by omega : ¬ ((cur r.name : Int) < ((cur c.name + (edgeOf r c).w : Nat) : Int))), cond_f, e9, succ_i64 hj hbb, bindO_some]
                  exact hn2 _ _ ⟨cur, ch, by rw [hst, ← List.append_assoc]; exact rs.same hlt, kU, by omega, bd1, fun s => by have := bd2 s; omega, e0, e4, e5, e6, e7, e8, rfl⟩
              cases hng : c.neg with
              | true =>
                have hw1 : (edgeOf r c).w = 1 := by unfold edgeOf; simp [hng]
                have hadd := succ_i64 (i := cur c.name) (n := 2000000) (by have := bd2 c.name; omega) (by unfold big; omega)
                simp only [cond_t, hadd, bindO_some]
                exact J _ e0 e4 e5 e6 e7 e8 e9 (by rw [hw1]; rfl)
              | false =>
                have hw1 : (edgeOf r c).w = 0 := by unfold edgeOf; simp [hng]
                simp only [cond_f]
                exact J _ e0 e4 e5 e6 e7 e8 e9 (by rw [hw1]; rfl)
            · simp only [ZdF k0, cond_f, e9, succ_i64 hj hbb, bindO_some]
              exact skip (by unfold edgeR; rw [if_neg (fun h => k0 h.1)]) _ e0 e4 e5 e6 e7 e8 rfl
          · have hcout : c.name ∉ headsOf rules.l := fun h => hnot (by rw [hx1]; exact (defL_mem _).2 h)
            have hed : edgeR (headsOf rules.l) r c = [] := by unfold edgeR; rw [if_neg (fun h => hcout h.2)]
            simp only [AMc, Nat.reduceAdd, Nat.reduceEqDiff, reduceIte, load_ptr k1, encCo, int_beq]
            by_cases k0 : c.kind = 0
            · simp only [ZdT k0, cond_t, show decide ((0 : Int) ≤ -1) = false from rfl, cond_f, e9, succ_i64 hj hbb, bindO_some]
              exact skip hed _ e0 e4 e5 e6 e7 e8 rfl
            · simp only [ZdF k0, cond_f, e9, succ_i64 hj hbb, bindO_some]
              exact skip hed _ e0 e4 e5 e6 e7 e8 rfl
        · rintro e h2 ⟨cur, ch, rs, qU, qn, bd1, bd2, e0, e4, e5, e6, e7, e8, e9⟩ K2 hx2
          rw [ZtL (ZrF _), ← edges_step hv] at rs
          rw [F.ref07_Levels.L2_eq]
          simp only [e0, e7, e9, AMc, Nat.reduceAdd, Nat.reduceEqDiff, reduceIte, iaS_enc rules hi, ld 2 (by omega), encRu, lt_false]
          rw [hx2, F.ref07_Levels.L2_x4_eq]
          simp only [e4, e5, e7, e8, ia_sl hal, load_sl qU (upOf_get ha), AMc, Nat.reduceAdd, Nat.reduceEqDiff, reduceIte]
          by_cases hgt : x.l.length < cur r.name
          · simp only [lt_true hgt, cond_t]
            rw [hr1, F.ref07_Levels.L1_r_eq, hr0, F.ref07_Levels.L0_r_eq]
            refine finN (Lev.high (N := x.l) hN hw (k := k) (E1 := edges (headsOf rules.l) (rules.l.take (i + 1))) (E2 := edges (headsOf rules.l) (rules.l.drop (i + 1))) ?_ hrin (by rw [← rs.eq]; exact hgt)) _
            unfold edgesP edges
            rw [← List.flatMap_append, List.take_append_drop]
          · simp only [ZdF (by omega : ¬ ((x.l.length : Int) < (cur r.name : Int))), cond_f, e7, succ_i64 hi hbig, bindO_some]
            refine hn1 _ _ ⟨cur, ch, rs, qU, qn, fun s => ?_, e0, e4, e5, e6, rfl⟩
            by_cases hs : s = r.name
            · subst hs; omega
            · exact bd1 s hs
      · rintro e h' ⟨cur, ch, rs, qU, qn, bd', e0, e4, e5, e6, e7⟩ K1 hx1'
        rw [ZtL (ZrF _)] at rs
        obtain ⟨d1, d2⟩ := rs.done
        have d1' : cur = Lev.iter (edgesP rules.l) (k + 1) := d1
        rw [F.ref07_Levels.L1_eq]
        simp only [e0, e7, AMc, Nat.reduceAdd, Nat.reduceEqDiff, reduceIte, lt_false]
        rw [hx1', F.ref07_Levels.L1_x2_eq]
        by_cases hst : Lev.Stable (edgesP rules.l) (Lev.iter (edgesP rules.l) k)
        · have hst' : Lev.Stable (edges (headsOf rules.l) rules.l) (Lev.iter (edgesP rules.l) k) := hst
          rw [ZdT hst'] at d2
          have d3 : cur = Lev.iter (edgesP rules.l) k := by rw [d1]; exact Lev.round_same hst
          rw [d3] at qU
          exact hN0 0 _ _ (by omega) ⟨k, qU, qn, bd, e0, e4, e5, .inr ⟨by simp only [setV_eq, Nat.reduceEqDiff, reduceIte, e6, d2]; rfl, rfl, hst⟩⟩
        · have hst' : ¬ Lev.Stable (edges (headsOf rules.l) rules.l) (Lev.iter (edgesP rules.l) k) := hst
          rw [ZdF hst'] at d2
          rw [d1'] at qU bd'
          have h1 := Lev.round_sum hN hst
          have h2 : (x.l.map (Lev.iter (edgesP rules.l) (k + 1))).sum ≤ x.l.length * x.l.length := Lev.sum_le x.l fun s _ => bd' s
          have h3 : (x.l.map (Lev.iter (edgesP rules.l) k)).sum < (x.l.map (Lev.iter (edgesP rules.l) (k + 1))).sum := h1
          exact hN0 _ _ _ (by rw [hm]; omega) ⟨k + 1, qU, qn, bd', e0, e4, e5, .inl ⟨by simp only [setV_eq, Nat.reduceEqDiff, reduceIte, e6, d2]; rfl, rfl⟩⟩
    · simp only [e6, condB_bool, cond_f]
      rw [hx0, F.ref07_Levels.L0_x0_eq]
      simp only [setV_eq, Nat.reduceEqDiff, reduceIte, e5]
      have hf := frz_ints qU
      rw [upOf_len] at hf
      exact finY _ _ (some (upOf x.l (Lev.iter (edgesP rules.l) k))) k hf hst rfl
  refine main.frozen (by simp [AV.pureL, pure_encSl pure_encRu]) fun o h' ho => ?_
  rcases yes_eq.1 ho with ⟨hb, rfl⟩ | ⟨a, y, k, rfl, f1, hst, s3⟩
  · exact ⟨_, _, rfl, .of_pure rfl, hno hb⟩
  · have fl := FzL.cons f1 (FzL.cons (Fz.scalar (.bool true) rfl) FzL.nil)
    exact ⟨_, _, rfl, .tuple _ _ fl.len fl.rel, hyes y k hst s3⟩
theorem ref01_In {n : Int} {x : Sl Int} (hx : x.l.length ≤ big) {h : Heap} {K : Out → Heap → Bool} (hK : K (.ret (.bool (inB n x.l))) h = true) : Sem TP 125 [.int .i64 n, encSl encI 1 x] h K := by
  refine F.ref01_In_sem ?_
  rw [F.ref01_In_eq]
  refine loopB_range 0 x.l.length (Nat.zero_le _) (fun i e h' => h' = h ∧ e 0 = .int .i64 n ∧ e 1 = encSl encI 1 x ∧ e 5 = .int .i64 (i : Int) ∧ inB n (x.l.take i) = true) ⟨rfl, rfl, rfl, rfl, rfl⟩ ?_ ?_
  · rintro i e h' _ hi ⟨rfl, e0, e1, e5, ht⟩ K' hn hx' hr hp
    have hv : x.l[i]? = some x.l[i] := ZgE hi
    rw [F.ref01_In.L0_eq]
    simp only [e0, e1, e5, AMc, Nat.reduceAdd, Nat.reduceEqDiff, reduceIte, lt_true hi, iaS_enc x hi, get_ints hv]
    by_cases h1 : x.l[i] < 0
    · simp only [ZdT h1, cond_t]
      rw [hr, F.ref01_In.L0_r_eq]
      have : inB n x.l = false := all_false hv (by simp [h1])
      rw [this] at hK; exact hK
    · simp only [ZdF h1, cond_f]
      by_cases h2 : n ≤ x.l[i]
      · simp only [ZdT h2, cond_t]
        rw [hr, F.ref01_In.L0_r_eq]
        have : inB n x.l = false := all_false hv (by simp [h2])
        rw [this] at hK; exact hK
      · simp only [ZdF h2, cond_f, succ_i64 hi hx, bindO_some]
        exact hn _ _ ⟨rfl, e0, e1, rfl, take_all hv ht (by simp [h1, h2])⟩
  · rintro e h' ⟨rfl, e0, e1, e5, ht⟩ K' hx'
    rw [F.ref01_In.L0_eq]
    simp only [e0, e1, e5, AMc, Nat.reduceAdd, Nat.reduceEqDiff, reduceIte, lt_false]
    rw [hx', F.ref01_In.L0_x0_eq]
    rw [ZtL (ZrF _)] at ht
    rw [ht] at hK; exact hK
theorem IndexFunc_int (hx : x.l.length ≤ big) {b : List AV} {p : Int → Bool} (hp : ∀ (v : Int) (K : Out → Heap → Bool), K (.ret (.bool (p v))) h = true → Sem TP g (a ++ ([.int .i64 v] ++ b)) h K)
    (hK : ∀ n : Int, decide (0 ≤ n) = x.l.any p → K (.ret (.int .i64 n)) h = true) : Sem TP 91 [encSl encI 1 x, .func g a b] h K := by
  refine F.slices_IndexFunc_S_int_int_sem ?_
  rw [F.slices_IndexFunc_S_int_int_eq]
  simp only [AMc, Nat.reduceAdd, Nat.reduceEqDiff, reduceIte]
  refine loopB_range 0 x.l.length (Nat.zero_le _) (fun i e h' => h' = h ∧ e 0 = encSl encI 1 x ∧ e 1 = .func g a b ∧ e 7 = .int .i64 (x.l.length : Int) ∧ e 8 = .int .i64 (i : Int) ∧ (x.l.take i).any p = false) ⟨rfl, rfl, rfl, rfl, rfl, rfl⟩ ?_ ?_
  · rintro i e h' _ hi ⟨rfl, e0, e1, e7, e8, ht⟩ K' hn hx' hr hp'
    have hv : x.l[i]? = some x.l[i] := ZgE hi
    rw [F.slices_IndexFunc_S_int_int.L0_eq]
    simp only [e0, e1, e7, e8, AMc, Nat.reduceAdd, Nat.reduceEqDiff, reduceIte, lt_true hi, iaS_enc x hi, get_ints hv, callV_func]
    refine semCall_true (hp _ _ ?_)
    simp only [AMc, Nat.reduceAdd, Nat.reduceEqDiff, reduceIte]
    cases hq : p x.l[i] with
    | true =>
      simp only [cond_t]
      rw [hr, F.slices_IndexFunc_S_int_int.L0_r_eq]
      refine hK (i : Int) ?_
      rw [ZdT (by omega : (0 : Int) ≤ (i : Int))]
      exact (List.any_eq_true.2 ⟨_, ZmG hv, hq⟩).symm
    | false =>
      simp only [cond_f, succ_i64 hi hx, bindO_some]
      exact hn _ _ ⟨rfl, e0, e1, e7, rfl, by rw [List.take_add_one, hv, List.any_append, ht]; simp [hq]⟩
  · rintro e h' ⟨rfl, e0, e1, e7, e8, ht⟩ K' hx'
    rw [F.slices_IndexFunc_S_int_int.L0_eq]
    simp only [e0, e1, e7, e8, AMc, Nat.reduceAdd, Nat.reduceEqDiff, reduceIte, lt_false]
    rw [hx', F.slices_IndexFunc_S_int_int.L0_x0_eq]
    rw [ZtL (ZrF _)] at ht
    exact hK (-1) (by rw [ht]; rfl)
theorem ContainsFunc_int (hx : x.l.length ≤ big) {b : List AV} {p : Int → Bool} (hp : ∀ (v : Int) (K : Out → Heap → Bool), K (.ret (.bool (p v))) h = true → Sem TP g (a ++ ([.int .i64 v] ++ b)) h K)
    (hK : K (.ret (.bool (x.l.any p))) h = true) : Sem TP 47 [encSl encI 1 x, .func g a b] h K := by
  refine F.slices_ContainsFunc_S_int_int_sem ?_
  rw [F.slices_ContainsFunc_S_int_int_eq]
  refine semCall_true (IndexFunc_int hx hp fun n hn => ?_)
  simp only [AMc, Nat.reduceAdd, Nat.reduceEqDiff, reduceIte]
  rw [hn]; exact hK
def outB (n : Int) (x : Int) : Bool := decide (x < 0) || decide (n ≤ x)
theorem in_out (n : Int) (l : List Int) : inB n l = !(l.any (outB n)) := by
  unfold inB outB
  induction l with
  | nil => rfl
  | cons a l ih => simp only [List.all_cons, List.any_cons, ih]; cases decide (a < 0) <;> cases decide (n ≤ a) <;> rfl
theorem part_whole {cs : List AV} (h : cs.length = n) : partS (some n) cs 0 = some (.agg cs) := by
  simp [partS, h, ZtL]
theorem ref01_Pow {n k : Nat} (h1 : 1 ≤ n) (h2 : n ≤ 64) (hk : k ≤ big) {h : Heap} {K : Out → Heap → Bool} (hK : ∀ v : Nat, (n ^ k ≤ 4096 → v = n ^ k) → (4096 < n ^ k → 4096 < v) → K (.ret (.int .i64 (v : Int))) h = true) :
    Sem TP 155 [.int .i64 (n : Int), .int .i64 (k : Int)] h K := by
  refine F.ref01_Pow_sem ?_
  rw [F.ref01_Pow_eq]
  refine loopB_range 0 k (Nat.zero_le _) (fun i e h' => h' = h ∧ e 0 = .int .i64 (n : Int) ∧ e 1 = .int .i64 (k : Int) ∧ e 6 = .int .i64 (i : Int) ∧ e 5 = .int .i64 ((n ^ i : Nat) : Int) ∧ n ^ i ≤ 262144) ⟨rfl, rfl, rfl, rfl, rfl, by simp⟩ ?_ ?_
  · rintro i e h' _ hi ⟨rfl, e0, e1, e6, e5, hb⟩ K' hn hx hr hp
    rw [F.ref01_Pow.L0_eq]
    simp only [e0, e1, e5, e6, AMc, Nat.reduceAdd, Nat.reduceEqDiff, reduceIte, lt_true hi]
    by_cases hc : n ^ i ≤ 4096
    · have hm : n ^ i * n ≤ 4096 * 64 := Nat.mul_le_mul hc h2
      have hm' : ((n ^ i : Nat) : Int) * (n : Int) = ((n ^ (i + 1) : Nat) : Int) := by rw [Nat.pow_succ, Int.natCast_mul]
      have hs : n ^ (i + 1) ≤ 262144 := by rw [Nat.pow_succ]; omega
      have hmul : binS .mul (.int .i64 ((n ^ i : Nat) : Int)) (.int .i64 (n : Int)) = some (.int .i64 ((n ^ (i + 1) : Nat) : Int)) := by
        rw [mul_i64 (by rw [hm']; omega) (by rw [hm']; omega), hm']
      simp only [ZdT (by omega : ((n ^ i : Nat) : Int) ≤ 4096), cond_t, hmul, succ_i64 hi hk, bindO_some]
      exact hn _ _ ⟨rfl, e0, e1, rfl, rfl, hs⟩
    · simp only [ZdF (by omega : ¬ ((n ^ i : Nat) : Int) ≤ 4096), cond_f]
      rw [hx, F.ref01_Pow.L0_x0_eq]
      simp only [e5, setV_eq, Nat.reduceEqDiff, reduceIte]
      have := pow_up h1 (Nat.le_of_lt hi)
      exact hK _ (fun h => by omega) (fun _ => by omega)
  · rintro e h' ⟨rfl, e0, e1, e6, e5, hb⟩ K' hx
    rw [F.ref01_Pow.L0_eq]
    simp only [e0, e1, e5, e6, AMc, Nat.reduceAdd, Nat.reduceEqDiff, reduceIte, lt_false]
    rw [hx, F.ref01_Pow.L0_x0_eq]
    simp only [e5, setV_eq, Nat.reduceEqDiff, reduceIte]
    exact hK _ (fun _ => rfl) (fun h => h)
def powI (n k : Nat) : Int := if n ^ k ≤ 4096 then ((n ^ k : Nat) : Int) else -1
theorem shape_power {n k : Nat} (h1 : 1 ≤ n) (h2 : n ≤ 64) (hk : k ≤ big) {h : Heap} {K : Out → Heap → Bool} (hK : K (.ret (.int .i64 (powI n k))) h = true) :
    Sem TP 108 [.int .i64 (n : Int), .int .i64 (k : Int), .int .i64 4096] h K := by
  refine F.shape_power_sem ?_
  rw [F.shape_power_eq]
  refine loopB_range 0 k (Nat.zero_le _) (fun i e h' => h' = h ∧ e 0 = .int .i64 (n : Int) ∧ e 2 = .int .i64 4096 ∧ e 8 = .int .i64 (k : Int) ∧ e 9 = .int .i64 (i : Int) ∧ e 7 = .int .i64 ((n ^ i : Nat) : Int) ∧ n ^ i ≤ 4096) ⟨rfl, rfl, rfl, rfl, rfl, rfl, by simp⟩ ?_ ?_
  · rintro i e h' _ hi ⟨rfl, e0, e2, e8, e9, e7, hb⟩ K' hn hx hr hp
    rw [F.shape_power.L0_eq]
    have hm : n ^ i * n ≤ 4096 * 64 := Nat.mul_le_mul hb h2
    have hm' : ((n ^ i : Nat) : Int) * (n : Int) = ((n ^ (i + 1) : Nat) : Int) := by rw [Nat.pow_succ, Int.natCast_mul]
    have hs : n ^ (i + 1) ≤ 262144 := by rw [Nat.pow_succ]; omega
    have hmul : binS .mul (.int .i64 ((n ^ i : Nat) : Int)) (.int .i64 (n : Int)) = some (.int .i64 ((n ^ (i + 1) : Nat) : Int)) := by
      rw [mul_i64 (by rw [hm']; omega) (by rw [hm']; omega), hm']
    simp only [e0, e2, e7, e8, e9, AMc, Nat.reduceAdd, Nat.reduceEqDiff, reduceIte, lt_true hi, hmul]
    by_cases hc : n ^ (i + 1) ≤ 4096
    · simp only [ZdF (by omega : ¬ (4096 : Int) < ((n ^ (i + 1) : Nat) : Int)), cond_f, succ_i64 hi hk, bindO_some]
      exact hn _ _ ⟨rfl, e0, e2, e8, rfl, rfl, hc⟩
    · simp only [ZdT (by omega : (4096 : Int) < ((n ^ (i + 1) : Nat) : Int)), cond_t]
      rw [hr, F.shape_power.L0_r_eq]
      simp only [setV_eq, Nat.reduceEqDiff, reduceIte]
      have := pow_up h1 (show i + 1 ≤ k from hi)
      rw [powI, if_neg (by omega)] at hK
      exact hK
  · rintro e h' ⟨rfl, e0, e2, e8, e9, e7, hb⟩ K' hx
    rw [F.shape_power.L0_eq]
    simp only [e8, e9, AMc, Nat.reduceAdd, Nat.reduceEqDiff, reduceIte, lt_false]
    rw [hx, F.shape_power.L0_x0_eq]
    simp only [e7, setV_eq, Nat.reduceEqDiff, reduceIte]
    rw [powI, if_pos hb] at hK
    exact hK
def powA (n k : Nat) : AV := if 12 < k then .tuple [.int .i64 0, .int .i64 2] else if 4096 < n ^ k then .tuple [.int .i64 0, .int .i64 5] else .tuple [.int .i64 ((n ^ k : Nat) : Int), .int .i64 0]
theorem shape_Power (h1 : 1 ≤ n) (h2 : n ≤ 64) (hk : k ≤ big) (hK : K (.ret (powA n k)) h = true) : Sem TP 99 [.int .i64 (n : Int), .int .i64 (k : Int)] h K := by
  refine F.shape_Power_sem ?_
  rw [F.shape_Power_eq]
  simp only [AMc, Nat.reduceAdd, Nat.reduceEqDiff, reduceIte, ZdF (by omega : ¬ (n : Int) < 1), ZdF (by omega : ¬ (64 : Int) < (n : Int)), ZdF (by omega : ¬ (k : Int) < 0)]
  unfold powA at hK
  by_cases h12 : 12 < k
  · rw [if_pos h12] at hK
    simp only [ZdT (by omega : (12 : Int) < (k : Int)), cond_t]; exact hK
  · rw [if_neg h12] at hK
    simp only [ZdF (by omega : ¬ (12 : Int) < (k : Int)), cond_f]
    refine semCall_true (shape_power h1 h2 hk ?_)
    simp only [AMc, Nat.reduceAdd, Nat.reduceEqDiff, reduceIte]
    by_cases hc : n ^ k ≤ 4096
    · rw [if_neg (by omega)] at hK
      simp only [powI, if_pos hc, ZdF (by omega : ¬ ((n ^ k : Nat) : Int) < 0), cond_f]; exact hK
    · rw [if_pos (by omega)] at hK
      simp only [powI, if_neg hc, ZdT (by omega : (-1 : Int) < 0), cond_t]; exact hK
theorem elements_1 {n : Int} (hb : h.get b = some (.cells [.int .i64 n])) (v : Int) (K : Out → Heap → Bool) (hK : K (.ret (.bool (outB n v))) h = true) : Sem TP 93 ([] ++ ([.int .i64 v] ++ [.ptr b 0])) h K := by
  refine F.shape_elements_1_sem ?_
  rw [F.shape_elements_1_eq]
  simp only [load_ptr hb, AMc, Nat.reduceAdd, Nat.reduceEqDiff, reduceIte]
  unfold outB at hK
  by_cases h1 : v < 0 <;> by_cases h2 : n ≤ v <;> simpa [h1, h2] using hK
theorem shape_elements {n : Int} (hx : x.l.length ≤ big) (hK : K (.ret (.bool (inB n x.l))) h = true) : Sem TP 52 [.int .i64 n, encSl encI 1 x] h K := by
  refine Sem.data (r := .bool (inB n x.l)) ?_ (by simp [AV.pureL, AV.pure, pure_encSl pure_encI]) hK
  refine F.shape_elements_sem ?_
  rw [F.shape_elements_eq]
  simp only [box_one (x := .int .i64 _) rfl, bindO_some, next_empty]
  have g0 : (Heap.alloc Heap.empty (.cells [.int .i64 n])).get 0 = some (.cells [.int .i64 n]) := get_alloc_same _ _
  refine semCall_true (ContainsFunc_int hx (elements_1 g0) ?_)
  simp only [AMc, Nat.reduceAdd, Nat.reduceEqDiff, reduceIte]
  rw [in_out]
  exact frzK_same rfl
theorem lessB_drop {l m : List Int} {a b : Int} (ha : l[i]? = some a) (hb : m[i]? = some b) : lessB (l.drop i) (m.drop i) = if a = b then lessB (l.drop (i + 1)) (m.drop (i + 1)) else decide (a < b) := by
  have h1 := (ZgI.1 ha).1
  have h2 := (ZgI.1 hb).1
  rw [List.drop_eq_getElem_cons h1, List.drop_eq_getElem_cons h2]
  rw [ZgE h1] at ha
  rw [ZgE h2] at hb
  cases ha; cases hb; rfl
theorem ref01_Less {x y : Sl Int} (hx : x.l.length ≤ big) (hxy : x.l.length = y.l.length) {h : Heap} {K : Out → Heap → Bool} (hK : K (.ret (.bool (lessB x.l y.l))) h = true) : Sem TP 156 [encSl encI 1 x, encSl encI 1 y] h K := by
  refine F.ref01_Less_sem ?_
  rw [F.ref01_Less_eq]
  refine loopB_range 0 x.l.length (Nat.zero_le _) (fun i e h' => h' = h ∧ e 0 = encSl encI 1 x ∧ e 1 = encSl encI 1 y ∧ e 5 = .int .i64 (i : Int) ∧ lessB x.l y.l = lessB (x.l.drop i) (y.l.drop i)) ⟨rfl, rfl, rfl, rfl, rfl⟩ ?_ ?_
  · rintro i e h' _ hi ⟨rfl, e0, e1, e5, hl⟩ K' hn hx' hr hp
    have hi2 : i < y.l.length := by omega
    have hv : x.l[i]? = some x.l[i] := ZgE hi
    have hw : y.l[i]? = some y.l[i] := ZgE hi2
    rw [lessB_drop hv hw] at hl
    generalize x.l[i] = a at hv hl
    generalize y.l[i] = b at hw hl
    rw [F.ref01_Less.L0_eq]
    simp only [e0, e1, e5, AMc, Nat.reduceAdd, Nat.reduceEqDiff, reduceIte, lt_true hi, iaS_enc x hi, iaS_enc y hi2, get_ints hv, get_ints hw, int_beq]
    by_cases hab : a = b
    · rw [if_pos hab] at hl
      simp only [ZdT hab, Bool.not_true, cond_f, succ_i64 hi hx, bindO_some]
      exact hn _ _ ⟨rfl, e0, e1, rfl, hl⟩
    · rw [if_neg hab] at hl
      simp only [ZdF hab, Bool.not_false, cond_t]
      rw [hr, F.ref01_Less.L0_r_eq]
      simp only [setV_eq, Nat.reduceEqDiff, reduceIte]
      rw [hl] at hK; exact hK
  · rintro e h' ⟨rfl, e0, e1, e5, hl⟩ K' hx'
    rw [F.ref01_Less.L0_eq]
    simp only [e0, e5, AMc, Nat.reduceAdd, Nat.reduceEqDiff, reduceIte, lt_false]
    rw [hx', F.ref01_Less.L0_x0_eq]
    rw [List.drop_of_length_le (ZrF _)] at hl
    rw [hl] at hK; exact hK
theorem isNaN_int {a : Int} (hK : K (.ret (.bool false)) h = true) : Sem TP 136 [.int .i64 a] h K := by
  refine F.cmp_isNaN_int_sem ?_
  rw [F.cmp_isNaN_int_eq]
  simp only [AMc, Nat.reduceAdd, Nat.reduceEqDiff, reduceIte, beq_self_eq_true, Bool.not_true]
  exact hK
theorem Compare_int {a b : Int} (hK : ∀ c : Int, (c = 0 ↔ a = b) → (c < 0 ↔ a < b) → K (.ret (.int .i64 c)) h = true) : Sem TP 95 [.int .i64 a, .int .i64 b] h K := by
  refine F.cmp_Compare_int_sem ?_
  rw [F.cmp_Compare_int_eq]
  refine semCall_true (isNaN_int ?_)
  simp only [AMc, Nat.reduceAdd, Nat.reduceEqDiff, reduceIte]
  refine semCall_true (isNaN_int ?_)
  simp only [AMc, Nat.reduceAdd, Nat.reduceEqDiff, reduceIte]
  by_cases h1 : a < b
  · simp only [ZdT h1, cond_t]; exact hK _ (by omega) (by omega)
  · simp only [ZdF h1, cond_f]
    by_cases h2 : b < a
    · simp only [ZdT h2, cond_t]; exact hK _ (by omega) (by omega)
    · simp only [ZdF h2, cond_f]; exact hK _ (by omega) (by omega)
theorem slices_Compare {y : Sl Int} (hx : x.l.length ≤ big) (hxy : x.l.length = y.l.length) (hK : ∀ c : Int, decide (0 ≤ c) = !(lessB x.l y.l) → K (.ret (.int .i64 c)) h = true) : Sem TP 55 [encSl encI 1 x, encSl encI 1 y] h K := by
  refine F.slices_Compare_S_int_int_sem ?_
  rw [F.slices_Compare_S_int_int_eq]
  simp only [AMc, Nat.reduceAdd, Nat.reduceEqDiff, reduceIte]
  refine loopB_range 0 x.l.length (Nat.zero_le _) (fun i e h' => h' = h ∧ e 0 = encSl encI 1 x ∧ e 1 = encSl encI 1 y ∧ e 9 = encSl encI 1 x ∧ e 10 = .int .i64 (x.l.length : Int) ∧ e 11 = .int .i64 (i : Int) ∧ lessB x.l y.l = lessB (x.l.drop i) (y.l.drop i)) ⟨rfl, rfl, rfl, rfl, rfl, rfl, rfl⟩ ?_ ?_
  · rintro i e h' _ hi ⟨rfl, e0, e1, e9, e10, e11, hl⟩ K' hn hx' hr hp
    have hi2 : i < y.l.length := by omega
    have hv : x.l[i]? = some x.l[i] := ZgE hi
    have hw : y.l[i]? = some y.l[i] := ZgE hi2
    rw [lessB_drop hv hw] at hl
    generalize x.l[i] = a at hv hl
    generalize y.l[i] = b at hw hl
    rw [F.slices_Compare_S_int_int.L0_eq]
    simp only [e0, e1, e9, e10, e11, AMc, Nat.reduceAdd, Nat.reduceEqDiff, reduceIte, lt_true hi, iaS_enc x hi, iaS_enc y hi2, get_ints hv, get_ints hw, ZdF (by omega : ¬ (y.l.length : Int) ≤ (i : Int))]
    refine semCall_true (Compare_int fun c c1 c2 => ?_)
    simp only [AMc, Nat.reduceAdd, Nat.reduceEqDiff, reduceIte, int_beq]
    by_cases hab : a = b
    · rw [if_pos hab] at hl
      simp only [ZdT (c1.2 hab), Bool.not_true, cond_f, succ_i64 hi hx, bindO_some]
      exact hn _ _ ⟨rfl, e0, e1, e9, e10, rfl, hl⟩
    · rw [if_neg hab] at hl
      simp only [ZdF (fun h => hab (c1.1 h)), Bool.not_false, cond_t]
      rw [hr, F.slices_Compare_S_int_int.L0_r_eq]
      simp only [setV_eq, Nat.reduceEqDiff, reduceIte]
      refine hK c ?_
      rw [hl]
      by_cases hlt : a < b
      · rw [ZdT hlt, ZdF (by have := c2.2 hlt; omega)]; rfl
      · rw [ZdF hlt, ZdT (by have := mt c2.1 hlt; omega)]; rfl
  · rintro e h' ⟨rfl, e0, e1, e9, e10, e11, hl⟩ K' hx'
    rw [F.slices_Compare_S_int_int.L0_eq]
    simp only [e10, e11, AMc, Nat.reduceAdd, Nat.reduceEqDiff, reduceIte, lt_false]
    rw [hx', F.slices_Compare_S_int_int.L0_x0_eq]
    simp only [e0, e1, AMc, Nat.reduceAdd, Nat.reduceEqDiff, reduceIte, ZdF (by omega : ¬ (x.l.length : Int) < (y.l.length : Int))]
    rw [List.drop_of_length_le (ZrF _)] at hl
    exact hK 0 (by rw [hl]; rfl)
structure View {α : Type} (enc : α → List AV) (sz : Nat) (a : AV) (l : List α) : Prop where
  len : ∀ h : Heap, lenS .slice a h = some (.int .i64 (l.length : Int))
  at_ : ∀ (i : Nat) (v : α), l[i]? = some v → ∃ cs o, (∀ k : IntKind, iaS sz a (.int k (i : Int)) = some (.iptr cs o)) ∧ (∀ h : Heap, loadS (some sz) (.iptr cs o) h = some (.agg (enc v))) ∧ ∀ (m : Nat), m < sz → ∀ h : Heap, loadS none (.iptr cs (o + m)) h = (enc v)[m]?
theorem view_take {enc : α → List AV} {sz : Nat} (he : ∀ a, (enc a).length = sz) (x : Sl α) (hi : i ≤ x.l.length) :
    ∃ a, (∀ k : IntKind, sliceS (some sz) (encSl enc sz x) none (some (.int k (i : Int))) = some a) ∧ View enc sz a (x.l.take i) := by
  cases x with
  | none =>
    simp only [Sl.l_none, List.length_nil, Nat.le_zero_eq] at hi
    subst hi
    exact ⟨.nils, fun k => by simp [sliceS, encSl, lenA, boundS, asNat], ⟨fun h => rfl, fun j v hv => by simp at hv⟩⟩
  | some l =>
    simp only [Sl.l_some] at hi ⊢
    refine ⟨.islice (l.flatMap enc) 0 i sz, fun k => ?_, ⟨fun h => by simp [lenS, Nat.min_eq_left hi], fun j v hv => ?_⟩⟩
    · simp [sliceS, encSl, lenA, boundS, asNat, hi]
    · have hj : j < i := by have := (ZgI.1 hv).1; rw [List.length_take] at this; omega
      rw [List.getElem?_take_of_lt hj] at hv
      exact ⟨l.flatMap enc, j * sz, fun k => by simp [iaS, asNat, hj], fun h => load_agg he hv, fun m hm h => load_elem he hv hm⟩
def encRel (r : Rel) : List AV := [.str r.name, .int .i64 r.arity, encSl encT 1 r.tuples]
theorem len_encRel (r : Rel) : (encRel r).length = 3 := rfl
theorem pure_encRel (r : Rel) : AV.pureL (encRel r) = true := by simp [encRel, AV.pureL, AV.pure, pure_encSl pure_encT]
theorem one_encRel (r : Rel) : oneAll (encRel r) = true := by unfold encRel; simp only [oneAll, one_encSl, Bool.and_true]; rfl
def encStrc (s : Strc) : List AV := [.int .i64 s.size, encSl encRel 3 s.rels]
theorem pure_encStrc (s : Strc) : AV.pureL (encStrc s) = true := by simp [encStrc, AV.pureL, AV.pure, pure_encSl pure_encRel]
theorem one_encStrc (s : Strc) : oneAll (encStrc s) = true := by unfold encStrc; simp only [oneAll, one_encSl, Bool.and_true]; rfl
theorem allN_true (h : ∀ j, j < n → p j = true) : allN p n = true := by
  rw [allN, List.all_eq_true]; exact fun x hx => h x (List.mem_range.1 hx)
theorem allN_false (hi : i < n) (h : p i = false) : allN p n = false := by
  rw [Bool.eq_false_iff]; intro hh
  rw [allN, List.all_eq_true] at hh
  have := hh i (List.mem_range.2 hi)
  rw [h] at this; cases this
theorem allN_get (h : allN p n = true) (hi : i < n) : p i = true := by
  rw [allN, List.all_eq_true] at h
  exact h i (List.mem_range.2 hi)
theorem tup_len {l : List (Sl Int)} {t : Sl Int} (h : tupAt n k l i = true) (ht : l[i]? = some t) : t.l.length = k := by
  unfold tupAt at h
  rw [ht] at h
  simp only [Bool.and_eq_true, decide_eq_true_eq] at h
  exact h.1
theorem shape_tuples {n k : Nat} {r : Rel} (hr : r.ok) (ha : r.arity = (k : Int)) {h : Heap} {K : Out → Heap → Bool} (hK : K (.ret (.bool (tupB n k r.tuples.l))) h = true) : Sem TP 109 [.int .i64 (n : Int), .agg (encRel r)] h K := by
  refine Sem.data (r := .bool (tupB n k r.tuples.l)) ?_ (by simp [AV.pureL, AV.pure, pure_encRel]) hK
  clear hK
  refine F.shape_tuples_sem ?_
  rw [F.shape_tuples_eq]
  have b0 : (Heap.alloc Heap.empty (.cells (encRel r))).get 0 = some (.cells (encRel r)) := get_alloc_same _ _
  simp only [box_agg (one_encRel r), bindO_some, next_empty]
  generalize (Heap.alloc Heap.empty (.cells (encRel r))) = H at b0 ⊢
  have fin : ∀ b : Bool, b = tupB n k r.tuples.l → frzK (.bool (tupB n k r.tuples.l)) (.ret (.bool b)) H = true := fun b hb => by rw [hb]; exact frzK_same rfl
  simp only [AMc, Nat.reduceAdd, Nat.reduceEqDiff, reduceIte, load_ptr b0, encRel]
  refine loopB_range 0 r.tuples.l.length (Nat.zero_le _) (fun i e h' => h' = H ∧ e 0 = .int .i64 (n : Int) ∧ e 3 = .ptr 0 0 ∧ e 8 = encSl encT 1 r.tuples ∧ e 9 = .int .i64 (r.tuples.l.length : Int) ∧ e 10 = .int .i64 (i : Int) ∧ ∀ j, j < i → tupAt n k r.tuples.l j = true) ⟨rfl, rfl, rfl, rfl, rfl, rfl, fun j hj => by omega⟩ ?_ ?_
  · rintro i e h' _ hi ⟨rfl, e0, e3, e8, e9, e10, ht⟩ K' hn hx' hrr hp
    have hv : r.tuples.l[i]? = some r.tuples.l[i] := ZgE hi
    generalize r.tuples.l[i] = t at hv
    have hto : t.l.length ≤ big := hr.2.2 t (ZmG hv)
    have bad : tupAt n k r.tuples.l i = false → F.shape_tuples.L0k (frzK (.bool (tupB n k r.tuples.l))) .ret ⟨setV e 4 (.bool false), 42, [], h'⟩ = true := fun hb => by
      rw [F.shape_tuples.L0_r_eq]
      simp only [setV_eq, Nat.reduceEqDiff, reduceIte]
      exact fin _ (allN_false hi hb).symm
    rw [F.shape_tuples.L0_eq]
    simp only [e0, e3, e8, e9, e10, AMc, Nat.reduceAdd, Nat.reduceEqDiff, reduceIte, lt_true hi, iaS_enc r.tuples hi, get_tup hv, load_ptr b0, encRel, int_beq, ha]
    by_cases h1 : t.l.length = k
    · simp only [ZdT (by omega : (t.l.length : Int) = (k : Int)), Bool.not_true, cond_f]
      refine semCall_true (shape_elements hto ?_)
      simp only [AMc, Nat.reduceAdd, Nat.reduceEqDiff, reduceIte]
      cases h2 : inB n t.l with
      | false =>
        simp only [Bool.not_false, cond_t]
        rw [hrr, F.shape_tuples.L0_r_eq]
        simp only [setV_eq, Nat.reduceEqDiff, reduceIte]
        exact fin _ (allN_false hi (by simp [tupAt, hv, h2])).symm
      | true =>
        simp only [Bool.not_true, cond_f]
        cases i with
        | zero =>
          simp only [show decide ((0 : Int) < ((0 : Nat) : Int)) = false from rfl, cond_f, succ_i64 hi hr.2.1, bindO_some]
          refine hn _ _ ⟨rfl, e0, e3, e8, e9, rfl, fun j hj => ?_⟩
          obtain rfl : j = 0 := by omega
          simp [tupAt, hv, h1, h2]
        | succ i =>
          have hi0 : i < r.tuples.l.length := by omega
          have hv0 : r.tuples.l[i]? = some r.tuples.l[i] := ZgE hi0
          generalize r.tuples.l[i] = p at hv0
          have hpl : p.l.length = k := tup_len (ht i (by omega)) hv0
          have hpo : p.l.length ≤ big := hr.2.2 p (ZmG hv0)
          have hsub : binS .sub (.int .i64 ((i + 1 : Nat) : Int)) (.int .i64 1) = some (.int .i64 (i : Int)) := by
            have := hr.2.1; unfold big at this
            rw [sub_i64 (by omega) (by omega)]; congr 2; omega
          simp only [ZdT (by omega : (0 : Int) < ((i + 1 : Nat) : Int)), cond_t, AMc, Nat.reduceAdd, Nat.reduceEqDiff, reduceIte, e3, load_ptr b0, encRel, hsub, iaS_enc r.tuples hi0, get_tup hv0]
          refine semCall_true (slices_Compare hpo (by omega) fun c hc => ?_)
          simp only [AMc, Nat.reduceAdd, Nat.reduceEqDiff, reduceIte, hc]
          cases h3 : lessB p.l t.l with
          | false =>
            simp only [Bool.not_false, cond_t]
            rw [hrr, F.shape_tuples.L0_r_eq]
            simp only [setV_eq, Nat.reduceEqDiff, reduceIte]
            exact fin _ (allN_false hi (by simp [tupAt, hv, hv0, h3])).symm
          | true =>
            simp only [Bool.not_true, cond_f, succ_i64 hi hr.2.1, bindO_some]
            refine hn _ _ ⟨rfl, e0, e3, e8, e9, rfl, fun j hj => ?_⟩
            by_cases hj' : j < i + 1
            · exact ht j hj'
            · obtain rfl : j = i + 1 := by omega
              simp [tupAt, hv, hv0, h1, h2, h3]
    · simp only [ZdF (by omega : ¬ (t.l.length : Int) = (k : Int)), Bool.not_false, cond_t]
      rw [hrr, F.shape_tuples.L0_r_eq]
      simp only [setV_eq, Nat.reduceEqDiff, reduceIte]
      exact fin _ (allN_false hi (by simp [tupAt, hv, h1])).symm
  · rintro e h' ⟨rfl, e0, e3, e8, e9, e10, ht⟩ K' hx'
    rw [F.shape_tuples.L0_eq]
    simp only [e9, e10, AMc, Nat.reduceAdd, Nat.reduceEqDiff, reduceIte, lt_false]
    rw [hx', F.shape_tuples.L0_x0_eq]
    exact fin _ (allN_true ht).symm
theorem ref01_rel {n : Nat} (h1 : 1 ≤ n) (h2 : n ≤ 64) {r : Rel} (hr : r.ok) {h : Heap} {K : Out → Heap → Bool} (hK : K (.ret (.bool (relB n r))) h = true) : Sem TP 115 [.int .i64 (n : Int), .agg (encRel r)] h K := by
  refine Sem.data (r := .bool (relB n r)) ?_ (by simp [AV.pureL, AV.pure, pure_encRel]) hK
  clear hK
  refine F.ref01_rel_sem ?_
  rw [F.ref01_rel_eq]
  have b0 : (Heap.alloc Heap.empty (.cells (encRel r))).get 0 = some (.cells (encRel r)) := get_alloc_same _ _
  simp only [box_agg (one_encRel r), bindO_some, next_empty]
  generalize (Heap.alloc Heap.empty (.cells (encRel r))) = H at b0 ⊢
  have fin : ∀ b : Bool, b = relB n r → frzK (.bool (relB n r)) (.ret (.bool b)) H = true := fun b hb => by rw [hb]; exact frzK_same rfl
  simp only [AMc, Nat.reduceAdd, Nat.reduceEqDiff, reduceIte, load_ptr b0, encRel]
  refine semCall_true (ref01_Name ?_)
  simp only [AMc, Nat.reduceAdd, Nat.reduceEqDiff, reduceIte]
  cases hn : nameB r.name with
  | false => simp only [Bool.not_false, cond_t]; exact fin _ (by simp [relB, hn])
  | true =>
  simp only [Bool.not_true, cond_f, AMc, Nat.reduceAdd, Nat.reduceEqDiff, reduceIte, load_ptr b0, encRel]
  by_cases ha : r.arity < 0
  · simp only [ZdT ha, cond_t]; exact fin _ (by rw [relB, ZdF (by omega : ¬ 0 ≤ r.arity)]; simp)
  simp only [ZdF ha, cond_f]
  by_cases ha2 : 12 < r.arity
  · simp only [ZdT ha2, cond_t]; exact fin _ (by rw [relB, ZdF (by omega : ¬ r.arity ≤ 12)]; simp)
  simp only [ZdF ha2, cond_f]
  obtain ⟨k, hk⟩ : ∃ k : Nat, r.arity = (k : Int) := ⟨r.arity.toNat, by omega⟩
  rw [hk]
  refine semCall_true (ref01_Pow h1 h2 (show k ≤ big by unfold big; omega) fun v v1 v2 => ?_)
  simp only [AMc, Nat.reduceAdd, Nat.reduceEqDiff, reduceIte]
  have hrb : relB n r = (decide (n ^ k ≤ 4096) && tupB n k r.tuples.l) := by
    rw [relB, hn, ZdT (by omega : 0 ≤ r.arity), ZdT (by omega : r.arity ≤ 12), hk]; rfl
  replace fin : ∀ b : Bool, b = (decide (n ^ k ≤ 4096) && tupB n k r.tuples.l) → frzK (.bool (relB n r)) (.ret (.bool b)) H = true := fun b hb => fin b (hb.trans hrb.symm)
  by_cases hc : n ^ k ≤ 4096
  · have := v1 hc
    simp only [ZdF (by omega : ¬ (4096 : Int) < (v : Int)), cond_f]
    replace fin : ∀ b : Bool, b = tupB n k r.tuples.l → frzK (.bool (relB n r)) (.ret (.bool b)) H = true := fun b hb => fin b (by rw [ZdT hc, Bool.true_and]; exact hb)
    refine loopB_range 0 r.tuples.l.length (Nat.zero_le _) (fun i e h' => h' = H ∧ e 0 = .int .i64 (n : Int) ∧ e 3 = .ptr 0 0 ∧ e 5 = .int .i64 (i : Int) ∧ ∀ j, j < i → tupAt n k r.tuples.l j = true) ⟨rfl, rfl, rfl, rfl, fun j hj => by omega⟩ ?_ ?_
    · rintro i e h' _ hi ⟨rfl, e0, e3, e5, ht⟩ K' hn hx' hrr hp
      have hv : r.tuples.l[i]? = some r.tuples.l[i] := ZgE hi
      generalize r.tuples.l[i] = t at hv
      have hto : t.l.length ≤ big := hr.2.2 t (ZmG hv)
      rw [F.ref01_rel.L0_eq]
      simp only [e0, e3, e5, AMc, Nat.reduceAdd, Nat.reduceEqDiff, reduceIte, load_ptr b0, encRel, lt_true hi, iaS_enc r.tuples hi, get_tup hv, int_beq, hk]
      by_cases q1 : t.l.length = k
      · simp only [ZdT (by omega : (t.l.length : Int) = (k : Int)), Bool.not_true, cond_f]
        refine semCall_true (ref01_In hto ?_)
        simp only [AMc, Nat.reduceAdd, Nat.reduceEqDiff, reduceIte]
        cases q2 : inB n t.l with
        | false =>
          simp only [Bool.not_false, cond_t]
          rw [hrr, F.ref01_rel.L0_r_eq]
          simp only [setV_eq, Nat.reduceEqDiff, reduceIte]
          exact fin _ (allN_false hi (by simp [tupAt, hv, q2])).symm
        | true =>
          simp only [Bool.not_true, cond_f]
          cases i with
          | zero =>
            simp only [show decide ((0 : Int) < ((0 : Nat) : Int)) = false from rfl, cond_f, succ_i64 hi hr.2.1, bindO_some]
            refine hn _ _ ⟨rfl, e0, e3, rfl, fun j hj => ?_⟩
            obtain rfl : j = 0 := by omega
            simp [tupAt, hv, q1, q2]
          | succ i =>
            have hi0 : i < r.tuples.l.length := by omega
            have hv0 : r.tuples.l[i]? = some r.tuples.l[i] := ZgE hi0
            generalize r.tuples.l[i] = p at hv0
            have hpl : p.l.length = k := tup_len (ht i (by omega)) hv0
            have hpo : p.l.length ≤ big := hr.2.2 p (ZmG hv0)
            have hsub : binS .sub (.int .i64 ((i + 1 : Nat) : Int)) (.int .i64 1) = some (.int .i64 (i : Int)) := by
              have := hr.2.1; unfold big at this
              rw [sub_i64 (by omega) (by omega)]; congr 2; omega
            simp only [ZdT (by omega : (0 : Int) < ((i + 1 : Nat) : Int)), cond_t, AMc, Nat.reduceAdd, Nat.reduceEqDiff, reduceIte, e3, e5, load_ptr b0, encRel, hsub, iaS_enc r.tuples hi0, iaS_enc r.tuples hi, get_tup hv0, get_tup hv]
            refine semCall_true (ref01_Less hpo (by omega) ?_)
            simp only [AMc, Nat.reduceAdd, Nat.reduceEqDiff, reduceIte]
            cases q3 : lessB p.l t.l with
            | false =>
              simp only [Bool.not_false, cond_t]
              rw [hrr, F.ref01_rel.L0_r_eq]
              simp only [setV_eq, Nat.reduceEqDiff, reduceIte]
              exact fin _ (allN_false hi (by simp [tupAt, hv, hv0, q3])).symm
            | true =>
              simp only [Bool.not_true, cond_f, succ_i64 hi hr.2.1, bindO_some]
              refine hn _ _ ⟨rfl, e0, e3, rfl, fun j hj => ?_⟩
              by_cases hj' : j < i + 1
              · exact ht j hj'
              · obtain rfl : j = i + 1 := by omega
                simp [tupAt, hv, hv0, q1, q2, q3]
      · simp only [ZdF (by omega : ¬ (t.l.length : Int) = (k : Int)), Bool.not_false, cond_t]
        rw [hrr, F.ref01_rel.L0_r_eq]
        simp only [setV_eq, Nat.reduceEqDiff, reduceIte]
        exact fin _ (allN_false hi (by simp [tupAt, hv, q1])).symm
    · rintro e h' ⟨rfl, e0, e3, e5, ht⟩ K' hx'
      rw [F.ref01_rel.L0_eq]
      simp only [e3, e5, AMc, Nat.reduceAdd, Nat.reduceEqDiff, reduceIte, load_ptr b0, encRel, lt_false]
      rw [hx', F.ref01_rel.L0_x0_eq]
      exact fin _ (allN_true ht).symm
  · have := v2 (by omega)
    simp only [ZdT (by omega : (4096 : Int) < (v : Int)), cond_t]
    exact fin _ (by rw [ZdF hc]; rfl)
def idxGo {α : Type} (p : α → Bool) : List α → Nat → Int
  | [], _ => -1
  | x :: l, i => if p x = true then (i : Int) else idxGo p l (i + 1)
def whereI {α : Type} (p : α → Bool) (l : List α) : Int := idxGo p l 0
theorem idx_drop {p : α → Bool} {l : List α} {v : α} (hv : l[i]? = some v) : idxGo p (l.drop i) i = if p v = true then (i : Int) else idxGo p (l.drop (i + 1)) (i + 1) := by
  have h1 := (ZgI.1 hv).1
  rw [List.drop_eq_getElem_cons h1]
  rw [ZgE h1] at hv
  cases hv; rfl
theorem idxGo_any {α : Type} (p : α → Bool) : ∀ (l : List α) (i : Nat), decide (0 ≤ idxGo p l i) = l.any p
  | [], i => rfl
  | x :: l, i => by
    rw [idxGo, List.any_cons]
    cases hp : p x with
    | true => simp
    | false => simpa using idxGo_any p l (i + 1)
theorem whereI_any (p : α → Bool) (l : List α) : decide (0 ≤ whereI p l) = l.any p := idxGo_any p l 0
theorem IndexFunc_rel {x : AV} {l : List Rel} (hv : View encRel 3 x l) (hl : l.length ≤ big) {b : List AV} {p : Rel → Bool}
    (hp : ∀ (v : Rel) (h' : Heap), HExt h h' → ∀ (K : Out → Heap → Bool), (∀ h'', HExt h' h'' → K (.ret (.bool (p v))) h'' = true) → Sem TP g (a ++ ([.agg (encRel v)] ++ b)) h' K)
    (hK : ∀ h', HExt h h' → K (.ret (.int .i64 (whereI p l))) h' = true) : Sem TP 76 [x, .func g a b] h K := by
  refine F.slices_IndexFunc_S_api_Rel_api_Rel_sem ?_
  rw [F.slices_IndexFunc_S_api_Rel_api_Rel_eq]
  simp only [hv.len, bindO_some]
  refine loopB_range 0 l.length (Nat.zero_le _) (fun i e h' => HExt h h' ∧ e 0 = x ∧ e 1 = .func g a b ∧ e 7 = .int .i64 (l.length : Int) ∧ e 8 = .int .i64 (i : Int) ∧ whereI p l = idxGo p (l.drop i) i) ⟨HExt.refl _, rfl, rfl, rfl, rfl, rfl⟩ ?_ ?_
  · rintro i e h' _ hi ⟨hx, e0, e1, e7, e8, ht⟩ K' hn hx' hr hp'
    have hvi : l[i]? = some l[i] := ZgE hi
    generalize l[i] = v at hvi
    obtain ⟨cs, o, v1, v2, _⟩ := hv.at_ i v hvi
    rw [idx_drop hvi] at ht
    rw [F.slices_IndexFunc_S_api_Rel_api_Rel.L0_eq]
    simp only [e0, e1, e7, e8, AMc, Nat.reduceAdd, Nat.reduceEqDiff, reduceIte, lt_true hi, v1, v2, callV_func]
    refine semCall_true (hp v h' hx _ fun h'' hx2 => ?_)
    simp only [AMc, Nat.reduceAdd, Nat.reduceEqDiff, reduceIte]
    cases hq : p v with
    | true =>
      simp only [cond_t]
      rw [hr, F.slices_IndexFunc_S_api_Rel_api_Rel.L0_r_eq]
      simp only [setV_eq, Nat.reduceEqDiff, reduceIte]
      rw [if_pos hq] at ht
      rw [ht] at hK
      exact hK _ (hx.trans hx2)
    | false =>
      simp only [cond_f, succ_i64 hi hl, bindO_some]
      rw [if_neg (by rw [hq]; decide)] at ht
      exact hn _ _ ⟨hx.trans hx2, e0, e1, e7, rfl, ht⟩
  · rintro e h' ⟨hx, e0, e1, e7, e8, ht⟩ K' hx'
    rw [F.slices_IndexFunc_S_api_Rel_api_Rel.L0_eq]
    simp only [e0, e1, e7, e8, AMc, Nat.reduceAdd, Nat.reduceEqDiff, reduceIte, lt_false]
    rw [hx', F.slices_IndexFunc_S_api_Rel_api_Rel.L0_x0_eq]
    rw [List.drop_of_length_le (ZrF _)] at ht
    rw [ht] at hK
    exact hK _ hx
theorem ContainsFunc_rel {x : AV} {l : List Rel} (hv : View encRel 3 x l) (hl : l.length ≤ big) {b : List AV} {p : Rel → Bool}
    (hp : ∀ (v : Rel) (h' : Heap), HExt h h' → ∀ (K : Out → Heap → Bool), (∀ h'', HExt h' h'' → K (.ret (.bool (p v))) h'' = true) → Sem TP g (a ++ ([.agg (encRel v)] ++ b)) h' K)
    (hK : ∀ h', HExt h h' → K (.ret (.bool (l.any p))) h' = true) : Sem TP 110 [x, .func g a b] h K := by
  refine F.slices_ContainsFunc_S_api_Rel_api_Rel_sem ?_
  rw [F.slices_ContainsFunc_S_api_Rel_api_Rel_eq]
  refine semCall_true (IndexFunc_rel hv hl hp fun h' hx => ?_)
  simp only [AMc, Nat.reduceAdd, Nat.reduceEqDiff, reduceIte]
  rw [whereI_any]
  exact hK _ hx
theorem get_rel {s : Strc} {r : Rel} (hr : s.rels.l[i]? = some r) : loadS (some 3) (.iptr (s.rels.l.flatMap encRel) (i * 3)) h = some (.agg (encRel r)) := load_agg len_encRel hr
theorem Valid_1 {r v : Rel} (hb : h.get b = some (.cells (encRel r))) (hbn : b < h.next) (h' : Heap) (hx : HExt h h') (K : Out → Heap → Bool) (hK : ∀ h'', HExt h' h'' → K (.ret (.bool (v.name == r.name))) h'' = true) :
    Sem TP 111 ([] ++ ([.agg (encRel v)] ++ [.ptr b 0])) h' K := by
  refine F.shape_Valid_1_sem ?_
  rw [F.shape_Valid_1_eq]
  have hb' : h'.get b = some (.cells (encRel r)) := by rw [hx.get b hbn]; exact hb
  have hx2 : HExt h' (Heap.alloc h' (.cells (encRel v))) := HExt.alloc _ _
  have g0 : (Heap.alloc h' (.cells (encRel v))).get h'.next = some (.cells (encRel v)) := get_alloc_same _ _
  have g1 : (Heap.alloc h' (.cells (encRel v))).get b = some (.cells (encRel r)) := by rw [hx2.get b (Nat.lt_of_lt_of_le hbn hx.next)]; exact hb'
  simp only [box_agg (one_encRel v), bindO_some]
  generalize (Heap.alloc h' (.cells (encRel v))) = H at g0 g1 hx2 ⊢
  simp only [AMc, Nat.reduceAdd, Nat.reduceEqDiff, reduceIte, load_ptr g0, load_ptr g1]
  rw [show (encRel v)[0]? = some (.str v.name) from rfl, show (encRel r)[0]? = some (.str r.name) from rfl]
  simp only [AMc, Nat.reduceAdd, Nat.reduceEqDiff, reduceIte]
  exact hK _ hx2
theorem shape_Valid {s : Strc} (hs : s.ok) {h : Heap} {K : Out → Heap → Bool} (hK : K (.ret (.bool (strcB s))) h = true) : Sem TP 64 [.agg (encStrc s)] h K := by
  refine Sem.data (r := .bool (strcB s)) ?_ (by simp [AV.pureL, AV.pure, pure_encStrc]) hK
  clear hK
  refine F.shape_Valid_sem ?_
  rw [F.shape_Valid_eq]
  have b0 : (Heap.alloc Heap.empty (.cells (encStrc s))).get 0 = some (.cells (encStrc s)) := get_alloc_same _ _
  have bn : 1 ≤ (Heap.alloc Heap.empty (.cells (encStrc s))).next := ZrF _
  simp only [box_agg (one_encStrc s), bindO_some, next_empty]
  generalize (Heap.alloc Heap.empty (.cells (encStrc s))) = H at b0 bn ⊢
  have fin : ∀ (b : Bool) (H : Heap), b = strcB s → frzK (.bool (strcB s)) (.ret (.bool b)) H = true := fun b H hb => by rw [hb]; exact frzK_same rfl
  generalize frzK (.bool (strcB s)) = K at fin ⊢
  simp only [AMc, Nat.reduceAdd, Nat.reduceEqDiff, reduceIte, load_ptr b0, encStrc]
  by_cases s1 : s.size < 1
  · simp only [ZdT s1, cond_t]; exact fin _ _ (by rw [strcB, ZdF (by omega : ¬ 1 ≤ s.size), Bool.false_and])
  simp only [ZdF s1, cond_f]
  by_cases s2 : 64 < s.size
  · simp only [ZdT s2, cond_t]; exact fin _ _ (by rw [strcB, ZdF (by omega : ¬ s.size ≤ 64), Bool.false_and, Bool.and_false])
  simp only [ZdF s2, cond_f]
  by_cases s3 : 8 < s.rels.l.length
  · simp only [ZdT (by omega : (8 : Int) < (s.rels.l.length : Int)), cond_t]; exact fin _ _ (by rw [strcB, ZdF (by omega : ¬ s.rels.l.length ≤ 8), Bool.false_and, Bool.and_false, Bool.and_false])
  simp only [ZdF (by omega : ¬ (8 : Int) < (s.rels.l.length : Int)), cond_f]
  replace fin : ∀ (b : Bool) (H : Heap), b = allN (relAt s) s.rels.l.length → K (.ret (.bool b)) H = true := fun b H hb => fin b H (by
    rw [strcB, ZdT (by omega : 1 ≤ s.size), ZdT (by omega : s.size ≤ 64), ZdT (by omega : s.rels.l.length ≤ 8)]; exact hb)
  obtain ⟨n, hn⟩ : ∃ n : Nat, s.size = (n : Int) := ⟨s.size.toNat, by omega⟩
  have hn' : s.size.toNat = n := by omega
  refine loopB_range 0 s.rels.l.length (Nat.zero_le _) (fun i e h' => h'.get 0 = some (.cells (encStrc s)) ∧ 1 ≤ h'.next ∧ e 1 = .ptr 0 0 ∧ e 20 = encSl encRel 3 s.rels ∧ e 21 = .int .i64 (s.rels.l.length : Int) ∧ e 22 = .int .i64 (i : Int) ∧ ∀ j, j < i → relAt s j = true) ⟨b0, bn, rfl, rfl, rfl, rfl, fun j hj => by omega⟩ ?_ ?_
  · rintro i e h' _ hi ⟨q0, qn, e1, e20, e21, e22, ht⟩ K' hnx hx' hrr hp
    have hv : s.rels.l[i]? = some s.rels.l[i] := ZgE hi
    generalize s.rels.l[i] = r at hv
    have hro : r.ok := hs.2 r (ZmG hv)
    have hat : relAt s i = (relB n r && !((s.rels.l.take i).any fun q => q.name == r.name)) := by rw [relAt, hv, hn']
    have bad : ∀ (e : Env) (h : Heap), relAt s i = false → e 2 = .bool false → F.shape_Valid.L0k K .ret ⟨e, 63, [], h⟩ = true := fun e h hb he => by
      rw [F.shape_Valid.L0_r_eq, he]
      exact fin _ _ (allN_false hi hb).symm
    obtain ⟨H, hst, g1, go, gn⟩ := store_new (h := h') (zs := [.str [], .int .i64 0, .nils]) (cs := encRel r) (n := 3) rfl rfl (one_encRel r)
    have p0 : H.get 0 = some (.cells (encStrc s)) := by rw [go _ (by omega)]; exact q0
    rw [F.shape_Valid.L0_eq]
    simp only [e1, e20, e21, e22, AMc, Nat.reduceAdd, Nat.reduceEqDiff, reduceIte, lt_true hi, iaS_enc s.rels hi, get_rel hv, hst, load_ptr g1, part_whole (len_encRel r)]
    rw [show (encRel r)[0]? = some (.str r.name) from rfl]
    simp only [AMc, Nat.reduceAdd, Nat.reduceEqDiff, reduceIte]
    refine semCall_true (shape_Name ?_)
    simp only [AMc, Nat.reduceAdd, Nat.reduceEqDiff, reduceIte]
    cases w1 : nameB r.name with
    | false =>
      simp only [Bool.not_false, cond_t]
      rw [hrr]
      exact bad _ _ (by rw [hat, relB, w1]; simp) rfl
    | true =>
    simp only [Bool.not_true, cond_f, AMc, Nat.reduceAdd, Nat.reduceEqDiff, reduceIte, load_ptr g1]
    rw [show (encRel r)[1]? = some (.int .i64 r.arity) from rfl]
    simp only [AMc, Nat.reduceAdd, Nat.reduceEqDiff, reduceIte]
    by_cases w2 : r.arity < 0
    · simp only [ZdT w2, cond_t]
      rw [hrr]
      exact bad _ _ (by rw [hat, relB, ZdF (by omega : ¬ 0 ≤ r.arity)]; simp) rfl
    simp only [ZdF w2, cond_f]
    by_cases w3 : 12 < r.arity
    · simp only [ZdT w3, cond_t]
      rw [hrr]
      exact bad _ _ (by rw [hat, relB, ZdF (by omega : ¬ r.arity ≤ 12)]; simp) rfl
    simp only [ZdF w3, cond_f, load_ptr p0, AMc, Nat.reduceAdd, Nat.reduceEqDiff, reduceIte, e1]
    rw [show (encStrc s)[0]? = some (.int .i64 s.size) from rfl]
    obtain ⟨k, hk⟩ : ∃ k : Nat, r.arity = (k : Int) := ⟨r.arity.toNat, by omega⟩
    simp only [AMc, Nat.reduceAdd, Nat.reduceEqDiff, reduceIte, hn, hk]
    refine semCall_true (shape_power (by omega) (by omega) (show k ≤ big by unfold big; omega) ?_)
    simp only [AMc, Nat.reduceAdd, Nat.reduceEqDiff, reduceIte]
    have hat2 : relAt s i = (decide (n ^ k ≤ 4096) && tupB n k r.tuples.l && !((s.rels.l.take i).any fun q => q.name == r.name)) := by
      rw [hat, relB, w1, ZdT (by omega : 0 ≤ r.arity), ZdT (by omega : r.arity ≤ 12), hk]; simp
    by_cases w4 : n ^ k ≤ 4096
    · simp only [powI, if_pos w4, ZdF (by omega : ¬ ((n ^ k : Nat) : Int) < 0), cond_f, AMc, Nat.reduceAdd, Nat.reduceEqDiff, reduceIte, load_ptr p0, load_ptr g1, part_whole (len_encRel r), e1]
      rw [show (encStrc s)[0]? = some (.int .i64 s.size) from rfl]
      simp only [AMc, Nat.reduceAdd, Nat.reduceEqDiff, reduceIte, hn]
      refine semCall_true (shape_tuples hro hk ?_)
      simp only [AMc, Nat.reduceAdd, Nat.reduceEqDiff, reduceIte]
      cases w5 : tupB n k r.tuples.l with
      | false =>
        simp only [Bool.not_false, cond_t]
        rw [hrr]
        exact bad _ _ (by rw [hat2, w5]; simp) rfl
      | true =>
      simp only [Bool.not_true, cond_f, AMc, Nat.reduceAdd, Nat.reduceEqDiff, reduceIte, load_ptr p0, e1]
      rw [show (encStrc s)[1]? = some (encSl encRel 3 s.rels) from rfl]
      obtain ⟨a, ha, hva⟩ := view_take len_encRel s.rels (Nat.le_of_lt hi)
      simp only [AMc, Nat.reduceAdd, Nat.reduceEqDiff, reduceIte, ha]
      have hlt : (s.rels.l.take i).length ≤ big := by rw [List.length_take]; have := hs.1; omega
      refine semCall_true (ContainsFunc_rel (p := fun q => q.name == r.name) hva hlt (fun v h2 hx2 K2 hK2 => Valid_1 g1 (by omega) h2 hx2 K2 hK2) fun h2 hx2 => ?_)
      simp only [AMc, Nat.reduceAdd, Nat.reduceEqDiff, reduceIte]
      cases w6 : (s.rels.l.take i).any fun q => q.name == r.name with
      | true =>
        simp only [cond_t]
        rw [hrr]
        exact bad _ _ (by rw [hat2, w6]; simp) rfl
      | false =>
        simp only [cond_f, succ_i64 hi hs.1, bindO_some, e22]
        refine hnx _ _ ⟨by rw [hx2.get 0 (by omega)]; exact p0, by have := hx2.next; omega, e1, e20, e21, rfl, fun j hj => ?_⟩
        by_cases hj' : j < i
        · exact ht j hj'
        · obtain rfl : j = i := by omega
          rw [hat2, w5, w6, ZdT w4]; rfl
    · simp only [powI, if_neg w4, ZdT (by omega : (-1 : Int) < 0), cond_t]
      rw [hrr]
      exact bad _ _ (by rw [hat2, ZdF w4]; simp) rfl
  · rintro e h' ⟨q0, qn, e1, e20, e21, e22, ht⟩ K' hx'
    rw [F.shape_Valid.L0_eq]
    simp only [e21, e22, AMc, Nat.reduceAdd, Nat.reduceEqDiff, reduceIte, lt_false]
    rw [hx', F.shape_Valid.L0_x0_eq]
    exact fin _ _ (allN_true ht).symm
theorem any_at {p : α → Bool} {l : List α} {a : α} (ha : l[i]? = some a) (hi : i < k) (hp : p a = true) : (l.take k).any p = true := by
  rw [List.any_eq_true]
  exact ⟨a, ZmG (by rw [List.getElem?_take_of_lt hi]; exact ha), hp⟩
theorem get_name {s : Strc} {r : Rel} (hr : s.rels.l[i]? = some r) : loadS none (.iptr (s.rels.l.flatMap encRel) (i * 3)) h = some (.str r.name) := by
  have := load_elem (h := h) len_encRel hr (k := 0) (by omega)
  rw [Nat.add_zero] at this
  rw [this]; rfl
theorem ref01_Valid {s : Strc} (hs : s.ok) {h : Heap} {K : Out → Heap → Bool} (hK : K (.ret (.bool (strcB s))) h = true) : Sem TP 66 [.agg (encStrc s)] h K := by
  refine Sem.data (r := .bool (strcB s)) ?_ (by simp [AV.pureL, AV.pure, pure_encStrc]) hK
  clear hK
  refine F.ref01_Valid_sem ?_
  rw [F.ref01_Valid_eq]
  have b0 : (Heap.alloc Heap.empty (.cells (encStrc s))).get 0 = some (.cells (encStrc s)) := get_alloc_same _ _
  simp only [box_agg (one_encStrc s), bindO_some, next_empty]
  generalize (Heap.alloc Heap.empty (.cells (encStrc s))) = H at b0 ⊢
  have fin : ∀ (b : Bool), b = strcB s → frzK (.bool (strcB s)) (.ret (.bool b)) H = true := fun b hb => by rw [hb]; exact frzK_same rfl
  generalize frzK (.bool (strcB s)) = K at fin ⊢
  have ls : loadS none (.ptr 0 0) H = some (.int .i64 s.size) := by rw [load_ptr b0]; rfl
  have lr : loadS none (.ptr 0 (0 + 1)) H = some (encSl encRel 3 s.rels) := by rw [load_ptr b0]; rfl
  rw [Nat.zero_add] at lr
  simp only [AMc, Nat.reduceAdd, Nat.reduceEqDiff, reduceIte, ls, lr]
  by_cases s1 : s.size < 1
  · simp only [ZdT s1, cond_t]; exact fin _ (by rw [strcB, ZdF (by omega : ¬ 1 ≤ s.size), Bool.false_and])
  simp only [ZdF s1, cond_f]
  by_cases s2 : 64 < s.size
  · simp only [ZdT s2, cond_t]; exact fin _ (by rw [strcB, ZdF (by omega : ¬ s.size ≤ 64), Bool.false_and, Bool.and_false])
  simp only [ZdF s2, cond_f]
  by_cases s3 : 8 < s.rels.l.length
  · simp only [ZdT (by omega : (8 : Int) < (s.rels.l.length : Int)), cond_t]; exact fin _ (by rw [strcB, ZdF (by omega : ¬ s.rels.l.length ≤ 8), Bool.false_and, Bool.and_false, Bool.and_false])
  simp only [ZdF (by omega : ¬ (8 : Int) < (s.rels.l.length : Int)), cond_f]
  replace fin : ∀ (b : Bool), b = allN (relAt s) s.rels.l.length → K (.ret (.bool b)) H = true := fun b hb => fin b (by
    rw [strcB, ZdT (by omega : 1 ≤ s.size), ZdT (by omega : s.size ≤ 64), ZdT (by omega : s.rels.l.length ≤ 8)]; exact hb)
  obtain ⟨n, hn⟩ : ∃ n : Nat, s.size = (n : Int) := ⟨s.size.toNat, by omega⟩
  have hn' : s.size.toNat = n := by omega
  rw [hn] at ls
  refine loopB_range 0 s.rels.l.length (Nat.zero_le _) (fun i e h' => h' = H ∧ e 1 = .ptr 0 0 ∧ e 3 = .int .i64 (i : Int) ∧ ∀ j, j < i → relAt s j = true) ⟨rfl, rfl, rfl, fun j hj => by omega⟩ ?_ ?_
  · rintro i e h' _ hi ⟨rfl, e1, e3, ht⟩ K' hnx hx' hrr hp
    have hv : s.rels.l[i]? = some s.rels.l[i] := ZgE hi
    generalize s.rels.l[i] = r at hv
    have hro : r.ok := hs.2 r (ZmG hv)
    have hat : relAt s i = (relB n r && !((s.rels.l.take i).any fun q => q.name == r.name)) := by rw [relAt, hv, hn']
    have bad : ∀ (e : Env), relAt s i = false → e 2 = .bool false → F.ref01_Valid.L0k K .ret ⟨e, 53, [], h'⟩ = true := fun e hb he => by
      rw [F.ref01_Valid.L0_r_eq, he]
      exact fin _ (allN_false hi hb).symm
    rw [F.ref01_Valid.L0_eq]
    simp only [e1, e3, AMc, Nat.reduceAdd, Nat.reduceEqDiff, reduceIte, ls, lr, lt_true hi, iaS_enc s.rels hi, get_rel hv]
    refine semCall_true (ref01_rel (by omega) (by omega) hro ?_)
    simp only [AMc, Nat.reduceAdd, Nat.reduceEqDiff, reduceIte]
    cases w1 : relB n r with
    | false =>
      simp only [Bool.not_false, cond_t]
      rw [hrr]
      exact bad _ (by rw [hat, w1, Bool.false_and]) rfl
    | true =>
    simp only [Bool.not_true, cond_f]
    refine loopB_range 0 i (Nat.zero_le _) (fun k e h2 => h2 = h' ∧ e 1 = .ptr 0 0 ∧ e 3 = .int .i64 (i : Int) ∧ e 4 = .int .i64 (k : Int) ∧ ((s.rels.l.take k).any fun q => q.name == r.name) = false) ⟨rfl, e1, e3, rfl, rfl⟩ ?_ ?_
    · rintro k e h2 _ hk ⟨rfl, e1, e3, e4, hk2⟩ K2 hn2 hx2 hr2 hp2
      have hki : k < s.rels.l.length := by omega
      have hvk : s.rels.l[k]? = some s.rels.l[k] := ZgE hki
      generalize s.rels.l[k] = q at hvk
      rw [F.ref01_Valid.L1_eq]
      simp only [e1, e3, e4, AMc, Nat.reduceAdd, Nat.reduceEqDiff, reduceIte, lr, lt_true hk, iaS_enc s.rels hi, iaS_enc s.rels hki, get_name hv, get_name hvk]
      cases w2 : q.name == r.name with
      | true =>
        simp only [cond_t]
        rw [hr2, F.ref01_Valid.L1_r_eq, hrr]
        exact bad _ (by rw [hat, any_at hvk hk w2]; simp) rfl
      | false =>
        simp only [cond_f, succ_i64 hk (by have := hs.1; omega), bindO_some]
        exact hn2 _ _ ⟨rfl, e1, e3, rfl, any_take hvk hk2 w2⟩
    · rintro e h2 ⟨rfl, e1, e3, e4, hk2⟩ K2 hx2
      rw [F.ref01_Valid.L1_eq]
      simp only [e3, e4, AMc, Nat.reduceAdd, Nat.reduceEqDiff, reduceIte, lt_false]
      rw [hx2, F.ref01_Valid.L1_x2_eq]
      simp only [AMc, Nat.reduceAdd, Nat.reduceEqDiff, reduceIte, e3, succ_i64 hi hs.1]
      refine hnx _ _ ⟨rfl, e1, rfl, fun j hj => ?_⟩
      by_cases hj' : j < i
      · exact ht j hj'
      · obtain rfl : j = i := by omega
        rw [hat, w1, hk2]; rfl
  · rintro e h' ⟨rfl, e1, e3, ht⟩ K' hx'
    rw [F.ref01_Valid.L0_eq]
    simp only [e1, e3, AMc, Nat.reduceAdd, Nat.reduceEqDiff, reduceIte, lr, lt_false]
    rw [hx', F.ref01_Valid.L0_x0_eq]
    exact fin _ (allN_true ht).symm
def nameIs (nm : Str) (q : Rel) : Bool := q.name == nm
theorem ref01_Find {s : Strc} (hs : s.ok) {nm : Str} {h : Heap} {K : Out → Heap → Bool} (hK : K (.ret (.int .i64 (whereI (nameIs nm) s.rels.l))) h = true) : Sem TP 69 [.agg (encStrc s), .str nm] h K := by
  refine Sem.data (r := .int .i64 (whereI (nameIs nm) s.rels.l)) ?_ (by simp [AV.pureL, AV.pure, pure_encStrc]) hK
  clear hK
  refine F.ref01_Find_sem ?_
  rw [F.ref01_Find_eq]
  have b0 : (Heap.alloc Heap.empty (.cells (encStrc s))).get 0 = some (.cells (encStrc s)) := get_alloc_same _ _
  simp only [box_agg (one_encStrc s), bindO_some, next_empty]
  generalize (Heap.alloc Heap.empty (.cells (encStrc s))) = H at b0 ⊢
  have fin : ∀ b : Int, b = whereI (nameIs nm) s.rels.l → frzK (.int .i64 (whereI (nameIs nm) s.rels.l)) (.ret (.int .i64 b)) H = true := fun b hb => by rw [hb]; exact frzK_same rfl
  have lr : loadS none (.ptr 0 1) H = some (encSl encRel 3 s.rels) := by rw [load_ptr b0]; rfl
  refine loopB_range 0 s.rels.l.length (Nat.zero_le _) (fun i e h' => h' = H ∧ e 1 = .str nm ∧ e 2 = .ptr 0 0 ∧ e 5 = .int .i64 (i : Int) ∧ whereI (nameIs nm) s.rels.l = idxGo (nameIs nm) (s.rels.l.drop i) i) ⟨rfl, rfl, rfl, rfl, rfl⟩ ?_ ?_
  · rintro i e h' _ hi ⟨rfl, e1, e2, e5, ht⟩ K' hn hx' hr hp
    have hv : s.rels.l[i]? = some s.rels.l[i] := ZgE hi
    generalize s.rels.l[i] = r at hv
    rw [idx_drop hv] at ht
    rw [F.ref01_Find.L0_eq]
    simp only [e1, e2, e5, AMc, Nat.reduceAdd, Nat.reduceEqDiff, reduceIte, lr, lt_true hi, iaS_enc s.rels hi, get_name hv]
    cases hq : r.name == nm with
    | true =>
      simp only [cond_t]
      rw [hr, F.ref01_Find.L0_r_eq]
      rw [if_pos (show nameIs nm r = true from hq)] at ht
      simp only [setV_eq, Nat.reduceEqDiff, reduceIte, e5]
      exact fin _ ht.symm
    | false =>
      simp only [cond_f, succ_i64 hi hs.1, bindO_some]
      rw [if_neg (by rw [nameIs, hq]; decide)] at ht
      exact hn _ _ ⟨rfl, e1, e2, rfl, ht⟩
  · rintro e h' ⟨rfl, e1, e2, e5, ht⟩ K' hx'
    rw [F.ref01_Find.L0_eq]
    simp only [e1, e2, e5, AMc, Nat.reduceAdd, Nat.reduceEqDiff, reduceIte, lr, lt_false]
    rw [hx', F.ref01_Find.L0_x0_eq]
    rw [List.drop_of_length_le (ZrF _)] at ht
    exact fin _ ht.symm
theorem get_tups {s : Strc} {r : Rel} (hr : s.rels.l[i]? = some r) : loadS none (.iptr (s.rels.l.flatMap encRel) (i * 3 + 2)) h = some (encSl encT 1 r.tuples) := by
  rw [load_elem len_encRel hr (by omega)]; rfl
theorem law01_Few {s : Strc} (hs : s.ok) {b : Nat} {h : Heap} (hb : h.get b = some (.cells (encStrc s))) {K : Out → Heap → Bool} (hK : ∀ x, K (.ret (.bool x)) h = true) : Sem TP 42 [.slice b 0 1 2] h K := by
  refine F.law01_Few_sem ?_
  rw [F.law01_Few_eq]
  have lr : loadS none (.ptr b 1) h = some (encSl encRel 3 s.rels) := by rw [load_ptr hb]; rfl
  have ia : iaS 2 (.slice b 0 1 2) (.int .i64 ((0 : Nat) : Int)) = some (.ptr b 0) := rfl
  have hl : ∀ h : Heap, lenS .slice (.slice b 0 1 2) h = some (.int .i64 ((1 : Nat) : Int)) := fun _ => rfl
  have num : ∀ e : Env, (∃ x : Int, e 4 = .int .i64 x) → F.law01_Few.L0k K (.exit 0) ⟨e, 89, [], h⟩ = true := fun e ⟨x, hx⟩ => by
    rw [F.law01_Few.L0_x0_eq]
    simp only [hx, AMc, Nat.reduceAdd, Nat.reduceEqDiff, reduceIte]
    exact hK _
  refine loopB_range 0 1 (Nat.zero_le _) (fun i e h' => h' = h ∧ e 0 = .slice b 0 1 2 ∧ (∃ x : Int, e 3 = .int .i64 x) ∧ (∃ x : Int, e 4 = .int .i64 x) ∧ e 5 = .int .i64 (i : Int)) ⟨rfl, rfl, ⟨0, rfl⟩, ⟨0, rfl⟩, rfl⟩ ?_ ?_
  · rintro i e h' _ hi ⟨rfl, e0, e3, e4, e5⟩ K' hn hx hr hp
    obtain rfl : i = 0 := by omega
    rw [F.law01_Few.L0_eq]
    simp only [e0, e5, hl, ia, lr, AMc, Nat.reduceAdd, Nat.reduceEqDiff, reduceIte, lt_true hi]
    by_cases q1 : 12 < s.rels.l.length
    · simp only [ZdT (by omega : (12 : Int) < (s.rels.l.length : Int)), cond_t]
      rw [hr, F.law01_Few.L0_r_eq]
      simp only [setV_eq, Nat.reduceEqDiff, reduceIte]
      exact hK _
    simp only [ZdF (by omega : ¬ (12 : Int) < (s.rels.l.length : Int)), cond_f]
    refine loopB_range 0 s.rels.l.length (Nat.zero_le _) (fun k e h2 => h2 = h' ∧ e 0 = .slice b 0 1 2 ∧ (∃ x : Int, e 3 = .int .i64 x) ∧ (∃ x : Int, e 4 = .int .i64 x) ∧ e 5 = .int .i64 ((0 : Nat) : Int) ∧ e 6 = .int .i64 (k : Int)) ⟨rfl, e0, e3, e4, e5, rfl⟩ ?_ ?_
    · rintro k e h2 _ hk ⟨rfl, e0, ⟨x3, e3⟩, e4, e5, e6⟩ K2 hn2 hx2 hr2 hp2
      have hv : s.rels.l[k]? = some s.rels.l[k] := ZgE hk
      generalize s.rels.l[k] = r at hv
      have hro : r.ok := hs.2 r (ZmG hv)
      obtain ⟨y, hy⟩ := add_ex x3 (r.tuples.l.length : Int)
      have ret : ∀ e : Env, e 2 = .bool false → F.law01_Few.L1k K' .ret ⟨e, 89, [], h2⟩ = true := fun e he => by
        rw [F.law01_Few.L1_r_eq, hr, F.law01_Few.L0_r_eq, he]
        exact hK _
      rw [F.law01_Few.L1_eq]
      simp only [e0, e3, e5, e6, ia, lr, AMc, Nat.reduceAdd, Nat.reduceEqDiff, reduceIte, lt_true hk, iaS_enc s.rels hk, get_tups hv, get_name hv, hy]
      cases decide ((1500 : Int) < y) with
      | true =>
        simp only [cond_t]
        rw [hr2]
        exact ret _ rfl
      | false =>
      simp only [cond_f]
      cases decide ((1000 : Int) < (r.name.length : Int)) with
      | true =>
        simp only [cond_t]
        rw [hr2]
        exact ret _ rfl
      | false =>
      simp only [cond_f]
      refine loopB_range 0 r.tuples.l.length (Nat.zero_le _) (fun j e h3 => h3 = h2 ∧ e 0 = .slice b 0 1 2 ∧ (∃ x : Int, e 3 = .int .i64 x) ∧ (∃ x : Int, e 4 = .int .i64 x) ∧ e 5 = .int .i64 ((0 : Nat) : Int) ∧ e 6 = .int .i64 (k : Int) ∧ e 7 = .int .i64 (j : Int)) ⟨rfl, e0, ⟨y, rfl⟩, e4, e5, e6, rfl⟩ ?_ ?_
      · rintro j e h3 _ hj ⟨rfl, e0, e3, ⟨x4, e4⟩, e5, e6, e7⟩ K3 hn3 hx3 hr3 hp3
        have ht : r.tuples.l[j]? = some r.tuples.l[j] := ZgE hj
        generalize r.tuples.l[j] = t at ht
        obtain ⟨z, hz⟩ := add_ex x4 (t.l.length : Int)
        rw [F.law01_Few.L2_eq]
        simp only [e0, e4, e5, e6, e7, ia, lr, AMc, Nat.reduceAdd, Nat.reduceEqDiff, reduceIte, iaS_enc s.rels hk, get_tups hv, lt_true hj, iaS_enc r.tuples hj, get_tup ht, hz, succ_i64 hj hro.2.1]
        exact hn3 _ _ ⟨rfl, e0, e3, ⟨z, rfl⟩, e5, e6, rfl⟩
      · rintro e h3 ⟨rfl, e0, e3, e4, e5, e6, e7⟩ K3 hx3
        rw [F.law01_Few.L2_eq]
        simp only [e0, e5, e6, e7, ia, lr, AMc, Nat.reduceAdd, Nat.reduceEqDiff, reduceIte, iaS_enc s.rels hk, get_tups hv, lt_false]
        rw [hx3, F.law01_Few.L2_x4_eq]
        simp only [AMc, Nat.reduceAdd, Nat.reduceEqDiff, reduceIte, e6, succ_i64 hk hs.1]
        exact hn2 _ _ ⟨rfl, e0, e3, e4, e5, rfl⟩
    · rintro e h2 ⟨rfl, e0, e3, e4, e5, e6⟩ K2 hx2
      rw [F.law01_Few.L1_eq]
      simp only [e0, e5, e6, ia, lr, AMc, Nat.reduceAdd, Nat.reduceEqDiff, reduceIte, lt_false]
      rw [hx2, F.law01_Few.L1_x2_eq]
      simp only [AMc, Nat.reduceAdd, Nat.reduceEqDiff, reduceIte, e5, succ_i64 hi (show (1 : Nat) ≤ big by unfold big; omega)]
      exact hn _ _ ⟨rfl, e0, e3, e4, rfl⟩
  · rintro e h' ⟨rfl, e0, e3, e4, e5⟩ K' hx
    rw [F.law01_Few.L0_eq]
    simp only [e0, e5, hl, AMc, Nat.reduceAdd, Nat.reduceEqDiff, reduceIte, lt_false]
    rw [hx]
    exact num _ e4
theorem Own.cells1 {enc : α → List AV} {sz : Nat} {a : AV} {l : List α} (o : Own enc sz k h a l) : oneAll (AV.cellsL a) = true ∧ (AV.cellsL a).length = 1 ∧ AV.cellsL a = [a] := by cases o <;> exact ⟨rfl, rfl, rfl⟩
def fitZ (s : Strc) (y : Str × Int) : Bool := match s.rels.l.find? (nameIs y.1) with
  | some r => decide (r.arity = y.2)
  | none => false
theorem where_find {α : Type} (p : α → Bool) : ∀ (l : List α) (i : Nat), (idxGo p l i = -1 ∧ l.find? p = none) ∨ ∃ (j : Nat) (v : α), idxGo p l i = ((i + j : Nat) : Int) ∧ l[j]? = some v ∧ l.find? p = some v
  | [], i => .inl ⟨rfl, rfl⟩
  | x :: l, i => by
    rw [idxGo, List.find?_cons]
    cases hp : p x with
    | true => exact .inr ⟨0, x, by simp, rfl, rfl⟩
    | false =>
      simp only [Bool.false_eq_true, if_false]
      rcases where_find p l (i + 1) with ⟨h1, h2⟩ | ⟨j, v, h1, h2, h3⟩
      · exact .inl ⟨h1, h2⟩
      · exact .inr ⟨j + 1, v, by rw [h1]; congr 1; omega, by simpa using h2, h3⟩
theorem whereI_find (p : α → Bool) (l : List α) : (whereI p l = -1 ∧ l.find? p = none) ∨ ∃ (j : Nat) (v : α), whereI p l = (j : Int) ∧ l[j]? = some v ∧ l.find? p = some v := by
  rcases where_find p l 0 with h | ⟨j, v, h1, h2, h3⟩
  · exact .inl h
  · exact .inr ⟨j, v, by rw [whereI, h1, Nat.zero_add], h2, h3⟩
theorem get_arity {s : Strc} {r : Rel} (hr : s.rels.l[i]? = some r) : loadS none (.iptr (s.rels.l.flatMap encRel) (i * 3 + 1)) h = some (.int .i64 r.arity) := by
  rw [load_elem len_encRel hr (by omega)]; rfl
theorem get_z {x : Sl (Str × Int)} {y : Str × Int} (hy : x.l[i]? = some y) : loadS none (.iptr (x.l.flatMap encZ) (i * 2)) h = some (.str y.1) := by
  have := load_elem (h := h) len_encZ hy (k := 0) (by omega)
  rw [Nat.add_zero] at this
  rw [this]; rfl
theorem get_z1 {x : Sl (Str × Int)} {y : Str × Int} (hy : x.l[i]? = some y) : loadS none (.iptr (x.l.flatMap encZ) (i * 2 + 1)) h = some (.int .i64 y.2) := by
  rw [load_elem len_encZ hy (by omega)]; rfl
theorem pure_encZ (y : Str × Int) : AV.pureL (encZ y) = true := rfl
theorem ref01_Fits {s : Strc} (hs : s.ok) {x : Sl (Str × Int)} (hx : x.l.length ≤ big) {h : Heap} {K : Out → Heap → Bool} (hK : K (.ret (.bool (x.l.all (fitZ s)))) h = true) : Sem TP 67 [.agg (encStrc s), encSl encZ 2 x] h K := by
  refine Sem.data (r := .bool (x.l.all (fitZ s))) ?_ (by simp [AV.pureL, AV.pure, pure_encStrc, pure_encSl pure_encZ]) hK
  clear hK
  refine F.ref01_Fits_sem ?_
  rw [F.ref01_Fits_eq]
  have b0 : (Heap.alloc Heap.empty (.cells (encStrc s))).get 0 = some (.cells (encStrc s)) := get_alloc_same _ _
  simp only [box_agg (one_encStrc s), bindO_some, next_empty]
  generalize (Heap.alloc Heap.empty (.cells (encStrc s))) = H at b0 ⊢
  have fin : ∀ b : Bool, b = x.l.all (fitZ s) → frzK (.bool (x.l.all (fitZ s))) (.ret (.bool b)) H = true := fun b hb => by rw [hb]; exact frzK_same rfl
  have lr : loadS none (.ptr 0 1) H = some (encSl encRel 3 s.rels) := by rw [load_ptr b0]; rfl
  have lw : loadS (some 2) (.ptr 0 0) H = some (.agg (encStrc s)) := by rw [load_ptr b0, part_whole (cs := encStrc s) (n := 2) rfl]
  refine loopB_range 0 x.l.length (Nat.zero_le _) (fun i e h' => h' = H ∧ e 1 = encSl encZ 2 x ∧ e 2 = .ptr 0 0 ∧ e 5 = .int .i64 (i : Int) ∧ (x.l.take i).all (fitZ s) = true) ⟨rfl, rfl, rfl, rfl, rfl⟩ ?_ ?_
  · rintro i e h' _ hi ⟨rfl, e1, e2, e5, ht⟩ K' hn hx' hr hp
    have hv : x.l[i]? = some x.l[i] := ZgE hi
    generalize x.l[i] = y at hv
    rw [F.ref01_Fits.L0_eq]
    simp only [e1, e2, e5, AMc, Nat.reduceAdd, Nat.reduceEqDiff, reduceIte, lw, lt_true hi, iaS_enc x hi, get_z hv]
    refine semCall_true (ref01_Find hs ?_)
    simp only [AMc, Nat.reduceAdd, Nat.reduceEqDiff, reduceIte]
    rcases whereI_find (nameIs y.1) s.rels.l with ⟨h1, h2⟩ | ⟨j, r, h1, h2, h3⟩
    · rw [h1]
      simp only [show decide ((-1 : Int) < 0) = true from rfl, cond_t]
      rw [hr, F.ref01_Fits.L0_r_eq]
      simp only [setV_eq, Nat.reduceEqDiff, reduceIte]
      exact fin _ (all_false hv (by rw [fitZ, h2])).symm
    · rw [h1]
      have hj : j < s.rels.l.length := (ZgI.1 h2).1
      simp only [ZdF (by omega : ¬ ((j : Int) < 0)), cond_f, AMc, Nat.reduceAdd, Nat.reduceEqDiff, reduceIte, e1, e2, e5, lr, iaS_enc s.rels hj, get_arity h2, iaS_enc x hi, get_z1 hv, int_beq]
      by_cases hq : r.arity = y.2
      · simp only [ZdT hq, Bool.not_true, cond_f, succ_i64 hi hx, bindO_some]
        exact hn _ _ ⟨rfl, e1, e2, rfl, take_all hv ht (by rw [fitZ, h3]; exact ZdT hq)⟩
      · simp only [ZdF hq, Bool.not_false, cond_t]
        rw [hr, F.ref01_Fits.L0_r_eq]
        simp only [setV_eq, Nat.reduceEqDiff, reduceIte]
        exact fin _ (all_false hv (by rw [fitZ, h3]; exact ZdF hq)).symm
  · rintro e h' ⟨rfl, e1, e2, e5, ht⟩ K' hx'
    rw [F.ref01_Fits.L0_eq]
    simp only [e1, e5, AMc, Nat.reduceAdd, Nat.reduceEqDiff, reduceIte, lt_false]
    rw [hx', F.ref01_Fits.L0_x0_eq]
    rw [ZtL (ZrF _)] at ht
    exact fin _ ht.symm
theorem map_bv (d : List Bool) : d.map bv = d.flatMap encB := by
  induction d with
  | nil => rfl
  | cons a d ih => rw [List.map_cons, List.flatMap_cons, ih]; rfl
theorem frz_bits {d : List Bool} (hb : h.get b = some (.cells (d.map bv))) : Fz true h (.slice b 0 d.length 1) (encSl encB 1 (some d)) := by
  refine .slice b 0 d.length 1 _ _ hb (by rw [map_bv]) fun i x y hx hy => ?_
  rw [map_bv, hy] at hx
  cases hx
  rw [← map_bv, List.getElem?_map] at hy
  obtain ⟨v, hv, rfl⟩ := Option.map_eq_some_iff.1 hy
  exact .scalar _ rfl
theorem ref03_rank {n : Nat} (h1 : 1 ≤ n) {x : Sl Int} (hx : x.l.length ≤ 12) (hc : n ^ x.l.length ≤ 4096) (hb : inB n x.l = true) {h : Heap} {K : Out → Heap → Bool}
    (hK : K (.ret (.int .i64 ((rkN n x.l : Nat) : Int))) h = true) : Sem TP 191 [.int .i64 (n : Int), encSl encI 1 x] h K := by
  have hbig : x.l.length ≤ big := by unfold big; omega
  refine F.ref03_rank_sem ?_
  rw [F.ref03_rank_eq]
  refine loopB_range 0 x.l.length (Nat.zero_le _) (fun i e h' => h' = h ∧ e 0 = .int .i64 (n : Int) ∧ e 5 = .int .i64 ((rkN n (x.l.take i) : Nat) : Int) ∧ e 1 = encSl encI 1 x ∧ e 6 = .int .i64 (i : Int)) ⟨rfl, rfl, rfl, rfl, rfl⟩ ?_ ?_
  · rintro i e h' _ hi ⟨rfl, e0, e5, e1, e6⟩ K' hn hx' hr hp
    have hv : x.l[i]? = some x.l[i] := ZgE hi
    rw [F.ref03_rank.L0_eq]
    simp only [e0, e1, e5, e6, AMc, Nat.reduceAdd, Nat.reduceEqDiff, reduceIte, lt_true hi, iaS_enc x hi, get_ints hv, (rank_ops hb h1 hc hv).1, (rank_ops hb h1 hc hv).2, succ_i64 hi hbig]
    exact hn _ _ ⟨rfl, e0, rfl, e1, rfl⟩
  · rintro e h' ⟨rfl, e0, e5, e1, e6⟩ K' hx'
    rw [F.ref03_rank.L0_eq]
    simp only [e1, e6, AMc, Nat.reduceAdd, Nat.reduceEqDiff, reduceIte, lt_false]
    rw [hx', F.ref03_rank.L0_x0_eq]
    simp only [e5, setV_eq, Nat.reduceEqDiff, reduceIte]
    rw [ZtL (ZrF _)]
    exact hK
theorem table_res (s : St) : resultL TP s Tryz.f183.results.toList = (match loadS (some 3) (s.env 8) s.h, (some [] : Option (List AV)) with | some v, some vs => some (v :: vs) | _, _ => none) := by kernel_rfl
def encTab (nm : Str) (k : Nat) (d : List Bool) : List AV := [.str nm, .int .i64 (k : Int), encSl encB 1 (some d)]
theorem ref03_TableOf {n k : Nat} (h1 : 1 ≤ n) (h2 : n ≤ 64) (hk : k ≤ 12) (hc : n ^ k ≤ 4096) {nm : Str} {ts : Sl (Sl Int)} (hl : ts.l.length ≤ big) (ht : tupB n k ts.l = true) {h : Heap} {K : Out → Heap → Bool}
    (hK : K (.ret (.agg (encTab nm k (bitsOf n k ts.l)))) h = true) : Sem TP 183 [.int .i64 (n : Int), .str nm, .int .i64 (k : Int), encSl encT 1 ts] h K := by
  refine Sem.data (r := .agg (encTab nm k (bitsOf n k ts.l))) ?_ (by simp [AV.pureL, AV.pure, pure_encSl pure_encT]) hK
  clear hK
  have hkb : k ≤ big := by unfold big; omega
  refine F.ref03_TableOf_sem ?_
  rw [F.ref03_TableOf_eq]
  refine semCall_true (ref01_Pow h1 h2 hkb fun v v1 v2 => ?_)
  have hv := v1 hc
  subst hv
  simp only [outK_ret, make_bl (show n ^ k ≤ 1000000 by omega), bindO2_some, next_empty, Heap.next_alloc]
  have ha : ∀ b : Nat, aggS [(.str []), (.int .i64 0), .nils] [(0, 1), (1, 1), (2, 1)] [.str nm, .int .i64 (k : Int), .slice b 0 (n ^ k) 1] = some (.agg [.str nm, .int .i64 (k : Int), .slice b 0 (n ^ k) 1]) := fun _ => rfl
  simp only [ha, bindO_some]
  have g0 : ((Heap.alloc Heap.empty (.cells [(.str []), (.int .i64 0), .nils])).alloc (.cells ((List.replicate (n ^ k) false).map bv))).get 0 = some (.cells [(.str []), (.int .i64 0), .nils]) := by simp [Heap.get_alloc, next_empty]
  have g1 : ((Heap.alloc Heap.empty (.cells [(.str []), (.int .i64 0), .nils])).alloc (.cells ((List.replicate (n ^ k) false).map bv))).get 1 = some (.cells ((List.replicate (n ^ k) false).map bv)) := by simp [Heap.get_alloc, next_empty]
  have gn : ((Heap.alloc Heap.empty (.cells [(.str []), (.int .i64 0), .nils])).alloc (.cells ((List.replicate (n ^ k) false).map bv))).next = 2 := rfl
  generalize ((Heap.alloc Heap.empty (.cells [(.str []), (.int .i64 0), .nils])).alloc (.cells ((List.replicate (n ^ k) false).map bv))) = H0 at g0 g1 gn ⊢
  obtain ⟨H, hs, p2, go, hn⟩ := store_new (h := H0) (zs := [.str [], .int .i64 0, .nils]) (cs := [.str nm, .int .i64 (k : Int), .slice 1 0 (n ^ k) 1]) (n := 3) rfl rfl rfl
  rw [gn] at hs p2
  have p0 : H.get 0 = some (.cells [(.str []), (.int .i64 0), .nils]) := by rw [go 0 (by omega)]; exact g0
  have p1 : H.get 1 = some (.cells ((List.replicate (n ^ k) false).map bv)) := by rw [go 1 (by omega)]; exact g1
  simp only [Nat.zero_add, Nat.reduceAdd, gn, hs, bindO_some]
  refine loopB_range 0 ts.l.length (Nat.zero_le _) (fun i e h' => ∃ d, bitsOf n k ts.l = bitsGo n (ts.l.drop i) d ∧ d.length = n ^ k ∧ h'.get 0 = some (.cells [(.str []), (.int .i64 0), .nils]) ∧ h'.get 1 = some (.cells (d.map bv)) ∧ h'.get 2 = some (.cells [.str nm, .int .i64 (k : Int), .slice 1 0 (n ^ k) 1]) ∧
    e 0 = .int .i64 (n : Int) ∧ e 3 = encSl encT 1 ts ∧ e 8 = .ptr 0 0 ∧ e 9 = .ptr 2 0 ∧ e 10 = .int .i64 (i : Int)) ⟨_, rfl, by simp, p0, p1, p2, rfl, rfl, rfl, rfl, rfl⟩ ?_ ?_
  · rintro i e h' _ hi ⟨d, hd, hdl, q0, q1, q2, e0, e3, e8, e9, e10⟩ K' hnx hx hr hp
    have hv : ts.l[i]? = some ts.l[i] := ZgE hi
    generalize ts.l[i] = t at hv
    have hat := allN_get ht hi
    have htl : t.l.length = k := tup_len hat hv
    have htb : inB n t.l = true := by
      unfold tupAt at hat
      rw [hv] at hat
      simp only [Bool.and_eq_true] at hat
      exact hat.2.1
    have hrk : rkN n t.l < n ^ k := by have := rkN_lt htb; rwa [htl] at this
    rw [bits_drop hv] at hd
    have l2 : loadS none (.ptr 2 2) h' = some (.slice 1 0 (n ^ k) 1) := by rw [load_ptr q2]; rfl
    rw [F.ref03_TableOf.L0_eq]
    simp only [e0, e3, e9, e10, AMc, Nat.reduceAdd, Nat.reduceEqDiff, reduceIte, lt_true hi, iaS_enc ts hi, get_tup hv, l2]
    refine semCall_true (ref03_rank h1 (by omega) (by rw [htl]; exact hc) htb ?_)
    simp only [outK_ret, l2, bindO_some, AV.beq_refl, Bool.and_self, if_true, ia_sl hrk, store_bl q1 (show rkN n t.l < d.length by omega), succ_i64 hi hl, e10]
    exact hnx _ _ ⟨_, hd, by simpa using hdl, by rw [Heap.get_set, if_neg (by omega)]; exact q0, by rw [Heap.get_set, if_pos rfl], by rw [Heap.get_set, if_neg (by omega)]; exact q2, e0, e3, e8, e9, rfl⟩
  · rintro e h' ⟨d, hd, hdl, q0, q1, q2, e0, e3, e8, e9, e10⟩ K' hx
    rw [F.ref03_TableOf.L0_eq]
    simp only [e3, e10, AMc, Nat.reduceAdd, Nat.reduceEqDiff, reduceIte, lt_false]
    rw [hx, F.ref03_TableOf.L0_x0_eq]
    rw [List.drop_of_length_le (ZrF _)] at hd
    simp only [bitsGo] at hd
    have l2 : loadS (some 3) (.ptr 2 0) h' = some (.agg [.str nm, .int .i64 (k : Int), .slice 1 0 (n ^ k) 1]) := by rw [load_ptr q2]; rfl
    have st : storeS 3 (.ptr 0 0) (.agg [.str nm, .int .i64 (k : Int), .slice 1 0 (n ^ k) 1]) h' = some (h'.set 0 (.cells [.str nm, .int .i64 (k : Int), .slice 1 0 (n ^ k) 1])) := by
      rw [store_ptr (n := 3) q0 rfl rfl (by simp)]; rfl
    have r0 : (h'.set 0 (.cells [.str nm, .int .i64 (k : Int), .slice 1 0 (n ^ k) 1])).get 0 = some (.cells [.str nm, .int .i64 (k : Int), .slice 1 0 (n ^ k) 1]) := by rw [Heap.get_set, if_pos rfl]
    have r1 : (h'.set 0 (.cells [.str nm, .int .i64 (k : Int), .slice 1 0 (n ^ k) 1])).get 1 = some (.cells (d.map bv)) := by rw [Heap.get_set, if_neg (by omega)]; exact q1
    generalize (h'.set 0 (.cells [.str nm, .int .i64 (k : Int), .slice 1 0 (n ^ k) 1])) = H2 at st r0 r1
    have l3 : loadS (some 3) (.ptr 0 0) H2 = some (.agg [.str nm, .int .i64 (k : Int), .slice 1 0 (n ^ k) 1]) := by rw [load_ptr r0]; rfl
    simp only [setV_eq, Nat.reduceEqDiff, reduceIte, e8, e9, l2, st, bindO_some, table_res, l3, oneOf]
    have fb := frz_bits r1
    rw [hdl, ← hd] at fb
    have := FzL.cons (.scalar (.str nm) rfl) (FzL.cons (.scalar (.int .i64 (k : Int)) rfl) (FzL.cons fb FzL.nil))
    exact frzK_ret (.agg _ _ this.len this.rel)
theorem app_one (l : List Int) : oneAll (l.map iv) = true := by
  induction l with
  | nil => rfl
  | cons a l ih => simp only [List.map_cons, oneAll, ih, Bool.and_true]; rfl
theorem clone_tup {src : AV} {l : List Int} (r : Row encI 1 (h.alloc (.cells [])) src l) (hl : l.length ≤ 1000000) :
    ∃ b h', appendS 1 8 (.slice h.next 0 0 1) src (h.alloc (.cells [])) = some (.slice b 0 l.length 1, h') ∧ h'.get b = some (.cells (l.map iv)) ∧ HExt h h' ∧ h.next ≤ b ∧ b < h'.next := by
  have hm : maxBytes = 140737488355328 := rfl
  have g : (h.alloc (.cells [])).get h.next = some (.cells []) := get_alloc_same _ _
  have rc := r.cells
  rw [← map_iv] at rc
  by_cases hz : l.length = 0
  · have : l = [] := List.eq_nil_of_length_eq_zero hz
    subst this
    refine ⟨h.next, h.alloc (.cells []), ?_, g, HExt.alloc _ _, ZrF _, Nat.lt_succ_self _⟩
    simp only [List.length_nil] at rc
    simp [appendS, r.len, rc]
  · refine ⟨h.next + 1, ((h.alloc (.cells [])).set h.next .dead).alloc (.cells (l.map iv)), ?_, ?_, ?_, by omega, ?_⟩
    · simp only [appendS, r.len, rc, if_true, if_neg hz, g]
      rw [if_pos (by simp [app_one]; omega)]
      simp [Heap.next_set, Heap.next_alloc]
    · have := get_alloc_same ((h.alloc (.cells [])).set h.next .dead) (.cells (l.map iv))
      rwa [Heap.next_set, Heap.next_alloc] at this
    · exact ((HExt.alloc h (.cells [])).set (ZrF _) _).trans (HExt.alloc _ _)
    · rw [Heap.next_alloc, Heap.next_set, Heap.next_alloc]; omega
def extT (n : Nat) (t : List Int) : List (List Int) := (List.range n).map fun (x : Nat) => t ++ [(x : Int)]
def stepT (n : Nat) (out : List (List Int)) : List (List Int) := out.flatMap (extT n)
def iterT (n : Nat) : Nat → List (List Int)
  | 0 => [[]]
  | k + 1 => stepT n (iterT n k)
theorem stepT_len (n : Nat) (l : List (List Int)) : (stepT n l).length = l.length * n := by
  induction l with
  | nil => simp [stepT]
  | cons t l ih =>
    rw [stepT, List.flatMap_cons, List.length_append, ← stepT, ih, List.length_cons, Nat.succ_mul]
    simp [extT]; omega
theorem iterT_len (n : Nat) : ∀ k, (iterT n k).length = n ^ k
  | 0 => rfl
  | k + 1 => by rw [iterT, stepT_len, iterT_len n k, Nat.pow_succ]
theorem stepT_take {out : List (List Int)} {j : Nat} (ht : out[j]? = some t) : stepT n (out.take (j + 1)) = stepT n (out.take j) ++ extT n t := by
  rw [List.take_add_one, ht, stepT, List.flatMap_append]; simp [stepT]
theorem extT_len (n : Nat) (t : List Int) : (extT n t).length = n := by simp [extT]
theorem extT_take {x : Nat} (hx : x < n) : (extT n t).take (x + 1) = (extT n t).take x ++ [t ++ [(x : Int)]] := by
  rw [List.take_add_one]
  congr 1
  simp [extT, List.getElem?_range hx]
theorem stepT_get {n : Nat} : ∀ {out : List (List Int)} {r x : Nat} {t : List Int}, out[r]? = some t → x < n → (stepT n out)[r * n + x]? = some (t ++ [(x : Int)])
  | [], r, x, t, h, _ => by simp at h
  | u :: out, 0, x, t, h, hx => by
    simp at h; subst h
    rw [stepT, List.flatMap_cons, Nat.zero_mul, Nat.zero_add, List.getElem?_append_left (by rw [extT_len]; exact hx)]
    simp [extT, List.getElem?_range hx]
  | u :: out, r + 1, x, t, h, hx => by
    rw [stepT, List.flatMap_cons, List.getElem?_append_right (by rw [extT_len, Nat.succ_mul]; omega), extT_len]
    have : (r + 1) * n + x - n = r * n + x := by rw [Nat.succ_mul]; omega
    rw [this]
    exact stepT_get (out := out) (by simpa using h) hx
theorem in_snoc {x : Nat} (ht : inB n t = true) (hx : x < n) : inB n (t ++ [(x : Int)]) = true := by
  unfold inB at ht ⊢
  rw [List.all_append, ht]
  simp; omega
theorem iterT_get {n : Nat} (hn : 1 ≤ n) : ∀ (k r : Nat), r < n ^ k → ∃ t, (iterT n k)[r]? = some t ∧ t.length = k ∧ inB n t = true ∧ rkN n t = r
  | 0, r, h => by
    obtain rfl : r = 0 := by simp at h; omega
    exact ⟨[], rfl, rfl, rfl, rfl⟩
  | k + 1, r, h => by
    have hr : r / n < n ^ k := Nat.div_lt_of_lt_mul (by rw [Nat.mul_comm, ← Nat.pow_succ]; exact h)
    have hx : r % n < n := Nat.mod_lt _ hn
    obtain ⟨t, h1, h2, h3, h4⟩ := iterT_get hn k (r / n) hr
    refine ⟨t ++ [((r % n : Nat) : Int)], ?_, by simp [h2], in_snoc h3 hx, ?_⟩
    · have := stepT_get (n := n) h1 hx
      rw [iterT]
      rwa [Nat.div_add_mod' r n] at this
    · unfold rkN at h4 ⊢
      rw [rkGo_append, h4]
      simp only [rkGo, Int.toNat_natCast]
      exact Nat.div_add_mod' r n
theorem ref01_Tuples {n k : Nat} (hn : 1 ≤ n) (hk : k ≤ 12) (hc : n ^ k ≤ 4096) {h : Heap} {K : Out → Heap → Bool} (hK : ∀ x : Sl (Sl Int), x.l.map Sl.l = iterT n k → K (.ret (encSl encT 1 x)) h = true) : Sem TP 32 [.int .i64 (n : Int), .int .i64 (k : Int)] h K := by
  have hm : maxBytes = 140737488355328 := rfl
  have main : Sem TP 32 [.int .i64 (n : Int), .int .i64 (k : Int)] Heap.empty (fun o h' => yes (∃ v, ∃ x : Sl (Sl Int), o = .ret v ∧ x.l.map Sl.l = iterT n k ∧ Fz true h' v (encSl encT 1 x))) := by
    refine F.ref01_Tuples_sem ?_
    rw [F.ref01_Tuples_eq]
    have r0 : rowS [] [] [] = some [] := rfl
    have r1 : ∀ p : PB, rowS [.nils] [(0, 1)] [.slice p.1 0 p.2.length 1] = some (encP p) := fun _ => rfl
    have r2 : ∀ x : Int, rowS [.int .i64 0] [(0, 1)] [.int .i64 x] = some [.int .i64 x] := fun _ => rfl
    have r1' : rowS [.nils] [(0, 1)] [.slice 0 0 0 1] = some (encP (0, [])) := rfl
    simp only [r0, bindO_some, next_empty, r1']
    have g0 : (Heap.alloc (Heap.alloc Heap.empty (.cells [])) (.cells (encP (0, [])))).get 0 = some (.cells []) := by simp [Heap.get_alloc, next_empty]
    have g1 : (Heap.alloc (Heap.alloc Heap.empty (.cells [])) (.cells (encP (0, [])))).get 1 = some (.cells (encP (0, []))) := by simp [Heap.get_alloc, next_empty]
    have gn : (Heap.alloc (Heap.alloc Heap.empty (.cells [])) (.cells (encP (0, [])))).next = 2 := rfl
    have ge : (Heap.alloc Heap.empty (.cells [])).next = 1 := rfl
    rw [ge]
    generalize (Heap.alloc (Heap.alloc Heap.empty (.cells [])) (.cells (encP (0, [])))) = H at g0 g1 gn ⊢
    have nest0 : Nest 0 H (.slice 1 0 1 1) [(0, [])] := ⟨.row 1 [(0, [])] (Nat.zero_le _) (by omega) (by simpa using g1), fun p hp => by
      rw [List.mem_singleton] at hp; subst hp; exact ⟨ZrF _, by show 0 < H.next; omega, by simp [blkOf], g0⟩⟩
    refine loopB_range 0 k (Nat.zero_le _) (fun i e h' => ∃ a ps, Nest 0 h' a ps ∧ ps.map (·.2) = iterT n i ∧ e 0 = .int .i64 (n : Int) ∧ e 1 = .int .i64 (k : Int) ∧ e 5 = a ∧ e 6 = .int .i64 (i : Int)) ⟨_, _, nest0, rfl, rfl, rfl, rfl, rfl⟩ ?_ ?_
    · rintro i e h' _ hi ⟨a, ps, nst, hps, e0, e1, e5, e6⟩ K' hn0 hx0 hr0 hp0
      have hpl : ps.length = n ^ i := by have := congrArg List.length hps; rwa [List.length_map, iterT_len] at this
      have hin : n ^ i * n ≤ 4096 := by rw [← Nat.pow_succ]; exact Nat.le_trans (pow_up hn hi) hc
      have hps4 : ps.length ≤ big := by unfold big; have := Nat.le_mul_of_pos_right (n ^ i) hn; omega
      rw [F.ref01_Tuples.L0_eq]
      simp only [e0, e1, e5, e6, AMc, Nat.reduceAdd, Nat.reduceEqDiff, reduceIte, lt_true hi]
      refine loopB_range 0 ps.length (Nat.zero_le _) (fun j e h2 => HExt h' h2 ∧ ∃ c qs, Nest h'.next h2 c qs ∧ qs.map (·.2) = stepT n ((ps.map (·.2)).take j) ∧ e 0 = .int .i64 (n : Int) ∧ e 1 = .int .i64 (k : Int) ∧ e 5 = a ∧ e 6 = .int .i64 (i : Int) ∧ e 7 = c ∧ e 8 = .int .i64 (j : Int))
        ⟨HExt.refl _, _, _, .nil _ _, rfl, e0, e1, e5, e6, rfl, rfl⟩ ?_ ?_
      · rintro j e h2 _ hj ⟨hx2, c, qs, nst2, hqs, e0, e1, e5, e6, e7, e8⟩ K2 hn2 hx2' hr2 hp2
        have hpj : ps[j]? = some ps[j] := ZgE hj
        generalize ps[j] = p at hpj
        have hpj2 : (ps.map (·.2))[j]? = some p.2 := by rw [List.getElem?_map, hpj]; rfl
        have hql : qs.length = j * n := by
          have := congrArg List.length hqs
          rw [List.length_map, stepT_len, List.length_take, List.length_map, Nat.min_eq_left (by omega)] at this; exact this
        have hjn : j * n + n ≤ 4096 := by
          have : (j + 1) * n ≤ ps.length * n := Nat.mul_le_mul_right n hj
          rw [hpl, Nat.succ_mul] at this; omega
        rw [F.ref01_Tuples.L1_eq]
        simp only [e5, e8, nst.own.len, AMc, Nat.reduceAdd, Nat.reduceEqDiff, reduceIte, lt_true hj]
        refine loopB_range 0 n (Nat.zero_le _) (fun x e h3 => HExt h' h3 ∧ ∃ c qs, Nest h'.next h3 c qs ∧ qs.map (·.2) = stepT n ((ps.map (·.2)).take j) ++ (extT n p.2).take x ∧ e 0 = .int .i64 (n : Int) ∧ e 1 = .int .i64 (k : Int) ∧ e 5 = a ∧ e 6 = .int .i64 (i : Int) ∧ e 7 = c ∧ e 8 = .int .i64 (j : Int) ∧ e 9 = .int .i64 (x : Int))
          ⟨hx2, c, qs, nst2, by rw [List.take_zero, List.append_nil]; exact hqs, e0, e1, e5, e6, e7, e8, rfl⟩ ?_ ?_
        · rintro x e h3 _ hx ⟨hx3, c, qs, nst3, hqs3, e0, e1, e5, e6, e7, e8, e9⟩ K3 hn3 hx3' hr3 hp3
          have hql3 : qs.length = j * n + x := by
            have := congrArg List.length hqs3
            rw [List.length_map, List.length_append, stepT_len, List.length_take, List.length_map, Nat.min_eq_left (by omega), List.length_take, extT_len, Nat.min_eq_left (by omega)] at this; exact this
          obtain ⟨b, b1, b2, b3⟩ := nst.at_ hpj
          obtain ⟨p1, p2, p3, p4⟩ := nst.cell p (ZmG hpj)
          have xa : HExt h' (h3.alloc (.cells [])) := hx3.trans (HExt.alloc _ _)
          have hrow : Row encI 1 (h3.alloc (.cells [])) (.slice p.1 0 p.2.length 1) p.2 := by
            have hg : (h3.alloc (.cells [])).get p.1 = some (.cells (p.2.map iv)) := by rw [xa.get _ p2]; exact p4
            refine ⟨rfl, ?_⟩
            simp only [firstS, hg, if_true]
            rw [if_pos (by simp), ← map_iv]
            simp only [List.drop_zero, Nat.mul_one]
            rw [ZtL (by simp)]
          have hpk : p.2.length ≤ 1000000 := by
            have : p.2 ∈ iterT n i := by rw [← hps]; exact List.mem_map_of_mem (ZmG hpj)
            obtain ⟨r, hr⟩ := List.getElem?_of_mem this
            have hlt : r < n ^ i := by have := (ZgI.1 hr).1; rwa [iterT_len] at this
            obtain ⟨t, q1, q2, _⟩ := iterT_get hn i r hlt
            rw [hr] at q1; cases q1; omega
          obtain ⟨b4, h4, a4, g4, x4, l4, m4⟩ := clone_tup hrow hpk
          obtain ⟨b5, h5, a5, g5, f5, l5, m5⟩ := push_tup (h := h4) g4 m4 hpk (x : Int)
          have x5 : HExt h3 h5 := ⟨by have := x4.next; omega, fun d hd => by rw [f5 d (by have := x4.next; omega) (by omega), x4.get d hd]⟩
          have nst5 := nst3.ext x5
          have hx5 : HExt h' h5 := hx3.trans x5
          obtain ⟨a6, h6, e6', nst6, n6, _, x6, _⟩ := nst5.push (by have := hx5.next; omega) (by rw [hm]; omega) (b5, p.2 ++ [(x : Int)]) (by have := x4.next; have := hx3.next; show h'.next ≤ b5; omega) m5 (fun hb => by have := nst3.own.lt hb; simp only at this; have := x4.next; omega) g5
          rw [F.ref01_Tuples.L2_eq]
          simp only [e0, e5, e7, e8, e9, AMc, Nat.reduceAdd, Nat.reduceEqDiff, reduceIte, lt_true hx, r0, b1, b3 _ xa, a4, r2, a5, r1 (b5, p.2 ++ [(x : Int)]), e6', succ_i64 hx (show n ≤ big by unfold big; omega)]
          refine hn3 _ _ ⟨x6 _ hx5 (ZrF _), a6, _, nst6, ?_, e0, e1, e5, e6, rfl, e8, rfl⟩
          rw [List.map_append, hqs3, extT_take hx, List.append_assoc]; rfl
        · rintro e h3 ⟨hx3, c, qs, nst3, hqs3, e0, e1, e5, e6, e7, e8, e9⟩ K3 hx3'
          rw [F.ref01_Tuples.L2_eq]
          simp only [e0, e9, AMc, Nat.reduceAdd, Nat.reduceEqDiff, reduceIte, lt_false]
          rw [hx3', F.ref01_Tuples.L2_x4_eq]
          simp only [AMc, Nat.reduceAdd, Nat.reduceEqDiff, reduceIte, e8, succ_i64 hj hps4]
          refine hn2 _ _ ⟨hx3, c, qs, nst3, ?_, e0, e1, e5, e6, e7, rfl⟩
          rw [hqs3, stepT_take hpj2, ZtL (l := extT n p.2) (by rw [extT_len]; exact ZrF _)]
      · rintro e h2 ⟨hx2, c, qs, nst2, hqs, e0, e1, e5, e6, e7, e8⟩ K2 hx2'
        rw [F.ref01_Tuples.L1_eq]
        simp only [e5, e8, nst.own.len, AMc, Nat.reduceAdd, Nat.reduceEqDiff, reduceIte, lt_false]
        rw [hx2', F.ref01_Tuples.L1_x2_eq]
        simp only [AMc, Nat.reduceAdd, Nat.reduceEqDiff, reduceIte, e6, e7, succ_i64 hi (show k ≤ big by unfold big; omega)]
        refine hn0 _ _ ⟨c, qs, ⟨nst2.own.weak (Nat.zero_le _), fun p hp => ?_⟩, ?_, e0, e1, rfl, rfl⟩
        · obtain ⟨q1, q2, q3, q4⟩ := nst2.cell p hp
          exact ⟨Nat.zero_le _, q2, q3, q4⟩
        · rw [hqs, ZtL (by simp), hps]; rfl
    · rintro e h' ⟨a, ps, nst, hps, e0, e1, e5, e6⟩ K' hx0
      rw [F.ref01_Tuples.L0_eq]
      simp only [e1, e6, AMc, Nat.reduceAdd, Nat.reduceEqDiff, reduceIte, lt_false]
      rw [hx0, F.ref01_Tuples.L0_x0_eq]
      simp only [setV_eq, Nat.reduceEqDiff, reduceIte, e5]
      obtain ⟨x, hx1, hx2⟩ := nst.frz (old := true)
      exact yes_eq.2 ⟨a, x, rfl, hx1.trans hps, hx2⟩
  refine main.frozen (by simp [AV.pureL, AV.pure]) fun o h' ho => ?_
  obtain ⟨v, x, rfl, hx, hf⟩ := yes_eq.1 ho
  exact ⟨v, _, rfl, hf, hK x hx⟩
theorem row_empty : rowS [] [] [] = some [] := rfl
theorem row_P (p : PB) : rowS [.nils] [(0, 1)] [.slice p.1 0 p.2.length 1] = some (encP p) := rfl
theorem ref01_copied {x : Sl (Sl Int)} (hx : x.l.length ≤ 1000000) (ht : ∀ t ∈ x.l, t.l.length ≤ 1000000) {h : Heap} {K : Out → Heap → Bool} (hK : ∀ y : Sl (Sl Int), y.l.map Sl.l = x.l.map Sl.l → K (.ret (encSl encT 1 y)) h = true) : Sem TP 72 [encSl encT 1 x] h K := by
  have hm : maxBytes = 140737488355328 := rfl
  have hbig : x.l.length ≤ big := by unfold big; omega
  have main : Sem TP 72 [encSl encT 1 x] Heap.empty (fun o h' => yes (∃ v, ∃ y : Sl (Sl Int), o = .ret v ∧ y.l.map Sl.l = x.l.map Sl.l ∧ Fz true h' v (encSl encT 1 y))) := by
    refine F.ref01_copied_sem ?_
    rw [F.ref01_copied_eq]
    refine loopB_range 0 x.l.length (Nat.zero_le _) (fun i e h' => ∃ a ps, Nest 0 h' a ps ∧ ps.map (·.2) = (x.l.take i).map Sl.l ∧ e 0 = encSl encT 1 x ∧ e 3 = a ∧ e 4 = .int .i64 (i : Int)) ⟨_, _, .nil _ _, rfl, rfl, rfl, rfl⟩ ?_ ?_
    · rintro i e h' _ hi ⟨a, ps, nst, hps, e0, e3, e4⟩ K' hn hx' hr hp
      have hv : x.l[i]? = some x.l[i] := ZgE hi
      generalize x.l[i] = t at hv
      have htl := ht t (ZmG hv)
      have hpl : ps.length = i := by have := congrArg List.length hps; rw [List.length_map, List.length_map, List.length_take, Nat.min_eq_left (by omega)] at this; exact this
      obtain ⟨b, h5, a5, g5, x5, l5, m5⟩ := clone_tup (row_enc len_encI t (h'.alloc (.cells []))) htl
      have nst5 := nst.ext x5
      obtain ⟨a6, h6, e6, nst6, _⟩ := nst5.push (Nat.zero_le _) (by rw [hm]; omega) (b, t.l) (Nat.zero_le _) m5 (fun hb => by have := nst.own.lt hb; simp only at this; omega) g5
      rw [F.ref01_copied.L0_eq]
      simp only [e0, e3, e4, AMc, Nat.reduceAdd, Nat.reduceEqDiff, reduceIte, lt_true hi, row_empty, iaS_enc x hi, get_tup hv, a5, row_P (b, t.l), e6, succ_i64 hi hbig]
      exact hn _ _ ⟨_, _, nst6, by rw [List.map_append, hps, List.take_add_one, hv, List.map_append]; rfl, e0, rfl, rfl⟩
    · rintro e h' ⟨a, ps, nst, hps, e0, e3, e4⟩ K' hx'
      rw [F.ref01_copied.L0_eq]
      simp only [e0, e4, AMc, Nat.reduceAdd, Nat.reduceEqDiff, reduceIte, lt_false]
      rw [hx', F.ref01_copied.L0_x0_eq]
      simp only [setV_eq, Nat.reduceEqDiff, reduceIte, e3]
      obtain ⟨y, hy1, hy2⟩ := nst.frz (old := true)
      exact yes_eq.2 ⟨a, y, rfl, by rw [hy1, hps, ZtL (ZrF _)], hy2⟩
  refine main.frozen (by simp [AV.pureL, pure_encSl pure_encT]) fun o h' ho => ?_
  obtain ⟨v, y, rfl, hy, hf⟩ := yes_eq.1 ho
  exact ⟨v, _, rfl, hf, hK y hy⟩
structure Strc.small (s : Strc) : Prop where
  rels : s.rels.l.length ≤ 1000
  tups : ∀ r ∈ s.rels.l, r.tuples.l.length ≤ 10000
  tup : ∀ r ∈ s.rels.l, ∀ t ∈ r.tuples.l, t.l.length ≤ 1000
theorem Strc.small.ok' {s : Strc} (hs : s.small) : s.rels.l.length ≤ big := by have := hs.rels; unfold big; omega
theorem agg_rel (nm : Str) (k : Int) (y : Sl (Sl Int)) : aggS [.str [], .int .i64 0, .nils] [(0, 1), (1, 1), (2, 1)] [.str nm, .int .i64 k, encSl encT 1 y] = some (.agg (encRel ⟨nm, k, y⟩)) := by cases y <;> rfl
theorem row_rel (r : Rel) : rowS [.str [], .int .i64 0, .nils] [(0, 3)] [.agg (encRel r)] = some (encRel r) := by
  obtain ⟨nm, k, y⟩ := r
  cases y <;> rfl
theorem copy_res (s : St) : resultL TP s Tryz.f25.results.toList = (match loadS (some 2) (s.env 2) s.h, (some [] : Option (List AV)) with | some v, some vs => some (v :: vs) | _, _ => none) := by kernel_rfl
theorem ref01_Copy {s : Strc} (hs : s.small) {h : Heap} {K : Out → Heap → Bool} (hK : ∀ a h' rs, HExt h h' → Own encRel 3 h.next h' a rs → rs.map datR = s.rels.l.map datR → K (.ret (.agg [.int .i64 s.size, a])) h' = true) : Sem TP 25 [.agg (encStrc s)] h K := by
  have hm : maxBytes = 140737488355328 := rfl
  refine F.ref01_Copy_sem ?_
  rw [F.ref01_Copy_eq]
  simp only [box_agg (one_encStrc s), bindO_some, Heap.next_alloc]
  have g0 : (Heap.alloc (Heap.alloc h (.cells (encStrc s))) (.cells [.int .i64 0, .nils])).get h.next = some (.cells (encStrc s)) := by rw [Heap.get_alloc, Heap.next_alloc, if_neg (by omega)]; exact get_alloc_same _ _
  have g1 : (Heap.alloc (Heap.alloc h (.cells (encStrc s))) (.cells [.int .i64 0, .nils])).get (h.next + 1) = some (.cells [.int .i64 0, .nils]) := get_alloc_same _ _
  have gn : (Heap.alloc (Heap.alloc h (.cells (encStrc s))) (.cells [.int .i64 0, .nils])).next = h.next + 2 := rfl
  have gx : HExt h (Heap.alloc (Heap.alloc h (.cells (encStrc s))) (.cells [.int .i64 0, .nils])) := (HExt.alloc _ _).trans (HExt.alloc _ _)
  generalize (Heap.alloc (Heap.alloc h (.cells (encStrc s))) (.cells [.int .i64 0, .nils])) = H1 at g0 g1 gn gx ⊢
  have lz : loadS none (.ptr h.next 0) H1 = some (.int .i64 s.size) := by rw [load_ptr g0]; rfl
  have ha : aggS [.int .i64 0, .nils] [(0, 1)] [.int .i64 s.size] = some (.agg [.int .i64 s.size, .nils]) := rfl
  obtain ⟨H2, hs2, p2, po, pn⟩ := store_new (h := H1) (zs := [.int .i64 0, .nils]) (cs := [.int .i64 s.size, .nils]) (n := 2) rfl rfl rfl
  rw [gn] at p2 po pn hs2
  have p0 : H2.get h.next = some (.cells (encStrc s)) := by rw [po _ (by omega)]; exact g0
  have p1 : H2.get (h.next + 1) = some (.cells [.int .i64 0, .nils]) := by rw [po _ (by omega)]; exact g1
  have px : HExt h H2 := ⟨by omega, fun b hb => by rw [po _ (by omega)]; exact gx.get b hb⟩
  simp only [AMc, Nat.reduceAdd, Nat.reduceEqDiff, reduceIte, lz, ha, gn, hs2]
  refine loopB_range 0 s.rels.l.length (Nat.zero_le _) (fun i e h' => ∃ a rs, h'.get h.next = some (.cells (encStrc s)) ∧ h'.get (h.next + 1) = some (.cells [.int .i64 0, .nils]) ∧ h'.get (h.next + 2) = some (.cells [.int .i64 s.size, a]) ∧ Own encRel 3 (h.next + 3) h' a rs ∧ rs.map datR = (s.rels.l.take i).map datR ∧ HExt h h' ∧ h.next + 3 ≤ h'.next ∧
    e 1 = .ptr h.next 0 ∧ e 2 = .ptr (h.next + 1) 0 ∧ e 3 = .ptr (h.next + 2) 0 ∧ e 4 = .int .i64 (i : Int)) ⟨_, [], p0, p1, p2, .nil, rfl, px, by omega, rfl, rfl, rfl, rfl⟩ ?_ ?_
  · rintro i e h' _ hi ⟨a, rs, q0, q1, q2, o, hrs, qx, qn, e1, e2, e3, e4⟩ K' hn hx' hr hp
    have hv : s.rels.l[i]? = some s.rels.l[i] := ZgE hi
    generalize s.rels.l[i] = r at hv
    have hrm := ZmG hv
    have lr : loadS none (.ptr h.next 1) h' = some (encSl encRel 3 s.rels) := by rw [load_ptr q0]; rfl
    have lo : loadS none (.ptr (h.next + 2) 1) h' = some a := by rw [load_ptr q2]; rfl
    have hrl : rs.length = i := by have := congrArg List.length hrs; rw [List.length_map, List.length_map, List.length_take, Nat.min_eq_left (by omega)] at this; exact this
    rw [F.ref01_Copy.L0_eq]
    simp only [e1, e3, e4, AMc, Nat.reduceAdd, Nat.reduceEqDiff, reduceIte, lr, lo, lt_true hi, iaS_enc s.rels hi, get_name hv, get_arity hv, get_tups hv]
    refine semCall_true (ref01_copied (by have := hs.tups r hrm; omega) (fun t ht => by have := hs.tup r hrm t ht; omega) fun y hy => ?_)
    obtain ⟨a5, h5, p5, o5, f5, n5, x5, b5⟩ := o.push len_encRel one_encRel (by omega) (bytes := 48) (by have := hs.rels; rw [hm]; omega) ⟨r.name, r.arity, y⟩
    have hne : blkOf a ≠ some (h.next + 2) := fun hb => by have := o.ge hb; omega
    have s2 : h5.get (h.next + 2) = some (.cells [.int .i64 s.size, a]) := by rw [f5 _ (by omega) hne]; exact q2
    have c5 := o5.cells1
    have st : storeS 1 (.ptr (h.next + 2) 1) a5 h5 = some (h5.set (h.next + 2) (.cells [.int .i64 s.size, a5])) := by
      rw [store_ptr (n := 1) s2 c5.2.1 c5.1 (by simp), c5.2.2]; rfl
    simp only [outK_ret, lr, lo, get_name hv, get_arity hv, bindO_some, AV.beq_refl, Bool.and_self, if_true, agg_rel, row_rel, p5, bindO2_some, e3, e4, fa_ptr, Nat.zero_add, st, succ_i64 hi hs.ok']
    refine hn _ _ ⟨a5, rs ++ [⟨r.name, r.arity, y⟩], ?_, ?_, ?_, o5.setLow (by omega) _, ?_, ?_, by rw [Heap.next_set]; omega, e1, e2, e3, rfl⟩
    · rw [Heap.get_set, if_neg (by omega), f5 _ (by omega) (fun hb => by have := o.ge hb; omega)]; exact q0
    · rw [Heap.get_set, if_neg (by omega), f5 _ (by omega) (fun hb => by have := o.ge hb; omega)]; exact q1
    · rw [Heap.get_set, if_pos rfl]
    · rw [List.map_append, hrs, List.take_add_one, hv, List.map_append]
      simp [datR, hy]
    · exact (x5 h qx (by omega)).set (by omega) _
  · rintro e h' ⟨a, rs, q0, q1, q2, o, hrs, qx, qn, e1, e2, e3, e4⟩ K' hx'
    have lr : loadS none (.ptr h.next 1) h' = some (encSl encRel 3 s.rels) := by rw [load_ptr q0]; rfl
    have lo : loadS (some 2) (.ptr (h.next + 2) 0) h' = some (.agg [.int .i64 s.size, a]) := by rw [load_ptr q2]; rfl
    have c := o.cells1
    have one2 : oneAll [.int .i64 s.size, a] = true := by
      have := c.1; rw [c.2.2] at this; simp only [oneAll, Bool.and_true] at this ⊢; rw [this]; rfl
    have st : storeS 2 (.ptr (h.next + 1) 0) (.agg [.int .i64 s.size, a]) h' = some (h'.set (h.next + 1) (.cells [.int .i64 s.size, a])) := by
      rw [store_ptr (n := 2) (v := .agg [.int .i64 s.size, a]) q1 rfl one2 (by simp)]; rfl
    have lo2 : loadS (some 2) (.ptr (h.next + 1) 0) (h'.set (h.next + 1) (.cells [.int .i64 s.size, a])) = some (.agg [.int .i64 s.size, a]) := by rw [load_ptr (cs := [.int .i64 s.size, a]) (by rw [Heap.get_set, if_pos rfl])]; rfl
    rw [F.ref01_Copy.L0_eq]
    simp only [e1, e4, AMc, Nat.reduceAdd, Nat.reduceEqDiff, reduceIte, lr, lt_false]
    rw [hx', F.ref01_Copy.L0_x0_eq]
    simp only [setV_eq, Nat.reduceEqDiff, reduceIte, e2, e3, lo, st, bindO_some, copy_res, lo2, oneOf]
    rw [ZtL (ZrF _)] at hrs
    exact hK a _ rs (qx.set (by omega) _) ((o.setLow (by omega) _).weak (by omega)) hrs
def tupN (n : Nat) : Nat → Nat → List Int
  | 0, _ => []
  | k + 1, r => tupN n k (r / n) ++ [((r % n : Nat) : Int)]
theorem rem_nat {a : Nat} (hb : 0 < b) : binS .rem (.int .i64 (a : Int)) (.int .i64 (b : Int)) = some (.int .i64 ((a % b : Nat) : Int)) := by
  have h : ¬ (b : Int) = 0 := by omega
  simp only [binS, if_true, if_neg h]
  rw [Int.tmod_eq_emod_of_nonneg (by omega)]; rfl
theorem quo_nat {a : Nat} (hb : 0 < b) (ha : a ≤ 1000000) : binS .quo (.int .i64 (a : Int)) (.int .i64 (b : Int)) = some (.int .i64 ((a / b : Nat) : Int)) := by
  have h : ¬ (b : Int) = 0 := by omega
  simp only [binS, if_true, if_neg h]
  have e : ((a : Int).tdiv (b : Int)) = ((a / b : Nat) : Int) := by rw [Int.tdiv_eq_ediv_of_nonneg (by omega)]; rfl
  have : a / b ≤ a := Nat.div_le_self _ _
  rw [e]
  generalize a / b = q at this
  rw [IntWalk.i64_in _ (by omega)]
theorem shape_Tuple {n k r : Nat} (n1 : 1 ≤ n) (n64 : n ≤ 64) (hk : k ≤ 12) (hc : n ^ k ≤ 4096) (hr : r < n ^ k) {h : Heap} {K : Out → Heap → Bool} (hK : ∀ t : Sl Int, t.l = tupN n k r → K (.ret (.tuple [encSl encI 1 t, .int .i64 0])) h = true) : Sem TP 63 [.int .i64 (n : Int), .int .i64 (k : Int), .int .i64 (r : Int)] h K := by
  have main : Sem TP 63 [.int .i64 (n : Int), .int .i64 (k : Int), .int .i64 (r : Int)] Heap.empty (fun o h' => yes (∃ v, ∃ t : Sl Int, o = .ret (.tuple [v, .int .i64 0]) ∧ t.l = tupN n k r ∧ Fz true h' v (encSl encI 1 t))) := by
    refine F.shape_Tuple_sem ?_
    rw [F.shape_Tuple_eq]
    refine semCall_true (shape_Power n1 n64 (by unfold big; omega) ?_)
    rw [powA, if_neg (by omega), if_neg (by omega)]
    have hsub : binS .sub (.int .i64 (k : Int)) (.int .i64 1) = some (.int .i64 ((k : Int) - 1)) := sub_i64 (by omega) (by omega)
    simp only [AMc, Nat.reduceAdd, Nat.reduceEqDiff, reduceIte, beq_self_eq_true, Bool.not_true, ZdF (by omega : ¬ (r : Int) < 0), ZdF (by omega : ¬ ((n ^ k : Nat) : Int) ≤ (r : Int)), make_sl (show k ≤ 1000000 by omega), next_empty, hsub]
    refine loopB_rule (fun j e h' => ∃ (q : Nat) (suf : List Int), j ≤ k ∧ tupN n k r = tupN n j q ++ suf ∧ j + suf.length = k ∧ q ≤ 4096 ∧ h'.get 0 = some (.cells ((List.replicate j (0 : Int) ++ suf).map iv)) ∧ e 0 = .int .i64 (n : Int) ∧ e 2 = .int .i64 (q : Int) ∧ e 10 = .slice 0 0 k 1 ∧ e 11 = .int .i64 ((j : Int) - 1)) k
      ⟨r, [], ZrF _, by simp, rfl, by omega, by rw [List.append_nil]; exact get_alloc_same _ _, rfl, rfl, rfl, rfl⟩ ?_
    rintro j e h' ⟨q, suf, hj, ht, hl, hq, g0, e0, e2, e10, e11⟩
    rw [F.shape_Tuple.L0_eq]
    cases j with
    | zero =>
      simp only [e11, geq_int, bindO_some, condB_bool, ZdF (by omega : ¬ (0 : Int) ≤ ((0 : Nat) : Int) - 1), cond_f, loopK_exit]
      rw [F.shape_Tuple.L0_x0_eq]
      simp only [setV_eq, Nat.reduceEqDiff, reduceIte, e10]
      rw [List.replicate_zero, List.nil_append] at g0
      refine yes_eq.2 ⟨_, some suf, rfl, by rw [ht, tupN]; rfl, ?_⟩
      have := frz_ints g0
      rwa [show suf.length = k by omega] at this
    | succ j =>
      have e11' : ((j + 1 : Nat) : Int) - 1 = (j : Int) := by omega
      have hjk : j < k := by omega
      have hset : (List.replicate (j + 1) (0 : Int) ++ suf).set j ((q % n : Nat) : Int) = List.replicate j 0 ++ (((q % n : Nat) : Int) :: suf) := by
        rw [List.replicate_succ', List.append_assoc, List.set_append_right _ _ (by simp)]
        simp
      have hs1 : binS .sub (.int .i64 (j : Int)) (.int .i64 1) = some (.int .i64 ((j : Int) - 1)) := sub_i64 (by omega) (by omega)
      rw [e11'] at e11
      simp only [e0, e2, e10, e11, geq_int, bindO_some, condB_bool, ZdT (by omega : (0 : Int) ≤ (j : Int)), cond_t, rem_nat n1, quo_nat n1 (show q ≤ 1000000 by omega), ia_sl hjk, store_sl g0 (show j < (List.replicate (j + 1) (0 : Int) ++ suf).length by simp; omega), hs1]
      refine yes_eq.2 ⟨j, by omega, rfl, rfl, ⟨q / n, (((q % n : Nat) : Int) :: suf), by omega, ?_, by simp; omega, by have := Nat.div_le_self q n; omega, by rw [Heap.get_set, if_pos rfl, hset], e0, rfl, e10, rfl⟩⟩
      rw [ht, tupN, List.append_assoc]; rfl
  refine main.frozen (by simp [AV.pureL, AV.pure]) fun o h' ho => ?_
  obtain ⟨v, t, rfl, ht, hf⟩ := yes_eq.1 ho
  have := FzL.cons hf (FzL.cons (.scalar (.int .i64 0) rfl) FzL.nil)
  exact ⟨_, _, rfl, .tuple _ _ this.len this.rel, hK t ht⟩
theorem ref01_Among {x : Sl (Sl Int)} {t : Sl Int} (hx : x.l.length ≤ big) (ht : ∀ u ∈ x.l, u.l.length ≤ big) {h : Heap} {K : Out → Heap → Bool} (hK : K (.ret (.bool ((x.l.map Sl.l).any fun u => u == t.l))) h = true) : Sem TP 34 [encSl encT 1 x, encSl encI 1 t] h K := by
  refine F.ref01_Among_sem ?_
  rw [F.ref01_Among_eq]
  refine loopB_range 0 x.l.length (Nat.zero_le _) (fun i e h' => h' = h ∧ e 0 = encSl encT 1 x ∧ e 1 = encSl encI 1 t ∧ e 5 = .int .i64 (i : Int) ∧ (((x.l.map Sl.l).take i).any fun u => u == t.l) = false) ⟨rfl, rfl, rfl, rfl, rfl⟩ ?_ ?_
  · rintro i e h' _ hi ⟨rfl, e0, e1, e5, hq⟩ K' hn hx' hr hp
    have hv : x.l[i]? = some x.l[i] := ZgE hi
    generalize x.l[i] = u at hv
    have hv2 : (x.l.map Sl.l)[i]? = some u.l := by rw [List.getElem?_map, hv]; rfl
    rw [F.ref01_Among.L0_eq]
    simp only [e0, e1, e5, AMc, Nat.reduceAdd, Nat.reduceEqDiff, reduceIte, lt_true hi, iaS_enc x hi, get_tup hv]
    refine semCall_true (ref01_Equal (ht u (ZmG hv)) ?_)
    simp only [AMc, Nat.reduceAdd, Nat.reduceEqDiff, reduceIte]
    cases h1 : u.l == t.l with
    | true =>
      simp only [cond_t]
      rw [hr, F.ref01_Among.L0_r_eq]
      simp only [setV_eq, Nat.reduceEqDiff, reduceIte]
      rw [List.any_eq_true.2 ⟨u.l, ZmG hv2, h1⟩] at hK
      exact hK
    | false =>
      simp only [cond_f, e5, succ_i64 hi hx, bindO_some]
      exact hn _ _ ⟨rfl, e0, e1, rfl, any_take hv2 hq h1⟩
  · rintro e h' ⟨rfl, e0, e1, e5, hq⟩ K' hx'
    rw [F.ref01_Among.L0_eq]
    simp only [e0, e5, AMc, Nat.reduceAdd, Nat.reduceEqDiff, reduceIte, lt_false]
    rw [hx', F.ref01_Among.L0_x0_eq]
    rw [ZtL (by simp)] at hq
    rw [hq] at hK; exact hK
end
end Go.AM
