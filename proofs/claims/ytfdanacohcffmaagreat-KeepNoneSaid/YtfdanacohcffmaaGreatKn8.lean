/- Parts of the proof. Conditions: none. -/
import Derived.Test.YtfdanacohcffmaaGreatKn7
import Derived.Defers
import Derived.Orders
set_option linter.unusedVariables false
set_option linter.unusedSimpArgs false
namespace Go.AM
open Go Go.RowKit
variable {K : R → Bool} {call : CallF} {o : Oper} {w' : World} {v : AV}
structure DefR (w0 : World) (μ : Mu) (d : ADef) (D : Deferred) : Prop where
  ex : ∃ cap args : List Value, D = { target := .fn (.func d.f) cap.toArray, args := args.toArray } ∧ VRL w0 μ d.args args ∧ VRL w0 μ d.cap cap
inductive DefsR (w0 : World) (μ : Mu) : List ADef → List Deferred → Prop where
  | nil : DefsR w0 μ [] []
  | cons {d : ADef} {D : Deferred} {ds : List ADef} {Ds : List Deferred} (h : DefR w0 μ d D) (t : DefsR w0 μ ds Ds) : DefsR w0 μ (d :: ds) (D :: Ds)
def EnvR (w0 : World) (μ : Mu) (env : Env) (n : Nat) (tmps : Array Value) : Prop := tmps.size = n ∧ ∀ t, VR w0 μ (env t) (tmps.getD t undef)
structure SR (w0 : World) (μ : Mu) (s : St) (a : Act) (w : World) : Prop where
  env : EnvR w0 μ s.env s.n a.tmps
  defs : DefsR w0 μ s.defs a.defers
  good : Good w0 μ s.h w
section
variable {P : Program} {w0 w : World} {μ μ' : Mu} {h h' : Heap} {s : St} {a : Act}
theorem DefsR.mono (hm : μ.le μ') {ds : List ADef} {Ds : List Deferred} (h : DefsR w0 μ ds Ds) : DefsR w0 μ' ds Ds := by
  induction h with
  | nil => exact .nil
  | cons h t ih => obtain ⟨c, x, e, a, b⟩ := h; exact .cons ⟨c, x, e, a.mono hm, b.mono hm⟩ ih
theorem EnvR.mono (hm : μ.le μ') {env : Env} {n : Nat} {tmps : Array Value} (h : EnvR w0 μ env n tmps) : EnvR w0 μ' env n tmps := ⟨h.1, fun t => (h.2 t).mono hm⟩
theorem setV_eq (env : Env) (d : Nat) (v : AV) (t : Nat) : setV env d v t = if t = d then v else env t := by
  unfold setV
  cases h : Nat.beq t d with
  | true => rw [if_pos (Nat.eq_of_beq_eq_true h)]
  | false => rw [if_neg (Nat.ne_of_beq_eq_false h)]
theorem putK_eq {env : Env} {n : Nat} {dst : Option Tmp} {k : Env → Bool} (h : putK env n dst v k = true) : k (putE env n dst v) = true := by
  cases dst with
  | none => exact h
  | some d =>
    simp only [putK] at h
    simp only [putE]
    cases hb : Nat.ble (d + 1) n with
    | false => rw [hb] at h; cases h
    | true =>
      rw [hb] at h
      have : d < n := Nat.le_of_ble_eq_true hb
      rw [if_pos this]; exact h
theorem EnvR.put {env : Env} {n : Nat} {tmps : Array Value} (h : EnvR w0 μ env n tmps) (dst : Option Tmp) {vc : Value} (hv : VR w0 μ v vc) : EnvR w0 μ (putE env n dst v) n (match dst with | some d => tmps.setIfInBounds d vc | none => tmps) := by
  cases dst with
  | none => exact h
  | some d =>
    refine ⟨by simpa using h.1, fun t => ?_⟩
    have ht := h.2 t
    simp only [putE]
    by_cases hd : d < n
    · rw [if_pos hd]
      rw [setV_eq]
      by_cases e : t = d
      · subst e
        rw [if_pos rfl]
        have : (tmps.setIfInBounds t vc).getD t undef = vc := by simp [Array.getD, show t < tmps.size by rw [h.1]; exact hd]
        rw [this]; exact hv
      · rw [if_neg e]
        have : (tmps.setIfInBounds d vc).getD t undef = tmps.getD t undef := by
          simp only [Array.getD_eq_getD_getElem?]
          rw [Array.getElem?_setIfInBounds_ne (fun q => e q.symm)]
        rw [this]; exact ht
    · rw [if_neg hd]
      have : (tmps.setIfInBounds d vc) = tmps := Array.setIfInBounds_eq_of_size_le (h.1 ▸ Nat.le_of_not_lt hd)
      rw [this]; exact ht
theorem Act.put_tmps (a : Act) (dst : Option Tmp) (v : Value) : (a.put dst v).tmps = (match dst with | some d => a.tmps.setIfInBounds d v | none => a.tmps) := by cases dst <;> rfl
theorem Act.put_defers' (a : Act) (dst : Option Tmp) (v : Value) : (a.put dst v).defers = a.defers := by cases dst <;> rfl
theorem SR.left (hs : SR w0 μ s a w) (dst : Option Tmp) {vc : Value} (hv : VR w0 μ' v vc) (hg : Good w0 μ' h' w') (hm : μ.le μ') : SR w0 μ' (s.putH h' dst v) (a.put dst vc) w' :=
  ⟨by rw [Act.put_tmps]; exact (hs.env.mono hm).put dst hv, by rw [Act.put_defers']; exact hs.defs.mono hm, hg⟩
theorem SR.moved (hs : SR w0 μ s a w) (hg : Good w0 μ' h' w') (hm : μ.le μ') : SR w0 μ' ⟨s.env, s.n, s.defs, h'⟩ a w' :=
  ⟨hs.env.mono hm, hs.defs.mono hm, hg⟩
theorem SR.eval (hs : SR w0 μ s a w) : ∀ x, VR w0 μ (evalArg s.env x) (a.eval x) := by
  intro x
  cases x with
  | tmp t => exact hs.env.2 t
  | const v => exact VR.ofConst v
  | global g => exact .undef _
  | func f => exact .func f [] [] [] [] rfl rfl (by simp) (by simp)
theorem wanted_sim (hs : EnvR w0 μ s.env s.n a.tmps) {ops : Array Oper} {b : Bool} (h : wantedA ops.toList o s.env = some b) : Region.wanted o (yielded ops a.tmps) = b := by
  unfold wantedA at h
  unfold Region.wanted
  split at h
  · rename_i hg; rw [hg]; simpa using h
  · rename_i j want hg
    rw [hg]
    simp only
    split at h
    · rename_i g hj
      split at h
      · rename_i d hd
        have hj' : ops[j]? = some g := by rw [Array.getElem?_toList] at hj; exact hj
        have ht := hs.2 d
        have key : ∀ v : Value, VR w0 μ (s.env d) v → v = a.tmps.getD d undef → (yielded ops a.tmps j == some want) = b := by
          intro v hv he
          unfold yielded
          simp only [hj', Option.bind_some, hd]
          split at h
          · rename_i b' hb
            rw [hb] at hv
            cases h
            rw [hv.bool_inv] at he
            by_cases hlt : d < a.tmps.size
            · have : a.tmps[d]? = some (.bool b') := by
                simp [Array.getD, hlt] at he
                simp [hlt, he]
              rw [this]; simp
            · simp [Array.getD, hlt, undef] at he
          · rename_i vs hb
            rw [hb] at hv
            cases h
            obtain ⟨us, rfl, _⟩ := hv.tuple_inv
            by_cases hlt : d < a.tmps.size
            · have : a.tmps[d]? = some (.tuple us.toArray) := by
                simp [Array.getD, hlt] at he
                simp [hlt, he]
              rw [this]; simp
            · have : a.tmps[d]? = none := Array.getElem?_eq_none (Nat.le_of_not_lt hlt)
              rw [this]; simp
          · cases h
        exact key _ ht rfl
      · cases h
    · cases h
def OutR (w0 : World) (μ : Mu) (h : Heap) (w : World) (K : Out → Heap → Bool) : Ending → World → Prop
  | .returned vc, w' => ∃ v h' μ', K (.ret v) h' = true ∧ VR w0 μ' v vc ∧ Good w0 μ' h' w' ∧ Ext μ h w μ' h' w'
  | .panicked chain, w' => ∃ v vc h' μ', K (.panic v) h' = true ∧ chain = [{ v := vc, recovered := false }] ∧ VR w0 μ' v vc ∧ Good w0 μ' h' w' ∧ Ext μ h w μ' h' w'
  | .outgrown, _ => False
def Enters (P : Program) (f : FuncId) : Prop := ∃ fn c, P.funcs[f]? = some fn ∧ fn.body = some c ∧ fn.name ≠ "runtime.NumGoroutine"
theorem run_callFunc {f : FuncId} (he : Enters P f) (args : Array Value) : (callFunc f args).run P w = .ok (.enter f args) w := by
  obtain ⟨fn, c, h1, h2, h3⟩ := he
  simp [callFunc, h1, h2, h3]
def CallSound (P : Program) (call : CallF) : Prop :=
  ∀ f args h K, call f args h K = true → Enters P f ∧ ∀ (w0 : World) (μ : Mu) (w : World) (vs : List Value), Good w0 μ h w → VRL w0 μ args vs → Calls P f vs.toArray w (OutR w0 μ h w K)
structure Leads (w0 : World) (μ : Mu) (s : St) (a : Act) (w : World) (dst : Option Tmp) (K : R → Bool) (next : Act → World → Prop) (Q : Exit → Act → World → Prop) : Prop where
  ok : ∀ (v : AV) (defs' : List ADef) (h' : Heap) (a' : Act) (w' : World) (μ' : Mu), K (.ok v defs' h') = true → SR w0 μ' ⟨putE s.env s.n dst v, s.n, defs', h'⟩ a' w' → Ext μ s.h w μ' h' w' → next a' w'
  panic : ∀ (v : AV) (vc : Value) (h' : Heap) (w' : World) (μ' : Mu), K (.panic v h') = true → VR w0 μ' v vc → SR w0 μ' ⟨s.env, s.n, s.defs, h'⟩ a w' → Ext μ s.h w μ' h' w' → Q (.panic [{ v := vc, recovered := false }]) a w'
theorem plain_wp (hs : SR w0 μ s a w) {next : Act → World → Prop} {Q : Exit → Act → World → Prop} (hl : Leads w0 μ s a w o.dst K next Q)
    (h : stPlain o.op P call s.env s.defs s.h K = true) : o.wp P a w next Q := by
  obtain ⟨v, h', vc, w', μ', hK, hr, hv, hg, hx⟩ := op_sim hs.good hs.eval h
  unfold Oper.wp
  rcases hr with hr | ⟨rfl, hr⟩
  · rw [hr]; exact hl.ok _ _ _ _ _ _ hK (hs.left o.dst hv hg hx.mono) hx
  · rw [hr]; exact hl.ok _ _ _ _ _ _ hK (hs.left o.dst hv hg hx.mono) hx
theorem call_wp (hs : SR w0 μ s a w) (hc : CallSound P call) {c : Call} (ho : o.op = .call c) {next : Act → World → Prop} {Q : Exit → Act → World → Prop} (hl : Leads w0 μ s a w o.dst K next Q)
    (h : stCall c P call s.env s.defs s.h K = true) : o.wp P a w next Q := by
  obtain ⟨cal, args, ts⟩ := c
  cases cal with
  | builtin b => exact plain_wp hs hl (call := call) (by rw [ho]; exact h)
  | invoke r m => exact plain_wp hs hl (call := call) (by rw [ho]; exact h)
  | value f =>
    simp only [stCall, stCallV] at h
    split at h
    · rename_i g first cap hf
      obtain ⟨he, hcalls⟩ := hc _ _ _ _ h
      have hfv := hs.eval f
      rw [hf] at hfv
      generalize hfe : a.eval f = fv at hfv
      cases hfv
      rename_i us vs h1 r1 h2 r2
      have hargs : VRL w0 μ (args.toList.map (evalArg s.env)) (args.toList.map a.eval) := VRL.map _ fun x _ => hs.eval x
      have hall := (VRL.mk h1 r1).append (hargs.append (VRL.mk h2 r2))
      have hcl := hcalls w0 μ w _ hs.good hall
      have hrun : (execOp a.eval o).run P w = .ok (.enter g (us ++ (args.toList.map a.eval ++ vs)).toArray) w := by
        have e : us.toArray ++ args.map a.eval ++ vs.toArray = (us ++ (args.toList.map a.eval ++ vs)).toArray := by
          apply Array.ext'; simp
        simp only [execOp, ho, resolve, hfe, Deferred.ofValue, Sem.run_bind, Sem.run_pure, Result.andThen_ok, invoke, run_callFunc he, e]
      unfold Oper.wp
      rw [hrun, Oper.upon_enter]
      refine Calls.mono hcl fun e w' hR => ?_
      cases e with
      | returned vc =>
        obtain ⟨v, h', μ', hK, hv, hg, hx⟩ := hR
        exact hl.ok _ _ _ _ _ _ hK (hs.left o.dst hv hg hx.mono) hx
      | panicked chain =>
        obtain ⟨v, vc, h', μ', hK, rfl, hv, hg, hx⟩ := hR
        exact hl.panic _ _ _ _ _ hK hv (hs.moved hg hx.mono) hx
      | outgrown => exact hR.elim
    · cases h
theorem defer_wp (hs : SR w0 μ s a w) {c : Call} (ho : o.op = .defer c) {next : Act → World → Prop} {Q : Exit → Act → World → Prop} (hl : Leads w0 μ s a w o.dst K next Q)
    (h : stDefer c P call s.env s.defs s.h K = true) : o.wp P a w next Q := by
  obtain ⟨cal, args, ts⟩ := c
  cases cal with
  | builtin b => cases h
  | invoke r m => cases h
  | value f =>
    simp only [stDefer] at h
    split at h
    · rename_i g first cap hf
      have hfv := hs.eval f
      rw [hf] at hfv
      generalize hfe : a.eval f = fv at hfv
      cases hfv
      rename_i us vs h1 r1 h2 r2
      have hargs : VRL w0 μ (args.toList.map (evalArg s.env)) (args.toList.map a.eval) := VRL.map _ fun x _ => hs.eval x
      have hall := (VRL.mk h1 r1).append hargs
      have hrun : (execOp a.eval o).run P w = .ok (.defer { target := .fn (.func g) vs.toArray, args := (us ++ args.toList.map a.eval).toArray }) w := by
        have e : us.toArray ++ args.map a.eval = (us ++ args.toList.map a.eval).toArray := by
          apply Array.ext'; simp
        simp only [execOp, ho, resolve, hfe, Deferred.ofValue, Sem.run_bind, Sem.run_pure, Result.andThen_ok, e]
      unfold Oper.wp
      rw [hrun, Oper.upon_defer]
      have hs' : SR w0 μ (St.mk s.env s.n (⟨g, first ++ args.toList.map (evalArg s.env), cap⟩ :: s.defs) s.h) { a with defers := { target := .fn (.func g) vs.toArray, args := (us ++ args.toList.map a.eval).toArray } :: a.defers } w :=
        ⟨hs.env, .cons ⟨vs, _, rfl, hall, ⟨h2, r2⟩⟩ hs.defs, hs.good⟩
      exact hl.ok _ _ _ _ _ _ h (hs'.left o.dst VR.noV hs.good (Mu.le.refl μ)) (Ext.refl _ _ _)
    · cases h
theorem panic_wp (hs : SR w0 μ s a w) {x : Operand} (ho : o.op = .panic x) {next : Act → World → Prop} {Q : Exit → Act → World → Prop} (hl : Leads w0 μ s a w o.dst K next Q)
    (h : stPanic x P call s.env s.defs s.h K = true) : o.wp P a w next Q := by
  simp only [stPanic] at h
  split at h
  · rename_i t v hx
    have hv := hs.eval x
    rw [hx] at hv
    generalize he : a.eval x = xv at hv
    cases hv
    rename_i vc hvc
    have hrun : (execOp a.eval o).run P w = .halt (.panic (.iface t vc)) w := by
      simp [execOp, ho, he, Instr.panic]
    unfold Oper.wp
    rw [hrun, Oper.upon_panic]
    exact hl.panic _ _ _ _ _ h (.iface t v vc hvc) hs (Ext.refl _ _ _)
  · cases h
theorem allNext_mem {defs : List ADef} {K : R → Bool} : ∀ {L : List (AV × Heap)}, allNext defs K L = true → ∀ p ∈ L, K (.ok p.1 defs p.2) = true
  | [], _, p, hp => by cases hp
  | q :: L, h, p, hp => by
    simp only [allNext, Bool.and_eq_true] at h
    rcases List.mem_cons.1 hp with rfl | hp
    · exact h.1
    · exact allNext_mem h.2 p hp
theorem next_wp (hs : SR w0 μ s a w) {x : Operand} {b : Bool} (ho : o.op = .next x b) {next : Act → World → Prop} {Q : Exit → Act → World → Prop} (hl : Leads w0 μ s a w o.dst K next Q)
    (h : stNext x b P call s.env s.defs s.h K = true) : o.wp P a w next Q := by
  obtain ⟨L, hL, hh⟩ := bindO_eq h
  obtain ⟨p, vc, w', μ', hp, hr, hv, hg, hx⟩ := next_sim (P := P) hs.good (hs.eval x) hL o.type
  have hrun : (execOp a.eval o).run P w = .ok (.value vc) w' := by simp [execOp, ho, hr]
  unfold Oper.wp
  rw [hrun]
  exact hl.ok _ _ _ _ _ _ (allNext_mem hh p hp) (hs.left o.dst hv hg hx.mono) hx
theorem step_wp (hs : SR w0 μ s a w) (hc : CallSound P call) {next : Act → World → Prop} {Q : Exit → Act → World → Prop} (hl : Leads w0 μ s a w o.dst K next Q)
    (h : stepFn o.op P call s.env s.defs s.h K = true) : o.wp P a w next Q := by
  cases ho : o.op <;> rw [ho] at h <;> simp only [stepFn] at h
  case call c => exact call_wp hs hc ho hl h
  case defer c => exact defer_wp hs ho hl h
  case panic x => exact panic_wp hs ho hl h
  case next x b => exact next_wp hs ho hl h
  all_goals exact plain_wp hs hl (call := call) (by rw [ho]; exact h)
structure LeadsR (w0 : World) (μ : Mu) (h : Heap) (w : World) (K : RS → Bool) (Q : Exit → Act → World → Prop) : Prop where
  ok : ∀ (s' : St) (a' : Act) (w' : World) (μ' : Mu), K (.ok s') = true → SR w0 μ' s' a' w' → Ext μ h w μ' s'.h w' → Q .normal a' w'
  panic : ∀ (v : AV) (vc : Value) (s' : St) (a' : Act) (w' : World) (μ' : Mu), K (.panic v s') = true → VR w0 μ' v vc → SR w0 μ' s' a' w' → Ext μ h w μ' s'.h w' → Q (.panic [{ v := vc, recovered := false }]) a' w'
theorem LeadsR.after {K : RS → Bool} {Q : Exit → Act → World → Prop} (hl : LeadsR w0 μ h w K Q) (hx : Ext μ h w μ' h' w') : LeadsR w0 μ' h' w' K Q :=
  ⟨fun s2 a2 w2 μ2 k2 r2 x2 => hl.ok s2 a2 w2 μ2 k2 r2 (hx.trans x2), fun v vc s2 a2 w2 μ2 k2 v2 r2 x2 => hl.panic v vc s2 a2 w2 μ2 k2 v2 r2 (hx.trans x2)⟩
theorem ops_wp {call : CallF} (hc : CallSound P call) {ops : Array Oper} {K : RS → Bool} {Q : Exit → Act → World → Prop} : ∀ (l : List Oper) (i : Nat) (s : St) (a : Act) (w : World) (μ : Mu), (∀ j o, l[j]? = some o → ops[i + j]? = some o) →
    SR w0 μ s a w → (hl : LeadsR w0 μ s.h w K Q) → evalOps P call ops.toList l s K = true → wpOps P ops Q (List.range' i l.length) a w
  | [], i, s, a, w, μ, hi, hs, hl, h => by
    simp only [List.length_nil, List.range'_zero, wpOps]
    exact hl.ok _ _ _ _ h hs (Ext.refl _ _ _)
  | o :: rest, i, s, a, w, μ, hi, hs, hl, h => by
    have hio : ops[i]? = some o := by simpa using hi 0 o rfl
    obtain ⟨env, n, defs, hp⟩ := s
    simp only [List.length_cons, List.range'_succ, wpOps, hio]
    simp only [evalOps] at h
    have hi' : ∀ j o', rest[j]? = some o' → ops[i + 1 + j]? = some o' := fun j o' hj => by
      have := hi (j + 1) o' (by simpa using hj)
      rwa [show i + 1 + j = i + (j + 1) by omega]
    split at h
    · rename_i hw
      rw [wanted_sim hs.env hw, if_pos rfl]
      refine .inl (step_wp hs hc ⟨fun v defs' h' a' w' μ' hK hs' hx => ?_, fun v vc h' w' μ' hK hv hs' hx => ?_⟩ h)
      · exact ops_wp hc rest (i + 1) _ a' w' μ' hi' hs' (hl.after hx) (putK_eq hK)
      · exact hl.panic v vc _ a w' μ' hK hv hs' hx
    · rename_i hw
      rw [wanted_sim hs.env hw]
      simp only [Bool.false_eq_true, if_false]
      have hs' := hs.left o.dst (h' := hp) VR.noV hs.good (Mu.le.refl μ)
      exact ops_wp hc rest (i + 1) ⟨putE env n o.dst noV, n, defs, hp⟩ _ w μ hi' hs' hl (putK_eq h)
    · cases h
end
end Go.AM
set_option linter.unusedVariables false
set_option linter.unusedSimpArgs false
namespace Go.AM
open Go Go.RowKit
variable {op : Op}
section
variable {P : Program} {ρ ρ' : Operand → AV}
theorem args_congr {c : Call} (h : ∀ x ∈ c.operands, ρ x = ρ' x) : c.args.toList.map ρ = c.args.toList.map ρ' :=
  List.map_congr_left fun x hx => h x (by simp [Call.operands]; exact .inr (by simpa using hx))
theorem pairs_congr {ps : Array (Nat × Operand)} (h : ∀ x ∈ (ps.toList.map (·.2)).toArray, ρ x = ρ' x) : (ps.toList.map fun p => ρ p.2) = ps.toList.map fun p => ρ' p.2 :=
  List.map_congr_left fun p hp => h p.2 (by simp; exact ⟨p.1, by simpa using hp⟩)
theorem opt_congr {o : Option Operand} (h : ∀ x ∈ o.toArray, ρ x = ρ' x) : o.map ρ = o.map ρ' := by
  cases o with
  | none => rfl
  | some x => simp [h x (by simp)]
theorem pureV_congr (h : ∀ x ∈ op.operands, ρ x = ρ' x) : pureV P ρ op = pureV P ρ' op := by
  cases op <;> simp only [Op.operands] at h <;> simp only [pureV]
  case build t ps => rw [pairs_congr h]
  case makeFunc fn first cap =>
    have h1 : first.toList.map ρ = first.toList.map ρ' := List.map_congr_left fun x hx => h x (by simp; exact .inl (by simpa using hx))
    have h2 : cap.toList.map ρ = cap.toList.map ρ' := List.map_congr_left fun x hx => h x (by simp; exact .inr (by simpa using hx))
    rw [h1, h2]
  case slice t x lo hi mx =>
    have h0 : ρ x = ρ' x := h x (by simp)
    have h1 : lo.map ρ = lo.map ρ' := opt_congr fun y hy => h y (by simp only [Array.mem_append]; exact .inl (.inl (.inr hy)))
    have h2 : hi.map ρ = hi.map ρ' := opt_congr fun y hy => h y (by simp only [Array.mem_append]; exact .inl (.inr hy))
    rw [h0, h1, h2]
  case call c => simp only [args_congr h]
  all_goals (first | rfl | (simp_all; done))
theorem readV_congr (h : ∀ x ∈ op.operands, ρ x = ρ' x) (hp : Heap) : readV P ρ hp op = readV P ρ' hp op := by
  cases op <;> simp only [Op.operands] at h <;> simp only [readV]
  case call c => simp only [args_congr h]
  all_goals (first | rfl | (simp_all; done))
theorem allocV_congr (h : ∀ x ∈ op.operands, ρ x = ρ' x) : allocV P ρ op = allocV P ρ' op := by
  cases op <;> simp only [Op.operands] at h <;> simp only [allocV]
  case buildSlice t n ps => rw [pairs_congr h]
  all_goals (first | rfl | (simp_all; done))
theorem opFn_congr (h : ∀ x ∈ op.operands, ρ x = ρ' x) (hp : Heap) (K : AV → Heap → Bool) : opFn op P ρ hp K = opFn op P ρ' hp K := by
  cases hk : opKind op with
  | pure => rw [opFn_pure hk, opFn_pure hk, pureV_congr h]
  | read => rw [opFn_read hk, opFn_read hk, readV_congr h]
  | alloc => rw [opFn_alloc hk, opFn_alloc hk, allocV_congr h]
  | eff =>
    cases op <;> simp only [opKind, reduceCtorEq] at hk <;> simp only [Op.operands] at h <;> simp only [opFn]
    case call c => simp only [exCall, args_congr h]
    all_goals (first | rfl | (simp_all; done))
theorem stepFn_congr {env env' : Env} (h : ∀ x ∈ op.operands, evalArg env x = evalArg env' x) (call : CallF) (defs : List ADef) (hp : Heap) (K : R → Bool) :
    stepFn op P call env defs hp K = stepFn op P call env' defs hp K := by
  cases op <;> simp only [stepFn]
  case call c =>
    obtain ⟨cal, args, ts⟩ := c
    cases cal with
    | value f =>
      simp only [stCall, stCallV]
      have h1 := args_congr (c := ⟨.value f, args, ts⟩) h
      have h2 : evalArg env f = evalArg env' f := h f (by simp [Op.operands, Call.operands])
      simp only at h1
      rw [h2, h1]
    | invoke r m => simp only [stCall, stPlain]; rw [opFn_congr h]
    | builtin b => simp only [stCall, stPlain]; rw [opFn_congr h]
  case defer c =>
    obtain ⟨cal, args, ts⟩ := c
    cases cal with
    | value f =>
      simp only [stDefer]
      have h1 := args_congr (c := ⟨.value f, args, ts⟩) h
      have h2 : evalArg env f = evalArg env' f := h f (by simp [Op.operands, Call.operands])
      simp only at h1
      rw [h2, h1]
    | invoke r m => rfl
    | builtin b => rfl
  case panic x => simp only [stPanic, h x (by simp [Op.operands])]
  case next x b => simp only [stNext, h x (by simp [Op.operands])]
  all_goals (simp only [stPlain]; rw [opFn_congr h])
theorem readV_alloc {hp : Heap} (hc : ∀ b, hp.next ≤ b → hp.get b = none) (o : AObj) {v : AV} (h : readV P ρ hp op = some v) : readV P ρ (hp.alloc o) op = some v := by
  have key : ∀ b o', hp.get b = some o' → (hp.alloc o).get b = some o' := fun b o' hb => by
    rw [Heap.get_alloc, if_neg (fun e => by rw [e, hc _ (ZrF _)] at hb; cases hb)]; exact hb
  cases op <;> simp only [readV, reduceCtorEq] at h ⊢
  case load t a =>
    obtain ⟨i, h1, h2⟩ := Option.bind_eq_some_iff.1 h
    refine Option.bind_eq_some_iff.2 ⟨i, h1, ?_⟩
    unfold loadS at h2 ⊢
    split at h2
    · rename_i b off hx
      split at h2
      · rename_i cs hb; simp only [key _ _ hb]; exact h2
      · cases h2
    · rename_i hx; exact h2
    · cases h2
  case lookup t x i ok =>
    obtain ⟨d, h1, h2⟩ := Option.bind_eq_some_iff.1 h
    refine Option.bind_eq_some_iff.2 ⟨d, h1, ?_⟩
    unfold lookupS at h2 ⊢
    have he : ∀ es, entriesS (ρ x) hp = some es → entriesS (ρ x) (hp.alloc o) = some es := by
      intro es he
      unfold entriesS at he ⊢
      split at he
      · rename_i hx; exact he
      · rename_i b hx
        split at he
        · rename_i es' ck hb; simp only [key _ _ hb]; exact he
        · cases he
      · cases he
    split at h2
    · cases h2
    · rename_i es hes
      rw [he es hes]; exact h2
  case call c =>
    split at h
    · split at h
      · rename_i t l x e1 e2
        obtain ⟨i, h1, h2⟩ := Option.bind_eq_some_iff.1 h
        refine Option.bind_eq_some_iff.2 ⟨i, h1, ?_⟩
        unfold lenS at h2 ⊢
        split at h2 <;> first | exact h2 | skip
        · split at h2
          · rename_i b _ es ck hb; simp only [key _ _ hb]; exact h2
          · cases h2
      · cases h
    · cases h
mutual
theorem AV.beq_eq : ∀ (x y : AV), AV.beq x y = true → x = y
  | .undef, y, h => by cases y <;> simp_all [AV.beq]
  | .bool a, y, h => by cases y <;> simp_all [AV.beq]
  | .int k a, y, h => by cases y <;> simp_all [AV.beq]
  | .str a, y, h => by cases y <;> simp_all [AV.beq]
  | .nilp, y, h => by cases y <;> simp_all [AV.beq]
  | .ptr a i, y, h => by cases y <;> simp_all [AV.beq]
  | .iptr a i, y, h => by
    cases y <;> simp only [AV.beq, Bool.false_eq_true, Bool.and_eq_true, beq_iff_eq] at h
    rw [AV.beqL_eq _ _ h.1, h.2]
  | .nils, y, h => by cases y <;> simp_all [AV.beq]
  | .slice b i l s, y, h => by cases y <;> simp_all [AV.beq]
  | .islice a i l s, y, h => by
    cases y <;> simp only [AV.beq, Bool.false_eq_true, Bool.and_eq_true, beq_iff_eq] at h
    rw [AV.beqL_eq _ _ h.1.1.1, h.1.1.2, h.1.2, h.2]
  | .nilm, y, h => by cases y <;> simp_all [AV.beq]
  | .map a, y, h => by cases y <;> simp_all [AV.beq]
  | .nilf, y, h => by cases y <;> simp_all [AV.beq]
  | .func f a b, y, h => by
    cases y <;> simp only [AV.beq, Bool.false_eq_true, Bool.and_eq_true, beq_iff_eq] at h
    rw [h.1.1, AV.beqL_eq _ _ h.1.2, AV.beqL_eq _ _ h.2]
  | .nili, y, h => by cases y <;> simp_all [AV.beq]
  | .iface t v, y, h => by
    cases y <;> simp only [AV.beq, Bool.false_eq_true, Bool.and_eq_true, beq_iff_eq] at h
    rw [h.1, AV.beq_eq _ _ h.2]
  | .agg a, y, h => by
    cases y <;> simp only [AV.beq, Bool.false_eq_true] at h
    rw [AV.beqL_eq _ _ h]
  | .tuple a, y, h => by
    cases y <;> simp only [AV.beq, Bool.false_eq_true] at h
    rw [AV.beqL_eq _ _ h]
theorem AV.beqL_eq : ∀ (xs ys : List AV), AV.beqL xs ys = true → xs = ys
  | [], ys, h => by cases ys <;> simp_all [AV.beqL]
  | x :: xs, ys, h => by
    cases ys <;> simp only [AV.beqL, Bool.false_eq_true, Bool.and_eq_true] at h
    rw [AV.beq_eq _ _ h.1, AV.beqL_eq _ _ h.2]
end
theorem sameAt_read {env : Env} {v : AV} {hp : Heap} (hk : opKind op = .read) (h : sameAt P op env v hp = true) : readV P (evalArg env) hp op = some v := by
  unfold sameAt at h
  rw [opFn_read hk] at h
  obtain ⟨v', h1, h2⟩ := bindO_eq h
  rw [h1, AV.beq_eq _ _ h2]
end
end Go.AM
set_option linter.unusedVariables false
set_option linter.unusedSimpArgs false
namespace Go.AM
open Go Go.RowKit
variable {ops : List Oper}
theorem maskOf_spec (acc : List Nat) (j : Nat) : ∀ (es : List Edge), (maskOf acc es).testBit j = true → ∃ e ∈ es, Region.binds .any e = true ∧ (j = e.on ∨ (acc.getD e.on 0).testBit j = true)
  | [], h => by simp [maskOf] at h
  | e :: es, h => by
    simp only [maskOf] at h
    split at h
    · rename_i hb
      simp only [Nat.testBit_or, Bool.or_eq_true, Nat.testBit_two_pow, decide_eq_true_eq] at h
      rcases h with (h | h) | h
      · exact ⟨e, by simp, hb, .inl h.symm⟩
      · exact ⟨e, by simp, hb, .inr h⟩
      · obtain ⟨e', h1, h2⟩ := maskOf_spec acc j es h
        exact ⟨e', by simp [h1], h2⟩
    · obtain ⟨e', h1, h2⟩ := maskOf_spec acc j es h
      exact ⟨e', by simp [h1], h2⟩
theorem masksF_prefix : ∀ (os : List Oper) (acc : List Nat), ∃ r, masksF os acc = acc ++ r
  | [], acc => ⟨[], by simp [masksF]⟩
  | o :: os, acc => by
    obtain ⟨r, h⟩ := masksF_prefix os (acc ++ [maskOf acc o.after.toList])
    exact ⟨maskOf acc o.after.toList :: r, by simp [masksF, h]⟩
theorem masksF_get : ∀ (os : List Oper) (acc : List Nat) (k : Nat) (o : Oper), os[k]? = some o → (masksF os acc)[acc.length + k]? = some (maskOf ((masksF os acc).take (acc.length + k)) o.after.toList)
  | [], acc, k, o, h => by simp at h
  | o' :: os, acc, k, o, h => by
    simp only [masksF]
    cases k with
    | zero =>
      simp at h
      subst h
      obtain ⟨r, hr⟩ := masksF_prefix os (acc ++ [maskOf acc o'.after.toList])
      rw [hr]
      simp
    | succ k =>
      have := masksF_get os (acc ++ [maskOf acc o'.after.toList]) k o (by simpa using h)
      rw [List.length_append, List.length_singleton] at this
      rw [show acc.length + (k + 1) = acc.length + 1 + k by omega]
      exact this
theorem masksF_length : ∀ (os : List Oper) (acc : List Nat), (masksF os acc).length = acc.length + os.length
  | [], acc => by simp [masksF]
  | o :: os, acc => by simp only [masksF, masksF_length os]; simp; omega
theorem bef_spec {i j : Nat} (h : bef (masks ops) i j = true) : ∃ o, ops[i]? = some o ∧ ∃ e ∈ o.after.toList, Region.binds .any e = true ∧ (j = e.on ∨ bef (masks ops) e.on j = true) := by
  unfold bef at h
  by_cases hi : i < ops.length
  · have ho : ops[i]? = some ops[i] := ZgE hi
    have hm := masksF_get ops [] i _ ho
    simp only [List.length_nil, Nat.zero_add] at hm
    have hg : (masks ops).getD i 0 = maskOf ((masks ops).take i) ops[i].after.toList := by
      rw [List.getD_eq_getElem?_getD]
      show ((masksF ops [])[i]?).getD 0 = _
      rw [hm]; rfl
    rw [hg] at h
    obtain ⟨e, h1, h2, h3⟩ := maskOf_spec _ _ _ h
    refine ⟨_, ho, e, h1, h2, ?_⟩
    rcases h3 with h3 | h3
    · exact .inl h3
    · refine .inr ?_
      unfold bef
      rw [List.getD_eq_getElem?_getD, List.getElem?_take] at h3
      split at h3
      · rw [List.getD_eq_getElem?_getD]; exact h3
      · simp at h3
  · have : (masks ops).getD i 0 = 0 := by
      rw [List.getD_eq_getElem?_getD, List.getElem?_eq_none (by unfold masks; rw [masksF_length]; simp; omega)]; rfl
    rw [this] at h; simp at h
def Closed (ms : List Nat) (S : Nat → Bool) : Prop := ∀ i j, S i = true → bef ms i j = true → S j = true
def isIn (listed : Array Bool) (k : Nat) : Bool := listed.getD k false
theorem ready_bef {ops : Array Oper} {listed : Array Bool} {i j : Nat} (hc : Closed (masks ops.toList) (isIn listed)) (hr : i ∈ Region.ready .any ops listed) (hb : bef (masks ops.toList) i j = true) : isIn listed j = true := by
  obtain ⟨_, o, ho, he⟩ := mem_ready.1 hr
  obtain ⟨o', ho', e, h1, h2, h3⟩ := bef_spec hb
  rw [Array.getElem?_toList, ho] at ho'
  cases ho'
  have := he e (by simpa using h1) h2
  rcases h3 with rfl | h3
  · exact this
  · exact hc _ _ this h3
theorem isIn_set {listed : Array Bool} {i : Nat} (hi : i < listed.size) (k : Nat) : isIn (listed.setIfInBounds i true) k = (decide (k = i) || isIn listed k) := by
  unfold isIn
  by_cases e : k = i
  · subst e; simp [Array.getD, hi]
  · simp [e, getD_set_ne false (fun q => e q.symm)]
structure Dn where
  i : Nat
  o : Oper
  v : AV
  env : Env
  b : Nat
  al : Bool
noncomputable def envOf (env0 : Env) (n : Nat) (S : Nat → Bool) : List Dn → Env
  | [] => env0
  | d :: ds => if S d.i then putE (envOf env0 n S ds) n d.o.dst d.v else envOf env0 n S ds
theorem putE_ne {env : Env} {n : Nat} {dst : Option Tmp} {v : AV} {t : Nat} (h : dst ≠ some t) : putE env n dst v t = env t := by
  cases dst with
  | none => rfl
  | some d =>
    have : t ≠ d := fun e => h (by rw [e])
    simp only [putE]
    split
    · simp [setV_eq, this]
    · rfl
theorem putE_comm {env : Env} {n : Nat} {x y : Option Tmp} {u v : AV} (h : ∀ t, x = some t → y ≠ some t) : putE (putE env n x u) n y v = putE (putE env n y v) n x u := by
  cases x with
  | none => rfl
  | some d => cases y with
    | none => rfl
    | some e =>
      have hne : d ≠ e := fun q => h d rfl (by rw [q])
      simp only [putE]
      split <;> split <;> try rfl
      funext t
      simp only [setV_eq]
      split <;> split <;> try rfl
      rename_i h1 h2; exact absurd (h2 ▸ h1) (by simpa using hne)
section
variable {env0 : Env} {n : Nat} {S S' : Nat → Bool}
theorem envOf_skip {t : Nat} : ∀ {pre ds : List Dn}, (∀ x ∈ pre, S x.i = true → x.o.dst ≠ some t) → envOf env0 n S (pre ++ ds) t = envOf env0 n S ds t
  | [], ds, h => rfl
  | x :: pre, ds, h => by
    simp only [List.cons_append, envOf]
    have ih := envOf_skip (pre := pre) (ds := ds) (fun y hy => h y (by simp [hy]))
    split
    · rename_i hx; rw [putE_ne (h x (by simp) hx), ih]
    · exact ih
theorem envOf_congr : ∀ {ds : List Dn}, (∀ x ∈ ds, S x.i = S' x.i) → envOf env0 n S ds = envOf env0 n S' ds
  | [], h => rfl
  | x :: ds, h => by
    simp only [envOf]
    rw [h x (by simp), envOf_congr (ds := ds) (fun y hy => h y (by simp [hy]))]
theorem envOf_full {t : Nat} : ∀ {ds : List Dn}, (∀ x ∈ ds, x.o.dst = some t → S x.i = true) → envOf env0 n S ds t = envOf env0 n (fun _ => true) ds t
  | [], h => rfl
  | x :: ds, h => by
    have ih := envOf_full (ds := ds) (fun y hy => h y (by simp [hy]))
    simp only [envOf, if_true]
    by_cases hd : x.o.dst = some t
    · rw [if_pos (h x (by simp) hd), hd]
      simp only [putE]
      split
      · simp [setV_eq]
      · exact ih
    · rw [putE_ne hd]
      split
      · rw [putE_ne hd]; exact ih
      · exact ih
theorem envOf_add {d : Dn} (hS : S d.i = false) (hS' : ∀ k, S' k = (decide (k = d.i) || S k)) : ∀ {pre ds : List Dn}, (∀ x ∈ pre, x.i ≠ d.i) → (∀ x ∈ ds, x.i ≠ d.i) → (∀ x ∈ pre, ∀ t, d.o.dst = some t → x.o.dst ≠ some t) →
    envOf env0 n S' (pre ++ d :: ds) = putE (envOf env0 n S (pre ++ d :: ds)) n d.o.dst d.v
  | [], ds, h1, h2, h3 => by
    simp only [List.nil_append, envOf]
    rw [if_pos (by rw [hS']; simp), if_neg (by rw [hS]; simp), envOf_congr (S := S') (S' := S) (fun x hx => by rw [hS']; simp [h2 x hx])]
  | x :: pre, ds, h1, h2, h3 => by
    have ih := envOf_add hS hS' (pre := pre) (ds := ds) (fun y hy => h1 y (by simp [hy])) h2 (fun y hy => h3 y (by simp [hy]))
    simp only [List.cons_append, envOf]
    have hx : S' x.i = S x.i := by rw [hS']; simp [h1 x (by simp)]
    rw [hx]
    split
    · rw [ih, putE_comm (h3 x (by simp))]
    · exact ih
end
structure Pair (ops : List Oper) (ms : List Nat) (a b : Nat × Oper) : Prop where
  ne : a.1 ≠ b.1
  nb : bef ms a.1 b.1 = false
  eff : isEff a.2 = true → bef ms b.1 a.1 = true
  dd : ∀ d, a.2.dst = some d → b.2.dst ≠ some d
  lb : ∀ d, a.2.dst = some d → d ∈ looksD ops b.2 → bef ms b.1 a.1 = true
  la : ∀ d, b.2.dst = some d → d ∈ looksD ops a.2 → bef ms b.1 a.1 = true
theorem pairOk_spec {ms : List Nat} {a b : Nat × Oper} (h : pairOk ops ms a b = true) : Pair ops ms a b := by
  unfold pairOk at h
  simp only [Bool.and_eq_true, bne_iff_ne, ne_eq, Bool.not_eq_true', Bool.or_eq_true] at h
  obtain ⟨h1, h2, h3, h4, h5⟩ := h
  refine ⟨h1, h2, fun he => h3.resolve_left (by simp [he]), fun d hd e => ?_, fun d hd hl => ?_, fun d hd hl => ?_⟩
  · rw [hd, e] at h4; simp at h4
  · rw [hd] at h4
    simp only [Bool.and_eq_true, Bool.or_eq_true, Bool.not_eq_true'] at h4
    exact h4.2.resolve_left (by simp [hl])
  · rw [hd] at h5
    simp only [Bool.or_eq_true, Bool.not_eq_true'] at h5
    exact h5.resolve_left (by simp [hl])
theorem pairsOk_spec {ops : List Oper} {ms : List Nat} : ∀ {L : List (Nat × Oper)}, pairsOk ops ms L = true → L.Pairwise (Pair ops ms)
  | [], h => .nil
  | p :: ps, h => by
    simp only [pairsOk, Bool.and_eq_true, List.all_eq_true] at h
    exact .cons (fun b hb => pairOk_spec (h.1 b hb)) (pairsOk_spec h.2)
theorem coverOk_spec {L : List (Nat × Oper)} : ∀ {n : Nat}, coverOk L n = true → ∀ i, i < n → ∃ p ∈ L, p.1 = i
  | 0, h, i, hi => by omega
  | n + 1, h, i, hi => by
    simp only [coverOk, Bool.and_eq_true, List.any_eq_true, beq_iff_eq] at h
    by_cases e : i = n
    · subst e; exact h.1
    · exact coverOk_spec h.2 i (by omega)
theorem withIdx_spec : ∀ (os : List Oper) (k : Nat) (p : Nat × Oper), p ∈ withIdx os k → k ≤ p.1 ∧ os[p.1 - k]? = some p.2
  | [], k, p, h => by cases h
  | o :: os, k, p, h => by
    simp only [withIdx, List.mem_cons] at h
    rcases h with rfl | h
    · simp
    · obtain ⟨h1, h2⟩ := withIdx_spec os (k + 1) p h
      refine ⟨by omega, ?_⟩
      rw [show p.1 - k = (p.1 - (k + 1)) + 1 by omega]
      simpa using h2
theorem levelsL_mem {ms effs : List Nat} {L : List (Nat × Oper)} : ∀ (n k : Nat) (p : Nat × Oper), p ∈ levelsL ms effs L n k → p ∈ L
  | 0, k, p, h => (List.mem_filter.1 h).1
  | n + 1, k, p, h => by
    simp only [levelsL, List.mem_append] at h
    rcases h with h | h | h
    · exact (List.mem_filter.1 h).1
    · exact (List.mem_filter.1 h).1
    · exact levelsL_mem n (k + 1) p h
theorem edgesOk_spec : ∀ {os : List Oper} {k : Nat}, edgesOk os k = true → ∀ i o, os[i]? = some o → ∀ e ∈ o.after.toList, Region.binds .any e = true → e.on < k + i
  | [], k, h, i, o, ho => by simp at ho
  | o' :: os, k, h, i, o, ho => by
    simp only [edgesOk, Bool.and_eq_true, List.all_eq_true, Bool.or_eq_true, Bool.not_eq_true', decide_eq_true_eq] at h
    intro e he hb
    cases i with
    | zero =>
      simp at ho; subst ho
      have := (h.1 e he).resolve_left (by simp [hb])
      omega
    | succ i =>
      have := edgesOk_spec h.2 i o (by simpa using ho) e he hb
      omega
structure PlanR (ops : Array Oper) (ms : List Nat) (L : List (Nat × Oper)) : Prop where
  masks : ms = masks ops.toList
  pairs : L.Pairwise (Pair ops.toList ms)
  cover : ∀ i, i < ops.size → ∃ p ∈ L, p.1 = i
  mem : ∀ p ∈ L, ops[p.1]? = some p.2
  edges : ∀ (i : Nat) (o : Oper), ops[i]? = some o → ∀ e ∈ o.after.toList, Region.binds .any e = true → e.on < i
theorem planD_spec {ops : Array Oper} {p : Plan} (h : planD ops.toList = some p) : PlanR ops p.ms p.L := by
  unfold planD at h
  split at h
  · rename_i hc
    cases h
    simp only [Bool.and_eq_true] at hc
    obtain ⟨⟨h1, h2⟩, h3⟩ := hc
    refine ⟨rfl, pairsOk_spec h2, fun i hi => coverOk_spec h3 i (by simpa using hi), fun q hq => ?_, fun i o ho e he hb => ?_⟩
    · have := withIdx_spec _ _ _ (levelsL_mem _ _ _ hq)
      simpa using this.2
    · have := edgesOk_spec h1 i o (by simpa using ho) e he hb
      omega
  · cases h
theorem looks_op {o : Oper} {env env' : Env} (h : ∀ t ∈ looksD ops o, env t = env' t) : ∀ x ∈ o.op.operands, evalArg env x = evalArg env' x := by
  intro x hx
  cases x with
  | tmp t =>
    apply h
    simp only [looksD, List.mem_append, List.mem_filterMap]
    exact .inl ⟨.tmp t, by simpa using hx, rfl⟩
  | const v => rfl
  | global g => rfl
  | func f => rfl
theorem looks_wanted {o : Oper} {env env' : Env} (h : ∀ t ∈ looksD ops o, env t = env' t) : wantedA ops o env = wantedA ops o env' := by
  unfold wantedA
  split
  · rfl
  · rename_i j want hg
    split
    · rename_i g hj
      split
      · rename_i d hd
        have : env d = env' d := h d (by simp [looksD, hg, hj, hd])
        rw [this]
      · rfl
    · rfl
end Go.AM
set_option linter.unusedVariables false
set_option linter.unusedSimpArgs false
namespace Go.AM
open Go Go.RowKit
variable {p : Nat × Oper}
structure Pend (P : Program) (ops : Array Oper) (μ : Mu) (h : Heap) (lg : List Read) (d : Dn) : Prop where
  ex : ∃ wb, wantedA ops.toList d.o d.env = some wb ∧ (wb = false → d.v = noV) ∧ (wb = true →
    (opKind d.o.op = .pure ∧ pureV P (evalArg d.env) d.o.op = some d.v) ∨
    (opKind d.o.op = .read ∧ readV P (evalArg d.env) h d.o.op = some d.v ∧ (⟨d.i, d.o.op, d.env, d.v⟩ : Read) ∈ lg) ∨
    (opKind d.o.op = .alloc ∧ d.al = true ∧ ∃ k ob, allocV P (evalArg d.env) d.o.op = some (k, ob) ∧ d.v = k.val d.b ∧ h.get d.b = some ob ∧ ∀ kk, μ d.b ≠ some kk))
structure DCtx where
  P : Program
  call : CallF
  ops : Array Oper
  ms : List Nat
  L : List (Nat × Oper)
  K : St → Bool
  w0 : World
  μb : Mu
  hb : Heap
  wb : World
  env0 : Env
  n : Nat
structure DInv (C : DCtx) (listed : Array Bool) (a : Act) (w : World) (μ : Mu) (dn : List Dn) (R : List (Nat × Oper)) (lg : List Read) (s : St) : Prop where
  split : C.L = (dn.reverse.map fun d => (d.i, d.o)) ++ R
  run : evalOpsD C.P C.call C.ops.toList C.ms R lg s C.K = true
  slots : s.n = C.n
  senv : s.env = envOf C.env0 C.n (fun _ => true) dn
  size : listed.size = C.ops.size
  inDn : ∀ i, isIn listed i = true → ∃ d ∈ dn, d.i = i
  effs : ∀ d ∈ dn, isEff d.o = true → isIn listed d.i = true
  closed : Closed C.ms (isIn listed)
  env : EnvR C.w0 μ (envOf C.env0 C.n (isIn listed) dn) C.n a.tmps
  defs : DefsR C.w0 μ s.defs a.defers
  good : Good C.w0 μ s.h w
  ext : Ext C.μb C.hb C.wb μ s.h w
  denv : ∀ pre d ds, dn = pre ++ d :: ds → d.env = envOf C.env0 C.n (fun _ => true) ds
  pend : ∀ d ∈ dn, isIn listed d.i = false → Pend C.P C.ops μ s.h lg d
  blks : ∀ d ∈ dn, d.al = true → C.hb.next ≤ d.b ∧ d.b < s.h.next
  sep : ∀ d ∈ dn, ∀ d' ∈ dn, d.i ≠ d'.i → d.al = true → d'.al = true → d.b ≠ d'.b
theorem Ext.adopt {μb μ : Mu} {hb h : Heap} {wb w : World} (x : Ext μb hb wb μ h w) {b n : Nat} (hn : hb.next ≤ b) (hμ : ∀ k, μ b ≠ some k) (O : Obj) : Ext μb hb wb (μ.add b ⟨w.heap.size, 0, n⟩) h (w.alloc O) := by
  have hsz : (w.alloc O).heap.size = w.heap.size + 1 := by show (w.heap.push O).size = _; simp
  refine ⟨x.mono.trans (Mu.le_add hμ), fun k hk hne => ?_, fun b' k hb' => ?_, by rw [hsz]; have := x.size; omega, x.next, x.keep, fun b' k hb' => ?_, x.iced⟩
  · rw [Below.heap_alloc w O k (Nat.lt_of_lt_of_le hk x.size)]; exact x.frame k hk hne
  · rw [Mu.add_m] at hb'
    by_cases e : b' = b
    · rw [if_pos e] at hb'; cases hb'; exact .inr (.inl x.size)
    · rw [if_neg e] at hb'; exact x.new b' k hb'
  · rw [Mu.add_m] at hb'
    by_cases e : b' = b
    · exact .inr (e ▸ hn)
    · rw [if_neg e] at hb'; exact x.fresh b' k hb'
section
variable {C : DCtx} {listed : Array Bool} {a : Act} {w : World} {μ : Mu} {dn : List Dn} {R : List (Nat × Oper)} {lg : List Read} {s : St}
theorem DInv.pairs (hp : PlanR C.ops C.ms C.L) (hi : DInv C listed a w μ dn R lg s) :
    dn.Pairwise (fun x y => Pair C.ops.toList C.ms (y.i, y.o) (x.i, x.o)) ∧ R.Pairwise (Pair C.ops.toList C.ms) ∧ ∀ d ∈ dn, ∀ r ∈ R, Pair C.ops.toList C.ms (d.i, d.o) r := by
  have h := hp.pairs
  rw [hi.split, List.pairwise_append, List.pairwise_map, List.pairwise_reverse] at h
  exact ⟨h.1, h.2.1, fun d hd r hr => h.2.2 _ (List.mem_map.2 ⟨d, by simpa using hd, rfl⟩) r hr⟩
theorem DInv.fresh (hp : PlanR C.ops C.ms C.L) (hi : DInv C listed a w μ dn R lg s) {r : Nat × Oper} (hr : r ∈ R) : isIn listed r.1 = false ∧ ∀ d ∈ dn, d.i ≠ r.1 := by
  have hne : ∀ d ∈ dn, d.i ≠ r.1 := fun d hd => ((hi.pairs hp).2.2 d hd r hr).ne
  refine ⟨?_, hne⟩
  cases h : isIn listed r.1 with
  | false => rfl
  | true => obtain ⟨d, hd, he⟩ := hi.inDn _ h; exact absurd he (hne d hd)
theorem DInv.advance1 (hp : PlanR C.ops C.ms C.L) (hi : DInv C listed a w μ dn (p :: R) lg s) (he : isEff p.2 = false) : ∃ dn' lg' s', DInv C listed a w μ dn' R lg' s' := by
  obtain ⟨hf, hne⟩ := hi.fresh hp (r := p) (by simp)
  obtain ⟨env, n, defs, hp0⟩ := s
  have hrun := hi.run
  simp only [evalOpsD] at hrun
  have step : ∀ (v : AV) (b : Nat) (al : Bool) (lg' : List Read) (h' : Heap), evalOpsD C.P C.call C.ops.toList C.ms R lg' ⟨putE env n p.2.dst v, n, defs, h'⟩ C.K = true →
      (∀ r ∈ lg, r ∈ lg') → Good C.w0 μ h' w → Ext C.μb C.hb C.wb μ h' w → hp0.next ≤ h'.next → (∀ b' o, hp0.get b' = some o → h'.get b' = some o) → (∀ op v, readV C.P (evalArg env) hp0 op = some v ∨ True) →
      (∀ env op v, readV C.P (evalArg env) hp0 op = some v → readV C.P (evalArg env) h' op = some v) →
      Pend C.P C.ops μ h' lg' ⟨p.1, p.2, v, env, b, al⟩ → (al = true → b = hp0.next ∧ hp0.next < h'.next) → ∃ dn' lg' s', DInv C listed a w μ dn' R lg' s' := by
    intro v b al lg' h' hr hlg hg hx hnx hget _ hrd hpd hal
    have hb0 : C.hb.next ≤ hp0.next := hi.ext.next
    refine ⟨⟨p.1, p.2, v, env, b, al⟩ :: dn, lg', ⟨putE env n p.2.dst v, n, defs, h'⟩, ?_⟩
    refine ⟨by rw [hi.split]; simp, hr, hi.slots, ?_, hi.size, fun i h => ?_, fun d hd h => ?_, hi.closed, ?_, hi.defs, hg, hx, fun pre d ds h => ?_, fun d hd h => ?_, fun d hd h => ?_, fun d hd d' hd' hne' h1 h2 => ?_⟩
    · show putE env n p.2.dst v = _
      simp only [envOf, if_true]
      have e1 : n = C.n := hi.slots
      have e2 : env = envOf C.env0 C.n (fun _ => true) dn := hi.senv
      rw [e2, e1]
    · obtain ⟨d, hd, e⟩ := hi.inDn i h
      exact ⟨d, by simp [hd], e⟩
    · rcases List.mem_cons.1 hd with rfl | hd
      · simp [he] at h
      · exact hi.effs d hd h
    · have : envOf C.env0 C.n (isIn listed) (⟨p.1, p.2, v, env, b, al⟩ :: dn) = envOf C.env0 C.n (isIn listed) dn := by
        simp only [envOf]; rw [if_neg (by rw [hf]; simp)]
      rw [this]; exact hi.env
    · cases pre with
      | nil =>
        simp only [List.nil_append, List.cons.injEq] at h
        obtain ⟨rfl, rfl⟩ := h
        exact hi.senv
      | cons x pre =>
        simp only [List.cons_append, List.cons.injEq] at h
        exact hi.denv pre d ds h.2
    · rcases List.mem_cons.1 hd with rfl | hd
      · exact hpd
      · obtain ⟨wb, q1, q2, q3⟩ := (hi.pend d hd h).ex
        refine ⟨wb, q1, q2, fun hw => ?_⟩
        rcases q3 hw with q | ⟨k1, k2, k3⟩ | ⟨k1, k2, k, ob, k3, k4, k5, k6⟩
        · exact .inl q
        · exact .inr (.inl ⟨k1, hrd _ _ _ k2, hlg _ k3⟩)
        · exact .inr (.inr ⟨k1, k2, k, ob, k3, k4, hget _ _ k5, k6⟩)
    · rcases List.mem_cons.1 hd with rfl | hd
      · obtain ⟨e1, e2⟩ := hal h
        show _ ≤ b ∧ b < h'.next
        omega
      · have := hi.blks d hd h
        exact ⟨this.1, Nat.lt_of_lt_of_le this.2 hnx⟩
    · rcases List.mem_cons.1 hd with rfl | hd
      · rcases List.mem_cons.1 hd' with rfl | hd'
        · exact absurd rfl hne'
        · have : d'.b < hp0.next := (hi.blks d' hd' h2).2
          obtain ⟨e1, _⟩ := hal h1
          show b ≠ d'.b
          omega
      · rcases List.mem_cons.1 hd' with rfl | hd'
        · have : d.b < hp0.next := (hi.blks d hd h1).2
          obtain ⟨e1, _⟩ := hal h2
          show d.b ≠ b
          omega
        · exact hi.sep d hd d' hd' hne' h1 h2
  split at hrun
  · rename_i hw
    split at hrun
    · rename_i hk
      rw [opFn_pure hk] at hrun
      obtain ⟨v, hv, hK⟩ := bindO_eq hrun
      have hK := putK_eq hK
      exact step v 0 false lg hp0 hK (fun r h => h) hi.good hi.ext (ZrF _) (fun _ _ h => h) (fun _ _ => .inr trivial) (fun _ _ _ h => h) ⟨true, hw, by simp, fun _ => .inl ⟨hk, hv⟩⟩ (by simp)
    · rename_i hk
      rw [opFn_read hk] at hrun
      obtain ⟨v, hv, hK⟩ := bindO_eq hrun
      have hK := putK_eq hK
      exact step v 0 false _ hp0 hK (fun r h => by simp [h]) hi.good hi.ext (ZrF _) (fun _ _ h => h) (fun _ _ => .inr trivial) (fun _ _ _ h => h) ⟨true, hw, by simp, fun _ => .inr (.inl ⟨hk, hv, by simp⟩)⟩ (by simp)
    · rename_i hk
      rw [opFn_alloc hk] at hrun
      obtain ⟨⟨k, ob⟩, hv, hK⟩ := bindO_eq hrun
      have hK := putK_eq hK
      obtain ⟨g1, g2⟩ := hi.good.unborn ob
      refine step (k.val hp0.next) hp0.next true lg (hp0.alloc ob) hK (fun r h => h) g1 (hi.ext.trans g2) (Nat.le_succ _) (fun b' o h => ?_) (fun _ _ => .inr trivial) (fun _ _ _ h => readV_alloc hi.good.clean ob h)
        ⟨true, hw, by simp, fun _ => .inr (.inr ⟨hk, rfl, k, ob, hv, rfl, by rw [Heap.get_alloc, if_pos rfl], hi.good.not_next⟩)⟩ (fun _ => ⟨rfl, Nat.lt_succ_self _⟩)
      rw [Heap.get_alloc, if_neg (fun e => by rw [e, hi.good.clean _ (ZrF _)] at h; cases h)]; exact h
    · rename_i hk
      simp [isEff, hk] at he
  · rename_i hw
    exact step noV 0 false lg hp0 (putK_eq hrun) (fun r h => h) hi.good hi.ext (ZrF _) (fun _ _ h => h) (fun _ _ => .inr trivial) (fun _ _ _ h => h) ⟨false, hw, by simp, by simp⟩ (by simp)
  · cases hrun
theorem DInv.advance (hp : PlanR C.ops C.ms C.L) : ∀ (R : List (Nat × Oper)) (dn : List Dn) (lg : List Read) (s : St), DInv C listed a w μ dn R lg s →
    ∃ dn' R' lg' s', DInv C listed a w μ dn' R' lg' s' ∧ (∀ p rest, R' = p :: rest → isEff p.2 = true)
  | [], dn, lg, s, hi => ⟨dn, [], lg, s, hi, by simp⟩
  | p :: R, dn, lg, s, hi => by
    cases he : isEff p.2 with
    | true => exact ⟨dn, p :: R, lg, s, hi, fun q rest h => by cases h; exact he⟩
    | false =>
      obtain ⟨dn', lg', s', h'⟩ := hi.advance1 hp he
      exact DInv.advance hp R dn' lg' s' h'
theorem DInv.agree (hp : PlanR C.ops C.ms C.L) (hi : DInv C listed a w μ dn R lg s) {d : Dn} (hd : d ∈ dn) (hS : isIn listed d.i = false) (hr : ∀ j, bef C.ms d.i j = true → isIn listed j = true) :
    ∀ t ∈ looksD C.ops.toList d.o, envOf C.env0 C.n (isIn listed) dn t = d.env t := by
  intro t ht
  obtain ⟨pre, ds, rfl⟩ := List.append_of_mem hd
  rw [hi.denv pre d ds rfl]
  have hpw := (hi.pairs hp).1
  rw [List.pairwise_append] at hpw
  obtain ⟨_, hpw2, hpw3⟩ := hpw
  rw [List.pairwise_cons] at hpw2
  rw [envOf_skip (fun x hx hSx hdx => ?_)]
  · simp only [envOf]
    rw [if_neg (by rw [hS]; simp)]
    refine envOf_full fun x hx hdx => hr _ ?_
    exact (hpw2.1 x hx).lb t hdx ht
  · have := (hpw3 x hx d (by simp)).la t hdx ht
    have := hi.closed _ _ hSx this
    rw [hS] at this; cases this
theorem DInv.agreeHead (hp : PlanR C.ops C.ms C.L) (hi : DInv C listed a w μ dn (p :: R) lg s) (hr : ∀ j, bef C.ms p.1 j = true → isIn listed j = true) :
    ∀ t ∈ looksD C.ops.toList p.2, envOf C.env0 C.n (isIn listed) dn t = s.env t := by
  intro t ht
  rw [hi.senv]
  exact envOf_full fun x hx hdx => hr _ (((hi.pairs hp).2.2 x hx p (by simp)).lb t hdx ht)
theorem DInv.ran (hp : PlanR C.ops C.ms C.L) (hi : DInv C listed a w μ dn R lg s) {d : Dn} (hd : d ∈ dn) (hS : isIn listed d.i = false) (hlt : d.i < listed.size) (hr : ∀ j, bef C.ms d.i j = true → isIn listed j = true)
    {w' : World} {μ' : Mu} {vc : Value} (hm : μ.le μ') (hv : VR C.w0 μ' d.v vc) (hg : Good C.w0 μ' s.h w') (hx : Ext C.μb C.hb C.wb μ' s.h w')
    (hnew : ∀ d' ∈ dn, isIn listed d'.i = false → d'.i ≠ d.i → d'.al = true → (∀ kk, μ d'.b ≠ some kk) → ∀ kk, μ' d'.b ≠ some kk) :
    DInv C (listed.setIfInBounds d.i true) (a.put d.o.dst vc) w' μ' dn R lg s := by
  have hset := isIn_set hlt
  refine ⟨hi.split, hi.run, hi.slots, hi.senv, by simpa using hi.size, fun i h => ?_, fun d' hd' h => ?_, fun i j h hb => ?_, ?_, ?_, hg, hx, hi.denv, fun d' hd' h => ?_, hi.blks, hi.sep⟩
  · rw [hset] at h
    simp only [Bool.or_eq_true, decide_eq_true_eq] at h
    rcases h with rfl | h
    · exact ⟨d, hd, rfl⟩
    · exact hi.inDn i h
  · rw [hset, hi.effs d' hd' h]; simp
  · rw [hset] at h ⊢
    simp only [Bool.or_eq_true, decide_eq_true_eq] at h ⊢
    rcases h with rfl | h
    · exact .inr (hr j hb)
    · exact .inr (hi.closed i j h hb)
  · obtain ⟨pre, ds, rfl⟩ := List.append_of_mem hd
    have hpw := (hi.pairs hp).1
    rw [List.pairwise_append] at hpw
    obtain ⟨_, hpw2, hpw3⟩ := hpw
    rw [List.pairwise_cons] at hpw2
    rw [envOf_add (S := isIn listed) (d := d) hS (fun k => hset k) (fun x hx => ((hpw3 x hx d (by simp)).ne).symm) (fun x hx => (hpw2.1 x hx).ne) (fun x hx t ht => (hpw3 x hx d (by simp)).dd t ht), Act.put_tmps]
    exact (hi.env.mono hm).put d.o.dst hv
  · rw [Act.put_defers']; exact hi.defs.mono hm
  · rw [hset] at h
    simp only [Bool.or_eq_false_iff, decide_eq_false_iff_not] at h
    obtain ⟨wb, q1, q2, q3⟩ := (hi.pend d' hd' h.2).ex
    refine ⟨wb, q1, q2, fun hw => ?_⟩
    rcases q3 hw with q | q | ⟨k1, k2, k, ob, k3, k4, k5, k6⟩
    · exact .inl q
    · exact .inr (.inl q)
    · exact .inr (.inr ⟨k1, k2, k, ob, k3, k4, k5, hnew d' hd' h.2 h.1 k2 k6⟩)
theorem sameReads_mem {P : Program} {ms : List Nat} {i : Nat} {h : Heap} : ∀ {lg : List Read}, sameReads P ms i h lg = true → ∀ r ∈ lg, bef ms i r.i = false → sameAt P r.op r.env r.v h = true
  | [], hh, r, hr, hb => by cases hr
  | r' :: lg, hh, r, hr, hb => by
    simp only [sameReads] at hh
    rcases List.mem_cons.1 hr with rfl | hr
    · rw [if_neg (by rw [hb]; simp)] at hh
      simp only [Bool.and_eq_true] at hh
      exact hh.1
    · split at hh
      · exact sameReads_mem hh r hr hb
      · simp only [Bool.and_eq_true] at hh
        exact sameReads_mem hh.2 r hr hb
theorem DInv.acted (hp : PlanR C.ops C.ms C.L) (hi : DInv C listed a w μ dn (p :: R) lg s) (hlt : p.1 < listed.size) (hr : ∀ j, bef C.ms p.1 j = true → isIn listed j = true)
    {a' : Act} {w' : World} {μ' : Mu} {v : AV} {defs' : List ADef} {h' : Heap} (hrun : evalOpsD C.P C.call C.ops.toList C.ms R lg ⟨putE s.env s.n p.2.dst v, s.n, defs', h'⟩ C.K = true)
    (hs : SR C.w0 μ' ⟨putE (envOf C.env0 C.n (isIn listed) dn) C.n p.2.dst v, C.n, defs', h'⟩ a' w') (hx : Ext μ s.h w μ' h' w')
    (hrd : ∀ r ∈ lg, opKind r.op = .read → bef C.ms p.1 r.i = false → readV C.P (evalArg r.env) s.h r.op = some r.v → readV C.P (evalArg r.env) h' r.op = some r.v) :
    DInv C (listed.setIfInBounds p.1 true) a' w' μ' (⟨p.1, p.2, v, s.env, 0, false⟩ :: dn) R lg ⟨putE s.env s.n p.2.dst v, s.n, defs', h'⟩ := by
  have hset := isIn_set hlt
  obtain ⟨hf, hne⟩ := hi.fresh hp (r := p) (by simp)
  refine ⟨by rw [hi.split]; simp, hrun, hi.slots, ?_, by simpa using hi.size, fun i h => ?_, fun d' hd' h => ?_, fun i j h hb => ?_, ?_, hs.defs, hs.good, hi.ext.trans hx, fun pre d ds h => ?_, fun d' hd' h => ?_, fun d' hd' h => ?_, fun d1 h1 d2 h2 hne' a1 a2 => ?_⟩
  · show putE s.env s.n p.2.dst v = _
    simp only [envOf, if_true]
    rw [hi.slots, hi.senv]
  · rw [hset] at h
    simp only [Bool.or_eq_true, decide_eq_true_eq] at h
    rcases h with rfl | h
    · exact ⟨⟨p.1, p.2, v, s.env, 0, false⟩, by simp, rfl⟩
    · obtain ⟨d, hd, e⟩ := hi.inDn i h
      exact ⟨d, by simp [hd], e⟩
  · rw [hset]
    rcases List.mem_cons.1 hd' with rfl | hd'
    · simp
    · rw [hi.effs d' hd' h]; simp
  · rw [hset] at h ⊢
    simp only [Bool.or_eq_true, decide_eq_true_eq] at h ⊢
    rcases h with rfl | h
    · exact .inr (hr j hb)
    · exact .inr (hi.closed i j h hb)
  · have : envOf C.env0 C.n (isIn (listed.setIfInBounds p.1 true)) (⟨p.1, p.2, v, s.env, 0, false⟩ :: dn) = putE (envOf C.env0 C.n (isIn listed) dn) C.n p.2.dst v := by
      simp only [envOf]
      rw [if_pos (by rw [hset]; simp), envOf_congr (S' := isIn listed) (fun x hx => by rw [hset]; simp [hne x hx])]
    rw [this]; exact hs.env
  · cases pre with
    | nil =>
      simp only [List.nil_append, List.cons.injEq] at h
      obtain ⟨rfl, rfl⟩ := h
      exact hi.senv
    | cons x pre =>
      simp only [List.cons_append, List.cons.injEq] at h
      exact hi.denv pre d ds h.2
  · rw [hset] at h
    simp only [Bool.or_eq_false_iff, decide_eq_false_iff_not] at h
    rcases List.mem_cons.1 hd' with rfl | hd'
    · exact absurd rfl h.1
    · obtain ⟨wb, q1, q2, q3⟩ := (hi.pend d' hd' h.2).ex
      refine ⟨wb, q1, q2, fun hw => ?_⟩
      rcases q3 hw with q | ⟨k1, k2, k3⟩ | ⟨k1, k2, k, ob, k3, k4, k5, k6⟩
      · exact .inl q
      · refine .inr (.inl ⟨k1, hrd _ k3 k1 ?_ k2, k3⟩)
        cases hb : bef C.ms p.1 d'.i with
        | false => rfl
        | true => have := hr _ hb; rw [h.2] at this; cases this
      · have hb := hi.blks d' hd' k2
        refine .inr (.inr ⟨k1, k2, k, ob, k3, k4, ?_, fun kk hk => ?_⟩)
        · show h'.get d'.b = some ob
          rw [hx.keep _ hb.2 k6]; exact k5
        · rcases hx.fresh _ kk hk with e | e
          · exact k6 kk e
          · omega
  · rcases List.mem_cons.1 hd' with rfl | hd'
    · cases h
    · have := hi.blks d' hd' h
      exact ⟨this.1, Nat.lt_of_lt_of_le this.2 hx.next⟩
  · rcases List.mem_cons.1 h1 with rfl | h1
    · cases a1
    · rcases List.mem_cons.1 h2 with rfl | h2
      · cases a2
      · exact hi.sep d1 h1 d2 h2 hne' a1 a2
end
end Go.AM
set_option linter.unusedVariables false
set_option linter.unusedSimpArgs false
namespace Go.AM
open Go Go.RowKit
variable {listed : Array Bool}
def leftN (listed : Array Bool) : Nat := ((List.range listed.size).filter fun i => !isIn listed i).length
theorem filter_lt {α : Type} (p q : α → Bool) (hpq : ∀ x, q x = true → p x = true) : ∀ (l : List α) (x : α), x ∈ l → p x = true → q x = false → (l.filter q).length < (l.filter p).length
  | [], x, h, _, _ => by cases h
  | y :: l, x, h, h1, h2 => by
    have le : ∀ l : List α, (l.filter q).length ≤ (l.filter p).length := by
      intro l
      induction l with
      | nil => simp
      | cons z l ih =>
        simp only [List.filter_cons]
        by_cases hq : q z = true
        · rw [if_pos hq, if_pos (hpq z hq)]; simp; exact ih
        · rw [if_neg hq]
          split
          · simp; omega
          · exact ih
    simp only [List.filter_cons]
    rcases List.mem_cons.1 h with rfl | h
    · rw [if_pos h1, if_neg (by rw [h2]; simp)]
      have := le l
      simp; omega
    · have ih := filter_lt p q hpq l x h h1 h2
      by_cases hq : q y = true
      · rw [if_pos hq, if_pos (hpq y hq)]; simp; exact ih
      · rw [if_neg hq]
        split
        · simp; omega
        · exact ih
theorem leftN_set {i : Nat} (hi : i < listed.size) (h : isIn listed i = false) : leftN (listed.setIfInBounds i true) < leftN listed := by
  unfold leftN
  rw [Array.size_setIfInBounds]
  refine filter_lt _ _ (fun x hx => ?_) _ i (by simpa using hi) (by simp [h]) (by rw [isIn_set hi]; simp)
  rw [isIn_set hi] at hx
  simp only [Bool.not_eq_true', Bool.or_eq_false_iff] at hx
  simp [hx.2]
theorem leftN_zero (h : leftN listed = 0) : ∀ i, i < listed.size → isIn listed i = true := by
  intro i hi
  unfold leftN at h
  have := List.eq_nil_of_length_eq_zero h
  rw [List.filter_eq_nil_iff] at this
  simpa using this i (by simpa using hi)
theorem ready_nil {ops : Array Oper} (hs : listed.size = ops.size) (he : ∀ (i : Nat) (o : Oper), ops[i]? = some o → ∀ e ∈ o.after.toList, Region.binds .any e = true → e.on < i) (h : Region.ready .any ops listed = []) :
    ∀ i, i < ops.size → isIn listed i = true := by
  intro i
  induction i using Nat.strongRecOn with
  | ind i ih =>
    intro hi
    cases hl : isIn listed i with
    | true => rfl
    | false =>
      exfalso
      have ho : ops[i]? = some ops[i] := by simp [hi]
      have : i ∈ Region.ready .any ops listed := by
        refine mem_ready.2 ⟨?_, _, ho, fun e hmem hb => ?_⟩
        · have := hl
          unfold isIn at this
          simp only [Array.getD_eq_getD_getElem?] at this ⊢
          rw [Array.getElem?_eq_getElem (by omega)] at this ⊢
          simpa using this
        · have := he i _ ho e (by simpa using hmem) hb
          exact ih e.on this (by omega)
      rw [h] at this; cases this
section
variable {C : DCtx} {listed : Array Bool} {a : Act} {w : World} {μ : Mu} {dn : List Dn} {R : List (Nat × Oper)} {lg : List Read} {s : St}
theorem DInv.done (hp : PlanR C.ops C.ms C.L) (hi : DInv C listed a w μ dn R lg s) (hall : ∀ i, i < C.ops.size → isIn listed i = true) : C.K s = true ∧ SR C.w0 μ s a w ∧ Ext C.μb C.hb C.wb μ s.h w := by
  have hR : R = [] := by
    cases R with
    | nil => rfl
    | cons p R =>
      have hm : p ∈ C.L := by rw [hi.split]; simp
      have hlt := (Array.getElem?_eq_some_iff.1 (hp.mem p hm)).1
      have := (hi.fresh hp (r := p) (by simp)).1
      rw [hall _ hlt] at this; cases this
  subst hR
  have hrun := hi.run
  simp only [evalOpsD] at hrun
  refine ⟨hrun, ⟨?_, hi.defs, hi.good⟩, hi.ext⟩
  have : envOf C.env0 C.n (isIn listed) dn = s.env := by
    rw [hi.senv]
    refine envOf_congr fun x hx => ?_
    have hm : (x.i, x.o) ∈ C.L := by rw [hi.split]; simp; exact ⟨x, hx, rfl, rfl⟩
    exact hall _ (Array.getElem?_eq_some_iff.1 (hp.mem _ hm)).1
  have he := hi.env
  rw [this] at he
  rw [hi.slots]; exact he
theorem wpAny_draw (hp : PlanR C.ops C.ms C.L) (hc : CallSound C.P C.call) {Q : Exit → Act → World → Prop} (hQ : ∀ s' a' w' μ', C.K s' = true → SR C.w0 μ' s' a' w' → Ext C.μb C.hb C.wb μ' s'.h w' → Q .normal a' w') :
    ∀ (fuel : Nat) (listed : Array Bool) (a : Act) (w : World) (μ : Mu) (dn : List Dn) (R : List (Nat × Oper)) (lg : List Read) (s : St), DInv C listed a w μ dn R lg s → leftN listed ≤ fuel → wpAny C.P .any C.ops Q fuel listed a w := by
  have fin : ∀ (listed : Array Bool) (a : Act) (w : World) (μ : Mu) (dn : List Dn) (R : List (Nat × Oper)) (lg : List Read) (s : St), DInv C listed a w μ dn R lg s → Region.ready .any C.ops listed = [] → Q .normal a w := by
    intro listed a w μ dn R lg s hi hr
    obtain ⟨h1, h2, h3⟩ := hi.done hp (ready_nil hi.size hp.edges hr)
    exact hQ _ _ _ _ h1 h2 h3
  intro fuel
  induction fuel with
  | zero =>
    intro listed a w μ dn R lg s hi hl
    have hall := leftN_zero (Nat.le_zero.1 hl)
    have hr : Region.ready .any C.ops listed = [] := by
      cases h : Region.ready .any C.ops listed with
      | nil => rfl
      | cons i l =>
        have hm : i ∈ Region.ready .any C.ops listed := by rw [h]; simp
        obtain ⟨h1, o, ho, _⟩ := mem_ready.1 hm
        have hlt := (Array.getElem?_eq_some_iff.1 ho).1
        have := hall i (by rw [hi.size]; exact hlt)
        unfold isIn at this
        simp only [Array.getD_eq_getD_getElem?] at this h1
        rw [Array.getElem?_eq_getElem (by rw [hi.size]; exact hlt)] at this h1
        simp at this h1
        rw [this] at h1; cases h1
    exact ⟨hr, fin _ _ _ _ _ _ _ _ hi hr⟩
  | succ fuel ih =>
    intro listed a w μ dn R lg s hi0 hl
    refine ⟨fin _ _ _ _ _ _ _ _ hi0, fun i hmem => ?_⟩
    obtain ⟨dn, R, lg, s, hi, hhead⟩ := hi0.advance hp
    obtain ⟨h1, o, ho, _⟩ := mem_ready.1 hmem
    have hlt : i < C.ops.size := (Array.getElem?_eq_some_iff.1 ho).1
    have hlt' : i < listed.size := by rw [hi.size]; exact hlt
    have hS : isIn listed i = false := by
      unfold isIn
      simp only [Array.getD_eq_getD_getElem?] at h1 ⊢
      rw [Array.getElem?_eq_getElem hlt'] at h1 ⊢
      simpa using h1
    have hr : ∀ j, bef C.ms i j = true → isIn listed j = true := fun j hb => by
      rw [hp.masks] at hb
      exact ready_bef (by rw [← hp.masks]; exact hi.closed) hmem hb
    have hl' : leftN (listed.setIfInBounds i true) ≤ fuel := by have := leftN_set hlt' hS; omega
    obtain ⟨p, hpL, hpi⟩ := hp.cover i hlt
    have hpo := hp.mem p hpL
    rw [hpi, ho] at hpo
    obtain ⟨pi, po⟩ := p
    simp only at hpi hpo
    obtain rfl := hpi
    obtain rfl := Option.some.inj hpo
    have hρ : ∀ x, VR C.w0 μ (evalArg (envOf C.env0 C.n (isIn listed) dn) x) (a.eval x) := SR.eval (s := ⟨envOf C.env0 C.n (isIn listed) dn, C.n, s.defs, s.h⟩) ⟨hi.env, hi.defs, hi.good⟩
    have hwant : ∀ b, wantedA C.ops.toList o (envOf C.env0 C.n (isIn listed) dn) = some b → Region.wanted o (yielded C.ops a.tmps) = b := fun b hb => wanted_sim (s := ⟨envOf C.env0 C.n (isIn listed) dn, C.n, s.defs, s.h⟩) hi.env hb
    unfold wpOp
    simp only [ho]
    rw [hi.split, List.mem_append, List.mem_map] at hpL
    rcases hpL with ⟨d, hd, hdo⟩ | hpR
    · 
      rw [List.mem_reverse] at hd
      simp only [Prod.mk.injEq] at hdo
      obtain ⟨rfl, rfl⟩ := hdo
      have hag := hi.agree hp hd hS hr
      have hops : ∀ x ∈ d.o.op.operands, evalArg (envOf C.env0 C.n (isIn listed) dn) x = evalArg d.env x := looks_op hag
      obtain ⟨wb, q1, q2, q3⟩ := (hi.pend d hd hS).ex
      rw [← looks_wanted hag] at q1
      rw [hwant wb q1]
      cases wb with
      | false =>
        simp only [Bool.false_eq_true, if_false]
        have hi' := hi.ran hp hd hS hlt' hr (Mu.le.refl μ) (vc := undef) (by rw [q2 rfl]; exact VR.noV) hi.good hi.ext (fun _ _ _ _ _ h => h)
        exact ih _ _ _ _ _ _ _ _ hi' hl'
      | true =>
        rw [if_pos rfl]
        refine .inl ?_
        rcases q3 rfl with ⟨k1, k2⟩ | ⟨k1, k2, k3⟩ | ⟨k1, k2, k, ob, k3, k4, k5, k6⟩
        · rw [← pureV_congr hops] at k2
          obtain ⟨vc, e1, e2⟩ := pure_sim hρ k1 k2
          unfold Oper.wp
          rw [e1 w, Oper.upon_value]
          exact ih _ _ _ _ _ _ _ _ (hi.ran hp hd hS hlt' hr (Mu.le.refl μ) e2 hi.good hi.ext (fun _ _ _ _ _ h => h)) hl'
        · rw [← readV_congr hops] at k2
          obtain ⟨vc, e1, e2⟩ := read_sim hi.good hρ k1 k2
          unfold Oper.wp
          rw [e1, Oper.upon_value]
          exact ih _ _ _ _ _ _ _ _ (hi.ran hp hd hS hlt' hr (Mu.le.refl μ) e2 hi.good hi.ext (fun _ _ _ _ _ h => h)) hl'
        · rw [← allocV_congr hops] at k3
          obtain ⟨O, n, f, hm⟩ := alloc_sim (w0 := C.w0) (μ := μ) hρ k1 k3
          have hb := hi.blks d hd k2
          have hg' := hi.good.adopt hb.2 k6 k5 O n (hm.obj _)
          have hx' := hi.ext.adopt (n := n) hb.1 k6 O
          unfold Oper.wp
          rw [hm.run w, Oper.upon_value]
          refine ih _ _ _ _ _ _ _ _ (hi.ran hp hd hS hlt' hr (Mu.le_add k6) (by rw [k4]; exact hm.val _ _ _ (Mu.add_same _ _ _)) hg' hx' (fun d' hd' _ hne hal hun kk hk => ?_)) hl'
          rw [Mu.add_m] at hk
          have : d'.b ≠ d.b := hi.sep d' hd' d hd hne hal k2
          rw [if_neg this] at hk
          exact hun kk hk
    · 
      have hRp : ∃ rest, R = (pi, o) :: rest := by
        cases R with
        | nil => cases hpR
        | cons q rest =>
          rcases List.mem_cons.1 hpR with e | hq
          · exact ⟨rest, by rw [e]⟩
          · exfalso
            have hq' := (hi.pairs hp).2.1
            rw [List.pairwise_cons] at hq'
            have hb := (hq'.1 _ hq).eff (hhead q rest rfl)
            have h2 := hr _ hb
            have := (hi.fresh hp (r := q) (by simp)).1
            rw [h2] at this; cases this
      obtain ⟨rest, rfl⟩ := hRp
      have heff := hhead _ _ rfl
      have hk : opKind o.op = .eff := by
        unfold isEff at heff
        simp only at heff
        cases hk : opKind o.op <;> simp [hk] at heff
        rfl
      have hag := hi.agreeHead hp hr
      have hops : ∀ x ∈ o.op.operands, evalArg (envOf C.env0 C.n (isIn listed) dn) x = evalArg s.env x := looks_op (ops := C.ops.toList) hag
      obtain ⟨envs, ns, defss, hs0⟩ := s
      have hrun := hi.run
      simp only [evalOpsD] at hrun
      rw [← looks_wanted (ops := C.ops.toList) hag] at hrun
      split at hrun
      · rename_i hw
        rw [hwant _ hw, if_pos rfl]
        simp only [hk] at hrun
        rw [← stepFn_congr hops] at hrun
        refine .inl ?_
        have hs2 : SR C.w0 μ ⟨envOf C.env0 C.n (isIn listed) dn, C.n, defss, hs0⟩ a w := ⟨hi.env, hi.defs, hi.good⟩
        refine step_wp hs2 hc ⟨fun v defs' h' a' w' μ' hK hs' hx => ?_, fun v vc h' w' μ' hK _ _ _ => by cases hK⟩ hrun
        simp only at hK
        split at hK
        · rename_i hsr
          refine ih _ _ _ _ _ _ _ _ (hi.acted hp hlt' hr (putK_eq hK) hs' hx (fun r hr2 hk2 hb hv => ?_)) hl'
          exact sameAt_read hk2 (sameReads_mem hsr r hr2 hb)
        · cases hK
      · rename_i hw
        rw [hwant _ hw]
        simp only [Bool.false_eq_true, if_false]
        have hs2 : SR C.w0 μ ⟨envOf C.env0 C.n (isIn listed) dn, C.n, defss, hs0⟩ a w := ⟨hi.env, hi.defs, hi.good⟩
        have hs3 := hs2.left o.dst (h' := hs0) VR.noV hi.good (Mu.le.refl μ)
        exact ih _ _ _ _ _ _ _ _ (hi.acted hp hlt' hr (v := noV) (putK_eq hrun) hs3 (Ext.refl _ _ _) (fun r _ _ _ hv => hv)) hl'
      · cases hrun
end
theorem draw_wp {P : Program} {w0 w : World} {μ : Mu} {s : St} {a : Act} (hm : P.follows .mixedOrders = true) {call : CallF} (hc : CallSound P call) {id : Nat} {ops : Array Oper} {plan : Plan} (hp : planD ops.toList = some plan) {K : St → Bool}
    {Q : Exit → Act → World → Prop} (hs : SR w0 μ s a w) (hQ : ∀ s' a' w' μ', K s' = true → SR w0 μ' s' a' w' → Ext μ s.h w μ' s'.h w' → Q .normal a' w')
    (h : evalOpsD P call ops.toList plan.ms plan.L [] s K = true) : (Code.region id ops true).wp P Q a w := by
  refine wp_region_any hm ?_
  let C : DCtx := ⟨P, call, ops, plan.ms, plan.L, K, w0, μ, s.h, w, s.env, s.n⟩
  have hpl : PlanR C.ops C.ms C.L := planD_spec hp
  have hin : ∀ k, isIn (Array.replicate ops.size false) k = false := fun k => by
    unfold isIn
    simp only [Array.getD_eq_getD_getElem?, Array.getElem?_replicate]
    split <;> rfl
  have hi : DInv C (Array.replicate ops.size false) a { w with drawn := w.drawn + 1 } μ [] plan.L [] s := by
    refine ⟨rfl, h, rfl, rfl, by simp [C], fun i hh => ?_, by simp, fun i j hh => ?_, hs.env, hs.defs, hs.good.same rfl rfl rfl rfl, ?_, by simp, by simp, by simp, by simp⟩
    · rw [hin] at hh; cases hh
    · rw [hin] at hh; cases hh
    · exact ⟨Mu.le.refl μ, fun _ _ _ => rfl, fun _ _ h => .inl h, ZrF _, ZrF _, fun _ _ _ => rfl, fun _ _ h => .inl h, fun _ _ h => .inl h⟩
  refine wpAny_draw hpl hc hQ _ _ _ _ _ _ _ _ _ hi ?_
  unfold leftN
  refine Nat.le_trans (List.length_filter_le _ _) ?_
  simp [C]
end Go.AM
