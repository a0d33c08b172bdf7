/- A frame's steps: calls, deferred calls, panics, regions in the text's order. Conditions: none. -/
import Derived.Test.YthmbnnjimbjplaaGreatDoorAmStep
import Derived.Defers
set_option linter.unusedVariables false
set_option linter.unusedSimpArgs false
namespace Go.AM
open Go Go.RowKit

/-- A deferred call. -/
structure DefR (w0 : World) (μ : Mu) (d : ADef) (D : Deferred) : Prop where
  ex : ∃ cap args : List Value, D = { target := .fn (.func d.f) cap.toArray, args := args.toArray } ∧ VRL w0 μ d.args args ∧ VRL w0 μ d.cap cap
inductive DefsR (w0 : World) (μ : Mu) : List ADef → List Deferred → Prop where
  | nil : DefsR w0 μ [] []
  | cons {d : ADef} {D : Deferred} {ds : List ADef} {Ds : List Deferred} (h : DefR w0 μ d D) (t : DefsR w0 μ ds Ds) : DefsR w0 μ (d :: ds) (D :: Ds)

/-- A frame's slots. -/
def EnvR (w0 : World) (μ : Mu) (env : Env) (n : Nat) (tmps : Array Value) : Prop := tmps.size = n ∧ ∀ t, VR w0 μ (env t) (tmps.getD t undef)

structure SR (w0 : World) (μ : Mu) (s : St) (a : Act) (w : World) : Prop where
  env : EnvR w0 μ s.env s.n a.tmps
  defs : DefsR w0 μ s.defs a.defers
  good : Good w0 μ s.h w

section
variable {P : Program} {w0 w : World} {μ μ' : Mu} {h h' : Heap} {s : St} {a : Act}

theorem DefsR.mono (hm : μ.le μ') {ds : List ADef} {Ds : List Deferred} (h : DefsR w0 μ ds Ds) : DefsR w0 μ' ds Ds := by
  induction h with
  | nil => exact .nil
  | cons h t ih => obtain ⟨c, x, e, a, b⟩ := h; exact .cons ⟨c, x, e, a.mono hm, b.mono hm⟩ ih
theorem EnvR.mono (hm : μ.le μ') {env : Env} {n : Nat} {tmps : Array Value} (h : EnvR w0 μ env n tmps) : EnvR w0 μ' env n tmps := ⟨h.1, fun t => (h.2 t).mono hm⟩

theorem setV_eq (env : Env) (d : Nat) (v : AV) (t : Nat) : setV env d v t = if t = d then v else env t := by
  unfold setV
  cases h : Nat.beq t d with
  | true => rw [if_pos (Nat.eq_of_beq_eq_true h)]
  | false => rw [if_neg (Nat.ne_of_beq_eq_false h)]
theorem putK_eq {env : Env} {n : Nat} {dst : Option Tmp} {v : AV} {k : Env → Bool} (h : putK env n dst v k = true) : k (putE env n dst v) = true := by
  cases dst with
  | none => exact h
  | some d =>
    simp only [putK] at h
    simp only [putE]
    cases hb : Nat.ble (d + 1) n with
    | false => rw [hb] at h; cases h
    | true =>
      rw [hb] at h
      have : d < n := Nat.le_of_ble_eq_true hb
      rw [if_pos this]; exact h

theorem EnvR.put {env : Env} {n : Nat} {tmps : Array Value} (h : EnvR w0 μ env n tmps) (dst : Option Tmp) {v : AV} {vc : Value} (hv : VR w0 μ v vc) : EnvR w0 μ (putE env n dst v) n (match dst with | some d => tmps.setIfInBounds d vc | none => tmps) := by
  cases dst with
  | none => exact h
  | some d =>
    refine ⟨by simpa using h.1, fun t => ?_⟩
    have ht := h.2 t
    simp only [putE]
    by_cases hd : d < n
    · rw [if_pos hd]
      rw [setV_eq]
      by_cases e : t = d
      · subst e
        rw [if_pos rfl]
        have : (tmps.setIfInBounds t vc).getD t undef = vc := by simp [Array.getD, show t < tmps.size by rw [h.1]; exact hd]
        rw [this]; exact hv
      · rw [if_neg e]
        have : (tmps.setIfInBounds d vc).getD t undef = tmps.getD t undef := by
          simp only [Array.getD_eq_getD_getElem?]
          rw [Array.getElem?_setIfInBounds_ne (fun q => e q.symm)]
        rw [this]; exact ht
    · rw [if_neg hd]
      have : (tmps.setIfInBounds d vc) = tmps := Array.setIfInBounds_eq_of_size_le (h.1 ▸ Nat.le_of_not_lt hd)
      rw [this]; exact ht

theorem Act.put_tmps (a : Act) (dst : Option Tmp) (v : Value) : (a.put dst v).tmps = (match dst with | some d => a.tmps.setIfInBounds d v | none => a.tmps) := by cases dst <;> rfl
theorem Act.put_defers' (a : Act) (dst : Option Tmp) (v : Value) : (a.put dst v).defers = a.defers := by cases dst <;> rfl

/-- The frame after an operation that left a value. -/
theorem SR.left (hs : SR w0 μ s a w) (dst : Option Tmp) {v : AV} {vc : Value} {w' : World} (hv : VR w0 μ' v vc) (hg : Good w0 μ' h' w') (hm : μ.le μ') : SR w0 μ' (s.putH h' dst v) (a.put dst vc) w' :=
  ⟨by rw [Act.put_tmps]; exact (hs.env.mono hm).put dst hv, by rw [Act.put_defers']; exact hs.defs.mono hm, hg⟩
theorem SR.moved (hs : SR w0 μ s a w) {w' : World} (hg : Good w0 μ' h' w') (hm : μ.le μ') : SR w0 μ' ⟨s.env, s.n, s.defs, h'⟩ a w' :=
  ⟨hs.env.mono hm, hs.defs.mono hm, hg⟩

theorem SR.eval (hs : SR w0 μ s a w) : ∀ x, VR w0 μ (evalArg s.env x) (a.eval x) := by
  intro x
  cases x with
  | tmp t => exact hs.env.2 t
  | const v => exact VR.ofConst v
  | global g => exact .undef _
  | func f => exact .func f [] [] [] [] rfl rfl (by simp) (by simp)

theorem wanted_sim (hs : EnvR w0 μ s.env s.n a.tmps) {ops : Array Oper} {o : Oper} {b : Bool} (h : wantedA ops.toList o s.env = some b) : Region.wanted o (yielded ops a.tmps) = b := by
  unfold wantedA at h
  unfold Region.wanted
  split at h
  · rename_i hg; rw [hg]; simpa using h
  · rename_i j want hg
    rw [hg]
    simp only
    split at h
    · rename_i g hj
      split at h
      · rename_i d hd
        have hj' : ops[j]? = some g := by rw [Array.getElem?_toList] at hj; exact hj
        have ht := hs.2 d
        have key : ∀ v : Value, VR w0 μ (s.env d) v → v = a.tmps.getD d undef → (yielded ops a.tmps j == some want) = b := by
          intro v hv he
          unfold yielded
          simp only [hj', Option.bind_some, hd]
          split at h
          · rename_i b' hb
            rw [hb] at hv
            cases h
            rw [hv.bool_inv] at he
            by_cases hlt : d < a.tmps.size
            · have : a.tmps[d]? = some (.bool b') := by
                simp [Array.getD, hlt] at he
                simp [hlt, he]
              rw [this]; simp
            · simp [Array.getD, hlt, undef] at he
          · rename_i vs hb
            rw [hb] at hv
            cases h
            obtain ⟨us, rfl, _⟩ := hv.tuple_inv
            by_cases hlt : d < a.tmps.size
            · have : a.tmps[d]? = some (.tuple us.toArray) := by
                simp [Array.getD, hlt] at he
                simp [hlt, he]
              rw [this]; simp
            · have : a.tmps[d]? = none := Array.getElem?_eq_none (Nat.le_of_not_lt hlt)
              rw [this]; simp
          · cases h
        exact key _ ht rfl
      · cases h
    · cases h

/-! ### What a function that is called must keep -/
def OutR (w0 : World) (μ : Mu) (h : Heap) (w : World) (K : Out → Heap → Bool) : Ending → World → Prop
  | .returned vc, w' => ∃ v h' μ', K (.ret v) h' = true ∧ VR w0 μ' v vc ∧ Good w0 μ' h' w' ∧ Ext μ h w μ' h' w'
  | .panicked chain, w' => ∃ v vc h' μ', K (.panic v) h' = true ∧ chain = [{ v := vc, recovered := false }] ∧ VR w0 μ' v vc ∧ Good w0 μ' h' w' ∧ Ext μ h w μ' h' w'
  | .outgrown, _ => False

def Enters (P : Program) (f : FuncId) : Prop := ∃ fn c, P.funcs[f]? = some fn ∧ fn.body = some c ∧ fn.name ≠ "runtime.NumGoroutine"
theorem run_callFunc {f : FuncId} (he : Enters P f) (args : Array Value) : (callFunc f args).run P w = .ok (.enter f args) w := by
  obtain ⟨fn, c, h1, h2, h3⟩ := he
  simp [callFunc, h1, h2, h3]

def CallSound (P : Program) (call : CallF) : Prop :=
  ∀ f args h K, call f args h K = true → Enters P f ∧ ∀ (w0 : World) (μ : Mu) (w : World) (vs : List Value), Good w0 μ h w → VRL w0 μ args vs → Calls P f vs.toArray w (OutR w0 μ h w K)

/-- What a step may leave: its outcomes lead on. -/
structure Leads (w0 : World) (μ : Mu) (s : St) (a : Act) (w : World) (dst : Option Tmp) (K : R → Bool) (next : Act → World → Prop) (Q : Exit → Act → World → Prop) : Prop where
  ok : ∀ (v : AV) (defs' : List ADef) (h' : Heap) (a' : Act) (w' : World) (μ' : Mu), K (.ok v defs' h') = true → SR w0 μ' ⟨putE s.env s.n dst v, s.n, defs', h'⟩ a' w' → Ext μ s.h w μ' h' w' → next a' w'
  panic : ∀ (v : AV) (vc : Value) (h' : Heap) (w' : World) (μ' : Mu), K (.panic v h') = true → VR w0 μ' v vc → SR w0 μ' ⟨s.env, s.n, s.defs, h'⟩ a w' → Ext μ s.h w μ' h' w' → Q (.panic [{ v := vc, recovered := false }]) a w'

theorem plain_wp (hs : SR w0 μ s a w) {o : Oper} {K : R → Bool} {next : Act → World → Prop} {Q : Exit → Act → World → Prop} (hl : Leads w0 μ s a w o.dst K next Q) {call : CallF}
    (h : stPlain o.op P call s.env s.defs s.h K = true) : o.wp P a w next Q := by
  obtain ⟨v, h', vc, w', μ', hK, hr, hv, hg, hx⟩ := op_sim hs.good hs.eval h
  unfold Oper.wp
  rcases hr with hr | ⟨rfl, hr⟩
  · rw [hr]; exact hl.ok _ _ _ _ _ _ hK (hs.left o.dst hv hg hx.mono) hx
  · rw [hr]; exact hl.ok _ _ _ _ _ _ hK (hs.left o.dst hv hg hx.mono) hx

theorem call_wp (hs : SR w0 μ s a w) {call : CallF} (hc : CallSound P call) {o : Oper} {c : Call} (ho : o.op = .call c) {K : R → Bool} {next : Act → World → Prop} {Q : Exit → Act → World → Prop} (hl : Leads w0 μ s a w o.dst K next Q)
    (h : stCall c P call s.env s.defs s.h K = true) : o.wp P a w next Q := by
  obtain ⟨cal, args, ts⟩ := c
  cases cal with
  | builtin b => exact plain_wp hs hl (call := call) (by rw [ho]; exact h)
  | invoke r m => exact plain_wp hs hl (call := call) (by rw [ho]; exact h)
  | value f =>
    simp only [stCall, stCallV] at h
    split at h
    · rename_i g first cap hf
      obtain ⟨he, hcalls⟩ := hc _ _ _ _ h
      have hfv := hs.eval f
      rw [hf] at hfv
      generalize hfe : a.eval f = fv at hfv
      cases hfv
      rename_i us vs h1 r1 h2 r2
      have hargs : VRL w0 μ (args.toList.map (evalArg s.env)) (args.toList.map a.eval) := VRL.map _ fun x _ => hs.eval x
      have hall := (VRL.mk h1 r1).append (hargs.append (VRL.mk h2 r2))
      have hcl := hcalls w0 μ w _ hs.good hall
      have hrun : (execOp a.eval o).run P w = .ok (.enter g (us ++ (args.toList.map a.eval ++ vs)).toArray) w := by
        have e : us.toArray ++ args.map a.eval ++ vs.toArray = (us ++ (args.toList.map a.eval ++ vs)).toArray := by
          apply Array.ext'; simp
        simp only [execOp, ho, resolve, hfe, Deferred.ofValue, Sem.run_bind, Sem.run_pure, Result.andThen_ok, invoke, run_callFunc he, e]
      unfold Oper.wp
      rw [hrun, Oper.upon_enter]
      refine Calls.mono hcl fun e w' hR => ?_
      cases e with
      | returned vc =>
        obtain ⟨v, h', μ', hK, hv, hg, hx⟩ := hR
        exact hl.ok _ _ _ _ _ _ hK (hs.left o.dst hv hg hx.mono) hx
      | panicked chain =>
        obtain ⟨v, vc, h', μ', hK, rfl, hv, hg, hx⟩ := hR
        exact hl.panic _ _ _ _ _ hK hv (hs.moved hg hx.mono) hx
      | outgrown => exact hR.elim
    · cases h

theorem defer_wp (hs : SR w0 μ s a w) {call : CallF} {o : Oper} {c : Call} (ho : o.op = .defer c) {K : R → Bool} {next : Act → World → Prop} {Q : Exit → Act → World → Prop} (hl : Leads w0 μ s a w o.dst K next Q)
    (h : stDefer c P call s.env s.defs s.h K = true) : o.wp P a w next Q := by
  obtain ⟨cal, args, ts⟩ := c
  cases cal with
  | builtin b => cases h
  | invoke r m => cases h
  | value f =>
    simp only [stDefer] at h
    split at h
    · rename_i g first cap hf
      have hfv := hs.eval f
      rw [hf] at hfv
      generalize hfe : a.eval f = fv at hfv
      cases hfv
      rename_i us vs h1 r1 h2 r2
      have hargs : VRL w0 μ (args.toList.map (evalArg s.env)) (args.toList.map a.eval) := VRL.map _ fun x _ => hs.eval x
      have hall := (VRL.mk h1 r1).append hargs
      have hrun : (execOp a.eval o).run P w = .ok (.defer { target := .fn (.func g) vs.toArray, args := (us ++ args.toList.map a.eval).toArray }) w := by
        have e : us.toArray ++ args.map a.eval = (us ++ args.toList.map a.eval).toArray := by
          apply Array.ext'; simp
        simp only [execOp, ho, resolve, hfe, Deferred.ofValue, Sem.run_bind, Sem.run_pure, Result.andThen_ok, e]
      unfold Oper.wp
      rw [hrun, Oper.upon_defer]
      have hs' : SR w0 μ (St.mk s.env s.n (⟨g, first ++ args.toList.map (evalArg s.env), cap⟩ :: s.defs) s.h) { a with defers := { target := .fn (.func g) vs.toArray, args := (us ++ args.toList.map a.eval).toArray } :: a.defers } w :=
        ⟨hs.env, .cons ⟨vs, _, rfl, hall, ⟨h2, r2⟩⟩ hs.defs, hs.good⟩
      exact hl.ok _ _ _ _ _ _ h (hs'.left o.dst VR.noV hs.good (Mu.le.refl μ)) (Ext.refl _ _ _)
    · cases h

theorem panic_wp (hs : SR w0 μ s a w) {call : CallF} {o : Oper} {x : Operand} (ho : o.op = .panic x) {K : R → Bool} {next : Act → World → Prop} {Q : Exit → Act → World → Prop} (hl : Leads w0 μ s a w o.dst K next Q)
    (h : stPanic x P call s.env s.defs s.h K = true) : o.wp P a w next Q := by
  simp only [stPanic] at h
  split at h
  · rename_i t v hx
    have hv := hs.eval x
    rw [hx] at hv
    generalize he : a.eval x = xv at hv
    cases hv
    rename_i vc hvc
    have hrun : (execOp a.eval o).run P w = .halt (.panic (.iface t vc)) w := by
      simp [execOp, ho, he, Instr.panic]
    unfold Oper.wp
    rw [hrun, Oper.upon_panic]
    exact hl.panic _ _ _ _ _ h (.iface t v vc hvc) hs (Ext.refl _ _ _)
  · cases h

theorem allNext_mem {defs : List ADef} {K : R → Bool} : ∀ {L : List (AV × Heap)}, allNext defs K L = true → ∀ p ∈ L, K (.ok p.1 defs p.2) = true
  | [], _, p, hp => by cases hp
  | q :: L, h, p, hp => by
    simp only [allNext, Bool.and_eq_true] at h
    rcases List.mem_cons.1 hp with rfl | hp
    · exact h.1
    · exact allNext_mem h.2 p hp

theorem next_wp (hs : SR w0 μ s a w) {call : CallF} {o : Oper} {x : Operand} {b : Bool} (ho : o.op = .next x b) {K : R → Bool} {next : Act → World → Prop} {Q : Exit → Act → World → Prop} (hl : Leads w0 μ s a w o.dst K next Q)
    (h : stNext x b P call s.env s.defs s.h K = true) : o.wp P a w next Q := by
  obtain ⟨L, hL, hh⟩ := bindO_eq h
  obtain ⟨p, vc, w', μ', hp, hr, hv, hg, hx⟩ := next_sim (P := P) hs.good (hs.eval x) hL o.type
  have hrun : (execOp a.eval o).run P w = .ok (.value vc) w' := by simp [execOp, ho, hr]
  unfold Oper.wp
  rw [hrun]
  exact hl.ok _ _ _ _ _ _ (allNext_mem hh p hp) (hs.left o.dst hv hg hx.mono) hx

/-- ONE OPERATION. -/
theorem step_wp (hs : SR w0 μ s a w) {call : CallF} (hc : CallSound P call) {o : Oper} {K : R → Bool} {next : Act → World → Prop} {Q : Exit → Act → World → Prop} (hl : Leads w0 μ s a w o.dst K next Q)
    (h : stepFn o.op P call s.env s.defs s.h K = true) : o.wp P a w next Q := by
  cases ho : o.op <;> rw [ho] at h <;> simp only [stepFn] at h
  case call c => exact call_wp hs hc ho hl h
  case defer c => exact defer_wp hs ho hl h
  case panic x => exact panic_wp hs ho hl h
  case next x b => exact next_wp hs ho hl h
  all_goals exact plain_wp hs hl (call := call) (by rw [ho]; exact h)

/-- What a region may leave. -/
structure LeadsR (w0 : World) (μ : Mu) (h : Heap) (w : World) (K : RS → Bool) (Q : Exit → Act → World → Prop) : Prop where
  ok : ∀ (s' : St) (a' : Act) (w' : World) (μ' : Mu), K (.ok s') = true → SR w0 μ' s' a' w' → Ext μ h w μ' s'.h w' → Q .normal a' w'
  panic : ∀ (v : AV) (vc : Value) (s' : St) (a' : Act) (w' : World) (μ' : Mu), K (.panic v s') = true → VR w0 μ' v vc → SR w0 μ' s' a' w' → Ext μ h w μ' s'.h w' → Q (.panic [{ v := vc, recovered := false }]) a' w'
theorem LeadsR.after {K : RS → Bool} {Q : Exit → Act → World → Prop} (hl : LeadsR w0 μ h w K Q) {w' : World} (hx : Ext μ h w μ' h' w') : LeadsR w0 μ' h' w' K Q :=
  ⟨fun s2 a2 w2 μ2 k2 r2 x2 => hl.ok s2 a2 w2 μ2 k2 r2 (hx.trans x2), fun v vc s2 a2 w2 μ2 k2 v2 r2 x2 => hl.panic v vc s2 a2 w2 μ2 k2 v2 r2 (hx.trans x2)⟩

/-- A REGION IN THE TEXT's ORDER. -/
theorem ops_wp {call : CallF} (hc : CallSound P call) {ops : Array Oper} {K : RS → Bool} {Q : Exit → Act → World → Prop} : ∀ (l : List Oper) (i : Nat) (s : St) (a : Act) (w : World) (μ : Mu), (∀ j o, l[j]? = some o → ops[i + j]? = some o) →
    SR w0 μ s a w → (hl : LeadsR w0 μ s.h w K Q) → evalOps P call ops.toList l s K = true → wpOps P ops Q (List.range' i l.length) a w
  | [], i, s, a, w, μ, hi, hs, hl, h => by
    simp only [List.length_nil, List.range'_zero, wpOps]
    exact hl.ok _ _ _ _ h hs (Ext.refl _ _ _)
  | o :: rest, i, s, a, w, μ, hi, hs, hl, h => by
    have hio : ops[i]? = some o := by simpa using hi 0 o rfl
    obtain ⟨env, n, defs, hp⟩ := s
    simp only [List.length_cons, List.range'_succ, wpOps, hio]
    simp only [evalOps] at h
    have hi' : ∀ j o', rest[j]? = some o' → ops[i + 1 + j]? = some o' := fun j o' hj => by
      have := hi (j + 1) o' (by simpa using hj)
      rwa [show i + 1 + j = i + (j + 1) by omega]
    split at h
    · rename_i hw
      rw [wanted_sim hs.env hw, if_pos rfl]
      refine .inl (step_wp hs hc ⟨fun v defs' h' a' w' μ' hK hs' hx => ?_, fun v vc h' w' μ' hK hv hs' hx => ?_⟩ h)
      · exact ops_wp hc rest (i + 1) _ a' w' μ' hi' hs' (hl.after hx) (putK_eq hK)
      · exact hl.panic v vc _ a w' μ' hK hv hs' hx
    · rename_i hw
      rw [wanted_sim hs.env hw]
      simp only [Bool.false_eq_true, if_false]
      have hs' := hs.left o.dst (h' := hp) VR.noV hs.good (Mu.le.refl μ)
      exact ops_wp hc rest (i + 1) ⟨putE env n o.dst noV, n, defs, hp⟩ _ w μ hi' hs' hl (putK_eq h)
    · cases h
end
end Go.AM
