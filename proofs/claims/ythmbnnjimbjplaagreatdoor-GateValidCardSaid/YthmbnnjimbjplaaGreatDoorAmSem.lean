/- What a call is known to do, as a proposition; code with loops by invariants. Conditions: none. -/
import Derived.Test.YthmbnnjimbjplaaGreatDoorAmRen
set_option linter.unusedVariables false
set_option linter.unusedSimpArgs false
namespace Go.AM
open Go Go.RowKit
noncomputable section

/-- Whatever a call may come to, K says yes. -/
def Sem (P : Program) (f : FuncId) (args : List AV) (h : Heap) (K : Out → Heap → Bool) : Prop :=
  Enters P f ∧ ∀ (w0 : World) (μ : Mu) (w : World) (vs : List Value), Good w0 μ h w → VRL w0 μ args vs → Calls P f vs.toArray w (OutR w0 μ h w K)

theorem OutR.mono {w0 w : World} {μ : Mu} {h : Heap} {K K' : Out → Heap → Bool} (hk : ∀ o h', K o h' = true → K' o h' = true) {e : Ending} {w' : World} (hr : OutR w0 μ h w K e w') : OutR w0 μ h w K' e w' := by
  cases e with
  | returned vc => obtain ⟨v, h', μ', k1, k2⟩ := hr; exact ⟨v, h', μ', hk _ _ k1, k2⟩
  | panicked c => obtain ⟨v, vc, h', μ', k1, k2⟩ := hr; exact ⟨v, vc, h', μ', hk _ _ k1, k2⟩
  | outgrown => exact hr.elim
theorem Sem.mono {P : Program} {f : FuncId} {args : List AV} {h : Heap} {K K' : Out → Heap → Bool} (hs : Sem P f args h K) (hk : ∀ o h', K o h' = true → K' o h' = true) : Sem P f args h K' :=
  ⟨hs.1, fun w0 μ w vs hg hv => (hs.2 w0 μ w vs hg hv).mono fun _ _ hr => hr.mono hk⟩

def semCall (P : Program) : CallF := fun f args h K => @decide (Sem P f args h K) (Classical.propDecidable _)
theorem semCall_sound (P : Program) : CallSound P (semCall P) := fun f args h K hh => @of_decide_eq_true _ (Classical.propDecidable _) hh
theorem semCall_true {P : Program} {f : FuncId} {args : List AV} {h : Heap} {K : Out → Heap → Bool} (hs : Sem P f args h K) : semCall P f args h K = true := @decide_eq_true _ (Classical.propDecidable _) hs
theorem CallSound.sem {P : Program} {call : CallF} (hc : CallSound P call) {f : FuncId} {args : List AV} {h : Heap} {K : Out → Heap → Bool} (hh : call f args h K = true) : Sem P f args h K := hc f args h K hh
theorem PrimsSound.sem {P : Program} {F : Prims} (hF : PrimsSound P F) {f : FuncId} {g : List AV → Heap → (Out → Heap → Bool) → Bool} (hg : F f = some g) {args : List AV} {h : Heap} {K : Out → Heap → Bool} (hh : g args h K = true) : Sem P f args h K := hF f g hg args h K hh

/-- A proposition, as an answer. -/
def yes (p : Prop) : Bool := @decide p (Classical.propDecidable _)
theorem yes_eq {p : Prop} : yes p = true ↔ p := @decide_eq_true_iff p (Classical.propDecidable _)

/-! ### Code -/
theorem runB_ex : ∃ r : (St → (AX → St → Bool) → Bool) → St → (AX → St → Bool) → Bool, ∀ f s K, r f s K = f s K := ⟨fun f s K => f s K, fun _ _ _ => rfl⟩
/-- Go on, unseen by the kernel. -/
def runB : (St → (AX → St → Bool) → Bool) → St → (AX → St → Bool) → Bool := Classical.choose runB_ex
theorem runB_eq (f : St → (AX → St → Bool) → Bool) (s : St) (K : AX → St → Bool) : runB f s K = f s K := Classical.choose_spec runB_ex f s K
def seqK (j : Bool) (b : St → (AX → St → Bool) → Bool) (K : AX → St → Bool) : AX → St → Bool
  | .normal, s' => @Bool.rec (fun _ => Bool) (b s' K) (runB b s' K) j
  | .exit id, s' => K (.exit id) s'
  | .ret, s' => K .ret s'
  | .panic v, s' => K (.panic v) s'
theorem seqK_normal (j : Bool) (b : St → (AX → St → Bool) → Bool) (K : AX → St → Bool) (s : St) : seqK j b K .normal s = b s K := by
  cases j
  · rfl
  · exact runB_eq b s K
def blockK (id : Nat) (K : AX → St → Bool) : AX → St → Bool
  | .normal, s' => K .normal s'
  | .exit id', s' => @Bool.rec (fun _ => Bool) (K (.exit id') s') (K .normal s') (Nat.beq id' id)
  | .ret, s' => K .ret s'
  | .panic v, s' => K (.panic v) s'
def condB (x : AV) (a b : Bool) : Bool :=
  match x with
  | .bool t => @Bool.rec (fun _ => Bool) b a t
  | _ => false
/-- A round of a loop: the relation holds again, at a smaller number; or the loop is left. -/
def loopK (I : Nat → St → Prop) (n : Nat) (K : AX → St → Bool) : AX → St → Bool
  | .normal, s' => yes (∃ m, m < n ∧ I m s')
  | .exit id, s' => K (.exit id) s'
  | .ret, s' => K .ret s'
  | .panic v, s' => K (.panic v) s'
def loopB (f : St → (AX → St → Bool) → Bool) (s : St) (K : AX → St → Bool) : Bool :=
  yes (∃ I : Nat → St → Prop, (∃ n, I n s) ∧ ∀ n s', I n s' → f s' (loopK I n K) = true)
def dstAt (ops : List Oper) (j : Nat) : Option Tmp := match ops[j]? with | some g => g.dst | none => none
def memN (j : Nat) : List Nat → Bool
  | [] => false
  | k :: ks => @Bool.rec (fun _ => Bool) (memN j ks) true (Nat.beq j k)
/-- A region in the text's order; what a guard said is written down; sk: what was passed by. -/
def evalOpsG (P : Program) (call : CallF) (ops : List Oper) : List Oper → Nat → List Nat → St → (RS → Bool) → Bool
  | [], _, _, s, K => K (.ok s)
  | o :: rest, i, sk, ⟨env, n, defs, h⟩, K =>
    match o.guard with
    | none => stepFn o.op P call env defs h fun
      | .ok v defs h => putK env n o.dst v fun env => evalOpsG P call ops rest (i + 1) sk ⟨env, n, defs, h⟩ K
      | .panic v h => K (.panic v ⟨env, n, defs, h⟩)
    | some (j, want) => match dstAt ops j with
      | none => false
      | some d => @Bool.rec (fun _ => Bool)
        (condB (env d)
          (@Bool.rec (fun _ => Bool) (putK (setV env d (.bool true)) n o.dst noV fun env => evalOpsG P call ops rest (i + 1) (i :: sk) ⟨env, n, defs, h⟩ K)
            (stepFn o.op P call (setV env d (.bool true)) defs h fun
              | .ok v defs h => putK (setV env d (.bool true)) n o.dst v fun env => evalOpsG P call ops rest (i + 1) sk ⟨env, n, defs, h⟩ K
              | .panic v h => K (.panic v ⟨setV env d (.bool true), n, defs, h⟩)) want)
          (@Bool.rec (fun _ => Bool) (stepFn o.op P call (setV env d (.bool false)) defs h fun
              | .ok v defs h => putK (setV env d (.bool false)) n o.dst v fun env => evalOpsG P call ops rest (i + 1) sk ⟨env, n, defs, h⟩ K
              | .panic v h => K (.panic v ⟨setV env d (.bool false), n, defs, h⟩))
            (putK (setV env d (.bool false)) n o.dst noV fun env => evalOpsG P call ops rest (i + 1) (i :: sk) ⟨env, n, defs, h⟩ K) want))
        (match env d with
          | .tuple _ => putK env n o.dst noV fun env => evalOpsG P call ops rest (i + 1) (i :: sk) ⟨env, n, defs, h⟩ K
          | _ => false) (memN j sk)
/-- A region that draws its order; what a guard said is written down. -/
def evalOpsDG (P : Program) (call : CallF) (ops : List Oper) (ms : List Nat) : List (Nat × Oper) → List Read → List Nat → St → (St → Bool) → Bool
  | [], _, _, s, K => K s
  | p :: rest, lg, sk, ⟨env, n, defs, h⟩, K =>
    @Option.rec (Nat × Bool) (fun _ => Bool)
      (match opKind p.2.op with
      | .pure => opFn p.2.op P (evalArg env) h fun v _ => putK env n p.2.dst v fun env' => evalOpsDG P call ops ms rest lg sk ⟨env', n, defs, h⟩ K
      | .read => opFn p.2.op P (evalArg env) h fun v _ => putK env n p.2.dst v fun env' => evalOpsDG P call ops ms rest (⟨p.1, p.2.op, env, v⟩ :: lg) sk ⟨env', n, defs, h⟩ K
      | .alloc => opFn p.2.op P (evalArg env) h fun v h' => putK env n p.2.dst v fun env' => evalOpsDG P call ops ms rest lg sk ⟨env', n, defs, h'⟩ K
      | .eff =>
        stepFn p.2.op P call env defs h fun
          | .ok v defs' h' => if sameReads P ms p.1 h' lg then putK env n p.2.dst v fun env' => evalOpsDG P call ops ms rest lg sk ⟨env', n, defs', h'⟩ K else false
          | .panic _ _ => false)
      (fun g => match dstAt ops g.1 with
        | none => false
        | some d => @Bool.rec (fun _ => Bool)
          (condB (env d)
            (@Bool.rec (fun _ => Bool) (putK (setV env d (.bool true)) n p.2.dst noV fun env' => evalOpsDG P call ops ms rest lg (p.1 :: sk) ⟨env', n, defs, h⟩ K)
              (match opKind p.2.op with
              | .pure => opFn p.2.op P (evalArg (setV env d (.bool true))) h fun v _ => putK (setV env d (.bool true)) n p.2.dst v fun env' => evalOpsDG P call ops ms rest lg sk ⟨env', n, defs, h⟩ K
              | .read => opFn p.2.op P (evalArg (setV env d (.bool true))) h fun v _ => putK (setV env d (.bool true)) n p.2.dst v fun env' => evalOpsDG P call ops ms rest (⟨p.1, p.2.op, setV env d (.bool true), v⟩ :: lg) sk ⟨env', n, defs, h⟩ K
              | .alloc => opFn p.2.op P (evalArg (setV env d (.bool true))) h fun v h' => putK (setV env d (.bool true)) n p.2.dst v fun env' => evalOpsDG P call ops ms rest lg sk ⟨env', n, defs, h'⟩ K
              | .eff =>
                stepFn p.2.op P call (setV env d (.bool true)) defs h fun
                  | .ok v defs' h' => if sameReads P ms p.1 h' lg then putK (setV env d (.bool true)) n p.2.dst v fun env' => evalOpsDG P call ops ms rest lg sk ⟨env', n, defs', h'⟩ K else false
                  | .panic _ _ => false) g.2)
            (@Bool.rec (fun _ => Bool)
              (match opKind p.2.op with
              | .pure => opFn p.2.op P (evalArg (setV env d (.bool false))) h fun v _ => putK (setV env d (.bool false)) n p.2.dst v fun env' => evalOpsDG P call ops ms rest lg sk ⟨env', n, defs, h⟩ K
              | .read => opFn p.2.op P (evalArg (setV env d (.bool false))) h fun v _ => putK (setV env d (.bool false)) n p.2.dst v fun env' => evalOpsDG P call ops ms rest (⟨p.1, p.2.op, setV env d (.bool false), v⟩ :: lg) sk ⟨env', n, defs, h⟩ K
              | .alloc => opFn p.2.op P (evalArg (setV env d (.bool false))) h fun v h' => putK (setV env d (.bool false)) n p.2.dst v fun env' => evalOpsDG P call ops ms rest lg sk ⟨env', n, defs, h'⟩ K
              | .eff =>
                stepFn p.2.op P call (setV env d (.bool false)) defs h fun
                  | .ok v defs' h' => if sameReads P ms p.1 h' lg then putK (setV env d (.bool false)) n p.2.dst v fun env' => evalOpsDG P call ops ms rest lg sk ⟨env', n, defs', h'⟩ K else false
                  | .panic _ _ => false)
              (putK (setV env d (.bool false)) n p.2.dst noV fun env' => evalOpsDG P call ops ms rest lg (p.1 :: sk) ⟨env', n, defs, h⟩ K) g.2))
          (match env d with
            | .tuple _ => putK env n p.2.dst noV fun env' => evalOpsDG P call ops ms rest lg (p.1 :: sk) ⟨env', n, defs, h⟩ K
            | _ => false) (memN g.1 sk)) p.2.guard
def regK (K : AX → St → Bool) : RS → Bool
  | .ok s' => K .normal s'
  | .panic v s' => K (.panic v) s'

def evalS (P : Program) (call : CallF) : Code → St → (AX → St → Bool) → Bool
  | .skip, s, K => K .normal s
  | .region _ ops draw, s, K =>
    @Bool.rec (fun _ => Bool) (evalOpsG P call ops.toList ops.toList 0 [] s (regK K))
      (bindO (planD ops.toList) fun p => evalOpsDG P call ops.toList p.ms p.L [] [] s fun s' => K .normal s') draw
  | .seq a b, s, K => evalS P call a s (seqK (joinAt a b) (evalS P call b) K)
  | .cond c a b, s, K => condB (evalArg s.env c) (evalS P call a s K) (evalS P call b s K)
  | .block id c, s, K => evalS P call c s (blockK id K)
  | .loop c, s, K => loopB (evalS P call c) s K
  | .exit id, s, K => K (.exit id) s
  | .ret, s, K => K .ret s
  | _, _, _ => false

theorem setV_self {env : Env} {d : Nat} {v : AV} (h : env d = v) : setV env d v = env := by
  funext t
  rw [setV_eq]
  by_cases e : t = d
  · rw [if_pos e, e, h]
  · rw [if_neg e]
theorem condB_inv {x : AV} {a b : Bool} (h : condB x a b = true) : (x = .bool true ∧ a = true) ∨ (x = .bool false ∧ b = true) := by
  unfold condB at h
  split at h
  · rename_i t
    cases t
    · exact .inr ⟨rfl, h⟩
    · exact .inl ⟨rfl, h⟩
  · cases h
section
variable {P : Program} {w0 w : World} {μ μ' : Mu} {h h' : Heap} {s : St} {a : Act}

theorem wantedA_at {ops : List Oper} {o : Oper} {env : Env} {j : Nat} {want : Bool} {d : Tmp} (hg : o.guard = some (j, want)) (hd : dstAt ops j = some d) :
    wantedA ops o env = (match env d with | .bool b => some (b == want) | .tuple _ => some false | _ => none) := by
  unfold wantedA dstAt at *
  rw [hg]
  simp only
  split at hd
  · rename_i g hj
    rw [hj]
    simp only [hd]
    rfl
  · cases hd

/-! ### More is said of what comes -/
theorem opFn_mono {ρ : Operand → AV} {op : Op} {hp : Heap} {K1 K2 : AV → Heap → Bool} (hk : ∀ v h', K1 v h' = true → K2 v h' = true) (hh : opFn op P ρ hp K1 = true) : opFn op P ρ hp K2 = true := by
  have val : ∀ {o : Option AV}, valK hp K1 o = true → valK hp K2 o = true := by
    intro o h; cases o with
    | none => exact h
    | some a => exact hk _ _ h
  have both : ∀ {o : Option (AV × Heap)}, bothK K1 o = true → bothK K2 o = true := by
    intro o h; cases o with
    | none => exact h
    | some a => exact hk _ _ h
  have heap : ∀ {o : Option Heap}, heapK K1 o = true → heapK K2 o = true := by
    intro o h; cases o with
    | none => exact h
    | some a => exact hk _ _ h
  have bind : ∀ {α : Type} {o : Option α} {f g : α → Bool}, (∀ a, f a = true → g a = true) → bindO o f = true → bindO o g = true := by
    intro α o f g hfg h; cases o with
    | none => exact h
    | some a => exact hfg _ h
  cases op <;> simp only [opFn] at hh ⊢ <;> try (first | exact hk _ _ hh | exact val hh | exact both hh | exact heap hh | exact bind (fun _ h => val h) hh | exact bind (fun _ h => both h) hh | exact bind (fun _ h => heap h) hh | exact bind (fun _ h => hk _ _ h) hh | (exfalso; simp at hh; done))
  case buildSlice t n ps => unfold exBuildSlice at hh ⊢; exact bind (fun _ h => bind (fun _ h => hk _ _ h) h) hh
  case binOp o t x y u =>
    unfold exBin at hh ⊢
    cases o <;> simp only at hh ⊢ <;> first | exact val hh | exact bind (fun _ h => val h) hh
  case makeFunc fn f c =>
    unfold exMakeFunc at hh ⊢
    cases fn <;> simp only at hh ⊢ <;> first | exact hk _ _ hh | exact hh
  case makeMap t r =>
    unfold exMakeMap at hh ⊢
    cases r <;> simp only at hh ⊢ <;> first | exact hk _ _ hh | exact hh
  case slice t x lo hi mx =>
    unfold exSlice at hh ⊢
    cases mx <;> simp only at hh ⊢ <;> first | exact bind (fun _ h => val h) hh | exact hh
  case call c =>
    obtain ⟨cal, args, ts⟩ := c
    unfold exCall at hh ⊢
    cases cal with
    | value f => exact hh
    | invoke r m => exact hh
    | builtin b =>
      simp only at hh ⊢
      cases b <;> simp only [bltFn, bltBad, Bool.false_eq_true] at hh ⊢
      case append =>
        unfold bltAppend at hh ⊢
        split at hh
        · exact bind (fun _ h => both h) hh
        · exact hh
      case copy =>
        unfold bltCopy at hh ⊢
        split at hh
        · exact bind (fun _ h => both h) hh
        · exact hh
      case len =>
        unfold bltLen at hh ⊢
        split at hh
        · exact bind (fun _ h => val h) hh
        · exact hh
      case delete =>
        unfold bltDelete at hh ⊢
        split at hh
        · exact bind (fun _ h => heap h) hh
        · exact hh
      case min => 
        unfold bltFold at hh ⊢
        split at hh
        · exact val hh
        · exact hh
      case max =>
        unfold bltFold at hh ⊢
        split at hh
        · exact val hh
        · exact hh
theorem stepFn_mono {op : Op} {env : Env} {defs : List ADef} {hp : Heap} {K1 K2 : R → Bool} (hk : ∀ r, K1 r = true → K2 r = true) (hh : stepFn op P (semCall P) env defs hp K1 = true) : stepFn op P (semCall P) env defs hp K2 = true := by
  have plain : ∀ {op : Op}, stPlain op P (semCall P) env defs hp K1 = true → stPlain op P (semCall P) env defs hp K2 = true := fun h => opFn_mono (fun _ _ h => hk _ h) h
  cases op <;> simp only [stepFn] at hh ⊢ <;> try exact plain hh
  case call c =>
    obtain ⟨cal, args, ts⟩ := c
    cases cal with
    | builtin b => exact plain hh
    | invoke r m => exact plain hh
    | value f =>
      simp only [stCall, stCallV] at hh ⊢
      split at hh
      · refine semCall_true ((semCall_sound P).sem hh |>.mono fun o h' h => ?_)
        cases o <;> exact hk _ h
      · exact hh
  case defer c =>
    obtain ⟨cal, args, ts⟩ := c
    cases cal with
    | builtin b => exact hh
    | invoke r m => exact hh
    | value f =>
      simp only [stDefer] at hh ⊢
      split at hh
      · exact hk _ hh
      · exact hh
  case panic x =>
    simp only [stPanic] at hh ⊢
    split at hh
    · exact hk _ hh
    · exact hh
  case next x b =>
    simp only [stNext] at hh ⊢
    generalize nextS b (evalArg env x) hp = o at hh ⊢
    cases o with
    | none => exact hh
    | some L =>
      simp only [bindO] at hh ⊢
      induction L with
      | nil => rfl
      | cons p L ih =>
        simp only [allNext, Bool.and_eq_true] at hh ⊢
        exact ⟨hk _ hh.1, ih hh.2⟩
theorem putK_mono {env : Env} {n : Nat} {dst : Option Tmp} {v : AV} {k1 k2 : Env → Bool} (hk : ∀ e, k1 e = true → k2 e = true) (hh : putK env n dst v k1 = true) : putK env n dst v k2 = true := by
  cases dst with
  | none => exact hk _ hh
  | some d =>
    simp only [putK] at hh ⊢
    cases hb : Nat.ble (d + 1) n with
    | false => rw [hb] at hh; cases hh
    | true => rw [hb] at hh; exact hk _ hh

theorem evalOpsDG_eq {ops : List Oper} {ms : List Nat} {K : St → Bool} : ∀ (L : List (Nat × Oper)) (lg : List Read) (sk : List Nat) (s : St), evalOpsDG P (semCall P) ops ms L lg sk s K = true → evalOpsD P (semCall P) ops ms L lg s K = true
  | [], lg, sk, s, hh => hh
  | p :: rest, lg, sk, ⟨env, n, defs, hp⟩, hh => by
    have goes : (match opKind p.2.op with
      | .pure => opFn p.2.op P (evalArg env) hp fun v _ => putK env n p.2.dst v fun env' => evalOpsDG P (semCall P) ops ms rest lg sk ⟨env', n, defs, hp⟩ K
      | .read => opFn p.2.op P (evalArg env) hp fun v _ => putK env n p.2.dst v fun env' => evalOpsDG P (semCall P) ops ms rest (⟨p.1, p.2.op, env, v⟩ :: lg) sk ⟨env', n, defs, hp⟩ K
      | .alloc => opFn p.2.op P (evalArg env) hp fun v h' => putK env n p.2.dst v fun env' => evalOpsDG P (semCall P) ops ms rest lg sk ⟨env', n, defs, h'⟩ K
      | .eff =>
        stepFn p.2.op P (semCall P) env defs hp fun
          | .ok v defs' h' => if sameReads P ms p.1 h' lg then putK env n p.2.dst v fun env' => evalOpsDG P (semCall P) ops ms rest lg sk ⟨env', n, defs', h'⟩ K else false
          | .panic _ _ => false) = true → (match opKind p.2.op with
      | .pure => opFn p.2.op P (evalArg env) hp fun v _ => putK env n p.2.dst v fun env' => evalOpsD P (semCall P) ops ms rest lg ⟨env', n, defs, hp⟩ K
      | .read => opFn p.2.op P (evalArg env) hp fun v _ => putK env n p.2.dst v fun env' => evalOpsD P (semCall P) ops ms rest (⟨p.1, p.2.op, env, v⟩ :: lg) ⟨env', n, defs, hp⟩ K
      | .alloc => opFn p.2.op P (evalArg env) hp fun v h' => putK env n p.2.dst v fun env' => evalOpsD P (semCall P) ops ms rest lg ⟨env', n, defs, h'⟩ K
      | .eff =>
        stepFn p.2.op P (semCall P) env defs hp fun
          | .ok v defs' h' => if sameReads P ms p.1 h' lg then putK env n p.2.dst v fun env' => evalOpsD P (semCall P) ops ms rest lg ⟨env', n, defs', h'⟩ K else false
          | .panic _ _ => false) = true := by
      intro h
      cases hk : opKind p.2.op <;> rw [hk] at h <;> simp only at h ⊢
      · exact opFn_mono (fun v h' h => putK_mono (fun e h => evalOpsDG_eq rest _ _ _ h) h) h
      · exact opFn_mono (fun v h' h => putK_mono (fun e h => evalOpsDG_eq rest _ _ _ h) h) h
      · exact opFn_mono (fun v h' h => putK_mono (fun e h => evalOpsDG_eq rest _ _ _ h) h) h
      · refine stepFn_mono (fun r h => ?_) h
        cases r with
        | ok v defs' h' =>
          simp only at h ⊢
          split at h
          · rename_i hs; rw [if_pos hs]; exact putK_mono (fun e h => evalOpsDG_eq rest _ _ _ h) h
          · cases h
        | panic v h' => cases h
    have skips : ∀ sk', (putK env n p.2.dst noV fun env' => evalOpsDG P (semCall P) ops ms rest lg sk' ⟨env', n, defs, hp⟩ K) = true → (putK env n p.2.dst noV fun env' => evalOpsD P (semCall P) ops ms rest lg ⟨env', n, defs, hp⟩ K) = true :=
      fun sk' h => putK_mono (fun e h => evalOpsDG_eq rest _ _ _ h) h
    simp only [evalOpsDG] at hh
    simp only [evalOpsD]
    cases hg : p.2.guard with
    | none =>
      rw [hg] at hh
      have hw : wantedA ops p.2 env = some true := by unfold wantedA; rw [hg]
      rw [hw]
      exact goes hh
    | some g =>
      obtain ⟨j, want⟩ := g
      rw [hg] at hh
      simp only at hh
      split at hh
      · cases hh
      · rename_i d hd
        have hwa := wantedA_at (env := env) hg hd
        cases hm : memN j sk with
        | true =>
          rw [hm] at hh
          simp only at hh
          split at hh
          · rename_i vs hv
            rw [hv] at hwa
            rw [hwa]
            exact skips _ hh
          · cases hh
        | false =>
          rw [hm] at hh
          simp only at hh
          rcases condB_inv hh with ⟨hv, hh⟩ | ⟨hv, hh⟩
          · rw [hv] at hwa
            rw [setV_self hv] at hh
            rw [hwa]
            cases want with
            | true => exact goes hh
            | false => exact skips _ hh
          · rw [hv] at hwa
            rw [setV_self hv] at hh
            rw [hwa]
            cases want with
            | true => exact skips _ hh
            | false => exact goes hh

/-- A REGION IN THE TEXT's ORDER. -/
theorem opsG_wp {call : CallF} (hc : CallSound P call) {ops : Array Oper} {K : RS → Bool} {Q : Exit → Act → World → Prop} : ∀ (l : List Oper) (i : Nat) (sk : List Nat) (s : St) (a : Act) (w : World) (μ : Mu), (∀ j o, l[j]? = some o → ops[i + j]? = some o) →
    SR w0 μ s a w → (hl : LeadsR w0 μ s.h w K Q) → evalOpsG P call ops.toList l i sk s K = true → wpOps P ops Q (List.range' i l.length) a w
  | [], i, sk, s, a, w, μ, hi, hs, hl, h => by
    simp only [List.length_nil, List.range'_zero, wpOps]
    exact hl.ok _ _ _ _ h hs (Ext.refl _ _ _)
  | o :: rest, i, sk, s, a, w, μ, hi, hs, hl, h => by
    have hio : ops[i]? = some o := by simpa using hi 0 o rfl
    obtain ⟨env, n, defs, hp⟩ := s
    simp only [List.length_cons, List.range'_succ, wpOps, hio]
    have hi' : ∀ j o', rest[j]? = some o' → ops[i + 1 + j]? = some o' := fun j o' hj => by
      have := hi (j + 1) o' (by simpa using hj)
      rwa [show i + 1 + j = i + (j + 1) by omega]
    have goes : wantedA ops.toList o env = some true → (stepFn o.op P call env defs hp fun
              | .ok v defs h => putK env n o.dst v fun env => evalOpsG P call ops.toList rest (i + 1) sk ⟨env, n, defs, h⟩ K
              | .panic v h => K (.panic v ⟨env, n, defs, h⟩)) = true →
        (if Region.wanted o (yielded ops a.tmps) then o.wp P a w (wpOps P ops Q (List.range' (i + 1) rest.length)) Q ∨ (o.asks P a w ∧ LetsOut Q) else wpOps P ops Q (List.range' (i + 1) rest.length) (a.put o.dst undef) w) := by
      intro hw hh
      rw [wanted_sim hs.env hw, if_pos rfl]
      refine .inl (step_wp hs hc ⟨fun v defs' h' a' w' μ' hK hs' hx => ?_, fun v vc h' w' μ' hK hv hs' hx => ?_⟩ hh)
      · exact opsG_wp hc rest (i + 1) sk _ a' w' μ' hi' hs' (hl.after hx) (putK_eq hK)
      · exact hl.panic v vc _ a w' μ' hK hv hs' hx
    have skips : wantedA ops.toList o env = some false → (putK env n o.dst noV fun env => evalOpsG P call ops.toList rest (i + 1) (i :: sk) ⟨env, n, defs, hp⟩ K) = true →
        (if Region.wanted o (yielded ops a.tmps) then o.wp P a w (wpOps P ops Q (List.range' (i + 1) rest.length)) Q ∨ (o.asks P a w ∧ LetsOut Q) else wpOps P ops Q (List.range' (i + 1) rest.length) (a.put o.dst undef) w) := by
      intro hw hh
      rw [wanted_sim hs.env hw]
      simp only [Bool.false_eq_true, if_false]
      have hs' := hs.left o.dst (h' := hp) VR.noV hs.good (Mu.le.refl μ)
      exact opsG_wp hc rest (i + 1) (i :: sk) ⟨putE env n o.dst noV, n, defs, hp⟩ _ w μ hi' hs' hl (putK_eq hh)
    simp only [evalOpsG] at h
    split at h
    · rename_i hg
      exact goes (by unfold wantedA; rw [hg]) h
    · rename_i j want hg
      split at h
      · cases h
      · rename_i d hd
        have hwa := wantedA_at (env := env) hg hd
        cases hm : memN j sk with
        | true =>
          rw [hm] at h
          simp only at h
          split at h
          · rename_i vs hv
            rw [hv] at hwa
            exact skips hwa h
          · cases h
        | false =>
          rw [hm] at h
          simp only at h
          rcases condB_inv h with ⟨hv, h⟩ | ⟨hv, h⟩
          · rw [hv] at hwa
            rw [setV_self hv] at h
            cases want with
            | true => exact goes hwa h
            | false => exact skips hwa h
          · rw [hv] at hwa
            rw [setV_self hv] at h
            cases want with
            | true => exact skips hwa h
            | false => exact goes hwa h

theorem codeS_wp (hm : P.follows .mixedOrders = true) : ∀ (c : Code) (s : St) (a : Act) (w : World) (μ : Mu) (K : AX → St → Bool) (Q : Exit → Act → World → Prop), SR w0 μ s a w →
    LeadsC w0 μ s.h w K Q → evalS P (semCall P) c s K = true → c.wp P Q a w := by
  have hc := semCall_sound P
  intro c
  induction c with
  | skip => intro s a w μ K Q hs hl h; exact wp_skip (hl _ _ _ _ _ _ h .normal hs (Ext.refl _ _ _))
  | region id ops draw =>
    intro s a w μ K Q hs hl h
    simp only [evalS] at h
    cases draw with
    | true =>
      simp only at h
      obtain ⟨plan, hp, h⟩ := bindO_eq h
      exact draw_wp hm hc hp hs (fun s' a' w' μ' hK hs' hx => hl _ _ _ _ _ _ hK .normal hs' hx) (evalOpsDG_eq _ _ _ _ h)
    | false =>
      simp only at h
      refine wp_region ?_
      have := opsG_wp (Q := Q) hc ops.toList 0 [] s a w μ (fun j o hj => by rw [Nat.zero_add]; simpa using hj) hs ⟨fun s' a' w' μ' hK hs' hx => hl _ _ _ _ _ _ hK .normal hs' hx, fun v vc s' a' w' μ' hK hv hs' hx => hl _ _ _ _ _ _ hK (.panic v vc hv) hs' hx⟩ h
      rw [List.range_eq_range']
      simpa using this
  | seq x y ihx ihy =>
    intro s a w μ K Q hs hl h
    simp only [evalS] at h
    refine wp_seq (ihx s a w μ _ _ hs (fun e ex s' a' w' μ' hK hq hs' hx => ?_) h)
    cases hq with
    | normal => exact ihy s' a' w' μ' K Q hs' (hl.after hx) (by rw [seqK_normal] at hK; exact hK)
    | exit id => exact hl _ _ _ _ _ _ hK (.exit id) hs' hx
    | ret => exact hl _ _ _ _ _ _ hK .ret hs' hx
    | panic v vc hv => exact hl _ _ _ _ _ _ hK (.panic v vc hv) hs' hx
  | cond c x y ihx ihy =>
    intro s a w μ K Q hs hl h
    simp only [evalS, condB] at h
    have hcv := hs.eval c
    split at h
    · rename_i t e
      rw [e] at hcv
      cases t with
      | true => exact wp_cond_true hcv.bool_inv (ihx s a w μ K Q hs hl h)
      | false => exact wp_cond_false hcv.bool_inv (ihy s a w μ K Q hs hl h)
    · cases h
  | block id c ih =>
    intro s a w μ K Q hs hl h
    simp only [evalS] at h
    refine wp_block (ih s a w μ _ _ hs (fun e ex s' a' w' μ' hK hq hs' hx => ?_) h)
    cases hq with
    | normal => exact hl _ _ _ _ _ _ hK .normal hs' hx
    | exit id' =>
      simp only [Exit.inBlock]
      simp only [blockK] at hK
      by_cases e : id' = id
      · subst e; rw [nat_beq_refl] at hK; rw [if_pos rfl]; exact hl _ _ _ _ _ _ hK .normal hs' hx
      · rw [if_neg e]
        have hb : Nat.beq id' id = false := by
          cases hq : Nat.beq id' id with
          | false => rfl
          | true => exact absurd (Nat.eq_of_beq_eq_true hq) e
        rw [hb] at hK; exact hl _ _ _ _ _ _ hK (.exit id') hs' hx
    | ret => exact hl _ _ _ _ _ _ hK .ret hs' hx
    | panic v vc hv => exact hl _ _ _ _ _ _ hK (.panic v vc hv) hs' hx
  | loop c ih =>
    intro s a w μ K Q hs hl h
    simp only [evalS, loopB] at h
    obtain ⟨I, ⟨n0, hI0⟩, hstep⟩ := yes_eq.1 h
    refine wp_loop_rounds (n0 + 1) ?_
    have key : ∀ (N n : Nat) (s : St) (a : Act) (w : World) (μ : Mu), SR w0 μ s a w → LeadsC w0 μ s.h w K Q → I n s → n < N → Code.rounds P c Q N a w := by
      intro N
      induction N with
      | zero => intro n s a w μ hs hl hi hn; omega
      | succ N ihn =>
        intro n s a w μ hs hl hi hn
        rw [rounds_succ]
        refine ih s a w μ _ _ hs (fun e ex s' a' w' μ' hK hq hs' hx => ?_) (hstep n s hi)
        cases hq with
        | normal =>
          obtain ⟨m, hm1, hm2⟩ := yes_eq.1 hK
          exact ihn m s' a' w' μ' hs' (hl.after hx) hm2 (by omega)
        | exit id => exact hl _ _ _ _ _ _ hK (.exit id) hs' hx
        | ret => exact hl _ _ _ _ _ _ hK .ret hs' hx
        | panic v vc hv => exact hl _ _ _ _ _ _ hK (.panic v vc hv) hs' hx
    exact key (n0 + 1) n0 s a w μ hs hl hI0 (by omega)
  | exit id => intro s a w μ K Q hs hl h; exact wp_exit (hl _ _ _ _ _ _ h (.exit id) hs (Ext.refl _ _ _))
  | ret => intro s a w μ K Q hs hl h; exact wp_ret (hl _ _ _ _ _ _ h .ret hs (Ext.refl _ _ _))
  | _ => intros; rename_i h; simp [evalS] at h

/-- No deferred function has a contract. -/
def noD : DPrims := fun _ => none
theorem noD_sound (P : Program) : DSound P noD := fun f g h => by cases h

/-- A FUNCTION, BY ITS BODY. -/
theorem sem_body (hm : P.follows .mixedOrders = true) {D : DPrims} (hD : DSound P D) {f : FuncId} {fn : Func} {c : Code} (hfn : P.funcs[f]? = some fn) (hb : fn.body = some c) (hname : fn.name ≠ "runtime.NumGoroutine")
    {args : List AV} (hlen : args.length ≤ fn.ntmps) {h : Heap} {K : Out → Heap → Bool}
    (hh : evalS P (semCall P) c ⟨mkEnv args, fn.ntmps, [], h⟩ (leaveK P D fn.results.toList K) = true) : Sem P f args h K := by
  refine ⟨⟨fn, c, hfn, hb, hname⟩, fun w0 μ w vs hg hv => ?_⟩
  refine calls_of_wp_defers hfn hb ?_
  refine codeS_wp (w0 := w0) hm c ⟨mkEnv args, fn.ntmps, [], h⟩ _ w μ _ _ ⟨env_enter hv hlen, .nil, hg⟩ (fun e ex s' a' w' μ' hK hq hs' hx => ?_) hh
  cases hq with
  | normal => exact leave_sim hD _ _ none none s' a' w' μ' hs'.env hs'.defs hs'.good .none hx hK
  | ret => exact leave_sim hD _ _ none none s' a' w' μ' hs'.env hs'.defs hs'.good .none hx hK
  | exit id => cases hK
  | panic v vc hv => exact leave_sim hD _ _ (some v) (some vc) s' a' w' μ' hs'.env hs'.defs hs'.good (.some hv) hx hK
end
end
end Go.AM
