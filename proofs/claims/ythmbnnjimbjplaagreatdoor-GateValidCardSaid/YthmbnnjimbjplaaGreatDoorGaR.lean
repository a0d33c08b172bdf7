/- GateValid, as a row and as a card: whatever the circuit, the law answers true. Conditions: none. -/
import Derived.Test.YthmbnnjimbjplaaGreatDoorCards
import Derived.Test.YthmbnnjimbjplaaGreatDoorTie
import Derived.Test.YthmbnnjimbjplaaGreatDoorGaP7
import Derived.Test.YthmbnnjimbjplaaGreatDoorAmTypes
import Derived.WalkKit
import Derived.ProofKit
import Derived.OpenShut
import Derived.Deep.DeepHandedRow
import Derived.Lib.LaidTab
namespace Go.Proofs.YthmbnnjimbjplaaGreatDoor.gateValid
open Go Go.AM Go.ChangeShapes Go.WideShapes Go.ChangeAt Go.RowKit
set_option linter.unusedVariables false

theorem own : ownKnob Tryz.prog.godebug = none := by kernel_rfl
theorem laidOut : laidOutB Tryz.prog = true := by kernel_rfl
theorem cells63 : Tryz.prog.cellsOf 63 = 4 := by kernel_rfl
theorem cells3 : Tryz.prog.cellsOf 3 = 1 := by kernel_rfl
theorem bytes63 : 0 < Tryz.prog.bytesOf 63 := of_decide_eq_true (by kernel_rfl)
theorem bytes3 : 0 < Tryz.prog.bytesOf 3 := of_decide_eq_true (by kernel_rfl)

section
variable {H : Type} {enc : TypeId × Value → H} {w : World}
theorem rd61 : RD enc Tryz.prog w 61 (fun x : Sl Int => [encSl AM.encI 1 x]) (fun x => x.l.length ≤ big ∧ ∀ a ∈ x.l, True) :=
  rd_slice Tryz.underlying61 cells3 (by omega) bytes3 (rd_int Tryz.underlying3)
theorem rd63 : RD enc Tryz.prog w 63 encGate Gate.ok := by
  intro fuel cs d ps h
  obtain ⟨xs, ⟨ds, rfl, d0, ds0, x0, y0, rfl, rfl, ⟨a0, rfl, h0⟩, d1, ds1, x1, y1, rfl, rfl, ⟨a1, rfl, h1⟩, d2, ds2, x2, y2, rfl, rfl, ⟨a2, rfl, h2⟩, d3, ds3, x3, y3, rfl, rfl, ⟨a3, rfl, h3⟩, rfl, rfl⟩, hv⟩ :=
    rd_struct Tryz.underlying63 (by kernel_rfl) (rds_cons rfl (rd_int Tryz.underlying3) (rds_cons (by kernel_rfl) (rd_string Tryz.underlying9) (rds_cons (by kernel_rfl) rd61 (rds_cons (by kernel_rfl) rd61 (rds_nil _))))) fuel cs d ps h
  refine ⟨_, ⟨⟨a0, a1, a2, a3⟩, rfl, fun hs => ⟨?_, ?_, ?_⟩⟩, hv⟩
  · exact h1 (small_agg Tryz.underlying63 hs (j := 1) rfl rfl)
  · exact (h2 (small_agg Tryz.underlying63 hs (j := 2) rfl rfl)).1
  · exact (h3 (small_agg Tryz.underlying63 hs (j := 3) rfl rfl)).1
theorem rd22 : RD enc Tryz.prog w 22 (fun x : Sl Gate => [encSl encGate 4 x]) (fun x => x.l.length ≤ big ∧ ∀ a ∈ x.l, a.ok) :=
  rd_slice Tryz.underlying22 cells63 (by omega) bytes63 rd63
theorem rd24 : RD enc Tryz.prog w 24 encCirc Circ.ok := by
  intro fuel cs d ps h
  obtain ⟨xs, ⟨ds, rfl, d0, ds0, x0, y0, rfl, rfl, ⟨a0, rfl, h0⟩, d1, ds1, x1, y1, rfl, rfl, ⟨a1, rfl, h1⟩, rfl, rfl⟩, hv⟩ :=
    rd_struct Tryz.underlying24 (by kernel_rfl) (rds_cons rfl (rd_int Tryz.underlying3) (rds_cons (by kernel_rfl) rd22 (rds_nil _))) fuel cs d ps h
  exact ⟨_, ⟨⟨a0, a1⟩, rfl, fun hs => h1 (small_agg Tryz.underlying24 hs (j := 1) rfl rfl)⟩, hv⟩
end

theorem vr_agg {w0 : World} {μ : Mu} {t : TypeId} {xs : List AV} {v : Value} {vs : Array Value} (hv : v = .agg vs) (h : VRL w0 μ xs v.cells.toList) : VR w0 μ (.agg xs) v := by
  subst hv
  have := VR.agg (w0 := w0) (μ := μ) xs vs.toList h.len h.rel
  simpa using this

/-- WHAT THE LAW ANSWERS, FOR EVERY ARGUMENT. -/
theorem contract (H : Type) (enc : TypeId × Value → H) (W : World) (base : Nat) (args : Array Value) (ds gs : List (DataW H)) (before : List MemPlace)
    (hval : ∀ (j : Nat) t v, Tryz.f3.params[j]? = some t → args[j]? = some v → Value.okWide Tryz.prog W .any base t v)
    (hW : DataW.Whole enc Tryz.prog Tryz.f3.params.toList Rows.gateValidSpec.vars false W args.toList ds gs before)
    (hreach : (DataW.weightsEach Tryz.prog (Tryz.f3.params.toList ++ (OpenSpec.ofChange Rows.gateValidSpec).bare.plain.varTypes Tryz.prog) (ds ++ gs)).all (· ≤ reachBytes) = true) :
    Calls Tryz.prog 3 args W fun e W' => ∃ v, e = .returned v ∧ Rows.gateValidSpec.post enc Tryz.prog Tryz.f3 false true false false W args v W' := by
  have hW' := hW
  obtain ⟨p, q, hA0, hV, rfl, hfz, hnd⟩ := hW
  have hA : DataW.TrodAll enc Tryz.prog W 0 (fun _ => true) true Tryz.f3.params.toList args.toList ds p := hA0
  rw [Tryz.params3] at hA hval
  obtain ⟨v0, vs0, d0, ds0, p0, q0, hargs, rfl, rfl, h0, r0⟩ := trodAll_cons hA
  obtain ⟨rfl, rfl, rfl⟩ := trodAll_nil r0
  obtain rfl : args = #[v0] := by apply Array.ext'; simpa using hargs
  obtain ⟨xs, ⟨c, rfl, hok⟩, hv⟩ := reads_trod rd24 h0
  have hcok : c.ok := hok (small_all hreach (j := 0) (by rw [Tryz.params3]; rfl) rfl)
  have hagg : ∃ vs, v0 = .agg vs := by
    have hl := hv.len
    cases v0 with
    | agg vs => exact ⟨vs, rfl⟩
    | _ => exfalso; simp [Value.cells, encCirc] at hl
  obtain ⟨vs, hvs⟩ := hagg
  refine (sem_calls (law_GateValid hcok) (vs := #[v0]) (.cons (vr_agg (t := 24) hvs hv) .nil)).mono fun e W' ⟨he, hb⟩ => ?_
  subst he
  exact ⟨_, rfl, post_true rfl (fun ds hds => by
    rw [Tryz.params3] at hds
    match ds, hds with
    | [d], _ => rfl) (by kernel_rfl) Tryz.underlying4 laidOut (fun t ht => by
    rw [Tryz.params3] at ht
    obtain rfl : t = 24 := by simpa using ht
    exact ⟨by kernel_rfl, of_decide_eq_true (by kernel_rfl)⟩) hW' hb⟩

def litVal : DataW Unit → Value
  | .lit (.int k n) => .int k n
  | _ => undef
def tabVals : DataW Unit → Array Value
  | .agg l => (l.map litVal).toArray
  | _ => #[]
def setTab (w : World) (g : Nat) (d : DataW Unit) : World :=
  { w with heap := w.heap.modify g fun
      | .cells _ t frozen => .cells (tabVals d) t frozen
      | o => o }
/-- A WORLD FOR THE WITNESS: the settled one, the tables holding what their initialisers lay. -/
noncomputable def laidWorld (os : Os) : World :=
  setTab (setTab (setTab (World.holding Tryz.prog os ⟨#[], #[], []⟩) 1 Rows.laid_math_bits_deBruijn32tab) 2 Rows.laid_math_bits_deBruijn64tab) 0 Rows.laid_internal_strconv_uint64pow10
noncomputable def arg0 : Array Value := #[.agg #[.int .i64 0, .slice none 0 0]]
theorem laid_met (os : Os) : laidMet Tryz.prog Rows.gateValidRow.laid ((laidWorld os).forCall (fun _ _ => 0) ⟨#[], arg0, []⟩).memory :=
  laidMet_of_run' 8 (by kernel_rfl) (by kernel_rfl)
theorem reads (os : Os) {H : Type} (enc : TypeId × Value → H) : ∃ places, DataW.whole enc Tryz.prog ((laidWorld os).forCall (fun _ _ => 0) ⟨#[], arg0, []⟩).memory Tryz.f3.params.toList Rows.gateValidSpec.vars false arg0.toList 8 = some ([.agg [.lit (.int .i64 0), .nil]], [], places) :=
  ⟨[], by kernel_rfl⟩

set_option maxRecDepth 100000 in
theorem lifted (os : Os) (started : os.Started) (H : Type) (enc : TypeId × Value → H) (F : Stop.Interp) :
    ReturnsInHanded {} Tryz.checked os 3 .any ((OpenSpec.ofChange Rows.gateValidSpec).preRow enc Tryz.prog Tryz.f3 Rows.gateValidRow.domain false Rows.gateValidRow.laid) (((OpenSpec.ofChange Rows.gateValidSpec).at F).post enc Tryz.prog Tryz.f3 false true false false) := by
  obtain ⟨places, hx⟩ := reads os enc
  refine returnsInHanded_of_row (C := Tryz.checked) (s := OpenSpec.ofChange Rows.gateValidSpec) own started (by kernel_rfl) Tryz.func3
    (witness_row_at (enc := enc) (C := Tryz.checked) false (laidWorld os) arg0 rfl (by kernel_rfl) (by kernel_rfl) (by kernel_rfl)
      (OpenSpec.preRow_of_cond 8 hx (by kernel_rfl) (fun k hk => by cases hk) (by kernel_rfl) (laid_met os))) ?_
  intro W base args ds gs before hval hW _ _ hreach hL _ _
  exact contract H enc W base args ds gs before hval hW hreach

theorem said : Rows.GateValidSaid :=
  OpenClaim.holds_of_cond 3 Tryz.f3 rfl rfl rfl rfl rfl rfl rfl ⟨rfl, rfl, rfl, rfl, rfl⟩ rfl rfl rfl rfl rfl (by kernel_rfl) Tryz.func3 (by kernel_rfl)
    (of_decide_eq_true (by kernel_rfl)) (by unfold Func.isWrapper; first | (rw [if_pos (by decide +kernel)]; kernel_rfl) | (rw [if_neg (by decide +kernel)]; exact ⟨rfl, rfl⟩))
    (fun os started H enc _ F => by rw [OpenClaim.pre_eq_preRow]; exact lifted os started H enc F)

theorem plain (f : FuncId) (fn : Func) (hf : Tryz.pinned.checked.prog.funcNamed "paraphrast/paraphrastlaw11.GateValid" = some f) (hfn : Tryz.pinned.checked.prog.funcs[f]? = some fn) :
    true = Tryz.pinned.checked.prog.looks [] ∧ ∀ (j : Nat) t, fn.params[j]? = some t → Tryz.pinned.checked.prog.wantsStandIn t = false := by
  obtain rfl : f = 3 := Option.some.inj ((show Tryz.prog.funcNamed "paraphrast/paraphrastlaw11.GateValid" = some 3 by kernel_rfl).symm.trans hf) |>.symm
  obtain rfl : fn = Tryz.f3 := (Option.some.inj (Tryz.func3.symm.trans hfn)).symm
  refine ⟨by kernel_rfl, fun j t ht => ?_⟩
  rw [Tryz.params3] at ht
  obtain rfl : t = 24 := by simpa using Array.mem_of_getElem? ht
  exact (show Tryz.prog.wantsStandIn 24 = false by kernel_rfl)

/-- THE CARD. -/
theorem card : Rows.GateValidCardSaid :=
  Claim7.holds_tied_plain_at .later [] _ _ _ _ said (fun _ h => by cases h) (by kernel_rfl) (fun _ h => by cases h) gateValid_row_tie rfl ⟨rfl, rfl⟩ (by kernel_rfl) rfl plain (by kernel_rfl)
end Go.Proofs.YthmbnnjimbjplaaGreatDoor.gateValid
