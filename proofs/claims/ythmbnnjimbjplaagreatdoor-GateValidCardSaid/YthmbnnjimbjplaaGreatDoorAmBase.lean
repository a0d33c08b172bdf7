/- The functions whose contracts are given, at this seat: slices.Sorted of maps.Keys, deferred functions that recover. Conditions: none. -/
import Derived.Test.YthmbnnjimbjplaaGreatDoorAmIter
import Derived.Test.YthmbnnjimbjplaaGreatDoorAmSorted
import Derived.Test.YthmbnnjimbjplaaGreatDoorAmDefer
import Derived.Test.YthmbnnjimbjplaaGreatDoorAmText
import Derived.Test.YthmbnnjimbjplaaGreatDoorAmPS
import Derived.KernelRfl
namespace Go.Proofs
open Go.RowKit Go.Maps Go.Sort Go.Shelf
theorem Tryz.sortsIn (m : Nat) : AnyZ.SortsIn Tryz.prog Tryz.sorted88_ren Fence.wide m :=
  ⟨fun blk off cap ss W hH hblk hsz => callsIn_wide.2 (AnyM.slices_Sort_string Tryz.sort147 blk off cap ss W hH hblk hsz),
   fun p cap W => callsIn_wide.2 (AnyM.slices_Sort_string_none Tryz.sort147 p cap W)⟩
theorem Tryz.keysGiven89 : AM.KeysGiven Tryz.prog 89 148 94 := fun mb W => callsIn_wide.1 (AnyZ.keys_in Tryz.keys89 Fence.wide 5 trivial rfl mb W)
set_option maxHeartbeats 1000000 in
theorem Tryz.sortedGiven89 : AM.SortedGiven Tryz.prog 88 148 9 := by
  refine ⟨fun Bm b nn D0 w h1 h2 hown hmax hbytes => (callsIn_wide (n := 5)).1 ?_, fun Bm w h1 h2 => ?_⟩
  · have hseq : SeqGives Fence.wide 2 Tryz.prog 148 #[.pointer (some ⟨Bm, 0, none⟩)] encStr (fun ss => ss.Perm (strKeys D0)) (Maps.size D0) w :=
      AnyZ.keys_gives (ρ := Tryz.keys89_ren) { Tryz.keys89 with } Fence.wide _ trivial rfl (by omega) Bm b nn D0 w h1 h2 hown
    exact AnyZ.sorted_in Tryz.sorted88 Fence.wide 5 trivial trivial trivial trivial rfl (by omega) (Tryz.sortsIn _) (enters_of Tryz.func147 (by kernel_rfl) rfl) 148 #[.pointer (some ⟨Bm, 0, none⟩)] trivial (enters_of Tryz.func148 (by kernel_rfl) rfl) _ _ hmax hbytes w hseq
  · have hseq : SeqGives Fence.wide 2 Tryz.prog 148 #[.pointer (some ⟨Bm, 0, none⟩)] encStr (fun ss : List (List UInt8) => ss = []) 0 w :=
      AnyZ.keys_gives_nil (ρ := Tryz.keys89_ren) { Tryz.keys89 with } Fence.wide _ trivial rfl Bm w h1 h2
    refine Calls.mono ((callsIn_wide (n := 5)).1 (AnyZ.sorted_in Tryz.sorted88 Fence.wide 5 trivial trivial trivial trivial rfl (by omega) (Tryz.sortsIn _) (enters_of Tryz.func147 (by kernel_rfl) rfl) 148 #[.pointer (some ⟨Bm, 0, none⟩)] trivial (enters_of Tryz.func148 (by kernel_rfl) rfl) _ 0 (Nat.zero_le _) (by omega) w hseq)) fun e w' hR => ?_
    obtain ⟨v, ss, rfl, s1, s2, s3, s4⟩ := hR
    exact ⟨by rw [s3.2 s1], s4⟩
theorem Tryz.keysGiven122 : AM.KeysGiven Tryz.prog 122 172 136 := fun mb W => callsIn_wide.1 (AnyZ.keys_in Tryz.keys122 Fence.wide 5 trivial rfl mb W)
set_option maxHeartbeats 1000000 in
theorem Tryz.sortedGiven122 : AM.SortedGiven Tryz.prog 88 172 9 := by
  refine ⟨fun Bm b nn D0 w h1 h2 hown hmax hbytes => (callsIn_wide (n := 5)).1 ?_, fun Bm w h1 h2 => ?_⟩
  · have hseq : SeqGives Fence.wide 2 Tryz.prog 172 #[.pointer (some ⟨Bm, 0, none⟩)] encStr (fun ss => ss.Perm (strKeys D0)) (Maps.size D0) w :=
      AnyZ.keys_gives (ρ := Tryz.keys122_ren) { Tryz.keys122 with } Fence.wide _ trivial rfl (by omega) Bm b nn D0 w h1 h2 hown
    exact AnyZ.sorted_in Tryz.sorted88 Fence.wide 5 trivial trivial trivial trivial rfl (by omega) (Tryz.sortsIn _) (enters_of Tryz.func147 (by kernel_rfl) rfl) 172 #[.pointer (some ⟨Bm, 0, none⟩)] trivial (enters_of Tryz.func172 (by kernel_rfl) rfl) _ _ hmax hbytes w hseq
  · have hseq : SeqGives Fence.wide 2 Tryz.prog 172 #[.pointer (some ⟨Bm, 0, none⟩)] encStr (fun ss : List (List UInt8) => ss = []) 0 w :=
      AnyZ.keys_gives_nil (ρ := Tryz.keys122_ren) { Tryz.keys122 with } Fence.wide _ trivial rfl Bm w h1 h2
    refine Calls.mono ((callsIn_wide (n := 5)).1 (AnyZ.sorted_in Tryz.sorted88 Fence.wide 5 trivial trivial trivial trivial rfl (by omega) (Tryz.sortsIn _) (enters_of Tryz.func147 (by kernel_rfl) rfl) 172 #[.pointer (some ⟨Bm, 0, none⟩)] trivial (enters_of Tryz.func172 (by kernel_rfl) rfl) _ 0 (Nat.zero_le _) (by omega) w hseq)) fun e w' hR => ?_
    obtain ⟨v, ss, rfl, s1, s2, s3, s4⟩ := hR
    exact ⟨by rw [s3.2 s1], s4⟩
end Go.Proofs
namespace Go.AM
open Go Go.Proofs
noncomputable section
theorem mixed : Tryz.prog.follows .mixedOrders = true := by kernel_rfl
noncomputable def opsAt : Code → List Oper
  | .seq (.region _ ops _) _ => ops.toList
  | _ => []
noncomputable def idAt : Code → Nat
  | .seq (.region id _ _) _ => id
  | _ => 0
noncomputable def headOp : List Oper → Oper
  | o :: _ => o
  | [] => default
noncomputable def tsOf : Op → Array TypeId
  | .call c => c.argTypes
  | _ => #[]
def F0 : Prims := fun f => if f = 89 then some (keysP 148) else if f = 122 then some (keysP 172) else if f = 88 then some (orP (sortedP 172) (sortedP 148)) else none
theorem enters89 : Enters Tryz.prog 89 := ⟨_, _, Tryz.func89, rfl, by decide⟩
theorem enters122 : Enters Tryz.prog 122 := ⟨_, _, Tryz.func122, rfl, by decide⟩
theorem enters88 : Enters Tryz.prog 88 := ⟨_, _, Tryz.func88, rfl, by decide⟩
theorem F0_sound : PrimsSound Tryz.prog F0 := by
  intro f g hg args h K hK
  unfold F0 at hg
  split at hg
  · rename_i e; subst e; cases hg; exact keysP_sound enters89 Tryz.keysGiven89 args h K hK
  split at hg
  · rename_i e; subst e; cases hg; exact keysP_sound enters122 Tryz.keysGiven122 args h K hK
  split at hg
  · rename_i e; subst e; cases hg
    rcases orP_eq hK with hK | hK
    · exact sortedP_sound enters88 (by kernel_rfl) Tryz.sortedGiven122 args h K hK
    exact sortedP_sound enters88 (by kernel_rfl) Tryz.sortedGiven89 args h K hK
  · cases hg
noncomputable def defOps72 : List Oper := opsAt (codeOf Tryz.f72)
noncomputable def defCode72 : Code := partOf (codeOf Tryz.f72) [1]
def D0 : DPrims := fun f => if f = 72 then some (fun args pan h K => Nat.ble args.length 2 && deferP Tryz.prog 11 5 defOps72 defCode72 args pan h K) else none
theorem deferAt72 : DeferAt Tryz.prog 72 11 5 defOps72 defCode72 2 := ⟨⟨Tryz.f72, idAt (codeOf Tryz.f72), headOp defOps72, tsOf (headOp defOps72).op, Tryz.func72, by kernel_rfl, by kernel_rfl, by decide, by kernel_rfl, by decide, by decide, by kernel_rfl, by kernel_rfl, by kernel_rfl, by kernel_rfl⟩⟩
theorem D0_sound : DSound Tryz.prog D0 := by
  intro f g hg
  unfold D0 at hg
  split at hg
  · rename_i e; subst e; cases hg
    refine ⟨⟨_, _, Tryz.func72, rfl, by decide⟩, fun args pan h K hh w0 μ w vs pv h1 h2 h3 => ?_⟩
    simp only [Bool.and_eq_true] at hh
    exact (deferP_sound mixed deferAt72 (Nat.le_of_ble_eq_true hh.1) hh.2).2 w0 μ w vs pv h1 h2 h3
  cases hg
end
end Go.AM
