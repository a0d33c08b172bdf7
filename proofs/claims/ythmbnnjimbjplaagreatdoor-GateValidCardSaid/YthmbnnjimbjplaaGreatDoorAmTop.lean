/- The chapter's example answers true, called from anywhere. Conditions: none. -/
import Derived.Test.YthmbnnjimbjplaaGreatDoorAmF1
namespace Go.AM
open Go
theorem alive_true : evalFn Proofs.Tryz.prog F1 D0 200 12 [] Heap.empty (boolK true) = true := by kernel_rfl
theorem alive_sem {h : Heap} {K : Out → Heap → Bool} (hK : K (.ret (.bool true)) h = true) : Sem Proofs.Tryz.prog 12 [] h K :=
  boolP_sound (evalFn_sound mixed F1_sound D0_sound 200) alive_true [] h K hK
end Go.AM
