/- The plain law of FrameReads: what any bytes begin with, and where the first frame in them is, is what the reference says. -/
import Derived.Test.YtaiainlkgfpcmaaPFbx2
import Derived.Test.YtaiainlkgfpcmaaFq1
import Derived.OpenShut
namespace Go.Proofs.Ytaiainlkgfpcmaa.Pure
open Go.RowKit Go.Proofs.Ytaiainlkgfpcmaa.PFb Go.Proofs.YtaiainlkgfpcmaaW.PrintWords Go.Proofs.YtaiainlkgfpcmaaW.PrintLast Go.Proofs.Ytaiainlkgfpcmaa.H

theorem FrameReads : redpencillaw19_FrameReads.Pure := by
  intro l h1 h2 hb
  have hb' : ∀ x ∈ l, 0 ≤ x ∧ x ≤ 255 := fun x hx => bounds_u8 (hb x hx)
  refine ⟨2 * l.length + 3, ?_⟩
  rw [redpencillaw19_FrameReads.f]
  by_cases hl : (l.length : Int) > 200
  · rw [if_pos hl]; rfl
  · rw [if_neg hl, right_true l hb' (by omega) _ (by omega)]
    rfl
end Go.Proofs.Ytaiainlkgfpcmaa.Pure
