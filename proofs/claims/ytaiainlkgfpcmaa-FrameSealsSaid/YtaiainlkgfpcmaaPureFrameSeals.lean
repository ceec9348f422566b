/- The plain law of FrameSeals: the frame of any kind with any body, or the error. -/
import Derived.Test.YtaiainlkgfpcmaaPFbx1
import Derived.Test.YtaiainlkgfpcmaaFq1
import Derived.OpenShut
namespace Go.Proofs.Ytaiainlkgfpcmaa.Pure
open Go.RowKit Go.Proofs.Ytaiainlkgfpcmaa.PFa Go.Proofs.Ytaiainlkgfpcmaa.PFb Go.Proofs.YtaiainlkgfpcmaaW.PrintWords Go.Proofs.YtaiainlkgfpcmaaW.PrintLast Go.Proofs.Ytaiainlkgfpcmaa.H

theorem seals_j (a : Int) (l : List Int) (hb : ∀ x ∈ l, 0 ≤ x ∧ x ≤ 255) (hl : l.length ≤ 400) (b : Bool) (h : b = true ↔ (a < 1 ∨ 255 < a)) : redpencillaw19_FrameSeals.j0 1000 a l b = some true := by
  rw [redpencillaw19_FrameSeals.j0]
  by_cases hk : a < 1 ∨ 255 < a
  · rw [if_pos (h.2 hk), seals_true hb (p := []) (e := 2) (by rw [sealF, if_pos hk])]
    rfl
  · have hsl := sealS_len a l
    have hv := varB_le3 l.length (by omega)
    have hsb := sealS_bytes a l (by omega) (by omega) hb
    rw [if_neg (fun h5 => hk (h.1 h5)), if_pos (by simp only [List.length_nil]; omega)]
    simp only [Option.bind_some, List.nil_append]
    rw [redpencilref19_Seal.f, if_pos ⟨by omega, by omega, isBytes_iff.2 hb, by omega⟩]
    simp only [Option.bind_some]
    rw [seals_true hb (sealF_ok (by omega) (by omega) (by omega))]
    simp only [Option.bind_some, if_true]
    rw [sizes_true (by omega) (by rw [hsl]), right_true _ hsb (by omega) _ (by omega)]
    rfl
theorem FrameSeals : redpencillaw19_FrameSeals.Pure := by
  intro a l _ h1 h2 hb
  have hb' : ∀ x ∈ l, 0 ≤ x ∧ x ≤ 255 := fun x hx => bounds_u8 (hb x hx)
  refine ⟨1000, ?_⟩
  rw [redpencillaw19_FrameSeals.f]
  by_cases hl : (l.length : Int) > 400
  · rw [if_pos hl]; rfl
  rw [if_neg hl]
  by_cases h0 : a < 1
  · rw [if_pos h0]
    exact seals_j a l hb' (by omega) true ⟨fun _ => .inl h0, fun _ => rfl⟩
  · rw [if_neg h0]
    exact seals_j a l hb' (by omega) _ ⟨fun h => .inr (of_decide_eq_true h), fun h => decide_eq_true (by omega)⟩
end Go.Proofs.Ytaiainlkgfpcmaa.Pure
