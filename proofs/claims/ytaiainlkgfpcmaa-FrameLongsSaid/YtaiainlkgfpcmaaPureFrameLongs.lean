/- The plain law of FrameLongs: bodies with as many bytes as there may be, and one more. -/
import Derived.Test.YtaiainlkgfpcmaaPFbx4
import Derived.Test.YtaiainlkgfpcmaaFp4
import Derived.OpenShut
namespace Go.Proofs.Ytaiainlkgfpcmaa.Pure
open Go.RowKit Go.Proofs.Ytaiainlkgfpcmaa.PFa Go.Proofs.Ytaiainlkgfpcmaa.PFb Go.Proofs.YtaiainlkgfpcmaaW.PrintWords Go.Proofs.YtaiainlkgfpcmaaW.PrintLast Go.Proofs.Ytaiainlkgfpcmaa.H

theorem longs_j (n : Nat) (h0 : 1048574 ≤ n) (h1 : n ≤ 1048578) (x : Int) (x0 : 0 ≤ x) (x1 : x ≤ 255) : redpencillaw19_FrameLongs.j0 2 n x false = some true := by
  obtain ⟨body, hbody⟩ : ∃ body, (List.replicate n (0 : Int)).set (wrap64 ((n : Int) - 1)).toNat x = body := ⟨_, rfl⟩
  have hl : body.length = n := by rw [← hbody, List.length_set, List.length_replicate]
  have hb : ∀ y ∈ body, 0 ≤ y ∧ y ≤ 255 := fun y hy => by
    rw [← hbody] at hy
    rcases List.mem_or_eq_of_mem_set hy with h | rfl
    · have := List.eq_of_mem_replicate h; omega
    · exact ⟨x0, x1⟩
  rw [redpencillaw19_FrameLongs.j0, if_neg (by decide), if_pos (by omega), Int.toNat_natCast, if_pos (by omega)]
  simp only [Option.bind_some]
  rw [if_pos (by rw [wrap64_small (by omega) (by omega)]; omega), if_pos (by rw [wrap64_small (by omega) (by omega), List.length_replicate]; omega), hbody]
  rw [frame_Seal.f, if_pos (isBytes_iff.2 hb)]
  simp only [Option.bind_some]
  by_cases hn : (n : Int) > 1048576
  · have hF : sealF 200 body = ([], 5) := by rw [sealF, if_neg (by omega), if_pos (by omega)]
    rw [if_pos hn, hF]
    rfl
  · have hF : sealF 200 body = (sealS 200 body, 0) := sealF_ok (by omega) (by omega) (by omega)
    have hsl := sealS_len 200 body
    rw [hl, varB_len n (by omega), if_neg (by omega), if_neg (by omega)] at hsl
    have hsb := sealS_bytes 200 body (by omega) (by omega) hb
    have hO := openR_seal 200 body (by omega) (by omega)
    have hsh := refFirst_short 200 body (n + 8) (by omega) (by omega) (by omega)
    rw [if_neg hn, hF]
    generalize sealS 200 body = p at *
    rw [wrap64_small (a := (n : Int) + 9) (by omega) (by omega), if_pos (by simp only; omega), redpencillaw19_FrameLongs.j1, if_neg (by simp)]
    simp only
    rw [opens_true hsb (by omega) hO]
    simp only [Option.bind_some, if_true]
    rw [wrap64_small (by omega) (by omega), if_pos (by omega), if_pos (by omega), show ((p.length : Int) - 1).toNat = n + 8 by omega,
      opens_true (fun y hy => hsb y (List.mem_of_mem_take hy)) (by rw [List.length_take]; omega) (openR_err hsh (by decide))]
    rfl
theorem longs_out (n x : Int) : redpencillaw19_FrameLongs.j0 2 n x true = some true := by
  rw [redpencillaw19_FrameLongs.j0, if_pos rfl]; rfl
theorem FrameLongs : redpencillaw19_FrameLongs.Pure := by
  intro a x _ hx
  have hx := bounds_u8 hx
  refine ⟨2, ?_⟩
  rw [redpencillaw19_FrameLongs.f]
  by_cases h0 : a < 1048574
  · rw [if_pos h0]; exact longs_out _ _
  rw [if_neg h0]
  by_cases h1 : a > 1048578
  · rw [decide_eq_true h1]; exact longs_out _ _
  rw [decide_eq_false h1]
  obtain ⟨n, rfl⟩ := Int.eq_ofNat_of_zero_le (show 0 ≤ a by omega)
  exact longs_j n (by omega) (by omega) x hx.1 hx.2
end Go.Proofs.Ytaiainlkgfpcmaa.Pure
