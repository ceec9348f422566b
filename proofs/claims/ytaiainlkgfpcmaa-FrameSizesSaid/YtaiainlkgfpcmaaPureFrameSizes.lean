/- The plain law of FrameSizes: how many bytes a frame has, for any number, or the error. -/
import Derived.Test.YtaiainlkgfpcmaaPFbx4
import Derived.Test.YtaiainlkgfpcmaaFp4
namespace Go.Proofs.Ytaiainlkgfpcmaa.Pure
open Go.RowKit Go.Proofs.Ytaiainlkgfpcmaa.PFa Go.Proofs.Ytaiainlkgfpcmaa.PFb Go.Proofs.YtaiainlkgfpcmaaW.PrintWords Go.Proofs.YtaiainlkgfpcmaaW.PrintLast Go.Proofs.Ytaiainlkgfpcmaa.H

theorem tdiv128 (n : Nat) : Int.tdiv (n : Int) 128 = ((n / 128 : Nat) : Int) := by
  rw [Int.tdiv_eq_ediv_of_nonneg (by omega)]; omega
theorem sizes_loop (a : Nat) (ha : a ≤ 1048576) : ∀ (k m j : Nat), m ≤ 1048576 → j + (varB m).length = 7 + a + (varB a).length → (varB m).length ≤ k → j ≤ 2000000 → redpencillaw19_FrameSizes.l0 k a (j : Int) (m : Int) = some true := by
  intro k
  induction k with
  | zero =>
    intro m j hm hj hk
    have := (varB_le3 m hm).1
    omega
  | succ k ih =>
    intro m j hm hj hk hj2
    rw [redpencillaw19_FrameSizes.l0]
    by_cases h : m < 128
    · rw [if_neg (by omega)]
      rw [varB_small h] at hj
      simp only [List.length_cons, List.length_nil] at hj
      rw [sizes_true ha (by omega)]
      rfl
    · have hb := congrArg List.length (varB_big h)
      rw [List.length_cons] at hb
      rw [if_pos (by omega), wrap64_small (a := (j : Int) + 1) (by omega) (by omega), tdiv128, wrap64_small (by omega) (by omega)]
      have := varB_le3 a ha
      have := varB_le3 (m / 128) (by omega)
      exact ih (m / 128) (j + 1) (by omega) (by omega) (by omega) (by omega)
theorem FrameSizes : redpencillaw19_FrameSizes.Pure := by
  intro a _
  refine ⟨4, ?_⟩
  rw [redpencillaw19_FrameSizes.f]
  by_cases h0 : a < 0
  · rw [if_pos h0, redpencillaw19_sizes.f, frame_Size.f, if_pos h0]; rfl
  rw [if_neg h0]
  by_cases h1 : a > 1048576
  · rw [if_pos h1, redpencillaw19_sizes.f, frame_Size.f, if_neg h0, if_pos h1]; rfl
  rw [if_neg h1]
  obtain ⟨n, rfl⟩ := Int.eq_ofNat_of_zero_le (show 0 ≤ a by omega)
  rw [wrap64_small (by omega) (by omega)]
  have := varB_le3 n (by omega)
  exact sizes_loop n (by omega) 4 n (7 + n) (by omega) (by omega) (by omega) (by omega)
end Go.Proofs.Ytaiainlkgfpcmaa.Pure
