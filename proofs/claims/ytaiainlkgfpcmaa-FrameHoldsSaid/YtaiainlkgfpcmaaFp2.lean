/- The reference's length: when it is one, its bytes are the bytes of the number; and the bytes of a number have it. -/
import Derived.Test.YtaiainlkgfpcmaaFp1
namespace Go.Proofs.Ytaiainlkgfpcmaa.H
open Go.RowKit Go.Proofs.YtaiainlkgfpcmaaW.PrintWords Go.Proofs.YtaiainlkgfpcmaaW.PrintMore
set_option maxRecDepth 100000

theorem refLen_nil : refLen [] = (0, 0, 4) := by simp [refLen, refLenG]
theorem refLen_1 (a : Int) (t : List Int) (a0 : 0 ≤ a) (a1 : a < 128) : refLen (a :: t) = (a, 1, 0) := by
  have hra : rd (a :: t) ((0 : Nat) : Int) = a := rfl
  unfold refLen
  rw [refLenG, if_neg (by simp), if_pos (by rw [hra]; exact a1), if_neg (by rw [hra]; simp; omega)]
  rw [hra]
  simp
  omega
theorem refLen_2 (a b : Int) (t : List Int) (a0 : 128 ≤ a) (b0 : 0 ≤ b) (b1 : b < 128) : refLen (a :: b :: t) = if b = 0 then (0, 0, 12) else (a % 128 + b * 128, 2, 0) := by
  have hra : rd (a :: b :: t) ((0 : Nat) : Int) = a := rfl
  have hrb : rd (a :: b :: t) ((0 + 1 : Nat) : Int) = b := rfl
  unfold refLen
  rw [refLenG, if_neg (by simp), if_neg (by rw [hra]; omega), hra, refLenG, if_neg (by simp), if_pos (by rw [hrb]; exact b1), hrb]
  by_cases hb : b = 0
  · rw [if_pos hb, if_pos (.inr ⟨by omega, hb⟩)]
  · rw [if_neg hb, if_neg (by simp only [Nat.mul_zero, Int.pow_zero]; omega)]
    refine Prod.ext ?_ rfl
    simp only
    omega
theorem refLen_3 (a b c : Int) (t : List Int) (a0 : 128 ≤ a) (b0 : 128 ≤ b) (c0 : 0 ≤ c) (c1 : c < 128) : refLen (a :: b :: c :: t) = if c = 0 ∨ 1048576 < a % 128 + b % 128 * 128 + c * 16384 then (0, 0, 12) else (a % 128 + b % 128 * 128 + c * 16384, 3, 0) := by
  have hra : rd (a :: b :: c :: t) ((0 : Nat) : Int) = a := rfl
  have hrb : rd (a :: b :: c :: t) ((0 + 1 : Nat) : Int) = b := rfl
  have hrc : rd (a :: b :: c :: t) ((0 + 1 + 1 : Nat) : Int) = c := rfl
  unfold refLen
  rw [refLenG, if_neg (by simp), if_neg (by rw [hra]; omega), hra, refLenG, if_neg (by simp), if_neg (by rw [hrb]; omega), hrb, refLenG, if_neg (by simp), if_pos (by rw [hrc]; exact c1), hrc]
  have e : 0 + a % 128 * 2 ^ (7 * 0) + b % 128 * 2 ^ (7 * (0 + 1)) + c % 128 * 2 ^ (7 * (0 + 1 + 1)) = a % 128 + b % 128 * 128 + c * 16384 := by
    simp only [Nat.mul_zero, Int.pow_zero, Nat.zero_add]
    omega
  rw [e]
  by_cases hc : c = 0 ∨ 1048576 < a % 128 + b % 128 * 128 + c * 16384
  · rw [if_pos hc, if_pos (by rcases hc with h | h; exact .inr ⟨by omega, h⟩; exact .inl h)]
  · rw [if_neg hc, if_neg (by omega)]
    rfl
theorem refLen_4 (a b c : Int) (t : List Int) (a0 : 128 ≤ a) (b0 : 128 ≤ b) (c0 : 128 ≤ c) : refLen (a :: b :: c :: t) = (0, 0, 12) := by
  have hra : rd (a :: b :: c :: t) ((0 : Nat) : Int) = a := rfl
  have hrb : rd (a :: b :: c :: t) ((0 + 1 : Nat) : Int) = b := rfl
  have hrc : rd (a :: b :: c :: t) ((0 + 1 + 1 : Nat) : Int) = c := rfl
  unfold refLen
  rw [refLenG, if_neg (by simp), if_neg (by rw [hra]; omega), refLenG, if_neg (by simp), if_neg (by rw [hrb]; omega), refLenG, if_neg (by simp), if_neg (by rw [hrc]; omega), refLenG]
theorem refLen_s1 (a : Int) (a0 : 128 ≤ a) : refLen [a] = (0, 0, 4) := by
  have hra : rd [a] ((0 : Nat) : Int) = a := rfl
  unfold refLen
  rw [refLenG, if_neg (by simp), if_neg (by rw [hra]; omega), refLenG, if_pos (by simp)]
theorem refLen_s2 (a b : Int) (a0 : 128 ≤ a) (b0 : 128 ≤ b) : refLen [a, b] = (0, 0, 4) := by
  have hra : rd [a, b] ((0 : Nat) : Int) = a := rfl
  have hrb : rd [a, b] ((0 + 1 : Nat) : Int) = b := rfl
  unfold refLen
  rw [refLenG, if_neg (by simp), if_neg (by rw [hra]; omega), refLenG, if_neg (by simp), if_neg (by rw [hrb]; omega), refLenG, if_pos (by simp)]

/-- A length that is none, or the bytes of a number. -/
theorem refLen_cases (q : List Int) (hq : ∀ x ∈ q, 0 ≤ x ∧ x ≤ 255) :
    (refLen q = (0, 0, 4) ∨ refLen q = (0, 0, 12)) ∨ ∃ n : Nat, n ≤ 1048576 ∧ refLen q = ((n : Int), ((varB n).length : Int), 0) ∧ q.take (varB n).length = varB n := by
  match q, hq with
  | [], _ => exact .inl (.inl refLen_nil)
  | a :: t, hq =>
    have ha := hq a (by simp)
    by_cases ha1 : a < 128
    · obtain ⟨m, rfl⟩ := Int.eq_ofNat_of_zero_le ha.1
      have hm : m < 128 := by omega
      exact .inr ⟨m, by omega, by rw [refLen_1 _ _ ha.1 ha1, varB_small hm]; rfl, by rw [varB_small hm]; rfl⟩
    match t, hq with
    | [], _ => exact .inl (.inl (refLen_s1 a (by omega)))
    | b :: t, hq =>
      have hb := hq b (by simp)
      by_cases hb1 : b < 128
      · by_cases hb0 : b = 0
        · exact .inl (.inr (by rw [refLen_2 a b t (by omega) hb.1 hb1, if_pos hb0]))
        · obtain ⟨m, hm⟩ := Int.eq_ofNat_of_zero_le (show 0 ≤ a % 128 + b * 128 by omega)
          have hv : varB m = [a, b] := by
            rw [varB_two (by omega) (by omega)]
            congr 1
            · omega
            · congr 1; omega
          refine .inr ⟨m, by omega, ?_, by rw [hv]; rfl⟩
          rw [refLen_2 a b t (by omega) hb.1 hb1, if_neg hb0, hm, hv]
          rfl
      match t, hq with
      | [], _ => exact .inl (.inl (refLen_s2 a b (by omega) (by omega)))
      | c :: t, hq =>
        have hc := hq c (by simp)
        by_cases hc1 : c < 128
        · by_cases hx : c = 0 ∨ 1048576 < a % 128 + b % 128 * 128 + c * 16384
          · exact .inl (.inr (by rw [refLen_3 a b c t (by omega) (by omega) hc.1 hc1, if_pos hx]))
          · obtain ⟨m, hm⟩ := Int.eq_ofNat_of_zero_le (show 0 ≤ a % 128 + b % 128 * 128 + c * 16384 by omega)
            have hv : varB m = [a, b, c] := by
              rw [varB_three (by omega) (by omega) (by omega)]
              congr 1
              · omega
              · congr 1
                · omega
                · congr 1; omega
            refine .inr ⟨m, by omega, ?_, by rw [hv]; rfl⟩
            rw [refLen_3 a b c t (by omega) (by omega) hc.1 hc1, if_neg hx, hm, hv]
            rfl
        · exact .inl (.inr (refLen_4 a b c t (by omega) (by omega) (by omega)))

theorem refLen_varB (n : Nat) (hn : n ≤ 1048576) (t : List Int) : refLen (varB n ++ t) = ((n : Int), ((varB n).length : Int), 0) := by
  by_cases h1 : n < 128
  · rw [varB_small h1]
    exact refLen_1 _ _ (by omega) (by omega)
  by_cases h2 : n / 128 < 128
  · rw [varB_two h1 h2]
    show refLen (_ :: _ :: t) = _
    rw [refLen_2 _ _ _ (by omega) (by omega) (by omega), if_neg (by omega)]
    refine Prod.ext ?_ rfl
    simp only
    omega
  · rw [varB_three h1 h2 (by omega)]
    show refLen (_ :: _ :: _ :: t) = _
    rw [refLen_3 _ _ _ _ (by omega) (by omega) (by omega) (by omega), if_neg (by omega)]
    refine Prod.ext ?_ rfl
    simp only
    omega
theorem refLen_short (n : Nat) (hn : n ≤ 1048576) (i : Nat) (hi : i < (varB n).length) : refLen ((varB n).take i) = (0, 0, 4) := by
  by_cases h1 : n < 128
  · rw [varB_small h1] at hi ⊢
    obtain rfl : i = 0 := by simpa using hi
    exact refLen_nil
  by_cases h2 : n / 128 < 128
  · rw [varB_two h1 h2] at hi ⊢
    rcases (show i = 0 ∨ i = 1 by simp at hi; omega) with rfl | rfl
    · exact refLen_nil
    · exact refLen_s1 _ (by omega)
  · rw [varB_three h1 h2 (by omega)] at hi ⊢
    rcases (show i = 0 ∨ i = 1 ∨ i = 2 by simp at hi; omega) with rfl | rfl | rfl
    · exact refLen_nil
    · exact refLen_s1 _ (by omega)
    · exact refLen_s2 _ _ (by omega) (by omega)
theorem varB_len (n : Nat) (hn : n ≤ 1048576) : (varB n).length = if n < 128 then 1 else if n < 16384 then 2 else 3 := by
  by_cases h1 : n < 128
  · rw [varB_small h1, if_pos h1]; rfl
  by_cases h2 : n < 16384
  · rw [varB_two h1 (by omega), if_neg h1, if_pos h2]; rfl
  · rw [varB_three h1 (by omega) (by omega), if_neg h1, if_neg h2]; rfl
end Go.Proofs.Ytaiainlkgfpcmaa.H
