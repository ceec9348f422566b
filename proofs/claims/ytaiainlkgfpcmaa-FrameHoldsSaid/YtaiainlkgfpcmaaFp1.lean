/- The length that bytes begin with: what frame.head finds is what the reference finds; its bytes are the bytes of the number. -/
import Derived.Test.YtaiainlkgfpcmaaHref3
import Derived.Test.YtaiainlkgfpcmaaHhead
import Derived.Lib.EndianBits
namespace Go.Proofs.Ytaiainlkgfpcmaa.H
open Go.RowKit Go.Proofs.YtaiainlkgfpcmaaW.PrintWords Go.Proofs.YtaiainlkgfpcmaaW.PrintMore
set_option maxRecDepth 100000

theorem andNot_fin : ∀ a : Fin 256, bits .andNot .u8 ((a.val : Nat) : Int) 128 = ((a.val % 128 : Nat) : Int) := by decide
theorem andNot128 (x : Int) (h0 : 0 ≤ x) (h1 : x ≤ 255) : bits .andNot .u8 x 128 = x % 128 := by
  obtain ⟨x, rfl⟩ := Int.eq_ofNat_of_zero_le h0
  have := andNot_fin ⟨x, by omega⟩
  simp only at this
  rw [this]
  omega
theorem step_val (n x : Int) (h0 : 0 ≤ n) (h1 : n < 16384) (x0 : 0 ≤ x) (x1 : x ≤ 255) :
    bits .or .u64 (IntKind.u64.wrap (n * 128)) (IntKind.u64.wrap (bits .andNot .u8 x 128)) = n * 128 + x % 128 := by
  rw [andNot128 x x0 x1, wraps_u64 _ (by omega) (by omega), wraps_u64 _ (by omega) (by omega)]
  exact bits_join .u64 64 (by decide) wraps_u64 7 (n * 128) (x % 128) (by omega) (by omega) (by omega) (by omega) (by omega) (by omega)

theorem varB_two {n : Nat} (h : ¬ n < 128) (h2 : n / 128 < 128) : varB n = [((n % 128 + 128 : Nat) : Int), ((n / 128 : Nat) : Int)] := by rw [varB_big h, varB_small h2]
theorem varB_three {n : Nat} (h : ¬ n < 128) (h2 : ¬ n / 128 < 128) (h3 : n / 128 / 128 < 128) : varB n = [((n % 128 + 128 : Nat) : Int), ((n / 128 % 128 + 128 : Nat) : Int), ((n / 128 / 128 : Nat) : Int)] := by rw [varB_big h, varB_big h2, varB_small h3]

/-- What frame.head tells of the bytes of a length, when the reference tells t of them. -/
def headOf (t : Int × Int × Int) : Int × Int × Int := if t.2.2 = 0 then (2 + t.2.1, t.1, 0) else (0, 0, t.2.2)

theorem lt128_true {x : Int} (h : x < 128) : lt128 x = true := decide_eq_true h
theorem lt128_false {x : Int} (h : ¬ x < 128) : lt128 x = false := decide_eq_false h

theorem wrap64_small {a : Int} (h0 : 0 ≤ a) (h1 : a < 9223372036854775808) : wrap64 a = a := by unfold wrap64; omega
theorem numF_of {r : List Int} {v : Int} {s : Int} {e : Int} (h : numR r = (v, s, e)) (most : Int) : numF r most = if e ≠ 0 then (0, e, 0) else if most < v then (0, 3, 0) else (v, 0, s.toNat) := by
  rw [numF, h]
theorem headL_of {p r : List Int} {k : Nat} {v s e : Int} (hk : idxP lt128 p = (k : Int)) (hr : p.take ((k : Int) + 1).toNat = r) (hn : numR r = (v, s, e)) :
    headL p = if e ≠ 0 ∨ 1048576 < v then (0, 0, 12) else (2 + (k : Int) + 1, wrap64 v, 0) := by
  rw [headL, hk, if_neg (by omega), hr, numF_of hn]
  by_cases he : e = 0
  · subst he
    by_cases hv : 1048576 < v
    · simp [hv]
    · simp [hv]
  · simp [he]
theorem numR_of {r : List Int} {k : Nat} (hk : idxP lt128 (r.take 10) = (k : Int)) : numR r = if (0 < (k : Int) ∧ rd r k = 0) ∨ ((k : Int) = 9 ∧ 1 < rd r k) then (0, 0, 12) else (valI r ((k : Int) + 1).toNat 0, (k : Int) + 1, 0) := by
  simp only [numR, hk]
  rw [if_neg (by omega)]

theorem head_len1 (a : Int) (t : List Int) (a0 : 0 ≤ a) (a1 : a < 128) : headL ((a :: t).take 3) = headOf (refLen (a :: t)) := by
  have hi : idxP lt128 ((a :: t).take 3) = ((0 : Nat) : Int) := idxP_some (by simp) (by simpa [rd] using lt128_true a1) (fun j hj => by omega)
  have hR : refLen (a :: t) = (a, 1, 0) := by
    have hra : rd (a :: t) ((0 : Nat) : Int) = a := rfl
    unfold refLen
    rw [refLenG, if_neg (by simp), if_pos (by rw [hra]; exact a1), if_neg (by rw [hra]; simp; omega)]
    rw [hra]
    simp
    omega
  have hT : ((a :: t).take 3).take (((0 : Nat) : Int) + 1).toNat = [a] := by simp
  have hk : idxP lt128 (([a] : List Int).take 10) = ((0 : Nat) : Int) := idxP_some (by simp) (by simpa [rd] using lt128_true a1) (fun j hj => by omega)
  have hN : numR [a] = (a, 1, 0) := by
    rw [numR_of hk, if_neg (by omega)]
    have hv : valI [a] (((0 : Nat) : Int) + 1).toNat 0 = a := by
      show bits .or .u64 (IntKind.u64.wrap (0 * 128)) (IntKind.u64.wrap (bits .andNot .u8 a 128)) = a
      rw [step_val 0 a (by omega) (by omega) (by omega) (by omega)]
      omega
    rw [hv]; rfl
  rw [hR, headL_of hi hT hN, if_neg (by omega)]
  simp only [headOf, if_true]
  rw [wrap64_small (by omega) (by omega)]
  rfl

theorem head_len2 (a b : Int) (t : List Int) (a0 : 128 ≤ a) (a1 : a ≤ 255) (b0 : 0 ≤ b) (b1 : b < 128) : headL ((a :: b :: t).take 3) = headOf (refLen (a :: b :: t)) := by
  have hi : idxP lt128 ((a :: b :: t).take 3) = ((1 : Nat) : Int) := idxP_some (by simp) (by simpa [rd] using lt128_true b1) (fun j hj => by
    obtain rfl : j = 0 := by omega
    exact lt128_false (by simpa [rd] using a0))
  have hra : rd (a :: b :: t) ((0 : Nat) : Int) = a := rfl
  have hrb : rd (a :: b :: t) ((1 : Nat) : Int) = b := rfl
  have hT : ((a :: b :: t).take 3).take (((1 : Nat) : Int) + 1).toNat = [a, b] := by simp
  have hk : idxP lt128 (([a, b] : List Int).take 10) = ((1 : Nat) : Int) := idxP_some (by simp) (by simpa [rd] using lt128_true b1) (fun j hj => by
    obtain rfl : j = 0 := by omega
    exact lt128_false (by simpa [rd] using a0))
  have hrb2 : rd [a, b] ((1 : Nat) : Int) = b := rfl
  have hR : refLen (a :: b :: t) = if b = 0 then (0, 0, 12) else (a % 128 + b * 128, 2, 0) := by
    unfold refLen
    rw [refLenG, if_neg (by simp), if_neg (by rw [hra]; omega), hra, refLenG, if_neg (by simp), if_pos (by rw [hrb]; exact b1), hrb]
    by_cases hb : b = 0
    · rw [if_pos hb, if_pos (.inr ⟨by omega, hb⟩)]
    · rw [if_neg hb, if_neg (by simp only [Nat.mul_zero, Int.pow_zero]; omega)]
      refine Prod.ext ?_ rfl
      simp only
      omega
  have hN : numR [a, b] = if b = 0 then (0, 0, 12) else (a % 128 + b * 128, 2, 0) := by
    rw [numR_of hk, hrb2]
    by_cases hb : b = 0
    · rw [if_pos hb, if_pos (.inl ⟨by omega, hb⟩)]
    · rw [if_neg hb, if_neg (by omega)]
      have hv : valI [a, b] (((1 : Nat) : Int) + 1).toNat 0 = a % 128 + b * 128 := by
        show bits .or .u64 (IntKind.u64.wrap (bits .or .u64 (IntKind.u64.wrap (0 * 128)) (IntKind.u64.wrap (bits .andNot .u8 b 128)) * 128)) (IntKind.u64.wrap (bits .andNot .u8 a 128)) = _
        rw [step_val 0 b (by omega) (by omega) (by omega) (by omega), step_val _ a (by omega) (by omega) (by omega) (by omega)]
        omega
      rw [hv]; rfl
  by_cases hb : b = 0
  · rw [if_pos hb] at hR hN
    rw [hR, headL_of hi hT hN, if_pos (.inl (by omega))]
    rfl
  · rw [if_neg hb] at hR hN
    rw [hR, headL_of hi hT hN, if_neg (by omega)]
    simp only [headOf, if_true]
    rw [wrap64_small (by omega) (by omega)]
    rfl

theorem head_len3 (a b c : Int) (t : List Int) (a0 : 128 ≤ a) (a1 : a ≤ 255) (b0 : 128 ≤ b) (b1 : b ≤ 255) (c0 : 0 ≤ c) (c1 : c < 128) : headL ((a :: b :: c :: t).take 3) = headOf (refLen (a :: b :: c :: t)) := by
  have hn : ∀ j : Nat, j < 2 → ∀ t' : List Int, lt128 (rd (a :: b :: c :: t') j) = false := fun j hj t' => by
    rcases (show j = 0 ∨ j = 1 by omega) with rfl | rfl
    · exact lt128_false (by simpa [rd] using a0)
    · exact lt128_false (by simpa [rd] using b0)
  have hi : idxP lt128 ((a :: b :: c :: t).take 3) = ((2 : Nat) : Int) := idxP_some (by simp) (by simpa [rd] using lt128_true c1) (fun j hj => hn j hj [])
  have hra : rd (a :: b :: c :: t) ((0 : Nat) : Int) = a := rfl
  have hrb : rd (a :: b :: c :: t) ((1 : Nat) : Int) = b := rfl
  have hrc : rd (a :: b :: c :: t) ((2 : Nat) : Int) = c := rfl
  have hT : ((a :: b :: c :: t).take 3).take (((2 : Nat) : Int) + 1).toNat = [a, b, c] := by simp
  have hk : idxP lt128 (([a, b, c] : List Int).take 10) = ((2 : Nat) : Int) := idxP_some (by simp) (by simpa [rd] using lt128_true c1) (fun j hj => hn j hj [])
  have hrc2 : rd [a, b, c] ((2 : Nat) : Int) = c := rfl
  have hR : refLen (a :: b :: c :: t) = if c = 0 ∨ 1048576 < a % 128 + b % 128 * 128 + c * 16384 then (0, 0, 12) else (a % 128 + b % 128 * 128 + c * 16384, 3, 0) := by
    unfold refLen
    rw [refLenG, if_neg (by simp), if_neg (by rw [hra]; omega), hra, refLenG, if_neg (by simp), if_neg (by rw [hrb]; omega), hrb, refLenG, if_neg (by simp), if_pos (by rw [hrc]; exact c1), hrc]
    have e : 0 + a % 128 * 2 ^ (7 * 0) + b % 128 * 2 ^ (7 * (0 + 1)) + c % 128 * 2 ^ (7 * (0 + 1 + 1)) = a % 128 + b % 128 * 128 + c * 16384 := by
      simp only [Nat.mul_zero, Int.pow_zero, Nat.zero_add]
      omega
    rw [e]
    by_cases hc : c = 0 ∨ 1048576 < a % 128 + b % 128 * 128 + c * 16384
    · rw [if_pos hc, if_pos (by rcases hc with h | h; exact .inr ⟨by omega, h⟩; exact .inl h)]
    · rw [if_neg hc, if_neg (by omega)]
      rfl
  have hN : numR [a, b, c] = if c = 0 then (0, 0, 12) else (a % 128 + b % 128 * 128 + c * 16384, 3, 0) := by
    rw [numR_of hk, hrc2]
    by_cases hc : c = 0
    · rw [if_pos hc, if_pos (.inl ⟨by omega, hc⟩)]
    · rw [if_neg hc, if_neg (by omega)]
      have hv : valI [a, b, c] (((2 : Nat) : Int) + 1).toNat 0 = a % 128 + b % 128 * 128 + c * 16384 := by
        show bits .or .u64 (IntKind.u64.wrap (bits .or .u64 (IntKind.u64.wrap (bits .or .u64 (IntKind.u64.wrap (0 * 128)) (IntKind.u64.wrap (bits .andNot .u8 c 128)) * 128)) (IntKind.u64.wrap (bits .andNot .u8 b 128)) * 128)) (IntKind.u64.wrap (bits .andNot .u8 a 128)) = _
        rw [step_val 0 c (by omega) (by omega) (by omega) (by omega), step_val _ b (by omega) (by omega) (by omega) (by omega), step_val _ a (by omega) (by omega) (by omega) (by omega)]
        omega
      rw [hv]; rfl
  by_cases hc : c = 0
  · rw [if_pos hc] at hN
    rw [if_pos (.inl hc)] at hR
    rw [hR, headL_of hi hT hN, if_pos (.inl (by omega))]
    rfl
  · rw [if_neg hc] at hN
    by_cases hm : 1048576 < a % 128 + b % 128 * 128 + c * 16384
    · rw [if_pos (.inr hm)] at hR
      rw [hR, headL_of hi hT hN, if_pos (.inr hm)]
      rfl
    · rw [if_neg (by omega)] at hR
      rw [hR, headL_of hi hT hN, if_neg (by omega)]
      simp only [headOf, if_true]
      rw [wrap64_small (by omega) (by omega)]
      rfl
theorem head_ref (q : List Int) (hq : ∀ x ∈ q, 0 ≤ x ∧ x ≤ 255) : headL (q.take 3) = headOf (refLen q) := by
  match q, hq with
  | [], _ => simp [headL, idxP, refLen, refLenG, headOf]
  | a :: t, hq =>
    have ha := hq a (by simp)
    by_cases ha1 : a < 128
    · exact head_len1 a t ha.1 ha1
    match t, hq with
    | [], _ =>
      have hi : idxP lt128 [a] = -1 := idxP_none (fun j hj => by obtain rfl : j = 0 := by simpa using hj
                                                                 exact lt128_false (by simpa [rd] using ha1))
      have hra : rd [a] ((0 : Nat) : Int) = a := rfl
      have hR : refLen [a] = (0, 0, 4) := by
        unfold refLen
        rw [refLenG, if_neg (by simp), if_neg (by rw [hra]; omega), refLenG, if_pos (by simp)]
      rw [hR]
      show headL [a] = _
      rw [headL, hi, if_pos (by omega), if_pos (by simp)]
      rfl
    | b :: t, hq =>
      have hb := hq b (by simp)
      by_cases hb1 : b < 128
      · exact head_len2 a b t (by omega) ha.2 hb.1 hb1
      have hn : ∀ j : Nat, j < 2 → ∀ t' : List Int, lt128 (rd (a :: b :: t') j) = false := fun j hj t' => by
        rcases (show j = 0 ∨ j = 1 by omega) with rfl | rfl
        · exact lt128_false (by simpa [rd] using ha1)
        · exact lt128_false (by simpa [rd] using hb1)
      have hra : ∀ t' : List Int, rd (a :: b :: t') ((0 : Nat) : Int) = a := fun _ => rfl
      have hrb : ∀ t' : List Int, rd (a :: b :: t') ((0 + 1 : Nat) : Int) = b := fun _ => rfl
      match t, hq with
      | [], _ =>
        have hi : idxP lt128 [a, b] = -1 := idxP_none (fun j hj => hn j (by simpa using hj) [])
        have hR : refLen [a, b] = (0, 0, 4) := by
          unfold refLen
          rw [refLenG, if_neg (by simp), if_neg (by rw [hra]; omega), refLenG, if_neg (by simp), if_neg (by rw [hrb]; omega), refLenG, if_pos (by simp)]
        rw [hR]
        show headL [a, b] = _
        rw [headL, hi, if_pos (by omega), if_pos (by simp)]
        rfl
      | c :: t, hq =>
        have hc := hq c (by simp)
        by_cases hc1 : c < 128
        · exact head_len3 a b c t (by omega) ha.2 (by omega) hb.2 hc.1 hc1
        have hi : idxP lt128 [a, b, c] = -1 := idxP_none (fun j hj => by
          rcases (show j < 2 ∨ j = 2 by simp at hj; omega) with h | rfl
          · exact hn j h [c]
          · exact lt128_false (by simpa [rd] using hc1))
        have hrc : rd (a :: b :: c :: t) ((0 + 1 + 1 : Nat) : Int) = c := rfl
        have hR : refLen (a :: b :: c :: t) = (0, 0, 12) := by
          unfold refLen
          rw [refLenG, if_neg (by simp), if_neg (by rw [hra]; omega), refLenG, if_neg (by simp), if_neg (by rw [hrb]; omega), refLenG, if_neg (by simp), if_neg (by rw [hrc]; omega), refLenG]
        rw [hR]
        show headL [a, b, c] = _
        rw [headL, hi, if_pos (by omega), if_neg (by simp)]
        rfl
end Go.Proofs.Ytaiainlkgfpcmaa.H
