import Derived.Test.YtaiainlkgfpcmaaHopen
/-! Plain: the check sum's step is linear and injective; by the table is the same as bit by bit. -/
namespace Go.Proofs.Ytaiainlkgfpcmaa.H
open Go.RowKit
set_option maxRecDepth 100000

theorem bits_xor_nat (k : IntKind) (j : Nat) (hj : j ≤ k.bits) (hk : ∀ n : Int, 0 ≤ n → n < 2 ^ j → k.wrap n = n) (a b : Nat) (ha : a < 2 ^ j) (hb : b < 2 ^ j) : bits .xor k a b = ((a ^^^ b : Nat) : Int) := by
  have hp : 2 ^ j ≤ 2 ^ k.bits := Nat.pow_le_pow_right (by decide) hj
  have ha' : a % 2 ^ k.bits = a := Nat.mod_eq_of_lt (Nat.lt_of_lt_of_le ha hp)
  have hb' : b % 2 ^ k.bits = b := Nat.mod_eq_of_lt (Nat.lt_of_lt_of_le hb hp)
  have cast : ∀ n : Nat, n < 2 ^ j → ((n : Nat) : Int) < 2 ^ j := fun n h => by exact_mod_cast h
  simp only [bits, BitVec.ofInt_natCast, BitVec.toNat_xor, BitVec.toNat_ofNat, ha', hb']
  exact hk _ (Int.natCast_nonneg _) (cast _ (Nat.xor_lt_two_pow ha hb))
theorem wraps_u32 (n : Int) (h₀ : 0 ≤ n) (h₁ : n < 2 ^ 32) : IntKind.u32.wrap n = n := by rw [IntKind.wrap_u32]; omega
theorem xor32 (a b : Nat) (ha : a < 4294967296) (hb : b < 4294967296) : bits .xor .u32 a b = ((a ^^^ b : Nat) : Int) := bits_xor_nat .u32 32 (by decide) wraps_u32 a b ha hb
theorem xor8 (a b : Nat) (ha : a < 256) (hb : b < 256) : bits .xor .u8 a b = ((a ^^^ b : Nat) : Int) := bits_xor_nat .u8 8 (by decide) wraps_u8 a b ha hb
theorem xor_lt32 {a b : Nat} (ha : a < 4294967296) (hb : b < 4294967296) : a ^^^ b < 4294967296 := Nat.xor_lt_two_pow (n := 32) ha hb

def stepN (n : Nat) : Nat := if n % 2 = 1 then (n / 2) ^^^ 2197175160 else n / 2
def stepsN : Nat → Nat → Nat
  | 0, n => n
  | k + 1, n => stepN (stepsN k n)
theorem stepN_lt {n : Nat} (h : n < 4294967296) : stepN n < 4294967296 := by
  unfold stepN
  split
  · exact xor_lt32 (by omega) (by decide)
  · omega
theorem stepsN_lt (k : Nat) {n : Nat} (h : n < 4294967296) : stepsN k n < 4294967296 := by
  induction k with
  | zero => exact h
  | succ k ih => exact stepN_lt ih
theorem step1_nat (n : Nat) (h : n < 4294967296) : step1 (n : Int) = ((stepN n : Nat) : Int) := by
  unfold step1 stepN
  have e : ((n : Int) / 2) = ((n / 2 : Nat) : Int) := by omega
  by_cases hp : n % 2 = 1
  · rw [if_pos hp, if_pos (by omega), e]
    exact xor32 (n / 2) 2197175160 (by omega) (by decide)
  · rw [if_neg hp, if_neg (by omega), e]
theorem steps_nat (k n : Nat) (h : n < 4294967296) : steps k (n : Int) = ((stepsN k n : Nat) : Int) := by
  induction k with
  | zero => rfl
  | succ k ih =>
    show step1 (steps k n) = _
    rw [ih, step1_nat _ (stepsN_lt k h)]
    rfl
theorem xor_half (a b : Nat) : (a ^^^ b) / 2 = a / 2 ^^^ b / 2 := by
  have := Nat.shiftRight_xor_distrib (a := a) (b := b) (i := 1)
  simpa [Nat.shiftRight_eq_div_pow] using this
theorem xor_par (a b : Nat) : (a ^^^ b) % 2 = (a % 2 + b % 2) % 2 := by
  have h := Nat.testBit_xor (x := a) (y := b) (i := 0)
  simp only [Nat.testBit_zero] at h
  rcases Nat.mod_two_eq_zero_or_one a with ha | ha <;> rcases Nat.mod_two_eq_zero_or_one b with hb | hb <;> rcases Nat.mod_two_eq_zero_or_one (a ^^^ b) with hc | hc <;> simp_all
theorem stepN_xor (a b : Nat) : stepN (a ^^^ b) = stepN a ^^^ stepN b := by
  have hp := xor_par a b
  have hh := xor_half a b
  unfold stepN
  rcases Nat.mod_two_eq_zero_or_one a with ha | ha <;> rcases Nat.mod_two_eq_zero_or_one b with hb | hb
  · rw [if_neg (by omega), if_neg (by omega), if_neg (by omega), hh]
  · rw [if_pos (by omega), if_neg (by omega), if_pos (by omega), hh, Nat.xor_assoc]
  · rw [if_pos (by omega), if_pos (by omega), if_neg (by omega), hh, Nat.xor_assoc, Nat.xor_comm (b / 2), ← Nat.xor_assoc]
  · rw [if_neg (by omega), if_pos (by omega), if_pos (by omega), hh, Nat.xor_assoc, Nat.xor_comm 2197175160, Nat.xor_assoc, Nat.xor_self, Nat.xor_zero]
theorem stepsN_xor (k a b : Nat) : stepsN k (a ^^^ b) = stepsN k a ^^^ stepsN k b := by
  induction k with
  | zero => rfl
  | succ k ih => show stepN (stepsN k _) = _; rw [ih, stepN_xor]; rfl
theorem stepsN_pow (k m : Nat) : stepsN k (m * 2 ^ k) = m := by
  induction k generalizing m with
  | zero => simp [stepsN]
  | succ k ih =>
    show stepN (stepsN k (m * 2 ^ (k + 1))) = m
    rw [Nat.pow_succ, Nat.mul_comm (2 ^ k), ← Nat.mul_assoc, ih]
    unfold stepN
    rw [if_neg (by omega)]
    omega
theorem split256 (n : Nat) : n = (n / 256 * 256) ^^^ (n % 256) := by
  apply Nat.eq_of_testBit_eq
  intro i
  rw [Nat.testBit_xor]
  rw [show n / 256 * 256 = n / 2 ^ 8 * 2 ^ 8 from rfl, show n % 256 = n % 2 ^ 8 from rfl, Nat.testBit_mod_two_pow, Nat.testBit_mul_two_pow, Nat.testBit_div_two_pow]
  by_cases h : i < 8
  · simp [h, show ¬ 8 ≤ i by omega]
  · simp [h, show 8 ≤ i by omega, show i - 8 + 8 = i by omega]
/-- By the table is the same as bit by bit. -/
theorem updI_steps (n x : Int) (h0 : 0 ≤ n) (h1 : n ≤ 4294967295) (x0 : 0 ≤ x) (x1 : x ≤ 255) : steps 8 (bits .xor .u32 n x) = updI n x := by
  obtain ⟨n, rfl⟩ := Int.eq_ofNat_of_zero_le h0
  obtain ⟨x, rfl⟩ := Int.eq_ofNat_of_zero_le x0
  have hn : n < 4294967296 := by omega
  have hx : x < 256 := by omega
  have e1 : ((n : Int) % 256) = ((n % 256 : Nat) : Int) := by omega
  have e2 : ((n : Int) / 256) = ((n / 256 : Nat) : Int) := by omega
  have hlow : (n % 256) ^^^ x < 256 := Nat.xor_lt_two_pow (n := 8) (by omega) (by omega)
  unfold updI tabAt
  rw [xor32 n x hn (by omega), steps_nat 8 _ (xor_lt32 hn (by omega)), e1, e2, xor8 _ _ (by omega) hx, Int.toNat_natCast, steps_nat 8 _ (by omega), xor32 _ _ (stepsN_lt 8 (by omega)) (by omega)]
  congr 1
  conv => lhs; rw [split256 n]
  rw [Nat.xor_assoc, stepsN_xor, show n / 256 * 256 = n / 256 * 2 ^ 8 from rfl, stepsN_pow, Nat.xor_comm]
theorem not32_sub (m : Int) (h0 : 0 ≤ m) (h1 : m ≤ 4294967295) : not32 m = 4294967295 - m := by
  obtain ⟨m, rfl⟩ := Int.eq_ofNat_of_zero_le h0
  have hm : m < 2 ^ 32 := by omega
  unfold not32
  rw [show IntKind.u32.max = ((4294967295 : Nat) : Int) from rfl, xor32 _ _ (by decide) (by omega)]
  have h2 := BitVec.toNat_not (x := BitVec.ofNat 32 m)
  have h3 : (~~~ BitVec.ofNat 32 m) = BitVec.allOnes 32 ^^^ BitVec.ofNat 32 m := BitVec.not_def
  rw [h3, BitVec.toNat_xor] at h2
  simp only [BitVec.toNat_allOnes, BitVec.toNat_ofNat, Nat.mod_eq_of_lt hm] at h2
  have h4 : (4294967295 ^^^ m : Nat) = 4294967295 - m := h2
  rw [h4]
  omega
theorem foldl_updI_range (l : List Int) : ∀ n : Int, 0 ≤ n → n ≤ 4294967295 → 0 ≤ l.foldl updI n ∧ l.foldl updI n ≤ 4294967295 := by
  induction l with
  | nil => exact fun n h0 h1 => ⟨h0, h1⟩
  | cons x l ih => exact fun n _ _ => ih _ (updI_range _ _).1 (updI_range _ _).2

end Go.Proofs.Ytaiainlkgfpcmaa.H
