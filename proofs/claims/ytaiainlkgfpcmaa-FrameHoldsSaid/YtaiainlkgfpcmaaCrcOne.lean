/- A byte that is another one changes the check sum. -/
import Derived.Test.YtaiainlkgfpcmaaHcrcpure
namespace Go.Proofs.Ytaiainlkgfpcmaa.H
open Go.RowKit Go.Proofs.YtaiainlkgfpcmaaW.PrintWords
set_option maxRecDepth 100000

theorem stepN_zero {c : Nat} (h : c < 4294967296) (h0 : stepN c = 0) : c = 0 := by
  unfold stepN at h0
  split at h0
  · have h1 : c / 2 = 2197175160 := by
      have := congrArg (· ^^^ 2197175160) h0
      simp only [Nat.xor_assoc, Nat.xor_self, Nat.xor_zero, Nat.zero_xor] at this
      exact this
    omega
  · omega
theorem stepsN_zero {c : Nat} (h : c < 4294967296) : ∀ k, stepsN k c = 0 → c = 0
  | 0, h0 => h0
  | k + 1, h0 => stepsN_zero h k (stepN_zero (stepsN_lt k h) h0)
theorem stepsN_inj {k a b : Nat} (ha : a < 4294967296) (hb : b < 4294967296) (h : stepsN k a = stepsN k b) : a = b := by
  have h1 : stepsN k (a ^^^ b) = 0 := by rw [stepsN_xor, h, Nat.xor_self]
  have h2 := stepsN_zero (xor_lt32 ha hb) k h1
  have := congrArg (· ^^^ b) h2
  simp only [Nat.xor_assoc, Nat.xor_self, Nat.xor_zero, Nat.zero_xor] at this
  exact this
theorem updI_inj {n m x y : Int} (n0 : 0 ≤ n) (n1 : n ≤ 4294967295) (m0 : 0 ≤ m) (m1 : m ≤ 4294967295) (x0 : 0 ≤ x) (x1 : x ≤ 255) (y0 : 0 ≤ y) (y1 : y ≤ 255) (h : updI n x = updI m y) :
    n.toNat ^^^ x.toNat = m.toNat ^^^ y.toNat := by
  rw [← updI_steps n x n0 n1 x0 x1, ← updI_steps m y m0 m1 y0 y1] at h
  obtain ⟨n, rfl⟩ := Int.eq_ofNat_of_zero_le n0
  obtain ⟨m, rfl⟩ := Int.eq_ofNat_of_zero_le m0
  obtain ⟨x, rfl⟩ := Int.eq_ofNat_of_zero_le x0
  obtain ⟨y, rfl⟩ := Int.eq_ofNat_of_zero_le y0
  rw [xor32 n x (by omega) (by omega), xor32 m y (by omega) (by omega), steps_nat 8 _ (xor_lt32 (by omega) (by omega)), steps_nat 8 _ (xor_lt32 (by omega) (by omega))] at h
  exact stepsN_inj (xor_lt32 (by omega) (by omega)) (xor_lt32 (by omega) (by omega)) (by exact_mod_cast h)
theorem updI_inj_n {n m x : Int} (n0 : 0 ≤ n) (n1 : n ≤ 4294967295) (m0 : 0 ≤ m) (m1 : m ≤ 4294967295) (x0 : 0 ≤ x) (x1 : x ≤ 255) (h : updI n x = updI m x) : n = m := by
  have := congrArg (· ^^^ x.toNat) (updI_inj n0 n1 m0 m1 x0 x1 x0 x1 h)
  simp only [Nat.xor_assoc, Nat.xor_self, Nat.xor_zero] at this
  omega
theorem updI_inj_x {n x y : Int} (n0 : 0 ≤ n) (n1 : n ≤ 4294967295) (x0 : 0 ≤ x) (x1 : x ≤ 255) (y0 : 0 ≤ y) (y1 : y ≤ 255) (h : updI n x = updI n y) : x = y := by
  have := congrArg (n.toNat ^^^ ·) (updI_inj n0 n1 n0 n1 x0 x1 y0 y1 h)
  simp only [← Nat.xor_assoc, Nat.xor_self, Nat.zero_xor] at this
  omega
theorem fold_inj (l : List Int) (hb : ∀ x ∈ l, 0 ≤ x ∧ x ≤ 255) : ∀ {n m : Int}, 0 ≤ n → n ≤ 4294967295 → 0 ≤ m → m ≤ 4294967295 → l.foldl updI n = l.foldl updI m → n = m := by
  induction l with
  | nil => exact fun _ _ _ _ h => h
  | cons x l ih =>
    intro n m n0 n1 m0 m1 h
    have hx := hb x (by simp)
    exact updI_inj_n n0 n1 m0 m1 hx.1 hx.2 (ih (fun y hy => hb y (by simp [hy])) (updI_range _ _).1 (updI_range _ _).2 (updI_range _ _).1 (updI_range _ _).2 h)
theorem sum_one (a b : List Int) (x y : Int) (hb : ∀ z ∈ b, 0 ≤ z ∧ z ≤ 255) (x0 : 0 ≤ x) (x1 : x ≤ 255) (y0 : 0 ≤ y) (y1 : y ≤ 255) (h : sumI (a ++ x :: b) = sumI (a ++ y :: b)) : x = y := by
  unfold sumI updS at h
  rw [List.foldl_append, List.foldl_append, List.foldl_cons, List.foldl_cons] at h
  have hs := foldl_updI_range a (not32 0) (u32_bits_range _ _ _).1 (u32_bits_range _ _ _).2
  have ha := foldl_updI_range b (updI (a.foldl updI (not32 0)) x) (updI_range _ _).1 (updI_range _ _).2
  have hc := foldl_updI_range b (updI (a.foldl updI (not32 0)) y) (updI_range _ _).1 (updI_range _ _).2
  rw [not32_sub _ ha.1 ha.2, not32_sub _ hc.1 hc.2] at h
  exact updI_inj_x hs.1 hs.2 x0 x1 y0 y1 (fold_inj b hb (updI_range _ _).1 (updI_range _ _).2 (updI_range _ _).1 (updI_range _ _).2 (by omega))
theorem crcB_inj {a b : Int} (a0 : 0 ≤ a) (a1 : a ≤ 4294967295) (b0 : 0 ≤ b) (b1 : b ≤ 4294967295) (h : crcB a = crcB b) : a = b := by
  simp only [crcB, List.cons.injEq, and_true] at h
  omega
theorem set_split {l : List Int} {i : Nat} (h : i < l.length) (v : Int) : l.set i v = l.take i ++ v :: l.drop (i + 1) := List.set_eq_take_append_cons_drop .. |>.trans (if_pos h)
theorem self_split {l : List Int} {i : Nat} (h : i < l.length) : l = l.take i ++ l[i] :: l.drop (i + 1) := by
  rw [← List.drop_eq_getElem_cons h, List.take_append_drop]
theorem sum_set {l : List Int} (hb : ∀ z ∈ l, 0 ≤ z ∧ z ≤ 255) {i : Nat} (hi : i < l.length) {v : Int} (v0 : 0 ≤ v) (v1 : v ≤ 255) (h : sumI (l.set i v) = sumI l) : v = l[i] := by
  have hx := hb _ (List.getElem_mem hi)
  rw [set_split hi] at h
  conv at h => rhs; rw [self_split hi]
  exact sum_one _ _ _ _ (fun z hz => hb z (List.mem_of_mem_drop hz)) v0 v1 hx.1 hx.2 h

end Go.Proofs.Ytaiainlkgfpcmaa.H
