import Derived.Test.YtaiainlkgfpcmaaHref2
namespace Go.Proofs.Ytaiainlkgfpcmaa.H
open Go.RowKit Go.Proofs.YtaiainlkgfpcmaaW.PrintWords Go.Proofs.YtaiainlkgfpcmaaW.PrintMore
set_option maxRecDepth 100000

def refLenG (p : List Int) : Nat → Nat → Int → Int × Int × Int
  | 0, _, _ => (0, 0, 12)
  | r + 1, k, n =>
    if k = p.length then (0, 0, 4)
    else if rd p k < 128 then (if 1048576 < n + rd p k % 128 * 2 ^ (7 * k) ∨ (0 < k ∧ rd p k = 0) then (0, 0, 12) else (n + rd p k % 128 * 2 ^ (7 * k), (k : Int) + 1, 0))
    else refLenG p r (k + 1) (n + rd p k % 128 * 2 ^ (7 * k))
def refLen (p : List Int) : Int × Int × Int := refLenG p 3 0 0
def Ret3W (t : Int × Int × Int) (w : World) (e : Ending) (w' : World) : Prop := e = .returned (.tuple #[.int .i64 t.1, .int .i64 t.2.1, .int .i64 t.2.2]) ∧ w = w'

set_option maxHeartbeats 1600000 in
theorem refLen_any (A : Option Addr) (n c : Nat) (p : List Int) (w : World) (hr : ReadsInt w .u8 A n p) (hb : ∀ x ∈ p, 0 ≤ x ∧ x ≤ 255) :
    Calls Try.prog 69 #[.slice A n c] w (Ret3W (refLen p) w) := by
  have hn9 := hr.2.1
  have hnl := hr.1
  have HN := Lib.hid hnl; clear hnl
  go_enter Try.func69, Try.ntmps69
  go_wp2_with fail
  go_loop [5, 6] (fun nv i => ∃ k : Nat, k ≤ n ∧ k ≤ 3 ∧ i = .int .i64 k ∧ ∃ m : Int, 0 ≤ m ∧ m < 2097152 ∧ Hid (m < 2 ^ (7 * k)) ∧ nv = .int .i64 m ∧ Hid (refLen p = refLenG p (3 - k) k m)) (fun _ i => 3 - (intOf i).toNat)
  case atStart => exact ⟨0, Nat.zero_le _, by omega, rfl, 0, by omega, by omega, by show (0 : Int) < 2 ^ (7 * 0); decide, rfl, rfl⟩
  case round =>
    obtain ⟨k, hk, hk3, rfl, m, hm0, hm1, hm2, rfl, hm⟩ := hrel
    by_cases h3 : k < 3
    · by_cases hlt : k < n
      · have hp := HN.out
        obtain ⟨ad, rfl, hcell⟩ := hr.at_ k (by omega) (by omega)
        rw [show ((k : Int)).toNat = k from rfl] at hcell
        have hx := bytes_rd hb k
        have g0 : (k : Int) < (n : Int) := by omega
        have hne : ((k : Int) == (n : Int)) = false := by simp; omega
        have hG : refLenG p (3 - k) k m = if rd p k < 128 then (if 1048576 < m + rd p k % 128 * 2 ^ (7 * k) ∨ (0 < k ∧ rd p k = 0) then (0, 0, 12) else (m + rd p k % 128 * 2 ^ (7 * k), (k : Int) + 1, 0))
            else refLenG p (3 - (k + 1)) (k + 1) (m + rd p k % 128 * 2 ^ (7 * k)) := by
          rw [show 3 - k = (3 - (k + 1)) + 1 by omega, refLenG, if_neg (by omega)]
        rw [hG] at hm
        have hb5 : m + rd p k % 128 * 2 ^ (7 * k) < 2 ^ (7 * (k + 1)) := by
          have h8 := hm2.out
          rw [Nat.mul_add, Int.pow_add]
          have h7 : (2 : Int) ^ (7 * 1) = 128 := by decide
          rw [h7]
          have : rd p k % 128 ≤ 127 := by omega
          have h9 : rd p k % 128 * 2 ^ (7 * k) ≤ 127 * 2 ^ (7 * k) := Int.mul_le_mul_of_nonneg_right this (Int.pow_nonneg (by decide))
          omega
        clear hG hp
        have hb6 : (2 : Int) ^ (7 * (k + 1)) ≤ 2097152 := by
          have : k = 0 ∨ k = 1 ∨ k = 2 := by omega
          rcases this with rfl | rfl | rfl <;> decide
        generalize hx' : rd p k = x at *
        clear hx'
        have hpos : (0 : Int) ≤ x % 128 * 2 ^ (7 * k) := Int.mul_nonneg (by omega) (Int.pow_nonneg (by decide))
        obtain ⟨q, hq⟩ : ∃ q, m + x % 128 * 2 ^ (7 * k) = q := ⟨_, rfl⟩
        have hq1 : wrap64 (m + wrap64 (x % 128 * 2 ^ (7 * k))) = q := by
          rw [← hq]
          unfold wrap64
          omega
        rw [hq] at hm hb5
        have hq0 : 0 ≤ q := by omega
        have hq2 : q < 2097152 := by omega
        have HB := Lib.hid hb5
        clear hq hb5 hb6 hpos hm2
        have q7 : (7 : Int) * (k : Int) ≤ 14 := by omega
        have q70 : (0 : Int) ≤ 7 * (k : Int) := by omega
        by_cases h8 : x < 128
        · rw [if_pos h8] at hm
          by_cases hbig : 1048576 < q
          · rw [if_pos (.inl hbig)] at hm
            go_wp2_with fail
            go_ret3
            exact ⟨by rw [hm.out]; rfl, rfl⟩
          · by_cases hk0 : 0 < k
            · by_cases hx0 : x = 0
              · rw [if_pos (.inr ⟨hk0, hx0⟩)] at hm
                have hxb : (x == 0) = true := by simp [hx0]
                have HX := Lib.hid hx0; clear hx0
                have hd := decide_eq_true hk0
                go_wp2_with fail
                go_ret3
                exact ⟨by rw [hm.out]; rfl, rfl⟩
              · rw [if_neg (by omega)] at hm
                have hxb : (x == 0) = false := by simpa using hx0
                have HX := Lib.hid hx0; clear hx0
                have hd := decide_eq_true hk0
                go_wp2_with fail
                go_ret3
                exact ⟨by rw [hm.out]; rfl, rfl⟩
            · rw [if_neg (by omega)] at hm
              have hd := decide_eq_false hk0
              go_wp2_with fail
              go_ret3
              exact ⟨by rw [hm.out]; rfl, rfl⟩
        · rw [if_neg h8] at hm
          go_wp2_with fail
          go_round
          case rel => exact ⟨k + 1, by omega, by omega, by go_num, q, hq0, hq2, HB, by rw [hq1], hm⟩
          case measure => simp [intOf]; omega
      · obtain rfl : k = n := by omega
        have hG : refLenG p (3 - k) k m = (0, 0, 4) := by
          rw [show 3 - k = (3 - (k + 1)) + 1 by omega, refLenG, if_pos HN.out.symm]
        rw [hG] at hm
        have hne : ((k : Int) == (k : Int)) = true := by simp
        go_wp2_with fail
        go_ret3
        exact ⟨by rw [hm.out]; rfl, rfl⟩
    · obtain rfl : k = 3 := by omega
      have hG : refLenG p (3 - 3) 3 m = (0, 0, 12) := rfl
      rw [hG] at hm
      go_wp2_with fail
      go_ret3
      exact ⟨by rw [hm.out]; rfl, rfl⟩
end Go.Proofs.Ytaiainlkgfpcmaa.H
