import Derived.Test.YtaiainlkgfpcmaaHwriter
namespace Go.Proofs.Ytaiainlkgfpcmaa.H
open Go.RowKit Go.Proofs.YtaiainlkgfpcmaaW.PrintWords
set_option maxRecDepth 100000

/-- A number's bytes (layer 1). -/
def varB (n : Nat) : List Int := if n < 128 then [(n : Int)] else ((n % 128 + 128 : Nat) : Int) :: varB (n / 128)
termination_by n
decreasing_by omega
theorem varB_small {n : Nat} (h : n < 128) : varB n = [(n : Int)] := by rw [varB, if_pos h]
theorem varB_big {n : Nat} (h : ¬ n < 128) : varB n = ((n % 128 + 128 : Nat) : Int) :: varB (n / 128) := by rw [varB, if_neg h]
theorem varB_length : ∀ (k n : Nat), n < 128 ^ (k + 1) → (varB n).length ≤ k + 1
  | 0, n, h => by rw [varB_small (by simpa using h)]; simp
  | k + 1, n, h => by
    by_cases h1 : n < 128
    · rw [varB_small h1]; simp
    · rw [varB_big h1, List.length_cons]
      have := varB_length k (n / 128) (by rw [Nat.div_lt_iff_lt_mul (by decide)]; rwa [Nat.pow_succ] at h)
      omega
theorem varB_length10 {n : Nat} (h : n < 18446744073709551616) : (varB n).length ≤ 10 := varB_length 9 n (by omega)
theorem varB_bytes (n : Nat) : ∀ x ∈ varB n, 0 ≤ x ∧ x ≤ 255 := by
  induction n using Nat.strongRecOn with
  | _ n ih =>
    intro x hx
    by_cases h1 : n < 128
    · rw [varB_small h1] at hx
      simp only [List.mem_singleton] at hx
      omega
    · rw [varB_big h1] at hx
      rcases List.mem_cons.1 hx with rfl | hx
      · omega
      · exact ih (n / 128) (by omega) x hx
theorem or128 : ∀ a : Fin 256, a.val ||| 128 = a.val % 128 + 128 := by decide
theorem u8_or_128 (m : Nat) : bits .or .u8 ((m : Int) % 256) 128 = ((m % 128 + 128 : Nat) : Int) := by
  have h := (bits_nat .u8 8 (by decide) wraps_u8 (m % 256) 128 (by omega) (by decide)).2
  have e : (((m % 256 : Nat)) : Int) = (m : Int) % 256 := by omega
  rw [e] at h
  have h2 := or128 ⟨m % 256, by omega⟩
  simp only at h2
  rw [show (128 : Int) = ((128 : Nat) : Int) from rfl, h, h2]
  omega

set_option maxHeartbeats 800000 in
theorem number_any (n : Int) (w : World) (h0 : 0 ≤ n) (h1 : n < 18446744073709551616) :
    Calls Try.prog 89 #[.int .u64 n] w fun e w' => ∃ v, e = .returned v ∧ OwnB w' w.heap.size v (varB n.toNat) ∧ Below w.heap.size w w' := by
  obtain ⟨n, rfl⟩ := Int.eq_ofNat_of_zero_le h0
  rw [Int.toNat_natCast]
  have hlen := varB_length10 (n := n) (by omega)
  have hn : n ≤ 18446744073709551615 := by omega
  clear h0 h1
  go_enter Try.func89, Try.ntmps89
  go_wp2_with fail
  go_loopw [0, 3] (fun i v wr => ∃ m : Nat, m ≤ 18446744073709551615 ∧ i = .int .u64 m ∧ ∃ pre : List Int, Hid (varB n = pre ++ varB m) ∧ pre.length ≤ 10 ∧ OwnB wr w.heap.size v pre ∧ Below w.heap.size w wr) (fun i _ _ => (intOf i).toNat)
  case atStart => exact ⟨n, hn, rfl, [], rfl, by simp, own_nil _ _ _ _, Below.refl _ _⟩
  case round =>
    obtain ⟨m, hm, rfl, pre, hp, hpl, ho, hb⟩ := hrel
    have hm0 : (0 : Int) ≤ (m : Int) := by omega
    by_cases hlt : m < 128
    · have hg : decide ((128 : Int) ≤ (m : Int)) = false := decide_eq_false (by omega)
      have hw8 : ((m : Int) % 256) = (m : Int) := by omega
      have HV := Lib.hid (varB_small hlt)
      have H8 := Lib.hid hw8; clear hw8
      go_wp2_with (at_builtin; refine print_append_num (w0 := w) w.heap.size rfl (.tmp 14) (.tmp 17) 22 5 .u8 1 rfl Try.underlying22 Try.infoU8 (by decide) _ pre _ rfl rfl ho hb hb.size (by omega) ?_; intro v1 w1 ho1 hb1 hg1 hat1)
      go_ret
      refine ⟨_, rfl, ?_, hb1⟩
      rw [hp.out, HV.out]
      exact ho1
    · have hg : decide ((128 : Int) ≤ (m : Int)) = true := decide_eq_true (by omega)
      have HV := Lib.hid (varB_big hlt)
      have HO := Lib.hid (u8_or_128 m)
      have hl2 : pre.length + 1 ≤ 10 := by
        have h5 := congrArg List.length hp.out
        rw [HV.out, List.length_append, List.length_cons] at h5
        omega
      go_wp2_with (at_builtin; refine print_append_num (w0 := w) w.heap.size rfl (.tmp 8) (.tmp 12) 22 5 .u8 1 rfl Try.underlying22 Try.infoU8 (by decide) _ pre _ rfl rfl ho hb hb.size (by omega) ?_; intro v1 w1 ho1 hb1 hg1 hat1)
      rw [HO.out] at ho1
      go_roundw
      case rel => exact ⟨m / 128, by omega, by go_num, pre ++ [((m % 128 + 128 : Nat) : Int)], by show _ = _; rw [hp.out, HV.out, List.append_assoc]; rfl, by simpa using hl2, ho1, hb1⟩
      case measure => simp [intOf]; omega
end Go.Proofs.Ytaiainlkgfpcmaa.H
