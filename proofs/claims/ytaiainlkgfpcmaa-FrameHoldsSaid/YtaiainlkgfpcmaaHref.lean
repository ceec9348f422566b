import Derived.Test.YtaiainlkgfpcmaaHcrcpure
import Derived.Test.YtaiainlkgfpcmaaHhead
namespace Go.Proofs.Ytaiainlkgfpcmaa.H
open Go.RowKit Go.Proofs.YtaiainlkgfpcmaaW.PrintWords Go.Proofs.YtaiainlkgfpcmaaW.PrintMore
set_option maxRecDepth 100000

set_option maxHeartbeats 800000 in
theorem refNumber_any (n : Int) (w : World) (h0 : 0 ≤ n) (h1 : n < 18446744073709551616) :
    Calls Try.prog 36 #[.int .u64 n] w fun e w' => ∃ v, e = .returned v ∧ OwnB w' w.heap.size v (varB n.toNat) ∧ Below w.heap.size w w' := by
  obtain ⟨n, rfl⟩ := Int.eq_ofNat_of_zero_le h0
  rw [Int.toNat_natCast]
  have hlen := varB_length10 (n := n) (by omega)
  have hn : n ≤ 18446744073709551615 := by omega
  clear h0 h1
  go_enter Try.func36, Try.ntmps36
  go_wp2_with fail
  go_loopw [0, 3] (fun i v wr => ∃ m : Nat, m ≤ 18446744073709551615 ∧ i = .int .u64 m ∧ ∃ pre : List Int, Hid (varB n = pre ++ varB m) ∧ pre.length ≤ 10 ∧ OwnB wr w.heap.size v pre ∧ Below w.heap.size w wr) (fun i _ _ => (intOf i).toNat)
  case atStart => exact ⟨n, hn, rfl, [], rfl, by simp, own_nil _ _ _ _, Below.refl _ _⟩
  case round =>
    obtain ⟨m, hm, rfl, pre, hp, hpl, ho, hb⟩ := hrel
    have hm0 : (0 : Int) ≤ (m : Int) := by omega
    by_cases hlt : m < 128
    · have hg : decide ((128 : Int) ≤ (m : Int)) = false := decide_eq_false (by omega)
      have HV := Lib.hid (varB_small hlt)
      go_wp2_with (at_builtin; refine print_append_num (w0 := w) w.heap.size rfl (.tmp 15) (.tmp 18) 22 5 .u8 1 rfl Try.underlying22 Try.infoU8 (by decide) _ pre _ rfl rfl ho hb hb.size (by omega) ?_; intro v1 w1 ho1 hb1 hg1 hat1)
      go_ret
      refine ⟨_, rfl, ?_, hb1⟩
      rw [hp.out, HV.out]
      exact ho1
    · have hg : decide ((128 : Int) ≤ (m : Int)) = true := decide_eq_true (by omega)
      have HV := Lib.hid (varB_big hlt)
      have hl2 : pre.length + 1 ≤ 10 := by
        have h5 := congrArg List.length hp.out
        rw [HV.out, List.length_append, List.length_cons] at h5
        omega
      go_wp2_with (at_builtin; refine print_append_num (w0 := w) w.heap.size rfl (.tmp 6) (.tmp 11) 22 5 .u8 1 rfl Try.underlying22 Try.infoU8 (by decide) _ pre _ rfl rfl ho hb hb.size (by omega) ?_; intro v1 w1 ho1 hb1 hg1 hat1)
      have HE := Lib.hid (show ((m : Int) % 128 + 128) = ((m % 128 + 128 : Nat) : Int) by omega)
      rw [HE.out] at ho1
      go_roundw
      case rel => exact ⟨m / 128, by omega, by go_num, pre ++ [((m % 128 + 128 : Nat) : Int)], by show _ = _; rw [hp.out, HV.out, List.append_assoc]; rfl, by simpa using hl2, ho1, hb1⟩
      case measure => simp [intOf]; omega

set_option maxHeartbeats 1600000 in
theorem refSum_any (A : Option Addr) (n c : Nat) (l : List Int) (w : World) (hr : ReadsInt w .u8 A n l) (hb : ∀ x ∈ l, 0 ≤ x ∧ x ≤ 255) :
    Calls Try.prog 37 #[.slice A n c] w (RetW (.int .u32 (sumI l)) w) := by
  have hn9 := hr.2.1
  have hnl := hr.1
  subst hnl
  go_enter Try.func37, Try.ntmps37
  go_wp2_with fail
  go_loop [3, 4] (fun nv i => ∃ k : Nat, k ≤ l.length ∧ i = .int .i64 k ∧ ∃ m : Int, 0 ≤ m ∧ m ≤ 4294967295 ∧ nv = .int .u32 m ∧ Hid (m = (l.take k).foldl updI 4294967295)) (fun _ i => l.length - (intOf i).toNat)
  case atStart => exact ⟨0, Nat.zero_le _, rfl, 4294967295, by omega, by omega, rfl, by rw [List.take_zero]; rfl⟩
  case round =>
    obtain ⟨k, hk, rfl, m, hm0, hm1, rfl, hm⟩ := hrel
    by_cases hlt : k < l.length
    · obtain ⟨ad, rfl, hcell⟩ := hr.at_ k (by omega) (by omega)
      rw [show ((k : Int)).toNat = k from rfl] at hcell
      have hx := bytes_rd hb k
      have hbx := u32_bits_range .xor m (rd l k)
      have HR := Lib.hid (take_rd l k hlt)
      have HU := Lib.hid (updI_steps m (rd l k) hm0 hm1 hx.1 hx.2)
      have hwx : IntKind.u32.wrap (rd l k) = rd l k := by rw [IntKind.wrap_u32]; omega
      go_wp2_with fail
      go_loop [3, 5] (fun nv j => ∃ j' : Nat, j' ≤ 8 ∧ j = .int .i64 j' ∧ ∃ q : Int, 0 ≤ q ∧ q ≤ 4294967295 ∧ nv = .int .u32 q ∧ Hid (q = steps j' (bits .xor .u32 m (rd l k)))) (fun _ j => 8 - (intOf j).toNat)
      case atStart => exact ⟨0, by omega, rfl, _, hbx.1, hbx.2, rfl, rfl⟩
      case round =>
        obtain ⟨j, hj, rfl, q, hq0, hq1, rfl, hq⟩ := hrel
        have hx5 := u32_bits_range .xor (q / 2) 2197175160
        by_cases hjl : j < 8
        · by_cases hp : q % 2 = 1
          · have hp2 : (q % 2 == 1) = true := by simp [hp]
            have HP := Lib.hid hp; clear hp
            go_wp2_with fail
            go_round
            case rel => exact ⟨j + 1, by omega, by go_num, _, hx5.1, hx5.2, rfl, by show _ = step1 (steps j _); rw [← hq.out, step1, if_pos HP.out]⟩
            case measure => simp [intOf]; omega
          · have hp2 : (q % 2 == 1) = false := by simpa using hp
            have HP := Lib.hid hp; clear hp
            go_wp2_with fail
            go_round
            case rel => exact ⟨j + 1, by omega, by go_num, _, by omega, by omega, rfl, by show _ = step1 (steps j _); rw [← hq.out, step1, if_neg HP.out]⟩
            case measure => simp [intOf]; omega
        · obtain rfl : j = 8 := by omega
          go_wp2_with fail
          go_round
          case rel => exact ⟨k + 1, by omega, by go_num, q, hq0, hq1, rfl, by show _ = _; rw [HR.out, List.foldl_append, ← hm.out, hq.out, HU.out]; rfl⟩
          case measure => simp [intOf]; omega
    · obtain rfl : k = l.length := by omega
      have hs : sumI l = 4294967295 - m := by
        have h5 : m = l.foldl updI 4294967295 := by rw [hm.out, List.take_length]
        unfold sumI updS
        rw [not32_sub 0 (by omega) (by omega), show (4294967295 - 0 : Int) = 4294967295 from rfl, ← h5, not32_sub m hm0 hm1]
      have HS := Lib.hid hs; clear hs
      go_wp2_with fail
      go_ret
      exact ⟨by rw [HS.out]; rfl, rfl⟩
end Go.Proofs.Ytaiainlkgfpcmaa.H
