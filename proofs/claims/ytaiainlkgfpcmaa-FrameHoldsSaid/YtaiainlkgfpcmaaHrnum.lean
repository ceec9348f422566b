import Derived.Test.YtaiainlkgfpcmaaHreader
import Derived.Shelf.Abstract
namespace Go.Proofs.Ytaiainlkgfpcmaa.H
open Go.RowKit Go.Proofs.YtaiainlkgfpcmaaW.PrintWords Go.Proofs.YtaiainlkgfpcmaaW.PrintMore
set_option maxRecDepth 100000

def valI (r : List Int) : Nat → Int → Int
  | 0, n => n
  | i + 1, n => valI r i (bits .or .u64 (IntKind.u64.wrap (n * 128)) (IntKind.u64.wrap (bits .andNot .u8 (rd r i) 128)))
/-- What (*Reader).number returns for the bytes that are left. -/
def numR (r : List Int) : Int × Int × Int :=
  let k := idxP lt128 (r.take 10)
  if k < 0 then (if r.length < 10 then (0, 0, 4) else (0, 0, 12))
  else if (0 < k ∧ rd r k = 0) ∨ (k = 9 ∧ 1 < rd r k) then (0, 0, 12) else (valI r (k + 1).toNat 0, k + 1, 0)
theorem u64_bits_range (op : BinOp) (a b : Int) : 0 ≤ bits op .u64 a b ∧ bits op .u64 a b ≤ 18446744073709551615 := by
  unfold bits
  simp only [IntKind.wrap, IntKind.bits, IntKind.signed]
  simp
  omega
theorem run_min (ats : Array TypeId) (ty : TypeId) (a b m : Int) (h : m = if b < a then b else a) (W : World) : (Builtin.min_ ats ty #[.int .i64 a, .int .i64 b]).run Try.prog W = .ok (.int .i64 m) W := by
  subst h
  rw [min_two]
  simp [min2_int]
def Ret3 (a b c : Value) (w : World) (e : Ending) (w' : World) : Prop := e = .returned (.tuple #[a, b, c]) ∧ ∃ k, w' = w.drewN k
theorem idxP_range (p : Int → Bool) (l : List Int) : -1 ≤ idxP p l ∧ idxP p l < l.length ∧ (idxP p l < 0 → idxP p l = -1) := by
  unfold idxP
  cases h : l.findIdx? p with
  | none => exact ⟨Int.le_refl _, by simp only; omega, fun _ => rfl⟩
  | some i =>
    have := (List.findIdx?_eq_some_iff_getElem.1 h).1
    exact ⟨by simp only; omega, by simp only; omega, fun h5 => by simp only at h5; omega⟩

set_option maxHeartbeats 1600000 in
theorem rnumber_any (g : Nat) (A : Option Addr) (n c : Nat) (l : List Int) (at_ : Nat) (w : World) (h : IsRd w g A n c l at_) :
    Calls Try.prog 103 #[.pointer (some ⟨g, 0, none⟩)] w (Ret3 (.int .u64 (numR (l.drop at_)).1) (.int .i64 (numR (l.drop at_)).2.1) (.int .i64 (numR (l.drop at_)).2.2) w) := by
  have hrd := h.row.drop_ (c := c) at_ h.le h.cap
  have hle := h.le
  have hcap := h.cap
  have hrest := rest_any g A n c l at_
  obtain ⟨A2, hA2⟩ : ∃ A2, (if c = at_ then A else A.map (·.add at_)) = A2 := ⟨_, rfl⟩
  unfold RestPost at hrest
  rw [hA2] at hrest hrd
  clear hA2
  have hn9 := hrd.2.1
  have hc2 : n - at_ ≤ c - at_ := by omega
  generalize n - at_ = n2 at *
  generalize c - at_ = c2 at *
  generalize l.drop at_ = r at *
  obtain ⟨m, hm⟩ : ∃ m : Nat, m = min n2 10 := ⟨_, rfl⟩
  have hmn := run_min #[3, 3] 3 n2 10 m (by split <;> omega)
  have hrm : ReadsInt w .u8 A2 m (r.take m) := hrd.take_ m (by omega)
  have hsl := slice_h A2 n2 c2 m (by omega)
  have hir := idxP_range lt128 (r.take m)
  have hlm : (r.take m).length = m := hrm.1
  rw [hlm] at hir
  have hrl : r.length = n2 := hrd.1
  have htk : r.take 10 = r.take m := by
    rw [hm]
    rcases Nat.lt_or_ge n2 10 with h5 | h5
    · rw [Nat.min_eq_left (by omega), List.take_of_length_le (by omega), List.take_of_length_le (by omega)]
    · rw [Nat.min_eq_right (by omega)]
  have hnum : numR r = (let k := idxP lt128 (r.take m)
    if k < 0 then (if n2 < 10 then (0, 0, 4) else (0, 0, 12))
    else if (0 < k ∧ rd r k = 0) ∨ (k = 9 ∧ 1 < rd r k) then (0, 0, 12) else (valI r (k + 1).toNat 0, k + 1, 0)) := by rw [numR, htk, hrl]
  simp only at hnum
  have hm10 : m ≤ 10 := by omega
  have hmn2 : m ≤ n2 := by omega
  clear htk hlm
  have HF := Lib.hid (fun (W : World) (hW : ReadsInt W .u8 A2 m (r.take m)) => indexFunc_any lt128 106 A2 m c2 (r.take m) W hW (enters_of Try.func106 (by kernel_rfl) rfl) number1_any)
  generalize hk : idxP lt128 (r.take m) = k at *
  clear hk
  by_cases hk0 : k < 0
  · obtain rfl : k = -1 := hir.2.2 hk0
    rw [if_pos (by omega)] at hnum
    by_cases h10 : n2 < 10
    · rw [if_pos h10] at hnum
      rw [hnum]
      have hd : decide ((n2 : Int) < 10) = true := decide_eq_true (by omega)
      clear hnum hir hm hrl
      go_enter Try.func103, Try.ntmps103
      go_wp2_with (first
        | (go_at_call 105; refine (hrest _ h).mono ?_; rintro e w1 ⟨rfl, q, rfl⟩)
        | (go_at_call 92; refine (HF.out _ (pw_drewN_reads q hrm)).mono ?_; rintro e w1 ⟨rfl, rfl⟩))
      go_ret3
      exact ⟨rfl, q, rfl⟩
    · rw [if_neg h10] at hnum
      rw [hnum]
      have hd : decide ((n2 : Int) < 10) = false := decide_eq_false (by omega)
      clear hnum hir hm hrl
      go_enter Try.func103, Try.ntmps103
      go_wp2_with (first
        | (go_at_call 105; refine (hrest _ h).mono ?_; rintro e w1 ⟨rfl, q, rfl⟩)
        | (go_at_call 92; refine (HF.out _ (pw_drewN_reads q hrm)).mono ?_; rintro e w1 ⟨rfl, rfl⟩))
      go_ret3
      exact ⟨rfl, q, rfl⟩
  · obtain ⟨j, rfl⟩ := Int.eq_ofNat_of_zero_le (by omega : 0 ≤ k)
    have hjm : j < m := by omega
    rw [if_neg hk0] at hnum
    have hd0 : decide ((j : Int) < 0) = false := decide_eq_false hk0
    obtain ⟨ad, rfl, hcell⟩ := hrd.at_ j (by omega) (by omega)
    rw [show ((j : Int)).toNat = j from rfl] at hcell
    have g0 : (0 : Int) ≤ (j : Int) := by omega
    have g1 : (j : Int) < (n2 : Int) := by omega
    have g1' : j < n2 := by omega
    by_cases hbad : (0 < (j : Int) ∧ rd r j = 0) ∨ ((j : Int) = 9 ∧ 1 < rd r j)
    · rw [if_pos hbad] at hnum
      rw [hnum]
      clear hnum hir hm hrl hk0
      have h3 : (decide (0 < j) = true ∧ (rd r j == 0) = true) ∨ (decide (0 < j) = true ∧ (rd r j == 0) = false ∧ ((j : Int) == 9) = true ∧ decide (1 < rd r j) = true) := by
        rcases hbad with ⟨h5, h6⟩ | ⟨h5, h6⟩
        · exact .inl ⟨decide_eq_true (by omega), by simp [h6]⟩
        · exact .inr ⟨decide_eq_true (by omega), by simp; omega, by simp [h5], decide_eq_true h6⟩
      clear hbad
      rcases h3 with ⟨h5, h6⟩ | ⟨h5, h6, h7, h8⟩
      all_goals
        go_enter Try.func103, Try.ntmps103
        go_wp2_with (first
          | (go_at_call 105; refine (hrest _ h).mono ?_; rintro e w1 ⟨rfl, q, rfl⟩)
          | (go_at_call 92; refine (HF.out _ (pw_drewN_reads q hrm)).mono ?_; rintro e w1 ⟨rfl, rfl⟩))
        go_ret3
        exact ⟨rfl, q, rfl⟩
    · rw [if_neg hbad] at hnum
      rw [hnum]
      have h3 : (decide (0 < j) = false ∧ ((j : Int) == 9) = false) ∨ (decide (0 < j) = true ∧ (rd r j == 0) = false ∧ ((j : Int) == 9) = false) ∨ (decide (0 < j) = true ∧ (rd r j == 0) = false ∧ ((j : Int) == 9) = true ∧ decide (1 < rd r j) = false) := by
        rcases Nat.eq_zero_or_pos j with h5 | h5
        · exact .inl ⟨decide_eq_false (by omega), by simp; omega⟩
        · have h6 : ¬ rd r j = 0 := fun h6 => hbad (.inl ⟨by omega, h6⟩)
          by_cases h7 : (j : Int) = 9
          · exact .inr (.inr ⟨decide_eq_true (by omega), by simpa using h6, by simp [h7], decide_eq_false fun h8 => hbad (.inr ⟨h7, h8⟩)⟩)
          · exact .inr (.inl ⟨decide_eq_true (by omega), by simpa using h6, by simpa using h7⟩)
      clear hnum hir hm hrl hk0 hbad
      have hje : ((j : Int) + 1).toNat = j + 1 := by omega
      rw [hje]
      clear hje
      have HC := Lib.hid (fun (i : Nat) (hi : i < n2) => (hrd.at_ i (by omega) (by omega) : ∃ ad', some ad = some ad' ∧ w.cell? (ad'.add (i : Int).toNat) = some (.int .u8 (rd r i))))
      rcases h3 with ⟨h5, h6⟩ | ⟨h5, h6, h7⟩ | ⟨h5, h6, h7, h8⟩
      all_goals
        go_enter Try.func103, Try.ntmps103
        go_wp2_with (first
          | (go_at_call 105; refine (hrest _ h).mono ?_; rintro e w1 ⟨rfl, q, rfl⟩)
          | (go_at_call 92; refine (HF.out _ (pw_drewN_reads q hrm)).mono ?_; rintro e w1 ⟨rfl, rfl⟩))
        go_loop [7, 8] (fun nv iv => ∃ i : Nat, i ≤ j + 1 ∧ iv = .int .i64 ((i : Int) - 1) ∧ ∃ m : Int, 0 ≤ m ∧ m ≤ 18446744073709551615 ∧ nv = .int .u64 m ∧ Hid (valI r i m = valI r (j + 1) 0)) (fun _ iv => (intOf iv + 1).toNat)
        case atStart => exact ⟨j + 1, by omega, by go_num, 0, by omega, by omega, rfl, rfl⟩
        case round =>
          obtain ⟨i, hi, rfl, m', hm0, hm1, rfl, hv⟩ := hrel
          by_cases hi0 : 0 < i
          · obtain ⟨i', rfl⟩ : ∃ i', i = i' + 1 := ⟨i - 1, by omega⟩
            obtain ⟨ad', had', hcell'⟩ := HC.out i' (by omega)
            injection had' with had'
            subst had'
            rw [show ((i' : Int)).toNat = i' from rfl] at hcell'
            have q0 : (0 : Int) ≤ (i' : Int) := by omega
            have q1 : (i' : Int) < (n2 : Int) := by omega
            have q2 : (i' : Int) ≤ 9223372036854775807 := by omega
            have hei : (((i' + 1 : Nat) : Int) - 1) = (i' : Int) := by omega
            rw [hei]
            have hbr := u64_bits_range .or (IntKind.u64.wrap (m' * 128)) (IntKind.u64.wrap (bits .andNot .u8 (rd r i') 128))
            clear hei hi0
            go_wp2_with fail
            go_round
            case rel => exact ⟨i', by omega, rfl, _, hbr.1, hbr.2, rfl, hv⟩
            case measure => simp [intOf] <;> omega
          · obtain rfl : i = 0 := by omega
            go_wp2_with fail
            go_ret3
            refine ⟨?_, q, rfl⟩
            have hv' : m' = valI r (j + 1) 0 := hv.out
            rw [hv']; rfl
end Go.Proofs.Ytaiainlkgfpcmaa.H
