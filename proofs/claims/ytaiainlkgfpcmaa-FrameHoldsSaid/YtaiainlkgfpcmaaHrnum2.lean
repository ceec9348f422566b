import Derived.Test.YtaiainlkgfpcmaaHrnum
namespace Go.Proofs.Ytaiainlkgfpcmaa.H
open Go.RowKit Go.Proofs.YtaiainlkgfpcmaaW.PrintWords Go.Proofs.YtaiainlkgfpcmaaW.PrintMore
set_option maxRecDepth 100000

/-- What (*Reader).Num returns: the number, the error, and by how many bytes the reader goes on. -/
def numF (r : List Int) (most : Int) : Int × Int × Nat :=
  if (numR r).2.2 ≠ 0 then (0, (numR r).2.2, 0) else if most < (numR r).1 then (0, 3, 0) else ((numR r).1, 0, (numR r).2.1.toNat)
theorem valI_range (r : List Int) : ∀ (i : Nat) (n : Int), 0 ≤ n → n ≤ 18446744073709551615 → 0 ≤ valI r i n ∧ valI r i n ≤ 18446744073709551615
  | 0, n, h0, h1 => ⟨h0, h1⟩
  | i + 1, n, _, _ => valI_range r i _ (u64_bits_range _ _ _).1 (u64_bits_range _ _ _).2
theorem numR_range (r : List Int) : 0 ≤ (numR r).1 ∧ (numR r).1 ≤ 18446744073709551615 ∧ 0 ≤ (numR r).2.1 ∧ (numR r).2.1 ≤ r.length := by
  have h := idxP_range lt128 (r.take 10)
  have hl : (r.take 10).length ≤ r.length := List.length_take_le' ..
  have hv := valI_range r (idxP lt128 (r.take 10) + 1).toNat 0 (by omega) (by omega)
  unfold numR
  simp only
  split
  · split <;> exact ⟨by simp, by simp, by simp, by simp⟩
  · split
    · exact ⟨by simp, by simp, by simp, by simp⟩
    · exact ⟨hv.1, hv.2, by simp only; omega, by simp only; omega⟩
theorem isRd_step {w : World} {g : Nat} {A : Option Addr} {n c : Nat} {l : List Int} {at_ : Nat} (h : IsRd w g A n c l at_) (m : Nat) (hm : m ≤ n) (x : Int) (hx : x = m) : IsRd (w.setCell ⟨g, 2, none⟩ (.int .i64 x)) g A n c l m := by
  subst hx
  refine ⟨(heap_setCell_same w g 2 _ _ _ h.heap).trans rfl, reads_kp h.row (Kp.setCell w g 2 _) (fun ad had hn hb => h.ne ad had hn hb), h.cap, hm, h.ne⟩
def NumPost (w : World) (g : Nat) (A : Option Addr) (n c : Nat) (l : List Int) (at_ : Nat) (most : Int) (e : Ending) (w' : World) : Prop :=
  e = .returned (.tuple #[.int .u64 (numF (l.drop at_) most).1, .int .i64 (numF (l.drop at_) most).2.1]) ∧ IsRd w' g A n c l (at_ + (numF (l.drop at_) most).2.2) ∧ Kp w w' (fun k => k = g)
theorem Kp.drewN (w : World) (k : Nat) (S : Nat → Prop) : Kp w (w.drewN k) S := ⟨rfl, rfl, rfl, Nat.le_refl _, fun _ _ _ => rfl⟩

set_option maxHeartbeats 1600000 in
theorem rnum_any (g : Nat) (A : Option Addr) (n c : Nat) (l : List Int) (at_ : Nat) (most : Int) (w : World) (h : IsRd w g A n c l at_) (hn : n ≤ 140737488355328) :
    Calls Try.prog 95 #[.pointer (some ⟨g, 0, none⟩), .int .u64 most] w (NumPost w g A n c l at_ most) := by
  have hz := fun W (hW : IsRd W g A n c l at_) => zero_any g A n c l at_ W hW
  have hnr := rnumber_any g A n c l at_
  have hrr := numR_range (l.drop at_)
  have hdl : (l.drop at_).length = n - at_ := by rw [List.length_drop, h.row.1]
  have hle := h.le
  obtain ⟨v, s, e, hvse⟩ : ∃ v s e, numR (l.drop at_) = (v, s, e) := ⟨_, _, _, rfl⟩
  have hF : numF (l.drop at_) most = if e ≠ 0 then (0, e, 0) else if most < v then (0, 3, 0) else (v, 0, s.toNat) := by rw [numF, hvse]
  unfold NumPost
  rw [hF]
  rw [hvse] at hnr hrr
  simp only at hnr hrr
  rw [hdl] at hrr
  clear hvse hF hdl
  have HZ := Lib.hid hz; have HNR := Lib.hid hnr; clear hz hnr
  by_cases he : e = 0
  · subst he
    rw [if_neg (by simp)]
    obtain ⟨s, rfl⟩ := Int.eq_ofNat_of_zero_le hrr.2.2.1
    by_cases hv : most < v
    · rw [if_pos hv]
      have hd : decide (most < v) = true := decide_eq_true hv
      go_enter Try.func95, Try.ntmps95
      go_wp2_with (first
        | (go_at_call 102; refine (HZ.out _ h).mono ?_; rintro e w1 ⟨rfl, rfl⟩)
        | (go_at_call 103; refine (HNR.out _ h).mono ?_; rintro e w1 ⟨rfl, q, rfl⟩))
      go_ret2
      exact ⟨rfl, h.drewN q, Kp.drewN _ _ _⟩
    · rw [if_neg hv]
      have hd : decide (most < v) = false := decide_eq_false hv
      have h2 := h.cell2
      have hfz := frozen_of_row w g 2 _ _ h.heap
      have k0 : (at_ : Int) ≤ 140737488355328 := by omega
      have k1 : (s : Int) ≤ 140737488355328 := by omega
      go_enter Try.func95, Try.ntmps95
      go_wp2_with (first
        | (go_at_call 102; refine (HZ.out _ h).mono ?_; rintro e w1 ⟨rfl, rfl⟩)
        | (go_at_call 103; refine (HNR.out _ h).mono ?_; rintro e w1 ⟨rfl, q, rfl⟩))
      go_ret2
      rw [Int.toNat_natCast]
      exact ⟨rfl, isRd_step (h.drewN q) (at_ + s) (by omega) _ (by omega), (Kp.drewN w q _).trans (Kp.setCell _ g 2 _) (fun _ hi _ => hi)⟩
  · rw [if_pos he]
    have hd : (e != 0) = true := by simpa using he
    clear he
    go_enter Try.func95, Try.ntmps95
    go_wp2_with (first
      | (go_at_call 102; refine (HZ.out _ h).mono ?_; rintro e w1 ⟨rfl, rfl⟩)
      | (go_at_call 103; refine (HNR.out _ h).mono ?_; rintro e w1 ⟨rfl, q, rfl⟩))
    go_ret2
    exact ⟨rfl, h.drewN q, Kp.drewN _ _ _⟩
end Go.Proofs.Ytaiainlkgfpcmaa.H
