import Derived.Test.YtaiainlkgfpcmaaHrnum2
namespace Go.Proofs.Ytaiainlkgfpcmaa.H
open Go.RowKit Go.Proofs.YtaiainlkgfpcmaaW.PrintWords Go.Proofs.YtaiainlkgfpcmaaW.PrintMore
set_option maxRecDepth 100000

/-- What frame.head returns behind the mark and the kind, of the bytes there, at most three. -/
def headL (p : List Int) : Int × Int × Int :=
  if idxP lt128 p < 0 then (if p.length < 3 then (0, 0, 4) else (0, 0, 12))
  else if (numF (p.take (idxP lt128 p + 1).toNat) 1048576).2.1 ≠ 0 then (0, 0, 12) else (2 + idxP lt128 p + 1, wrap64 (numF (p.take (idxP lt128 p + 1).toNat) 1048576).1, 0)
def headF (l : List Int) : Int × Int × Int :=
  if (0 < l.length ∧ rd l 0 ≠ 82) ∨ (1 < l.length ∧ rd l 1 = 0) then (0, 0, 12) else if l.length < 2 then (0, 0, 4) else headL ((l.drop 2).take 3)
def Ret3B (a b c : Int) (w : World) (e : Ending) (w' : World) : Prop := e = .returned (.tuple #[.int .i64 a, .int .i64 b, .int .i64 c]) ∧ Below w.heap.size w w'
theorem reads_cell0 {w : World} {k : IntKind} {A : Option Addr} {n : Nat} {xs : List Int} (h : ReadsInt w k A n xs) (hn : 0 < n) : ∃ ad, A = some ad ∧ w.cell? ad = some (.int k (rd xs 0)) := by
  obtain ⟨ad, e, hc⟩ := h.at_ 0 (by omega) (by omega)
  refine ⟨ad, e, ?_⟩
  have : ad.add (0 : Int).toNat = ad := by simp [Addr.add]
  rwa [this] at hc
theorem reads_cell1 {w : World} {k : IntKind} {ad : Addr} {n : Nat} {xs : List Int} (h : ReadsInt w k (some ad) n xs) (hn : 1 < n) : w.cell? (ad.add 1) = some (.int k (rd xs 1)) := by
  obtain ⟨ad', e, hc⟩ := h.at_ 1 (by omega) (by omega)
  injection e with e
  subst e
  exact hc

set_option maxHeartbeats 1600000 in
theorem head_any (A : Option Addr) (n c : Nat) (l : List Int) (w : World) (hr : ReadsInt w .u8 A n l) (hc : n ≤ c) (hn : n ≤ 140737488355328) :
    Calls Try.prog 75 #[.slice A n c] w (Ret3B (headF l).1 (headF l).2.1 (headF l).2.2 w) := by
  have hnl := hr.1
  rcases Nat.eq_zero_or_pos n with rfl | hn0
  · have hF : headF l = (0, 0, 4) := by rw [headF, if_neg (by omega), if_pos (by omega)]
    rw [hF]
    clear hr hnl hF
    go_enter Try.func75, Try.ntmps75
    go_wp2
    go_ret3
    exact ⟨rfl, Below.refl _ _⟩
  obtain ⟨ad, rfl, hc0⟩ := reads_cell0 hr hn0
  have hd0 : decide (0 < n) = true := decide_eq_true hn0
  by_cases hx : rd l 0 = 82
  · have hx0 : (rd l 0 != 82) = false := by simp [hx]
    by_cases hn1 : 1 < n
    · have hc1 := reads_cell1 hr hn1
      have hc1' := hc1
      simp only [Addr.add, Nat.reduceEqDiff, ↓reduceIte] at hc1'
      have hd1 : decide (1 < n) = true := decide_eq_true hn1
      by_cases hy : rd l 1 = 0
      · have hy0 : (rd l 1 == 0) = true := by simp [hy]
        have hF : headF l = (0, 0, 12) := by rw [headF, if_pos (.inr ⟨by omega, hy⟩)]
        rw [hF]
        clear hr hnl hF hx hy
        go_enter Try.func75, Try.ntmps75
        go_wp2
        go_ret3
        exact ⟨rfl, Below.refl _ _⟩
      · have hy0 : (rd l 1 == 0) = false := by simpa using hy
        have hF : headF l = headL ((l.drop 2).take 3) := by rw [headF, if_neg (by omega), if_neg (by omega)]
        rw [hF]
        clear hF hx hy
        have hd2 : decide (n < 2) = false := decide_eq_false (by omega)
        obtain ⟨m, hm⟩ : ∃ m : Nat, m = min n 5 := ⟨_, rfl⟩
        have hmn := run_min #[3, 3] 3 n 5 m (by split <;> omega)
        have hsl := slice_lh (some ad) n c 2 m (by omega) (by omega)
        have hrd := (hr.drop_ (c := c) 2 (by omega) hc).take_ (m - 2) (by omega)
        obtain ⟨A2, hA2⟩ : ∃ A2, (if c = 2 then some ad else (some ad).map (·.add 2)) = A2 := ⟨_, rfl⟩
        rw [hA2] at hsl hrd
        clear hA2
        have htk : (l.drop 2).take (m - 2) = (l.drop 2).take 3 := by
          rcases Nat.lt_or_ge n 5 with h5 | h5
          · rw [List.take_of_length_le (by rw [List.length_drop]; omega), List.take_of_length_le (by rw [List.length_drop]; omega)]
          · rw [show m - 2 = 3 by omega]
        rw [htk] at hrd
        have hm2 : m - 2 ≤ c - 2 := by omega
        have hm3 : m - 2 ≤ 3 := by omega
        have hmi : (2 : Int) ≤ (m : Int) ∧ (m : Int) ≤ 5 := by omega
        have hmc : m ≤ c := by omega
        clear htk hm
        generalize (l.drop 2).take 3 = p at *
        generalize m - 2 = m2 at *
        generalize c - 2 = c2 at *
        simp only [show ((2 : Nat) : Int) = 2 from rfl] at hsl
        have hir := idxP_range lt128 p
        have hpl : p.length = m2 := hrd.1
        have hL : headL p = if idxP lt128 p < 0 then (if m2 < 3 then (0, 0, 4) else (0, 0, 12))
            else if (numF (p.take (idxP lt128 p + 1).toNat) 1048576).2.1 ≠ 0 then (0, 0, 12) else (2 + idxP lt128 p + 1, wrap64 (numF (p.take (idxP lt128 p + 1).toNat) 1048576).1, 0) := by rw [headL, hpl]
        rw [hL]
        rw [hpl] at hir
        clear hL hr hpl hnl
        have HF := Lib.hid (fun (W : World) (hW : ReadsInt W .u8 A2 m2 p) => indexFunc_any lt128 93 A2 m2 c2 p W hW (enters_of Try.func93 (by kernel_rfl) rfl) head1_any)
        generalize idxP lt128 p = k at *
        by_cases hk0 : k < 0
        · obtain rfl : k = -1 := hir.2.2 hk0
          rw [if_pos hk0]
          clear hir hk0
          by_cases h3 : m2 < 3
          · rw [if_pos h3]
            have hd3 : decide ((m2 : Int) < 3) = true := decide_eq_true (by omega)
            go_enter Try.func75, Try.ntmps75
            go_wp2_with (go_at_call 92; refine (HF.out _ hrd).mono ?_; rintro e w1 ⟨rfl, rfl⟩)
            go_ret3
            exact ⟨rfl, Below.refl _ _⟩
          · rw [if_neg h3]
            have hd3 : decide ((m2 : Int) < 3) = false := decide_eq_false (by omega)
            go_enter Try.func75, Try.ntmps75
            go_wp2_with (go_at_call 92; refine (HF.out _ hrd).mono ?_; rintro e w1 ⟨rfl, rfl⟩)
            go_ret3
            exact ⟨rfl, Below.refl _ _⟩
        · obtain ⟨j, rfl⟩ := Int.eq_ofNat_of_zero_le (by omega : 0 ≤ k)
          rw [if_neg hk0]
          have hd3 : decide ((j : Int) < 0) = false := decide_eq_false hk0
          have hjm : j < m2 := by omega
          have hsl2 := slice_h A2 m2 c2 (j + 1) (by omega)
          have hrq := hrd.take_ (j + 1) (by omega)
          have hje : ((j : Int) + 1).toNat = j + 1 := by omega
          rw [hje]
          simp only [show ((j + 1 : Nat) : Int) = (j : Int) + 1 from by omega] at hsl2
          clear hir hk0 hje
          generalize p.take (j + 1) = q at *
          have HN := Lib.hid (fun (W : World) (hW : ReadsInt W .u8 A2 (j + 1) q) => new_any A2 (j + 1) c2 q W hW (by omega))
          have hnf : numF (q.drop 0) 1048576 = numF q 1048576 := by rw [List.drop_zero]
          obtain ⟨v, e, s', hve⟩ : ∃ v e s', numF q 1048576 = (v, e, s') := ⟨_, _, _, rfl⟩
          rw [hve] at hnf
          rw [hve]
          simp only
          have HNF := Lib.hid hnf
          have hql : q.length ≤ 140737488355328 := by have := hrq.1; omega
          clear hve hnf
          by_cases he : e = 0
          · subst he
            rw [if_neg (by simp)]
            go_enter Try.func75, Try.ntmps75
            go_wp2_with (first
              | (go_at_call 92; refine (HF.out _ hrd).mono ?_; rintro e w1 ⟨rfl, rfl⟩)
              | (go_at_call 94; refine (HN.out _ hrq).mono ?_; rintro e w1 ⟨g, A3, n3, c3, rfl, hI, hg, hB1⟩)
              | (go_at_call 95; refine (rnum_any g A3 n3 c3 q 0 1048576 _ hI (by have := hI.row.1; omega)).mono ?_; unfold NumPost; rw [HNF.out]; rintro e w2 ⟨rfl, hI2, hk2⟩))
            go_ret3
            exact ⟨rfl, hB1.trans (hk2.below hB1.size (fun i hi => by omega))⟩
          · rw [if_pos he]
            have hd : (e != 0) = true := by simpa using he
            clear he
            go_enter Try.func75, Try.ntmps75
            go_wp2_with (first
              | (go_at_call 92; refine (HF.out _ hrd).mono ?_; rintro e w1 ⟨rfl, rfl⟩)
              | (go_at_call 94; refine (HN.out _ hrq).mono ?_; rintro e w1 ⟨g, A3, n3, c3, rfl, hI, hg, hB1⟩)
              | (go_at_call 95; refine (rnum_any g A3 n3 c3 q 0 1048576 _ hI (by have := hI.row.1; omega)).mono ?_; unfold NumPost; rw [HNF.out]; rintro e w2 ⟨rfl, hI2, hk2⟩))
            go_ret3
            exact ⟨rfl, hB1.trans (hk2.below hB1.size (fun i hi => by omega))⟩
    · obtain rfl : n = 1 := by omega
      have hF : headF l = (0, 0, 4) := by rw [headF, if_neg (by omega), if_pos (by omega)]
      rw [hF]
      clear hr hnl hF hx hn1
      go_enter Try.func75, Try.ntmps75
      go_wp2
      go_ret3
      exact ⟨rfl, Below.refl _ _⟩
  · have hx0 : (rd l 0 != 82) = true := by simpa using hx
    have hF : headF l = (0, 0, 12) := by rw [headF, if_pos (.inl ⟨by omega, hx⟩)]
    rw [hF]
    clear hr hnl hF hx
    go_enter Try.func75, Try.ntmps75
    go_wp2
    go_ret3
    exact ⟨rfl, Below.refl _ _⟩
end Go.Proofs.Ytaiainlkgfpcmaa.H
