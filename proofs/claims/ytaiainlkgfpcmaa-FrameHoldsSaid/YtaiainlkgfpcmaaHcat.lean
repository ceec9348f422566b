import Derived.Test.YtaiainlkgfpcmaaHlib
import Derived.Test.YtaiainlkgfpcmaaWZeros
namespace Go.Proofs.Ytaiainlkgfpcmaa.H
open Go.RowKit Go.Proofs.YtaiainlkgfpcmaaW.PrintWords
set_option maxRecDepth 100000

theorem own_shrink {w : World} {base g n cap : Nat} {e : TypeId} {size : Nat} {xs : List Value} (h : w.ownsRow base e size (.slice (some ⟨g, 0, none⟩) n cap) n xs) (m : Nat) (hm : m ≤ n) :
    w.ownsRow base e size (.slice (some ⟨g, 0, none⟩) m cap) m (xs.take (m * size)) := by
  obtain ⟨hl, h | ⟨g', cap', cur, he, hb, hh, h1, h2, h3, h4⟩⟩ := h
  · exact absurd h.1 (by simp)
  · injection he with ha hn hc
    injection ha with ha
    injection ha with ha
    subst ha; subst hc
    refine ⟨?_, .inr ⟨g, cap, cur, rfl, hb, hh, by omega, h2, h3, ?_⟩⟩
    · rw [List.length_take, hl]
      exact Nat.min_eq_left (Nat.mul_le_mul_right _ hm)
    · rw [← h4, List.take_take, Nat.min_eq_left (Nat.mul_le_mul_right _ hm)]

set_option maxHeartbeats 400000 in
theorem grow_nil (n : Nat) (w : World) (hn : n ≤ 140737488355328) :
    Calls Try.prog 90 #[.slice none 0 0, .int .i64 n] w fun e w' => ∃ v, e = .returned v ∧ OwnB w' w.heap.size v [] ∧ Below w.heap.size w w' := by
  by_cases h0 : 0 < n
  · go_enter Try.func90, Try.ntmps90
    have HO := Kd.R_nil (Kd.int .u8) 5 w w.heap.size (fun _ => True)
    go_wp2_with (at_builtin; refine Kd.R_append_zeros (Kd.int .u8) (w0 := w) w.heap.size rfl (.tmp 20) (.tmp 21) 22 3 5 (.int .u8 0) 1 rfl Try.underlying22 Try.underlying3 Try.infoU8 rfl (by decide) (by omega) (.slice none 0 0) [] 0 (n : Int) (fun _ => True) rfl rfl rfl (fun _ _ => trivial) HO (by omega) (Below.refl _ _) (Nat.le_refl _) (by simp; omega) ?_; intro v1 w1 ho hb hg hat)
    have ho1 := OwnB.ofR ho
    obtain ⟨g, cap, rfl, hgb, hgl⟩ := ho1.form (by simp; omega)
    have hos := own_shrink ho1 0 (by omega)
    have hlen : ([] ++ List.replicate (n : Int).toNat (0 : Int)).length = n := by simp
    rw [hlen] at ho1
    clear ho hg hat HO hlen
    simp only [List.length_append, List.length_nil, List.length_replicate, Int.toNat_natCast, Nat.zero_add]
    have hsl := slice_h (some ⟨g, 0, none⟩) n cap 0 (by omega)
    simp only [Int.ofNat_zero] at hsl
    go_wp2
    try (rw [hsl]; go_wp2)
    go_ret
    exact ⟨_, rfl, by simpa [OwnB, nums] using hos, hb⟩
  · obtain rfl : n = 0 := by omega
    rw [show ((0 : Nat) : Int) = 0 from rfl]
    go_enter Try.func90, Try.ntmps90
    go_wp2
    go_ret
    exact ⟨_, rfl, own_nil _ _ _ _, Below.refl _ _⟩

/-- Rows of bytes in the cells of a row. -/
structure RowsAt (w : World) (g : Nat) (L : List (Option Addr × Nat × List Int)) : Prop where
  cell : ∀ j, j < L.length → ∃ A c l, L[j]? = some (A, c, l) ∧ w.cell? ⟨g, j, none⟩ = some (.slice A l.length c) ∧ ReadsInt w .u8 A l.length l
theorem RowsAt.below {w w1 : World} {g : Nat} {L : List (Option Addr × Nat × List Int)} (h : RowsAt w g L) (hb : Below w.heap.size w w1) : RowsAt w1 g L :=
  ⟨fun j hj => by
    obtain ⟨A, c, l, h1, h2, h3⟩ := h.cell j hj
    exact ⟨A, c, l, h1, pw_cell_below hb h2, h3.below hb⟩⟩
def total (L : List (Option Addr × Nat × List Int)) : Nat := (L.map fun x => x.2.2.length).sum
def joinL (L : List (Option Addr × Nat × List Int)) : List Int := (L.map fun x => x.2.2).flatten
theorem joinL_length (L : List (Option Addr × Nat × List Int)) : (joinL L).length = total L := by
  simp [joinL, total, List.length_flatten, Function.comp_def]
theorem take_some {α : Type} (L : List α) (k : Nat) (x : α) (h : L[k]? = some x) : L.take (k + 1) = L.take k ++ [x] := by
  obtain ⟨h1, h2⟩ := List.getElem?_eq_some_iff.1 h
  rw [List.take_succ_eq_append_getElem h1, h2]
theorem total_snoc (L : List (Option Addr × Nat × List Int)) (x) : total (L ++ [x]) = total L + x.2.2.length := by simp [total]
theorem joinL_snoc (L : List (Option Addr × Nat × List Int)) (x) : joinL (L ++ [x]) = joinL L ++ x.2.2 := by simp [joinL]
theorem total_take_le (L : List (Option Addr × Nat × List Int)) (k : Nat) : total (L.take k) ≤ total L := by
  have h1 : total (L.take k ++ L.drop k) = total (L.take k) + total (L.drop k) := by simp only [total, List.map_append, List.sum_append]
  rw [List.take_append_drop] at h1
  omega

set_option maxHeartbeats 800000 in
theorem concat_any (g c : Nat) (L : List (Option Addr × Nat × List Int)) (w : World) (hL : RowsAt w g L) (hn : total L ≤ 140737488355328) (hl9 : L.length ≤ 9223372036854775807) :
    Calls Try.prog 71 #[.slice (some ⟨g, 0, none⟩) L.length c] w fun e w' => ∃ v, e = .returned v ∧ OwnB w' w.heap.size v (joinL L) ∧ Below w.heap.size w w' := by
  go_enter Try.func71, Try.ntmps71
  go_wp2_with fail
  go_loop [3, 11] (fun s i => ∃ k : Nat, k ≤ L.length ∧ i = .int .i64 k ∧ ∃ m : Nat, m ≤ 140737488355328 ∧ s = .int .i64 m ∧ Hid (m = total (L.take k))) (fun _ i => L.length - (intOf i).toNat)
  case atStart => exact ⟨0, Nat.zero_le _, rfl, 0, by omega, rfl, by rw [List.take_zero]; rfl⟩
  case round =>
    obtain ⟨k, hk, rfl, m, hm, rfl, Hm⟩ := hrel
    by_cases hlt : k < L.length
    · obtain ⟨A, c1, l, h1, h2, h3⟩ := hL.cell k hlt
      have H1 := Lib.hid (take_some L k _ h1)
      have hs : m + l.length ≤ 140737488355328 := by
        have := total_take_le L (k + 1)
        rw [H1.out, total_snoc, ← Hm.out] at this
        exact Nat.le_trans this hn
      clear h1 h3
      go_wp2_with fail
      go_round
      case rel => exact ⟨k + 1, by omega, by go_num, m + l.length, hs, by go_num, by show _ = _; rw [H1.out, total_snoc, ← Hm.out]⟩
      case measure => simp [intOf]; omega
    · obtain rfl : k = L.length := by omega
      have hmt : m = total L := by rw [Hm.out, List.take_length]
      have HM := Lib.hid hmt; clear hmt Hm
      go_wp2_with (go_at_call 90; refine (grow_nil m _ hm).mono ?_; rintro e w1 ⟨v1, rfl, ho1, hb1⟩)
      have hL1 := hL.below hb1
      go_loopw [6, 27] (fun v i wr => ∃ k : Nat, k ≤ L.length ∧ i = .int .i64 k ∧ OwnB wr w.heap.size v (joinL (L.take k)) ∧ Below w.heap.size w wr) (fun _ i _ => L.length - (intOf i).toNat)
      case atStart => exact ⟨0, Nat.zero_le _, rfl, by rw [List.take_zero]; exact ho1, hb1⟩
      case round =>
        obtain ⟨k, hk, rfl, ho, hb⟩ := hrel
        by_cases hlt : k < L.length
        · obtain ⟨A, c1, l, h1, h2, h3⟩ := (hL.below hb).cell k hlt
          have H1 := Lib.hid (take_some L k _ h1)
          have hs : (joinL (L.take k)).length + l.length ≤ 140737488355328 := by
            have := total_take_le L (k + 1)
            rw [H1.out, total_snoc, ← joinL_length] at this
            exact Nat.le_trans this hn
          clear h1
          go_wp2_with (at_builtin; refine print_append_row (w0 := w) w.heap.size rfl (.tmp 31) (.tmp 32) 22 5 .u8 1 rfl Try.underlying22 Try.infoU8 (by decide) _ (joinL (L.take k)) l A l.length c1 rfl rfl ho h3 hb hb.size (by omega) ?_; intro v2 w2 ho2 hb2 hg2 hat2)
          go_roundw
          case rel => exact ⟨k + 1, by omega, by go_num, by rw [H1.out, joinL_snoc]; exact ho2, hb2⟩
          case measure => simp [intOf]; omega
        · obtain rfl : k = L.length := by omega
          rw [List.take_length] at ho
          go_wp2_with fail
          go_ret
          exact ⟨_, rfl, ho, hb⟩
end Go.Proofs.Ytaiainlkgfpcmaa.H
