/- The law's own 'right': for any bytes the program's First, Open and Seek return what the reference returns. -/
import Derived.Test.YtaiainlkgfpcmaaPFbx1
import Derived.Test.YtaiainlkgfpcmaaFp4
namespace Go.Proofs.Ytaiainlkgfpcmaa.H
open Go.RowKit Go.Proofs.YtaiainlkgfpcmaaW.PrintWords Go.Proofs.YtaiainlkgfpcmaaW.PrintMore Go.Proofs.Ytaiainlkgfpcmaa.PFa Go.Proofs.Ytaiainlkgfpcmaa.PFb
set_option maxRecDepth 100000

theorem refSeek_loop (l : List Int) (hb : ∀ x ∈ l, 0 ≤ x ∧ x ≤ 255) (hl : l.length ≤ 140737488355300) : ∀ (r i k : Nat), i + r = l.length → r < k → redpencilref19_Seek.l0 k l (i : Int) = some (seekG l r i) := by
  intro r
  induction r with
  | zero =>
    intro i k hi hk
    obtain ⟨k, rfl⟩ : ∃ k', k = k' + 1 := ⟨k - 1, by omega⟩
    rw [redpencilref19_Seek.l0, if_neg (by omega)]
    rfl
  | succ r ih =>
    intro i k hi hk
    obtain ⟨k, rfl⟩ : ∃ k', k = k' + 1 := ⟨k - 1, by omega⟩
    rw [redpencilref19_Seek.l0, if_pos (by omega)]
    (repeat rw [if_pos (by omega)])
    rw [Int.toNat_natCast, redpencilref19_First.f, if_pos ⟨isBytes_iff.2 (fun x hx => hb x (List.mem_of_mem_drop hx)), by rw [List.length_drop]; omega⟩]
    simp only [Option.bind_some, seekG]
    by_cases h : (refFirst (l.drop i)).2.2.2 = 0
    · rw [if_pos h, if_pos h]
    · rw [if_neg h, if_neg h, wrap64_small (by omega) (by omega)]
      exact ih (i + 1) k (by omega) (by omega)
theorem refSeek_eq (l : List Int) (hb : ∀ x ∈ l, 0 ≤ x ∧ x ≤ 255) (hl : l.length ≤ 140737488355300) (k : Nat) (hk : l.length < k) : redpencilref19_Seek.f k l = some (seekR l) := by
  rw [redpencilref19_Seek.f]
  exact refSeek_loop l hb hl l.length 0 k (by omega) hk
theorem refFirst_bad (l : List Int) (h : (refFirst l).2.2.2 ≠ 0) : refFirst l = (0, [], 0, (refFirst l).2.2.2) := by
  revert h
  unfold refFirst
  repeat' split
  all_goals first | (intro h; exact absurd rfl h) | (intro _; rfl)
theorem right_end (l : List Int) (hb : ∀ x ∈ l, 0 ≤ x ∧ x ≤ 255) (hl : l.length ≤ 140737488355300) (k : Nat) (hk : l.length < k) :
    ((redpencilref19_Seek.f k l).bind fun bt => ((redpencillaw19_seeks.f k l bt.1 bt.2).bind fun t => (if t = true then (some ((strOfNums l).toList == (strOfNums l).toList)) else (some false)))) = some true := by
  obtain ⟨n, e, hs⟩ : ∃ n e, seekR l = (n, e) := ⟨_, _, rfl⟩
  rw [refSeek_eq l hb hl k hk, hs]
  simp only [Option.bind_some]
  rw [seeks_true hb hl hs k hk]
  simp
theorem right_loop (l : List Int) (hb : ∀ x ∈ l, 0 ≤ x ∧ x ≤ 255) (hl : l.length ≤ 140737488355300) : ∀ (r i k : Nat) (x : List Int), x.length = i + r → x.length ≤ 140737488355300 → r + l.length + 1 < k → redpencillaw19_right.l0 k l l x (i : Int) = some true := by
  intro r
  induction r with
  | zero =>
    intro i k x hx hx2 hk
    obtain ⟨k, rfl⟩ : ∃ k', k = k' + 1 := ⟨k - 1, by omega⟩
    rw [redpencillaw19_right.l0, if_neg (by omega)]
    exact right_end l hb hl k (by omega)
  | succ r ih =>
    intro i k x hx hx2 hk
    obtain ⟨k, rfl⟩ : ∃ k', k = k' + 1 := ⟨k - 1, by omega⟩
    rw [redpencillaw19_right.l0, if_pos (by omega), if_pos (by omega), wrap64_small (by omega) (by omega)]
    exact ih (i + 1) k _ (by rw [List.length_set]; omega) (by rw [List.length_set]; omega) (by omega)
theorem right_true (l : List Int) (hb : ∀ x ∈ l, 0 ≤ x ∧ x ≤ 255) (hl : l.length ≤ 140737488355300) (k : Nat) (hk : 2 * l.length + 2 < k) : redpencillaw19_right.f k l = some true := by
  have hF : redpencilref19_First.f l = some (refFirst l) := by rw [redpencilref19_First.f, if_pos ⟨isBytes_iff.2 hb, hl⟩]
  have hend := right_end l hb hl k (by omega)
  rw [redpencillaw19_right.f, if_pos (by simp only [List.length_nil]; omega)]
  simp only [Option.bind_some, List.nil_append]
  rw [hF]
  simp only [Option.bind_some]
  have hfs : redpencillaw19_firsts.f l (refFirst l).1 (refFirst l).2.1 (refFirst l).2.2.1 (refFirst l).2.2.2 = some true := by
    obtain ⟨kd, c, n, e, hs⟩ : ∃ kd c n e, refFirst l = (kd, c, n, e) := ⟨_, _, _, _, rfl⟩
    rw [hs]
    exact firsts_true hb hl hs
  rw [hfs]
  simp only [Option.bind_some, if_true]
  by_cases he : (refFirst l).2.2.2 = 0
  · rw [if_pos he]
    obtain ⟨kd, c, _, _, hc, hcb, hsl, _, hR⟩ := refFirst_inv l hb he
    by_cases hlt : (refFirst l).2.2.1 < (l.length : Int)
    · rw [if_pos hlt, opens_true hb hl (by rw [openR, if_pos ⟨he, hlt⟩])]
      simp only [Option.bind_some, if_true]
      exact hend
    · have hO : openR l = ((refFirst l).1, (refFirst l).2.1, 0) := by rw [openR, if_neg (fun h => hlt h.2), he]
      rw [if_neg hlt, opens_true hb hl hO]
      simp only [Option.bind_some, if_true]
      rw [open_eq l hb hl, hO]
      simp only [Option.bind_some]
      have hbl : (refFirst l).2.1.length ≤ l.length := by
        rw [hR]
        have := sealS_len kd c
        simp only
        omega
      exact right_loop l hb hl (refFirst l).2.1.length 0 k _ (by omega) (by omega) (by omega)
  · rw [if_neg he, opens_true hb hl (openR_err (refFirst_bad l he) he)]
    simp only [Option.bind_some, if_true]
    exact hend
end Go.Proofs.Ytaiainlkgfpcmaa.H
