import Derived.Test.YtaiainlkgfpcmaaHopen
import Derived.Deep.QuietTactic
import Derived.BigQuiet
import Derived.Deep.RegionWith
namespace Go.Proofs.Ytaiainlkgfpcmaa.H
open Go.RowKit Go.Proofs.YtaiainlkgfpcmaaW.PrintWords
set_option maxRecDepth 100000

theorem rd_eq_getElem {l : List Int} {k : Nat} (h : k < l.length) : rd l k = l[k] := by
  rw [rd, List.getD_eq_getElem?_getD, show ((k : Int)).toNat = k from rfl, List.getElem?_eq_getElem h]; rfl
theorem eq_of_rd {l1 l2 : List Int} (hl : l1.length = l2.length) (h : ∀ k : Nat, k < l1.length → rd l1 k = rd l2 k) : l1 = l2 := by
  apply List.ext_getElem hl
  intro i h1 h2
  have := h i h1
  rwa [rd_eq_getElem h1, rd_eq_getElem h2] at this

def eqB (l1 l2 : List Int) : Bool := decide (l1 = l2)
theorem eqB_true {l1 l2 : List Int} (h : l1 = l2) : eqB l1 l2 = true := decide_eq_true h
theorem eqB_false {l1 l2 : List Int} (h : ¬ l1 = l2) : eqB l1 l2 = false := decide_eq_false h
theorem ret_bool {a b : Bool} (h : a = b) : Ending.returned (.bool a) = Ending.returned (.bool b) := by rw [h]
set_option maxHeartbeats 800000 in
theorem equal_any (A1 A2 : Option Addr) (c1 c2 : Nat) (l1 l2 : List Int) (w : World) (h1 : ReadsInt w .u8 A1 l1.length l1) (h2 : ReadsInt w .u8 A2 l2.length l2) :
    Calls Try.prog 96 #[.slice A1 l1.length c1, .slice A2 l2.length c2] w fun e w' => e = .returned (.bool (eqB l1 l2)) ∧ ∃ n, w' = w.drewN n := by
  have hl9 := h1.2.1
  by_cases hl : l1.length = l2.length
  · have hb1 : ((l1.length : Int) != (l2.length : Int)) = false := by simp [hl]
    go_enter Try.func96, Try.ntmps96
    go_wp2_with fail
    go_loopw [13] (fun i wr => ∃ k : Nat, k ≤ l1.length ∧ i = .int .i64 k ∧ Hid (∀ j : Nat, j < k → rd l1 j = rd l2 j) ∧ ∃ n, wr = w.drewN n) (fun i _ => l1.length - (intOf i).toNat)
    case atStart => exact ⟨0, Nat.zero_le _, rfl, fun j hj => absurd hj (by omega), 0, rfl⟩
    case round =>
      obtain ⟨k, hk, rfl, hp, n, rfl⟩ := hrel
      by_cases hlt : k < l1.length
      · obtain ⟨a1, rfl, hc1⟩ := h1.at_ k (by omega) (by omega)
        obtain ⟨a2, rfl, hc2⟩ := h2.at_ k (by omega) (by omega)
        rw [show ((k : Int)).toNat = k from rfl] at hc1 hc2
        have hk2 : k < l2.length := by omega
        have g0 : (0 : Int) ≤ (k : Int) := by omega
        have g1 : (k : Int) < (l1.length : Int) := by omega
        have g2 : (k : Int) < (l2.length : Int) := by omega
        by_cases he : rd l1 k = rd l2 k
        · have hb2 : (rd l1 k != rd l2 k) = false := by simp [he]
          have HE := Lib.hid he; clear he
          go_wp2_with fail
          go_quiet (fail)
          go_wp2_with fail
          go_roundw
          case rel =>
            exact ⟨k + 1, by omega, by go_num, fun j hj => by
              rcases Nat.lt_or_ge j k with h | h
              · exact hp.out j h
              · obtain rfl : j = k := by omega
                exact HE.out, _, rfl⟩
          case measure => simp [intOf]; omega
        · have hb2 : (rd l1 k != rd l2 k) = true := by simp [he]
          have HE := Lib.hid he; clear he
          go_wp2_with fail
          go_quiet (fail)
          go_wp2_with fail
          go_ret
          exact ⟨ret_bool (eqB_false fun h => HE.out (by rw [h])).symm, _, World.drewN_drewN ..⟩
      · obtain rfl : k = l1.length := by omega
        have he : l1 = l2 := eq_of_rd hl hp.out
        have HD := Lib.hid (eqB_true he); clear he hp
        go_wp2_with fail
        go_ret
        exact ⟨ret_bool HD.out.symm, _, rfl⟩
  · have hb1 : ((l1.length : Int) != (l2.length : Int)) = true := by
      rw [bne_iff_ne]; omega
    have HD := Lib.hid (eqB_false (l1 := l1) (l2 := l2) fun h => hl (by rw [h]))
    go_enter Try.func96, Try.ntmps96
    go_wp2
    go_ret
    exact ⟨ret_bool HD.out.symm, 0, rfl⟩
end Go.Proofs.Ytaiainlkgfpcmaa.H
