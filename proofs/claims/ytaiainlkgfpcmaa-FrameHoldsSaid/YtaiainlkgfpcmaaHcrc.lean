import Derived.Test.YtaiainlkgfpcmaaProg
import Derived.Test.YtaiainlkgfpcmaaWMore
import Derived.Lib.Hide
import Derived.WalkLawsBesides
import Derived.WalkSpells
import Derived.Laws.Tables
namespace Go.Proofs.Ytaiainlkgfpcmaa.H
open Go.RowKit Go.Proofs.YtaiainlkgfpcmaaW.PrintWords
set_option maxRecDepth 100000

def step1 (n : Int) : Int := if n % 2 = 1 then Go.bits .xor .u32 (n / 2) 2197175160 else n / 2
def steps : Nat → Int → Int
  | 0, n => n
  | k + 1, n => step1 (steps k n)
def tabAt (i : Nat) : Int := steps 8 i
def tabA : Array Value := ((List.range 256).map fun i => Value.int .u32 (tabAt i)).toArray

theorem u32_and1 {m : Int} (h0 : 0 ≤ m) (h1 : m ≤ 4294967295) : bits .and .u32 m 1 = m % 2 :=
  bits_mask .u32 32 (by decide) (fun n a b => by rw [IntKind.wrap_u32]; omega) 1 (by decide) m h0 (by omega)
theorem u32_range (n : Int) : 0 ≤ IntKind.u32.wrap n ∧ IntKind.u32.wrap n ≤ 4294967295 := by rw [IntKind.wrap_u32]; omega
theorem u32_bits_range (op : BinOp) (a b : Int) : 0 ≤ bits op .u32 a b ∧ bits op .u32 a b ≤ 4294967295 := by unfold bits; exact u32_range _

theorem tabA_of (cs : Array Value) (hs : cs.size = 256) (h : ∀ i, i < 256 → cs[i]? = some (.int .u32 (tabAt i))) : cs = tabA := by
  apply Array.ext
  · simp [tabA, hs]
  · intro i h1 h2
    have := h i (by omega)
    rw [Array.getElem?_eq_getElem h1] at this
    simp only [tabA, List.getElem_toArray, List.getElem_map, List.getElem_range]
    exact Option.some.inj this

theorem all_set {cs : Array Value} (h : cs.all (·.oneCell') = true) (i : Nat) (v : Value) (hv : v.oneCell' = true) : (cs.setIfInBounds i v).all (·.oneCell') = true := by
  rw [Array.all_eq_true_iff_forall_mem] at h ⊢
  intro x hx
  rcases Array.mem_or_eq_of_mem_setIfInBounds hx with hx | rfl
  · exact h x hx
  · exact hv
theorem below_setRow (w : World) (g : Nat) (cs : Array Value) {B : Nat} (hB : B ≤ g) : Below B w (w.setRow g cs) := by
  refine ⟨rfl, rfl, rfl, by simp, fun k hk => ?_⟩
  unfold World.setRow
  rw [Array.getElem?_modify, if_neg (by omega)]
def MadeRel (w : World) (k : Nat) (wr : World) : Prop := ∃ cs : Array Value, wr.heap[w.heap.size]? = some (.cells cs 138 (0, 0)) ∧ cs.size = 256 ∧ (∀ i, i < k → cs[i]? = some (.int .u32 (tabAt i))) ∧ (cs.all (·.oneCell') = true) ∧ Below w.heap.size w wr

set_option maxHeartbeats 400000 in
theorem made_any (w : World) : Calls Try.prog 101 #[] w fun e w' => e = .returned (.agg tabA) ∧ Below w.heap.size w w' := by
  go_enter Try.func101, Try.ntmps101
  go_wp2_with fail
  go_loopw [4] (fun i wr => ∃ k : Nat, k ≤ 256 ∧ i = .int .i64 k ∧ MadeRel w k wr) (fun i _ => 256 - (intOf i).toNat)
  case atStart => 
    refine ⟨0, by omega, rfl, _, heap_alloc_new w _, by kernel_rfl, fun i hi => absurd hi (by omega), by kernel_rfl, (Below.refl _ _).alloc (Nat.le_refl _) _⟩
  case round =>
    obtain ⟨k, hk, rfl, cs, hh, hs, hc, h1, hB⟩ := hrel
    by_cases hlt : k < 256
    · go_wp2_with fail
      go_loop [2, 9] (fun n j => ∃ j' : Nat, j' ≤ 8 ∧ j = .int .i64 j' ∧ ∃ m : Int, 0 ≤ m ∧ m ≤ 4294967295 ∧ n = .int .u32 m ∧ m = steps j' k) (fun _ j => 8 - (intOf j).toNat)
      case atStart => 
        exact ⟨0, by omega, rfl, k, by omega, by omega, by first | rfl | (simp), rfl⟩
      case round =>
        obtain ⟨j, hj, rfl, m, hm0, hm1, rfl, hm⟩ := hrel
        have HM := Lib.hid hm; clear hm
        have hand := u32_and1 hm0 hm1
        have HA := Lib.hid hand; clear hand
        have hx := u32_bits_range .xor (m / 2) 2197175160
        by_cases hjl : j < 8
        · go_wp2_with fail
          · go_round
            case rel =>
              have ht : (bits BinOp.and IntKind.u32 m 1 == 1) = true := by assumption
              rw [HA.out] at ht
              refine ⟨j + 1, by omega, by go_num, _, hx.1, hx.2, rfl, ?_⟩
              show _ = step1 (steps j k)
              rw [← HM.out, step1, if_pos (by simpa using ht)]
            case measure => simp [intOf]; omega
          · go_round
            case rel =>
              have ht : (bits BinOp.and IntKind.u32 m 1 == 1) = false := by assumption
              rw [HA.out] at ht
              refine ⟨j + 1, by omega, by go_num, _, by omega, by omega, rfl, ?_⟩
              show _ = step1 (steps j k)
              rw [← HM.out, step1, if_neg (by simpa using ht)]
            case measure => simp [intOf]; omega
        · have hj8 : j = 8 := by omega
          subst hj8
          have hcell : wr.cell? ⟨w.heap.size, k, none⟩ = some (cs[k]'(by omega)) := by rw [cell_of_row wr _ _ _ _ _ hh]; exact Array.getElem?_eq_getElem (by omega)
          have hfz := frozen_of_row wr w.heap.size k cs 138 hh
          clear hx HA
          go_wp2_with fail
          go_roundw
          case rel =>
            refine ⟨k + 1, by omega, by go_num, cs.setIfInBounds k (.int .u32 m), heap_setCell_same wr _ k cs 138 _ hh, by simp [hs], ?_, ?_, hB.setCell (Nat.le_refl _) _⟩
            · intro i hi
              by_cases e : i = k
              · subst e
                rw [Array.getElem?_setIfInBounds_self_of_lt (by omega), HM.out]; rfl
              · rw [Array.getElem?_setIfInBounds_ne (by omega)]
                exact hc i (by omega)
            · exact all_set h1 _ _ rfl
          case measure => simp [intOf]; omega
    · have hk6 : k = 256 := by omega
      subst hk6
      have ht := tabA_of cs hs hc
      subst ht
      clear hc hs
      go_wp2_with (first | (refine wpList_load_row rfl 138 _ rfl w.heap.size rfl 138 _ (0, 0) _ hh Try.underlying138 rfl (by kernel_rfl) ?_) | (refine wpList_store_row rfl 138 _ _ rfl w.heap.size _ rfl rfl 138 _ hh (by kernel_rfl) rfl h1 ?_))
      exact bodyPost_ret (results_cell_row Try.results101 _ _ w.heap.size 138 tabA (0, 0) _ rfl (by rw [setRow_heap wr w.heap.size tabA tabA 138 _ hh]) Try.underlying138 rfl (by kernel_rfl)) rfl ⟨rfl, hB.trans (below_setRow _ _ _ (Nat.le_refl _))⟩


def updI (n x : Int) : Int := bits .xor .u32 (tabAt (bits .xor .u8 (n % 256) x).toNat) (n / 256)
def not32 (n : Int) : Int := bits .xor .u32 IntKind.u32.max n
theorem u8_bits_range (op : BinOp) (a b : Int) : 0 ≤ bits op .u8 a b ∧ bits op .u8 a b ≤ 255 := by unfold bits; rw [IntKind.wrap_u8]; omega
theorem updI_range (n x : Int) : 0 ≤ updI n x ∧ updI n x ≤ 4294967295 := u32_bits_range _ _ _
theorem all_tabA : (tabA.all (·.oneCell') = true) := by kernel_rfl
theorem tabA_at (i : Nat) (h : i < 256) : tabA[i]? = some (.int .u32 (tabAt i)) := by
  simp [tabA, h]
def updS (a0 : Int) (l1 : List Int) : Int := not32 (l1.foldl updI (not32 a0))
theorem bytes_rd {l : List Int} (hb : ∀ x ∈ l, 0 ≤ x ∧ x ≤ 255) (k : Nat) : 0 ≤ rd l k ∧ rd l k ≤ 255 := by
  unfold rd
  rcases Nat.lt_or_ge k l.length with h | h
  · rw [List.getD_eq_getElem?_getD, show (k : Int).toNat = k from rfl, List.getElem?_eq_getElem h]
    exact hb _ (List.getElem_mem h)
  · rw [List.getD_eq_getElem?_getD, show (k : Int).toNat = k from rfl, List.getElem?_eq_none h]
    simp
theorem take_rd (l : List Int) (k : Nat) (h : k < l.length) : l.take (k + 1) = l.take k ++ [rd l k] := by
  rw [List.take_succ_eq_append_getElem h, rd, List.getD_eq_getElem?_getD, show (k : Int).toNat = k from rfl, List.getElem?_eq_getElem h]; rfl

set_option maxHeartbeats 400000 in
theorem upd (a0 : Int) (A1 : Option Addr) (c1 : Nat) (l1 : List Int) (w : World) (hr1 : Kd.C (Kd.int .u8) w A1 l1.length l1) (hb : ∀ x ∈ l1, 0 ≤ x ∧ x ≤ 255) :
    Calls Try.prog 91 #[.int .u32 a0, .slice A1 l1.length c1] w fun e w' => e = .returned (.int .u32 (updS a0 l1)) ∧ Below w.heap.size w w' := by
  have hl9 : l1.length ≤ 9223372036854775807 := hr1.2.1
  go_enter Try.func91, Try.ntmps91
  go_wp2_with (first | (go_at_call 101; refine (made_any _).mono ?_; rintro e w1 ⟨rfl, hB1⟩) | (refine wpList_store_row rfl 138 _ _ rfl _ _ rfl rfl 138 _ (heap_alloc_new _ _) (by kernel_rfl) (by kernel_rfl) all_tabA ?_))
  have hhT : ((w1.alloc (Obj.cells Try.zeroCells138 138)).setRow w1.heap.size tabA).heap[w1.heap.size]? = some (.cells tabA 138 (0, 0)) := setRow_heap _ _ Try.zeroCells138 tabA 138 (0, 0) (heap_alloc_new _ _)
  have hBW : Below w.heap.size w ((w1.alloc (Obj.cells Try.zeroCells138 138)).setRow w1.heap.size tabA) := (hB1.alloc hB1.size _).trans (below_setRow _ _ _ hB1.size)
  generalize ((w1.alloc (Obj.cells Try.zeroCells138 138)).setRow w1.heap.size tabA) = W at hhT hBW ⊢
  generalize w1.heap.size = g at hhT ⊢
  clear hB1
  go_loop [6, 14] (fun n i => ∃ k : Nat, k ≤ l1.length ∧ i = .int .i64 k ∧ ∃ m : Int, 0 ≤ m ∧ m ≤ 4294967295 ∧ n = .int .u32 m ∧ Hid (m = (l1.take k).foldl updI (not32 a0))) (fun _ i => l1.length - (intOf i).toNat)
  case atStart => exact ⟨0, Nat.zero_le _, rfl, _, (u32_bits_range _ _ _).1, (u32_bits_range _ _ _).2, rfl, by rw [List.take_zero]; rfl⟩
  case round =>
    obtain ⟨k, hk, rfl, m, hm0, hm1, rfl, hm⟩ := hrel
    by_cases hlt : k < l1.length
    · obtain ⟨ad, e1, hcell⟩ := Kd.at_int hr1 k (by omega) (by omega)
      subst e1
      have hc := (hBW.cell (World.block_lt_of_cell? w _ hcell)).trans hcell
      clear hcell
      have hx := bytes_rd hb k
      rw [show ((k : Int)).toNat = k from rfl] at hc
      have hT := fun i h => (cell_of_row W g i tabA 138 _ hhT).trans (tabA_at i h)
      have hbx := u8_bits_range .xor (m % 256) (rd l1 k)
      have hx8 := hT (bits .xor .u8 (m % 256) (rd l1 k)).toNat (by omega)
      clear hT
      have hnx := updI_range m (rd l1 k)
      have HR := Lib.hid (take_rd l1 k hlt)
      go_wp2_with fail
      go_round
      case rel => exact ⟨k + 1, by omega, by go_num, _, hnx.1, hnx.2, rfl, by show _ = _; rw [HR.out, List.foldl_append, ← hm.out]; rfl⟩
      case measure => simp [intOf]; omega
    · obtain rfl : k = l1.length := by omega
      go_wp2_with fail
      go_ret
      refine ⟨?_, hBW⟩
      rw [updS, ← (show (l1.take l1.length) = l1 from List.take_length), ← hm.out]; rfl
end Go.Proofs.Ytaiainlkgfpcmaa.H
