import Derived.Test.YtaiainlkgfpcmaaHcat
import Derived.Outline
namespace Go.Proofs.Ytaiainlkgfpcmaa.H
open Go.RowKit Go.Proofs.YtaiainlkgfpcmaaW.PrintWords
set_option maxRecDepth 100000

def isBytes (l : List Int) : Bool := l.all fun x => decide (0 ≤ x) && decide (x ≤ 255)
theorem isBytes_iff {l : List Int} : isBytes l = true ↔ ∀ x ∈ l, 0 ≤ x ∧ x ≤ 255 := by simp [isBytes]
def sumI (l : List Int) : Int := updS 0 l
def crcB (a : Int) : List Int := [a / 16777216, (a / 65536) % 256, (a / 256) % 256, a % 256]
theorem crcB_bytes (a : Int) (h0 : 0 ≤ a) (h1 : a ≤ 4294967295) : ∀ x ∈ crcB a, 0 ≤ x ∧ x ≤ 255 := by
  intro x hx
  simp only [crcB, List.mem_cons, List.not_mem_nil, or_false] at hx
  rcases hx with rfl | rfl | rfl | rfl <;> omega
theorem sumI_range (l : List Int) : 0 ≤ sumI l ∧ sumI l ≤ 4294967295 := by unfold sumI updS not32; exact u32_bits_range _ _ _

set_option maxHeartbeats 400000 in
theorem sum_any (A : Option Addr) (c : Nat) (l : List Int) (w : World) (hr : ReadsInt w .u8 A l.length l) (hb : ∀ x ∈ l, 0 ≤ x ∧ x ≤ 255) :
    Calls Try.prog 73 #[.slice A l.length c] w fun e w' => e = .returned (.int .u32 (sumI l)) ∧ Below w.heap.size w w' := by
  go_enter Try.func73, Try.ntmps73
  go_wp2_with (go_at_call 91; refine (upd 0 A c l _ (C_ofReads hr) hb).mono ?_; rintro e w1 ⟨rfl, hB⟩)
  go_ret
  exact ⟨rfl, hB⟩

set_option maxHeartbeats 400000 in
theorem bytes_any (a : Int) (w : World) (h0 : 0 ≤ a) (h1 : a ≤ 4294967295) :
    Calls Try.prog 72 #[.int .u32 a] w fun e w' => ∃ v, e = .returned v ∧ OwnB w' w.heap.size v (crcB a) ∧ Below w.heap.size w w' := by
  go_enter Try.func72, Try.ntmps72
  go_wp2
  go_ret
  exact ⟨_, rfl, own_lit w w.heap.size 5 .u8 (crcB a) (Nat.le_refl _) (by simp [crcB]), (Below.refl _ _).alloc (Nat.le_refl _) _⟩

theorem rows2 (w : World) (A1 A2 : Option Addr) (c1 c2 : Nat) (l1 l2 : List Int) (t : TypeId) (h1 : ReadsInt w .u8 A1 l1.length l1) (h2 : ReadsInt w .u8 A2 l2.length l2) :
    RowsAt (w.alloc (.cells #[.slice A1 l1.length c1, .slice A2 l2.length c2] t)) w.heap.size [(A1, c1, l1), (A2, c2, l2)] := by
  have hb := below_alloc (Below.refl w.heap.size w) (.cells #[.slice A1 l1.length c1, .slice A2 l2.length c2] t)
  refine ⟨fun j hj => ?_⟩
  match j, hj with
  | 0, _ => exact ⟨A1, c1, l1, rfl, (cell_of_row _ _ _ _ _ _ (heap_alloc_new w _)).trans rfl, h1.below hb⟩
  | 1, _ => exact ⟨A2, c2, l2, rfl, (cell_of_row _ _ _ _ _ _ (heap_alloc_new w _)).trans rfl, h2.below hb⟩

theorem concat2 (w : World) (A1 A2 : Option Addr) (c1 c2 : Nat) (l1 l2 : List Int) (h1 : ReadsInt w .u8 A1 l1.length l1) (h2 : ReadsInt w .u8 A2 l2.length l2) (hl : l1.length + l2.length ≤ 140737488355328) :
    Calls Try.prog 71 #[.slice (some ⟨w.heap.size, 0, none⟩) 2 2] (w.alloc (.cells #[.slice A1 l1.length c1, .slice A2 l2.length c2] 22)) fun e w' => ∃ v, e = .returned v ∧ OwnB w' w.heap.size v (l1 ++ l2) ∧ Below w.heap.size w w' := by
  refine (concat_any w.heap.size 2 [(A1, c1, l1), (A2, c2, l2)] _ (rows2 w A1 A2 c1 c2 l1 l2 _ h1 h2) (by simpa [total] using hl) (by simp)).mono ?_
  rintro e w' ⟨v, rfl, ho, hb⟩
  have hB := below_alloc (Below.refl w.heap.size w) (.cells #[.slice A1 l1.length c1, .slice A2 l2.length c2] 22)
  refine ⟨v, rfl, ?_, hB.trans (hb.mono (by simp))⟩
  have : joinL [(A1, c1, l1), (A2, c2, l2)] = l1 ++ l2 := by simp [joinL]
  rw [← this]
  exact ho.rebase (by simp)

set_option maxHeartbeats 400000 in
theorem append_any (A : Option Addr) (c : Nat) (l : List Int) (w : World) (hr : ReadsInt w .u8 A l.length l) (hb : ∀ x ∈ l, 0 ≤ x ∧ x ≤ 255) (hl : l.length + 4 ≤ 140737488355328) :
    Calls Try.prog 43 #[.slice A l.length c] w fun e w' => ∃ v, e = .returned v ∧ OwnB w' w.heap.size v (l ++ crcB (sumI l)) ∧ Below w.heap.size w w' := by
  have hsr := sumI_range l
  have hl4 : (crcB (sumI l)).length = 4 := rfl
  go_enter Try.func43, Try.ntmps43
  go_wp2_with (first | (go_at_call 73; refine (sum_any A c l _ hr hb).mono ?_; rintro e w1 ⟨rfl, hB1⟩) | (go_at_call 72; refine (bytes_any _ _ hsr.1 hsr.2).mono ?_; rintro e w2 ⟨v2, rfl, ho2, hB2⟩; obtain ⟨A2, c2, rfl, hr2⟩ := own_reads ho2) | (go_at_call 71; refine (concat2 w2 A A2 c c2 l _ ((hr.below hB1).below hB2) hr2 (by omega)).mono ?_; rintro e w3 ⟨v3, rfl, ho3, hB3⟩))
  go_ret
  have hBa := hB1.trans (hB2.mono hB1.size)
  exact ⟨_, rfl, ho3.rebase hBa.size, hBa.trans (hB3.mono hBa.size)⟩
end Go.Proofs.Ytaiainlkgfpcmaa.H
