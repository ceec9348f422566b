import Derived.Test.YtaiainlkgfpcmaaHindex
namespace Go.Proofs.Ytaiainlkgfpcmaa.H
open Go.RowKit Go.Proofs.YtaiainlkgfpcmaaW.PrintWords
set_option maxRecDepth 100000

/-- A varint.Reader at block g, over bytes, at an index. -/
structure IsRd (w : World) (g : Nat) (A : Option Addr) (n c : Nat) (l : List Int) (at_ : Nat) : Prop where
  heap : w.heap[g]? = some (.cells #[.bool true, .slice A n c, .int .i64 at_] 141 (0, 0))
  row : ReadsInt w .u8 A n l
  cap : n ≤ c
  le : at_ ≤ n
  ne : ∀ ad, A = some ad → 0 < n → ad.block ≠ g
theorem IsRd.lt {w : World} {g : Nat} {A : Option Addr} {n c : Nat} {l : List Int} {at_ : Nat} (h : IsRd w g A n c l at_) : g < w.heap.size := (Array.getElem?_eq_some_iff.1 h.heap).1
theorem IsRd.drewN {w : World} {g : Nat} {A : Option Addr} {n c : Nat} {l : List Int} {at_ : Nat} (h : IsRd w g A n c l at_) (k : Nat) : IsRd (w.drewN k) g A n c l at_ := ⟨h.heap, h.row, h.cap, h.le, h.ne⟩
theorem IsRd.below {w w1 : World} {g : Nat} {A : Option Addr} {n c : Nat} {l : List Int} {at_ : Nat} (h : IsRd w g A n c l at_) (hb : Below w.heap.size w w1) : IsRd w1 g A n c l at_ :=
  ⟨(hb.block g h.lt).trans h.heap, h.row.below hb, h.cap, h.le, h.ne⟩
theorem IsRd.cell0 {w : World} {g : Nat} {A : Option Addr} {n c : Nat} {l : List Int} {at_ : Nat} (h : IsRd w g A n c l at_) : w.cell? ⟨g, 0, none⟩ = some (.bool true) := (cell_of_row w g 0 _ _ _ h.heap).trans rfl
theorem IsRd.cell1 {w : World} {g : Nat} {A : Option Addr} {n c : Nat} {l : List Int} {at_ : Nat} (h : IsRd w g A n c l at_) : w.cell? ⟨g, 1, none⟩ = some (.slice A n c) := (cell_of_row w g 1 _ _ _ h.heap).trans rfl
theorem IsRd.cell2 {w : World} {g : Nat} {A : Option Addr} {n c : Nat} {l : List Int} {at_ : Nat} (h : IsRd w g A n c l at_) : w.cell? ⟨g, 2, none⟩ = some (.int .i64 at_) := (cell_of_row w g 2 _ _ _ h.heap).trans rfl

def NewPost (w : World) (l : List Int) (e : Ending) (w' : World) : Prop := ∃ g A n c, e = .returned (.pointer (some ⟨g, 0, none⟩)) ∧ IsRd w' g A n c l 0 ∧ w.heap.size ≤ g ∧ Below w.heap.size w w'

set_option maxHeartbeats 800000 in
theorem new_any (A : Option Addr) (n c : Nat) (l : List Int) (w : World) (hr : ReadsInt w .u8 A n l) (hl : n ≤ 140737488355328) :
    Calls Try.prog 94 #[.slice A n c] w (NewPost w l) := by
  go_enter Try.func94, Try.ntmps94
  go_wp2_with (go_at_call 74; refine (clone_n A n c l _ hr hl).mono ?_; rintro e w1 ⟨v1, rfl, ho1, hb1⟩; obtain ⟨A1, c1, rfl, hr1⟩ := own_reads ho1)
  go_ret
  have hc1 : l.length ≤ c1 := by
    rcases ho1.2 with ⟨h1, h2⟩ | ⟨g', cap', cur, he, hb, hh, h1, h2⟩
    · omega
    · injection he with _ _ h3
      omega
  have hal := below_alloc (Below.refl w1.heap.size w1) (.cells #[.bool true, .slice A1 l.length c1, .int .i64 0] 141)
  refine ⟨w1.heap.size, A1, l.length, c1, rfl, ⟨heap_alloc_new w1 _, hr1.below hal, hc1, Nat.zero_le _, ?_⟩, hb1.size, hb1.trans (hal.mono hb1.size)⟩
  intro ad had hn0
  have := reads_block hr1 ad had hn0
  omega

theorem zero_any (g : Nat) (A : Option Addr) (n c : Nat) (l : List Int) (at_ : Nat) (w : World) (h : IsRd w g A n c l at_) :
    Calls Try.prog 102 #[.pointer (some ⟨g, 0, none⟩)] w (RetW (.bool false) w) := by
  have h0 := h.cell0
  clear h
  go_enter Try.func102, Try.ntmps102
  go_wp2
  go_ret
  exact ⟨rfl, rfl⟩

def RestPost (w : World) (A : Option Addr) (n c at_ : Nat) (e : Ending) (w' : World) : Prop := e = .returned (.slice (if c = at_ then A else A.map (·.add at_)) (n - at_) (c - at_)) ∧ ∃ k, w' = w.drewN k
set_option maxHeartbeats 800000 in
theorem rest_any (g : Nat) (A : Option Addr) (n c : Nat) (l : List Int) (at_ : Nat) (w : World) (h : IsRd w g A n c l at_) :
    Calls Try.prog 105 #[.pointer (some ⟨g, 0, none⟩)] w (RestPost w A n c at_) := by
  have h1 := h.cell1
  have h2 := h.cell2
  have hs := slice_l A n c at_ h.le
  obtain ⟨A2, hA2⟩ : ∃ A2, (if c = at_ then A else A.map (·.add at_)) = A2 := ⟨_, rfl⟩
  unfold RestPost
  rw [hA2] at hs ⊢
  clear hA2 h
  generalize n - at_ = n2 at *
  generalize c - at_ = c2 at *
  go_enter Try.func105, Try.ntmps105
  go_wp2
  go_quiet (fail)
  go_wp2
  go_ret
  exact ⟨rfl, _, rfl⟩
end Go.Proofs.Ytaiainlkgfpcmaa.H
