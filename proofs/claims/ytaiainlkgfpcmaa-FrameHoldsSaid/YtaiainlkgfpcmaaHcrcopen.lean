import Derived.Test.YtaiainlkgfpcmaaHequal
namespace Go.Proofs.Ytaiainlkgfpcmaa.H
open Go.RowKit Go.Proofs.YtaiainlkgfpcmaaW.PrintWords
set_option maxRecDepth 100000

theorem sum_n (A : Option Addr) (n c : Nat) (l : List Int) (w : World) (hr : ReadsInt w .u8 A n l) (hb : ∀ x ∈ l, 0 ≤ x ∧ x ≤ 255) :
    Calls Try.prog 73 #[.slice A n c] w fun e w' => e = .returned (.int .u32 (sumI l)) ∧ Below w.heap.size w w' := by
  obtain rfl := hr.1
  exact sum_any A c l w hr hb
theorem equal_n (A1 A2 : Option Addr) (n1 n2 c1 c2 : Nat) (l1 l2 : List Int) (w : World) (h1 : ReadsInt w .u8 A1 n1 l1) (h2 : ReadsInt w .u8 A2 n2 l2) :
    Calls Try.prog 96 #[.slice A1 n1 c1, .slice A2 n2 c2] w fun e w' => e = .returned (.bool (eqB l1 l2)) ∧ ∃ n, w' = w.drewN n := by
  obtain rfl := h1.1
  obtain rfl := h2.1
  exact equal_any A1 A2 c1 c2 l1 l2 w h1 h2
theorem clone_n (A0 : Option Addr) (n c0 : Nat) (l0 : List Int) (w : World) (hr : ReadsInt w .u8 A0 n l0) (hl : n ≤ 140737488355328) :
    Calls Try.prog 74 #[.slice A0 n c0] w fun e w' => ∃ v, e = .returned v ∧ OwnB w' w.heap.size v l0 ∧ Below w.heap.size w w' := by
  obtain rfl := hr.1
  exact clone_any A0 c0 l0 w hr hl
theorem append_n (A : Option Addr) (n c : Nat) (l : List Int) (w : World) (hr : ReadsInt w .u8 A n l) (hb : ∀ x ∈ l, 0 ≤ x ∧ x ≤ 255) (hl : n + 4 ≤ 140737488355328) :
    Calls Try.prog 43 #[.slice A n c] w fun e w' => ∃ v, e = .returned v ∧ OwnB w' w.heap.size v (l ++ crcB (sumI l)) ∧ Below w.heap.size w w' := by
  obtain rfl := hr.1
  exact append_any A c l w hr hb hl

def openF (l : List Int) : List Int × Int :=
  if l.length < 4 then ([], 4) else if crcB (sumI (l.take (l.length - 4))) = l.drop (l.length - 4) then (l.take (l.length - 4), 0) else ([], 10)

def OpenPost (w : World) (r : List Int × Int) (e : Ending) (w' : World) : Prop := ∃ v, e = .returned (.tuple #[v, .int .i64 r.2]) ∧ OwnB w' w.heap.size v r.1 ∧ Below w.heap.size w w'

theorem pw_drewN_reads {w : World} (n : Nat) {k : IntKind} {A : Option Addr} {m : Nat} {xs : List Int} (h : ReadsInt w k A m xs) : ReadsInt (w.drewN n) k A m xs := h
theorem undrew {B : Nat} {w w1 : World} (h : Below B w.drew w1) : Below B w w1 := ⟨h.os, h.tape, h.output, h.size, h.block⟩
theorem below_drewN' {B : Nat} {w W : World} (h : Below B w W) (n : Nat) : Below B w (W.drewN n) := pw_below_drewN h n

set_option maxHeartbeats 800000 in
theorem crcopen_any (A : Option Addr) (c : Nat) (l : List Int) (w : World) (hr : ReadsInt w .u8 A l.length l) (hc : l.length ≤ c) (hb : ∀ x ∈ l, 0 ≤ x ∧ x ≤ 255) (hl : l.length ≤ 140737488355328) :
    Calls Try.prog 76 #[.slice A l.length c] w (OpenPost w (openF l)) := by
  by_cases h4 : l.length < 4
  · have hR : openF l = ([], 4) := by rw [openF, if_pos h4]
    rw [hR]; clear hR
    go_enter Try.func76, Try.ntmps76
    go_wp2
    go_ret2
    exact ⟨_, rfl, own_nil _ _ _ _, Below.refl _ _⟩
  · obtain ⟨m, hm⟩ : ∃ m, l.length = m + 4 := ⟨l.length - 4, by omega⟩
    have hm' : l.length - 4 = m := by omega
    have hR : openF l = if crcB (sumI (l.take m)) = l.drop m then (l.take m, 0) else ([], 10) := by rw [openF, if_neg h4, hm']
    rw [hR]; clear hR
    have hlt : (l.take m).length = m := by rw [List.length_take]; omega
    have hld : (l.drop m).length = 4 := by rw [List.length_drop]; omega
    have hr1 : ReadsInt w .u8 A m (l.take m) := hr.take_ m (by omega)
    have hr2 := hr.drop_ (c := c) m (by omega) hc
    have hb1 : ∀ x ∈ l.take m, 0 ≤ x ∧ x ≤ 255 := fun x hx => hb x (List.mem_of_mem_take hx)
    have hsl := slice_h A (m + 4) c m (by omega)
    rw [show l.length - m = 4 by omega] at hr2
    rw [hm] at hc hl ⊢
    have hsr := sumI_range (l.take m)
    clear hm hm' hr h4 hb
    generalize l.take m = t at *
    generalize l.drop m = d at *
    generalize hA2 : (if c = m then A else A.map (·.add m)) = A2 at *
    have hsd : ∀ W : World, (Instr.slice 22 (.slice A (m + 4) c) (some (.int .i64 (m : Int))) none none).run Try.prog W = .ok (.slice A2 4 (c - m)) W := fun W => by
      rw [← hA2, slice_l A (m + 4) c m (by omega) W, show m + 4 - m = 4 by omega]
    clear hA2
    have HT := Lib.hid hlt; have HD := Lib.hid hld; clear hlt hld
    by_cases he : crcB (sumI t) = d
    · rw [if_pos he]
      have HE := Lib.hid (eqB_true he); clear he
      go_enter Try.func76, Try.ntmps76
      go_wp2
      go_region_with (first
        | (go_at_call 73; refine (sum_n A m c t _ ?_ hb1).mono ?_; exact hr1; rintro e w1 ⟨rfl, hB10⟩; have hB1 := undrew hB10)
        | (go_at_call 72; refine (bytes_any _ _ hsr.1 hsr.2).mono ?_; rintro e w2 ⟨v2, rfl, ho2, hB2⟩; obtain ⟨A3, c3, rfl, hr3⟩ := own_reads ho2)
        | (go_at_call 96; refine (equal_n A3 A2 _ 4 c3 (c - m) _ d _ hr3 ?_).mono ?_; exact (hr2.below (w1 := w1) hB1).below hB2; rw [HE.out]; rintro e w3 ⟨rfl, n3, rfl⟩))
      go_wp2_with (go_at_call 74; refine (clone_n A m c t _ ?_ (by omega)).mono ?_; exact pw_drewN_reads n3 ((hr1.below (w1 := w1) hB1).below hB2); rintro e w4 ⟨v4, rfl, ho4, hB4⟩)
      go_ret2
      have hBa : Below w.heap.size w (w2.drewN n3) := pw_below_drewN (Below.trans (b := w1) hB1 (hB2.mono hB1.size)) n3
      exact ⟨_, rfl, ho4.rebase hBa.size, hBa.trans (hB4.mono hBa.size)⟩
    · rw [if_neg he]
      have HE := Lib.hid (eqB_false he); clear he
      go_enter Try.func76, Try.ntmps76
      go_wp2
      go_region_with (first
        | (go_at_call 73; refine (sum_n A m c t _ ?_ hb1).mono ?_; exact hr1; rintro e w1 ⟨rfl, hB10⟩; have hB1 := undrew hB10)
        | (go_at_call 72; refine (bytes_any _ _ hsr.1 hsr.2).mono ?_; rintro e w2 ⟨v2, rfl, ho2, hB2⟩; obtain ⟨A3, c3, rfl, hr3⟩ := own_reads ho2)
        | (go_at_call 96; refine (equal_n A3 A2 _ 4 c3 (c - m) _ d _ hr3 ?_).mono ?_; exact (hr2.below (w1 := w1) hB1).below hB2; rw [HE.out]; rintro e w3 ⟨rfl, n3, rfl⟩))
      go_wp2
      go_ret2
      have hBa : Below w.heap.size w (w2.drewN n3) := pw_below_drewN (Below.trans (b := w1) hB1 (hB2.mono hB1.size)) n3
      exact ⟨_, rfl, own_nil _ _ _ _, hBa⟩
end Go.Proofs.Ytaiainlkgfpcmaa.H
