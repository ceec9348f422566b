import Derived.Test.YtaiainlkgfpcmaaHcrcopen
namespace Go.Proofs.Ytaiainlkgfpcmaa.H
open Go.RowKit Go.Proofs.YtaiainlkgfpcmaaW.PrintWords
set_option maxRecDepth 100000

/-- What lay there before and is none of S is as it was. -/
structure Kp (w w' : World) (S : Nat → Prop) : Prop where
  os : w'.os = w.os
  tape : w'.tape = w.tape
  output : w'.output = w.output
  size : w.heap.size ≤ w'.heap.size
  block : ∀ k, k < w.heap.size → ¬ S k → w'.heap[k]? = w.heap[k]?
theorem Kp.refl (w : World) (S : Nat → Prop) : Kp w w S := ⟨rfl, rfl, rfl, Nat.le_refl _, fun _ _ _ => rfl⟩
theorem Kp.trans {w w1 w2 : World} {S S' : Nat → Prop} (h : Kp w w1 S) (k : Kp w1 w2 S') (hS : ∀ i, S' i → i < w.heap.size → S i) : Kp w w2 S :=
  ⟨k.os.trans h.os, k.tape.trans h.tape, k.output.trans h.output, Nat.le_trans h.size k.size, fun i hi hn =>
    (k.block i (Nat.lt_of_lt_of_le hi h.size) (fun hs => hn (hS i hs hi))).trans (h.block i hi hn)⟩
theorem Kp.ofBelow {w w1 : World} (h : Below w.heap.size w w1) (S : Nat → Prop) : Kp w w1 S := ⟨h.os, h.tape, h.output, h.size, fun k hk _ => h.block k hk⟩
theorem Kp.below {w w1 : World} {S : Nat → Prop} (h : Kp w w1 S) {B : Nat} (hB : B ≤ w.heap.size) (hS : ∀ i, S i → B ≤ i) : Below B w w1 :=
  ⟨h.os, h.tape, h.output, h.size, fun k hk => h.block k (by omega) (fun hs => by have := hS k hs; omega)⟩
theorem Kp.ofGrown {w w1 : World} {row : Option Nat} (h : w.grownBy w1 row) : Kp w w1 (fun k => some k = row) := ⟨h.os, h.tape, h.output, h.size, fun k hk hn => h.block k hk hn⟩
theorem Kp.setCell (w : World) (g i : Nat) (v : Value) : Kp w (w.setCell ⟨g, i, none⟩ v) (fun k => k = g) :=
  ⟨rfl, rfl, rfl, by simp [World.setCell], fun k _ hn => Below.heap_setCell w _ v k hn⟩
theorem Kp.grown {w w1 : World} {g : Nat} (h : Kp w w1 (fun k => k = g)) : w.grownBy w1 (some g) := ⟨h.os, h.tape, h.output, h.size, fun k hk hn => h.block k hk (fun he => hn (by rw [he]))⟩
theorem Kp.mono {w w1 : World} {S S' : Nat → Prop} (h : Kp w w1 S) (hS : ∀ i, i < w.heap.size → S i → S' i) : Kp w w1 S' := ⟨h.os, h.tape, h.output, h.size, fun k hk hn => h.block k hk (fun hs => hn (hS k hk hs))⟩

/-- A varint.Writer at block g, whose bytes are the row v of the call's own. -/
structure IsW (w : World) (base g : Nat) (v : Value) (xs : List Int) : Prop where
  heap : w.heap[g]? = some (.cells #[v] 77 (0, 0))
  ge : base ≤ g
  own : OwnB w base v xs
  ne : v.ownBlock ≠ some g
theorem IsW.lt {w : World} {base g : Nat} {v : Value} {xs : List Int} (h : IsW w base g v xs) : g < w.heap.size := (Array.getElem?_eq_some_iff.1 h.heap).1
/-- A step of a writer: its block and its row alone are written; the new row is the old one, or new. -/
structure WStep (w w' : World) (g : Nat) (v v' : Value) : Prop where
  kp : Kp w w' (fun k => k = g ∨ some k = v.ownBlock)
  row : v'.ownBlock = v.ownBlock ∨ ∃ b, v'.ownBlock = some b ∧ w.heap.size ≤ b
theorem WStep.refl (w : World) (g : Nat) (v : Value) : WStep w w g v v := ⟨Kp.refl _ _, .inl rfl⟩
theorem WStep.trans {w w1 w2 : World} {g : Nat} {v v1 v2 : Value} (h : WStep w w1 g v v1) (k : WStep w1 w2 g v1 v2) : WStep w w2 g v v2 := by
  refine ⟨h.kp.trans k.kp ?_, ?_⟩
  · rintro i (rfl | hi) hlt
    · exact .inl rfl
    · rcases h.row with he | ⟨b, hb, hb2⟩
      · exact .inr (hi.trans he)
      · rw [hb] at hi
        injection hi with hi
        omega
  · rcases k.row with he | ⟨b, hb, hb2⟩
    · rw [he]; exact h.row
    · exact .inr ⟨b, hb, Nat.le_trans h.kp.size hb2⟩
theorem WStep.before {w w1 w2 : World} {g : Nat} {v v2 : Value} (h : Below w.heap.size w w1) (k : WStep w1 w2 g v v2) : WStep w w2 g v v2 :=
  ⟨(Kp.ofBelow h _).trans k.kp (fun i hi _ => hi), by
    rcases k.row with he | ⟨b, hb, hb2⟩
    · exact .inl he
    · exact .inr ⟨b, hb, Nat.le_trans h.size hb2⟩⟩
theorem IsW.below {w w1 : World} {base g : Nat} {v : Value} {xs : List Int} (h : IsW w base g v xs) (hb : Below w.heap.size w w1) : IsW w1 base g v xs :=
  ⟨(hb.block g h.lt).trans h.heap, h.ge, pw_own_below h.own hb, h.ne⟩
theorem WStep.belowB {w w1 : World} {base g : Nat} {v v1 : Value} {xs : List Int} (h : WStep w w1 g v v1) (hI : IsW w base g v xs) : Below base w w1 := by
  have hlt := hI.lt
  have hge := hI.ge
  refine h.kp.below (by omega) ?_
  rintro i (rfl | hi)
  · exact hge
  · exact own_base hI.own i hi.symm

set_option maxHeartbeats 800000 in
theorem raw_any (base g : Nat) (v : Value) (xs ys : List Int) (A : Option Addr) (n c : Nat) (w : World) (hI : IsW w base g v xs) (hr : ReadsInt w .u8 A n ys) (hl : xs.length + n ≤ 140737488355328) :
    Calls Try.prog 41 #[.pointer (some ⟨g, 0, none⟩), .slice A n c] w fun e w' => e = .returned (.tuple #[]) ∧ ∃ v', IsW w' base g v' (xs ++ ys) ∧ WStep w w' g v v' := by
  obtain ⟨Av, cv, rfl⟩ := own_slice hI.own
  have hcell : w.cell? ⟨g, 0, none⟩ = some (.slice Av xs.length cv) := (cell_of_row w g 0 _ _ _ hI.heap).trans rfl
  have hlt := hI.lt
  have hge := hI.ge
  have ho := hI.own
  have hne := hI.ne
  have hh := hI.heap
  clear hI
  go_enter Try.func41, Try.ntmps41
  go_wp2_with (at_builtin; refine print_append_row (w0 := w) base rfl (.tmp 10) (.tmp 11) 22 5 .u8 1 rfl Try.underlying22 Try.infoU8 (by decide) _ xs ys A n c rfl rfl ho hr (Below.refl _ _) (by omega) (by omega) ?_; intro v1 w1 ho1 hb1 hg1 hat1; obtain ⟨A1, c1, rfl⟩ := own_slice ho1; have hh1 := (hg1.block g hlt (fun he => hne he.symm)).trans hh; have hcell1 : w1.cell? ⟨g, 0, none⟩ = some (.slice Av xs.length cv) := (cell_of_row w1 g 0 _ _ _ hh1).trans rfl; have hfz1 := frozen_of_row w1 g 0 _ _ hh1)
  go_end0
  have hlt1 : g < w1.heap.size := Nat.lt_of_lt_of_le hlt hg1.size
  have hne1 : (Value.slice A1 (xs ++ ys).length c1).ownBlock ≠ some g := by
    rcases hat1 with he | ⟨b, hb, hb2⟩
    · rw [he]; exact hne
    · rw [hb]; intro he; injection he with he; omega
  refine ⟨rfl, _, ⟨by simpa using heap_setCell_same w1 g 0 _ _ _ hh1, hge, ?_, hne1⟩, ⟨?_, hat1⟩⟩
  · exact own_other ho1 (row := some g) ((Kp.setCell w1 g 0 _).grown) (.inr hne1)
  · exact ((Kp.ofGrown hg1).mono (fun i _ hi => .inr hi)).trans (Kp.setCell w1 g 0 _) (fun i hi _ => .inl hi)
end Go.Proofs.Ytaiainlkgfpcmaa.H
