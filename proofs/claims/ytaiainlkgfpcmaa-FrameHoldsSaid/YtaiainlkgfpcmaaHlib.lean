import Derived.Test.YtaiainlkgfpcmaaHcrc
namespace Go.Proofs.Ytaiainlkgfpcmaa.H
open Go.RowKit Go.Proofs.YtaiainlkgfpcmaaW.PrintWords
set_option maxRecDepth 100000

theorem Try.infoU8 : (Try.prog.info? 5).map (fun i => (i.zero, i.size, i.bytes)) = some (some (.int .u8 0), 1, 1) := by kernel_rfl
/-- A row of bytes of the call's own, under one word. -/
abbrev OwnB (w : World) (base : Nat) (v : Value) (xs : List Int) : Prop := w.ownsRow base 5 1 v xs.length (nums .u8 xs)
theorem OwnB.toR {w : World} {base : Nat} {v : Value} {xs : List Int} (h : OwnB w base v xs) : Kd.R (Kd.int .u8) 5 w base (fun _ => True) v xs := Kd.R_of_own h (fun _ _ => trivial)
theorem OwnB.ofR {w : World} {base : Nat} {ok : Nat → Prop} {v : Value} {xs : List Int} (h : Kd.R (Kd.int .u8) 5 w base ok v xs) : OwnB w base v xs := Kd.own_of_R h
theorem OwnB.rebase {w : World} {base base' : Nat} {v : Value} {xs : List Int} (h : OwnB w base v xs) (hb : base' ≤ base) : OwnB w base' v xs := by
  obtain ⟨h1, h2 | ⟨g, cap, cur, h3, h4, h5⟩⟩ := h
  · exact ⟨h1, .inl h2⟩
  · exact ⟨h1, .inr ⟨g, cap, cur, h3, by omega, h5⟩⟩
/-- A slice that has just been built of whole numbers. -/
theorem lit_reads (w : World) (t : TypeId) (k : IntKind) (xs : List Int) (hm : xs.length ≤ 9223372036854775807 := by simp) : ReadsInt (w.alloc (.cells (nums k xs).toArray t)) k (some ⟨w.heap.size, 0, none⟩) xs.length xs := by
  refine ⟨rfl, hm, fun hn => ⟨_, rfl, fun j hj => ?_⟩⟩
  rw [add_plain, cell_of_row _ _ _ _ _ _ (heap_alloc_new w _)]
  simp [nums, List.getD_eq_getElem?_getD, List.getElem?_eq_getElem hj]
theorem reads_ofC {w : World} {A : Option Addr} {n : Nat} {xs : List Int} (h : Kd.C (Kd.int .u8) w A n xs) : ReadsInt w .u8 A n xs := Kd.reads_of_C (enc := Value.int .u8) (d := (0 : Int)) (h1 := fun _ => rfl) h
theorem C_ofReads {w : World} {A : Option Addr} {n : Nat} {xs : List Int} (h : ReadsInt w .u8 A n xs) : Kd.C (Kd.int .u8) w A n xs := Kd.C_of_reads (enc := Value.int .u8) (d := (0 : Int)) (h1 := fun _ => rfl) h

/-- 'x[l:h]' of bytes, nil let in: 'h' up to the capacity. -/
theorem slice_lh (A : Option Addr) (n c l h : Nat) (h1 : l ≤ h) (h2 : h ≤ c) (W : World) :
    (Instr.slice 22 (.slice A n c) (some (.int .i64 (l : Int))) (some (.int .i64 (h : Int))) none).run Try.prog W = .ok (.slice (if c = l then A else A.map (·.add l)) (h - l) (c - l)) W := by
  have hi : ∃ i, Try.prog.info? 5 = some i ∧ i.size = 1 := by
    obtain ⟨i, hi, _, hs, _⟩ := info_parts Try.infoU8
    exact ⟨i, hi, hs⟩
  obtain ⟨i, hi, hs⟩ := hi
  have hel : Try.prog.elem 22 = 5 := by simp [Program.elem, Try.underlying22]
  have hu : Try.prog.underlying 22 = some (.slice (Try.prog.elem 22)) := by rw [hel]; exact Try.underlying22
  rw [run_slice_lh W 22 A n c hu .i64 .i64 (l : Int) (h : Int) (by omega) (by omega) (by omega), hel]
  simp [sizeOf, typeInfo, hi, hs, sliced, Result.andThen]
theorem slice_l (A : Option Addr) (n c l : Nat) (h1 : l ≤ n) (W : World) :
    (Instr.slice 22 (.slice A n c) (some (.int .i64 (l : Int))) none none).run Try.prog W = .ok (.slice (if c = l then A else A.map (·.add l)) (n - l) (c - l)) W := by
  obtain ⟨i, hi, _, hs, _⟩ := info_parts Try.infoU8
  have hel : Try.prog.elem 22 = 5 := by simp [Program.elem, Try.underlying22]
  have hu : Try.prog.underlying 22 = some (.slice (Try.prog.elem 22)) := by rw [hel]; exact Try.underlying22
  rw [run_slice_l W 22 A n c hu .i64 (l : Int) (by omega) (by omega), hel]
  simp [sizeOf, typeInfo, hi, hs, sliced, Result.andThen]
theorem slice_h (A : Option Addr) (n c h : Nat) (h2 : h ≤ c) (W : World) :
    (Instr.slice 22 (.slice A n c) none (some (.int .i64 (h : Int))) none).run Try.prog W = .ok (.slice A h c) W := by
  have hi : ∃ i, Try.prog.info? 5 = some i ∧ i.size = 1 := by
    obtain ⟨i, hi, _, hs, _⟩ := info_parts Try.infoU8
    exact ⟨i, hi, hs⟩
  obtain ⟨i, hi, hs⟩ := hi
  have hel : Try.prog.elem 22 = 5 := by simp [Program.elem, Try.underlying22]
  have hu : Try.prog.underlying 22 = some (.slice (Try.prog.elem 22)) := by rw [hel]; exact Try.underlying22
  rw [run_slice_h W 22 A n c hu .i64 (h : Int) (by omega) (by omega), hel]
  simp [sizeOf, typeInfo, hi, hs, sliced, Result.andThen, Addr.add]

set_option maxHeartbeats 400000 in
theorem clone_any (A0 : Option Addr) (c0 : Nat) (l0 : List Int) (w : World) (hr : ReadsInt w .u8 A0 l0.length l0) (hl : l0.length ≤ 140737488355328) :
    Calls Try.prog 74 #[.slice A0 l0.length c0] w fun e w' => ∃ v, e = .returned v ∧ OwnB w' w.heap.size v l0 ∧ Below w.heap.size w w' := by
  rcases A0 with _ | ad
  · obtain rfl : l0 = [] := by
      rcases l0 with _ | ⟨x, xs⟩
      · rfl
      · obtain ⟨_, h, _⟩ := hr.2.2 (by simp)
        cases h
    have hq := fun W : World => Lib.run_eql_slice_nil (P := Try.prog) W 22 5 none 0 c0 0 0 Try.underlying22
    simp only [Option.isNone_none] at hq
    rw [List.length_nil]
    go_enter Try.func74, Try.ntmps74
    go_wp2
    go_ret
    exact ⟨_, rfl, own_nil _ _ _ _, Below.refl _ _⟩
  · have hq := fun W : World => Lib.run_eql_slice_nil (P := Try.prog) W 22 5 (some ad) l0.length c0 0 0 Try.underlying22
    simp only [Option.isNone_some] at hq
    go_enter Try.func74, Try.ntmps74
    have HO := own_lit w w.heap.size 5 .u8 [] (Nat.le_refl _) (by simp)
    have HB := (Below.refl w.heap.size w).alloc (Nat.le_refl _) (.cells (nums .u8 []).toArray 5)
    have HR := hr.below (w1 := w.alloc (.cells (nums .u8 []).toArray 5)) HB
    go_wp2_with (at_builtin; refine print_append_row (w0 := w) w.heap.size rfl (.tmp 5) (.tmp 6) 22 5 .u8 1 rfl Try.underlying22 Try.infoU8 (by decide) _ [] l0 (some ad) l0.length c0 rfl rfl HO HR HB (by simp) (by simp; omega) ?_; intro v1 w1 ho hb hg hat)
    go_ret
    exact ⟨v1, rfl, by simpa using ho, hb⟩
end Go.Proofs.Ytaiainlkgfpcmaa.H
