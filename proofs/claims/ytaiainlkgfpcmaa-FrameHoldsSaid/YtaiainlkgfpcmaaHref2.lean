import Derived.Test.YtaiainlkgfpcmaaHref
namespace Go.Proofs.Ytaiainlkgfpcmaa.H
open Go.RowKit Go.Proofs.YtaiainlkgfpcmaaW.PrintWords Go.Proofs.YtaiainlkgfpcmaaW.PrintMore
set_option maxRecDepth 100000

theorem le_alloc {B : Nat} {w : World} (h : B ≤ w.heap.size) (o : Obj) : B ≤ (w.alloc o).heap.size := by simp; omega
theorem ownB_eq {w : World} {base : Nat} {v : Value} {xs ys : List Int} (h : OwnB w base v xs) (e : xs = ys) : OwnB w base v ys := e ▸ h
def sealS (kind : Int) (body : List Int) : List Int := sealB kind body ++ crcB (sumI (sealB kind body))

set_option maxHeartbeats 1600000 in
theorem refSeal_any (kind : Int) (A : Option Addr) (n c : Nat) (body : List Int) (w : World) (hr : ReadsInt w .u8 A n body) (hb : ∀ x ∈ body, 0 ≤ x ∧ x ≤ 255) (h0 : 1 ≤ kind) (h1 : kind ≤ 255) (hn : n ≤ 140737488355300) :
    Calls Try.prog 15 #[.int .i64 kind, .slice A n c] w fun e w' => ∃ v, e = .returned v ∧ OwnB w' w.heap.size v (sealS kind body) ∧ Below w.heap.size w w' := by
  have hnl := hr.1
  have hn9 := hr.2.1
  have hsb := sealB_bytes kind body h0 h1 hb
  have hvl := varB_length10 (n := n) (by omega)
  have hsl : (sealB kind body).length ≤ n + 12 := by
    simp only [sealB, List.length_append, List.length_cons, List.length_nil, hnl]
    omega
  have hkm : kind % 256 = kind := by omega
  have hsr := sumI_range (sealB kind body)
  have HN := Lib.hid hnl; clear hnl
  have HE := Lib.hid (sealB_eq (kind := kind) HN.out)
  have HO := (own_lit w w.heap.size 5 .u8 [82, kind] (Nat.le_refl _) (by simp))
  have hb0 := below_alloc (Below.refl w.heap.size w) (.cells (nums .u8 [82, kind]).toArray 5)
  go_enter Try.func15, Try.ntmps15
  go_wp2_with (first
    | (go_at_call 36; refine (refNumber_any n _ (by omega) (by omega)).mono ?_; rintro e w1 ⟨v1, rfl, ho1, hb1⟩; rw [Int.toNat_natCast] at ho1; obtain ⟨A1, c1, rfl, hr1⟩ := own_reads ho1)
    | (at_builtin; refine print_append_row (w0 := w) w.heap.size rfl (.tmp 9) (.tmp 13) 22 5 .u8 1 rfl Try.underlying22 Try.infoU8 (by decide) _ [82, kind] (varB n) A1 _ c1 rfl rfl (pw_own_below HO hb1) hr1 (Below.trans (b := w.alloc (.cells (nums .u8 [82, kind]).toArray 5)) hb0 (hb1.mono (by simp))) (by have := hb1.size; simp at this; omega) (by simp; omega) ?_; intro v2 w2 ho2 hb2 hg2 hat2)
    | (at_builtin; refine print_append_row (w0 := w) w.heap.size rfl (.tmp 14) (.tmp 15) 22 5 .u8 1 rfl Try.underlying22 Try.infoU8 (by decide) _ ([82, kind] ++ varB n) body A n c rfl rfl ho2 (hr.below hb2) hb2 hb2.size (by simp; omega) ?_; intro v3 w3 ho30 hb3 hg3 hat3; have ho3 := ownB_eq ho30 HE.out.symm; clear ho30; obtain ⟨A3, c3, rfl, hr3⟩ := own_reads ho3)
    | (go_at_call 37; refine (refSum_any A3 _ c3 _ _ hr3 hsb).mono ?_; rintro e w4 ⟨rfl, rfl⟩)
    | (at_builtin; refine print_append_row (w0 := w) w.heap.size rfl (.tmp 19) (.tmp 34) 22 5 .u8 1 rfl Try.underlying22 Try.infoU8 (by decide) _ (sealB kind body) (crcB (sumI (sealB kind body))) (some ⟨w3.heap.size, 0, none⟩) 4 4 rfl rfl (pw_own_below ho3 (below_alloc (Below.refl _ _) _)) (lit_reads w3 5 .u8 (crcB (sumI (sealB kind body))) (by show 4 ≤ _; omega)) (hb3.trans ((below_alloc (Below.refl _ _) _).mono hb3.size)) (le_alloc hb3.size _) (by omega) ?_; intro v5 w5 ho5 hb5 hg5 hat5))
  go_ret
  exact ⟨_, rfl, ho5, hb5⟩
end Go.Proofs.Ytaiainlkgfpcmaa.H
