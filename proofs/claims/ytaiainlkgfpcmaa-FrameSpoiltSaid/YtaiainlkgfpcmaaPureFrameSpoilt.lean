/- The plain law of FrameSpoilt: what a frame is in which some bytes are replaced by others, and which has others before it and behind it, is what the reference says. -/
import Derived.Test.YtaiainlkgfpcmaaPFbx3
import Derived.Test.YtaiainlkgfpcmaaFq1
import Derived.OpenShut
namespace Go.Proofs.Ytaiainlkgfpcmaa.Pure
open Go.RowKit Go.Proofs.Ytaiainlkgfpcmaa.PFa Go.Proofs.Ytaiainlkgfpcmaa.PFb Go.Proofs.YtaiainlkgfpcmaaW.PrintWords Go.Proofs.YtaiainlkgfpcmaaW.PrintMore Go.Proofs.YtaiainlkgfpcmaaW.PrintLast Go.Proofs.Ytaiainlkgfpcmaa.H

theorem spoilt_j (k : Nat) (hk : 1000 ≤ k) (a : Int) (l m : List Int) (x y : Int) (a0 : 1 ≤ a) (a1 : a ≤ 255) (hb : ∀ z ∈ l, 0 ≤ z ∧ z ≤ 255) (hm : ∀ z ∈ m, 0 ≤ z ∧ z ≤ 255) (hl : l.length ≤ 60) (hml : m.length ≤ 10) (x0 : 0 ≤ x) (x1 : x ≤ 255) (y0 : 0 ≤ y) (y1 : y ≤ 255) :
    redpencillaw19_FrameSpoilt.j0 (k + 1) a l x y m false = some true := by
  have hsl := sealS_len a l
  have hv := varB_le3 l.length (by omega)
  have hsb := sealS_bytes a l a0 a1 hb
  have R : ∀ z : List Int, (∀ u ∈ z, 0 ≤ u ∧ u ≤ 255) → z.length ≤ 300 → redpencillaw19_right.f k z = some true := fun z hz hl => right_true z hz (by omega) k (by omega)
  rw [redpencillaw19_FrameSpoilt.j0, if_neg (by simp), redpencilref19_Seal.f, if_pos ⟨by omega, by omega, isBytes_iff.2 hb, by omega⟩]
  rw [Option.bind_some]
  generalize sealS a l = p at *
  have hpl : p.length ≤ 70 := by omega
  clear hsl hv
  have w1 : wrap64 ((p.length : Int) + 1) = (p.length : Int) + 1 := wrap64_small (by omega) (by omega)
  have w2 : wrap64 x = x := wrap64_small (by omega) (by omega)
  have w3 : wrap64 y = y := wrap64_small (by omega) (by omega)
  have ht : Int.tmod x ((p.length : Int) + 1) = x % ((p.length : Int) + 1) := Int.tmod_eq_emod_of_nonneg x0
  have h0 := Int.emod_nonneg x (show ((p.length : Int) + 1) ≠ 0 by omega)
  have h1 := Int.emod_lt_of_pos x (show 0 < ((p.length : Int) + 1) by omega)
  rw [w1, w2, w3, ht]
  generalize x % ((p.length : Int) + 1) = q at *
  have w4 : wrap64 (q + y) = q + y := wrap64_small (by omega) (by omega)
  rw [w4]
  have hmn : 0 ≤ mn (p.length : Int) (q + y) ∧ mn (p.length : Int) (q + y) ≤ (p.length : Int) := by unfold mn; split <;> omega
  generalize mn (p.length : Int) (q + y) = t at *
  have hlt : (p.take q.toNat).length ≤ 70 := by rw [List.length_take]; omega
  have hld : (p.drop t.toNat).length ≤ 70 := by rw [List.length_drop]; omega
  have e1 : redpencillaw19_right.f k ([] ++ p.take q.toNat ++ m ++ p.drop t.toNat) = some true := R _ (fun u hu => by
    simp only [List.nil_append, List.mem_append] at hu
    rcases hu with (hu | hu) | hu
    · exact hsb u (List.mem_of_mem_take hu)
    · exact hm u hu
    · exact hsb u (List.mem_of_mem_drop hu)) (by simp only [List.nil_append, List.length_append]; omega)
  have e2 : redpencillaw19_right.f k ([] ++ m ++ p) = some true := R _ (fun u hu => by
    simp only [List.nil_append, List.mem_append] at hu
    rcases hu with hu | hu
    · exact hm u hu
    · exact hsb u hu) (by simp only [List.nil_append, List.length_append]; omega)
  have e3 : redpencillaw19_right.f k ([] ++ p ++ m) = some true := R _ (fun u hu => by
    simp only [List.nil_append, List.mem_append] at hu
    rcases hu with hu | hu
    · exact hsb u hu
    · exact hm u hu) (by simp only [List.nil_append, List.length_append]; omega)
  have l0 : ([] : List Int).length = 0 := rfl
  have n1 : ([] ++ p.take q.toNat).length + m.length < 140737488355328 := by rw [List.nil_append]; omega
  have n2 : ([] ++ p.take q.toNat ++ m).length + (p.drop t.toNat).length < 140737488355328 := by rw [List.nil_append, List.length_append]; omega
  have n3 : ([] ++ m).length + p.length < 140737488355328 := by rw [List.nil_append]; omega
  have n4 : ([] ++ p).length + m.length < 140737488355328 := by rw [List.nil_append]; omega
  rw [if_neg (by omega), if_pos h0, if_pos (by omega), Option.bind_some, if_pos (by omega), Option.bind_some, if_pos n1, Option.bind_some, if_pos hmn.1, if_pos hmn.2, Option.bind_some, if_pos n2, e1, Option.bind_some, if_pos rfl,
    if_pos (by omega), Option.bind_some, if_pos n3, e2, Option.bind_some, if_pos rfl, if_pos (by omega), Option.bind_some, if_pos n4, e3, Option.bind_some, if_pos rfl]
  rfl
theorem spoilt_out (k : Nat) (a : Int) (l m : List Int) (x y : Int) : redpencillaw19_FrameSpoilt.j0 (k + 1) a l x y m true = some true := by
  rw [redpencillaw19_FrameSpoilt.j0, if_pos rfl]; rfl
theorem FrameSpoilt : redpencillaw19_FrameSpoilt.Pure := by
  intro a l x y m _ _ _ hb hx hy _ _ hm
  have hx := bounds_u8 hx
  have hy := bounds_u8 hy
  refine ⟨2000, ?_⟩
  rw [redpencillaw19_FrameSpoilt.f]
  by_cases h0 : a < 1
  · rw [if_pos h0]; exact spoilt_out 1999 ..
  rw [if_neg h0]
  by_cases h1 : a > 255
  · rw [if_pos h1]; exact spoilt_out 1999 ..
  rw [if_neg h1]
  by_cases h2 : (l.length : Int) > 60
  · rw [if_pos h2]; exact spoilt_out 1999 ..
  rw [if_neg h2]
  by_cases h3 : (m.length : Int) > 10
  · rw [decide_eq_true h3]; exact spoilt_out 1999 ..
  rw [decide_eq_false h3]
  exact spoilt_j 1999 (by omega) a l m x y (by omega) (by omega) (fun z hz => bounds_u8 (hb z hz)) (fun z hz => bounds_u8 (hm z hz)) (by omega) (by omega) hx.1 hx.2 hy.1 hy.2
end Go.Proofs.Ytaiainlkgfpcmaa.Pure
