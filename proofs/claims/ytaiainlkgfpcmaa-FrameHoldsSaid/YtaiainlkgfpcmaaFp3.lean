/- frame.First returns for any bytes what the reference returns. -/
import Derived.Test.YtaiainlkgfpcmaaPFax2
import Derived.Test.YtaiainlkgfpcmaaFp2
import Derived.Test.YtaiainlkgfpcmaaHref4
namespace Go.Proofs.Ytaiainlkgfpcmaa.H
open Go.RowKit Go.Proofs.YtaiainlkgfpcmaaW.PrintWords Go.Proofs.YtaiainlkgfpcmaaW.PrintMore Go.Proofs.Ytaiainlkgfpcmaa.PFa
set_option maxRecDepth 100000

theorem size_eq (n : Nat) (hn : n ≤ 1048576) : frame_Size.f n = some (((2 + (varB n).length + n + 4 : Nat) : Int), 0) := by
  have hv := varB_len n hn
  have hv3 : (varB n).length ≤ 3 := by rw [hv]; split; · omega
                                       split <;> omega
  rw [frame_Size.f, if_neg (by omega), if_neg (by omega), wraps_u64 _ (by omega) (by omega), varint_Size.f, varint_number.f, if_pos (by omega)]
  simp only [Option.bind_some, Int.toNat_natCast]
  rw [wrap64_small (a := 2 + ((varB n).length : Int)) (by omega) (by omega), wrap64_small (a := 2 + ((varB n).length : Int) + n) (by omega) (by omega), wrap64_small (by omega) (by omega)]
  congr 2
theorem take_two {l : List Int} (h : 2 ≤ l.length) : l.take 2 = [rd l 0, rd l 1] := by
  match l, h with
  | a :: b :: t, _ => rfl
theorem sealB_take {l : List Int} {n : Nat} (hl : 2 + (varB n).length + n ≤ l.length) (h0 : rd l 0 = 82) (hm : (l.drop 2).take (varB n).length = varB n) :
    sealB (rd l 1) ((l.take (2 + (varB n).length + n)).drop (2 + (varB n).length)) = l.take (2 + (varB n).length + n) := by
  have hbl : ((l.take (2 + (varB n).length + n)).drop (2 + (varB n).length)).length = n := by
    rw [List.length_drop, List.length_take]; omega
  have h1 : (l.take (2 + (varB n).length + n)).take (2 + (varB n).length) = [82, rd l 1] ++ varB n := by
    rw [List.take_take, Nat.min_eq_left (by omega), List.take_add, take_two (by omega), hm, h0]
  rw [sealB, hbl, ← h1, List.take_append_drop]
theorem headF_of (l : List Int) (hb : ∀ x ∈ l, 0 ≤ x ∧ x ≤ 255) : headF l = if (0 < l.length ∧ rd l 0 ≠ 82) ∨ (1 < l.length ∧ rd l 1 = 0) then (0, 0, 12) else if l.length < 2 then (0, 0, 4) else headOf (refLen (l.drop 2)) := by
  rw [headF, head_ref _ (fun x hx => hb x (List.mem_of_mem_drop hx))]
theorem first_bad {l : List Int} {e : Int} (hl : l.length ≤ 140737488355328) (h : headF l = (0, 0, e)) (he : e ≠ 0) : frame_First.f l = some (0, [], 0, e) := by
  rw [frame_First.f, frame_head.f, if_pos hl, h]
  simp only [Option.bind_some]
  rw [if_neg he]
theorem first_eq (l : List Int) (hb : ∀ x ∈ l, 0 ≤ x ∧ x ≤ 255) (hl : l.length ≤ 140737488355300) : frame_First.f l = some (refFirst l) := by
  have hh := headF_of l hb
  by_cases h0 : l.length = 0
  · rw [if_neg (by omega), if_pos (by omega)] at hh
    rw [first_bad (by omega) hh (by omega), refFirst, if_pos h0]
  by_cases h1 : rd l 0 ≠ 82 ∨ (1 < l.length ∧ rd l 1 = 0)
  · rw [if_pos (by rcases h1 with h | h; exact .inl ⟨by omega, h⟩; exact .inr h)] at hh
    rw [first_bad (by omega) hh (by omega), refFirst, if_neg h0, if_pos h1]
  have h82 : rd l 0 = 82 := by rcases Classical.em (rd l 0 = 82) with h | h; exact h; exact absurd (.inl h) h1
  rw [if_neg (by rintro (h | h); exact h1 (.inl h.2); exact h1 (.inr h))] at hh
  by_cases h2 : l.length = 1
  · rw [if_pos (by omega)] at hh
    rw [first_bad (by omega) hh (by omega), refFirst, if_neg h0, if_neg h1, if_pos h2]
  rw [if_neg (by omega)] at hh
  rw [refFirst, if_neg h0, if_neg h1, if_neg h2]
  rcases refLen_cases (l.drop 2) (fun x hx => hb x (List.mem_of_mem_drop hx)) with (hr | hr) | ⟨n, hn, hr, hm⟩
  · rw [hr] at hh ⊢
    rw [first_bad (by omega) (e := 4) hh (by omega), if_pos (by simp)]
  · rw [hr] at hh ⊢
    rw [first_bad (by omega) (e := 12) hh (by omega), if_pos (by simp)]
  · rw [hr] at hh ⊢
    simp only [Int.toNat_natCast]
    have hv := varB_len n hn
    have hv3 : (varB n).length ≤ 3 := by rw [hv]; split; · omega
                                         split <;> omega
    have hv1 : 1 ≤ (varB n).length := by rw [hv]; split; · omega
                                         split <;> omega
    rw [if_neg (by simp), frame_First.f, frame_head.f, if_pos (by omega), hh]
    simp only [Option.bind_some, headOf, if_true]
    rw [size_eq n hn]
    simp only [Option.bind_some, if_true]
    by_cases hs : l.length < 2 + (varB n).length + n + 4
    · rw [if_pos hs, if_pos (by omega)]
    · rw [if_neg hs, if_neg (by omega), if_pos (by omega), if_pos (by omega), Int.toNat_natCast]
      have hlt : (l.take (2 + (varB n).length + n + 4)).length = 2 + (varB n).length + n + 4 := by rw [List.length_take]; omega
      have hby : isBytes (l.take (2 + (varB n).length + n + 4)) = true := isBytes_iff.2 fun x hx => hb x (List.mem_of_mem_take hx)
      have htt : (l.take (2 + (varB n).length + n + 4)).take (2 + (varB n).length + n) = l.take (2 + (varB n).length + n) := by rw [List.take_take, Nat.min_eq_left (by omega)]
      rw [crc_Open.f, if_pos ⟨hby, by omega⟩, openF, if_neg (by omega), hlt]
      simp only [Nat.add_sub_cancel]
      rw [htt]
      simp only [Option.bind_some]
      have hS : sealS (rd l 1) ((l.take (2 + (varB n).length + n)).drop (2 + (varB n).length)) = l.take (2 + (varB n).length + n) ++ crcB (sumI (l.take (2 + (varB n).length + n))) := by
        rw [sealS, sealB_take (by omega) h82 hm]
      have hsp : l.take (2 + (varB n).length + n + 4) = l.take (2 + (varB n).length + n) ++ (l.take (2 + (varB n).length + n + 4)).drop (2 + (varB n).length + n) := by
        conv => lhs; rw [← List.take_append_drop (2 + (varB n).length + n) (l.take (2 + (varB n).length + n + 4)), htt]
      by_cases hc : crcB (sumI (l.take (2 + (varB n).length + n))) = (l.take (2 + (varB n).length + n + 4)).drop (2 + (varB n).length + n)
      · have hcond : sealS (rd l 1) ((l.take (2 + (varB n).length + n)).drop (2 + (varB n).length)) = l.take (2 + (varB n).length + n + 4) := by rw [hS, hc, ← hsp]
        rw [if_pos hc, if_pos hcond]
        simp only [if_true]
        have hl2 : (l.take (2 + (varB n).length + n)).length = 2 + (varB n).length + n := by rw [List.length_take]; omega
        rw [if_pos (by omega), if_pos (by omega), if_pos (by omega), show (2 + ((varB n).length : Int)).toNat = 2 + (varB n).length by omega, slices_Clone_byte_byte.f, if_pos (by rw [List.length_drop]; omega)]
        simp only [Option.bind_some]
        have hr1 : rd (l.take (2 + (varB n).length + n)) 1 = rd l 1 := by
          have e1 := rd_eq_getElem (l := l.take (2 + (varB n).length + n)) (k := 1) (by omega)
          have e2 := rd_eq_getElem (l := l) (k := 1) (by omega)
          have e3 : (l.take (2 + (varB n).length + n))[1]'(by omega) = l[1]'(by omega) := List.getElem_take ..
          exact e1.trans (e3.trans e2.symm)
        have hr1b : 0 ≤ rd l 1 ∧ rd l 1 ≤ 255 := bytes_rd hb 1
        rw [hr1, wrap64_small hr1b.1 (by omega)]
      · have hcond : ¬ sealS (rd l 1) ((l.take (2 + (varB n).length + n)).drop (2 + (varB n).length)) = l.take (2 + (varB n).length + n + 4) := fun h => hc (by rw [hS] at h; exact List.append_cancel_left (h.trans hsp))
        rw [if_neg hc, if_neg hcond]
        simp
end Go.Proofs.Ytaiainlkgfpcmaa.H
