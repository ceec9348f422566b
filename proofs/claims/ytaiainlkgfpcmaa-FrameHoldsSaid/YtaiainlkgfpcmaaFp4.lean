/- What the reference's First tells of a sealed frame, of its beginnings, and of bytes that it takes. -/
import Derived.Test.YtaiainlkgfpcmaaFp3
namespace Go.Proofs.Ytaiainlkgfpcmaa.H
open Go.RowKit Go.Proofs.YtaiainlkgfpcmaaW.PrintWords Go.Proofs.YtaiainlkgfpcmaaW.PrintMore Go.Proofs.Ytaiainlkgfpcmaa.PFa
set_option maxRecDepth 100000

theorem varB_le3 (n : Nat) (hn : n ≤ 1048576) : 1 ≤ (varB n).length ∧ (varB n).length ≤ 3 := by
  rw [varB_len n hn]
  split
  · omega
  · split <;> omega
theorem sealB_len (k : Int) (a : List Int) : (sealB k a).length = 2 + (varB a.length).length + a.length := by simp [sealB]; omega
theorem sealS_len (k : Int) (a : List Int) : (sealS k a).length = 2 + (varB a.length).length + a.length + 4 := by rw [sealS, List.length_append, sealB_len]; rfl
theorem sealS_eq (k : Int) (a y : List Int) : sealS k a ++ y = 82 :: k :: (varB a.length ++ (a ++ (crcB (sumI (sealB k a)) ++ y))) := by simp [sealS, sealB]
theorem refFirst_of {l : List Int} {n : Nat} (h2 : 2 ≤ l.length) (h0 : rd l 0 = 82) (h1 : rd l 1 ≠ 0) (hr : refLen (l.drop 2) = ((n : Int), ((varB n).length : Int), 0)) :
    refFirst l = if l.length < 2 + (varB n).length + n + 4 then (0, [], 0, 4)
      else if sealS (rd l 1) ((l.take (2 + (varB n).length + n)).drop (2 + (varB n).length)) = l.take (2 + (varB n).length + n + 4) then (rd l 1, (l.take (2 + (varB n).length + n)).drop (2 + (varB n).length), ((2 + (varB n).length + n + 4 : Nat) : Int), 0)
      else (0, [], 0, 10) := by
  rw [refFirst, if_neg (by omega), if_neg (by rintro (h | h); exact h h0; exact h1 h.2), if_neg (by omega), hr, if_neg (by simp)]
  simp only [Int.toNat_natCast]
theorem refFirst_seal (k : Int) (a y : List Int) (h0 : 1 ≤ k) (ha : a.length ≤ 1048576) : refFirst (sealS k a ++ y) = (k, a, ((sealS k a).length : Int), 0) := by
  have hl := sealS_len k a
  have hr : refLen ((sealS k a ++ y).drop 2) = ((a.length : Int), ((varB a.length).length : Int), 0) := by
    rw [sealS_eq]
    exact refLen_varB _ ha _
  have h1 : rd (sealS k a ++ y) 1 = k := by rw [sealS_eq]; rfl
  have hB : (sealS k a ++ y).take (2 + (varB a.length).length + a.length) = sealB k a := by
    rw [sealS, List.append_assoc, ← sealB_len k a, List.take_left']
    rfl
  have hD : (sealB k a).drop (2 + (varB a.length).length) = a := by
    have : sealB k a = ([82, k] ++ varB a.length) ++ a := rfl
    rw [this, show 2 + (varB a.length).length = ([82, k] ++ varB a.length).length by simp; omega, List.drop_left']
    rfl
  have hT : (sealS k a ++ y).take (2 + (varB a.length).length + a.length + 4) = sealS k a := by
    rw [← hl, List.take_left']
    rfl
  rw [refFirst_of (by rw [List.length_append]; omega) (by rw [sealS_eq]; rfl) (by rw [h1]; omega) hr, if_neg (by rw [List.length_append]; omega), h1, hB, hD, hT, if_pos rfl, hl]
theorem refFirst_short (k : Int) (a : List Int) (i : Nat) (h0 : 1 ≤ k) (ha : a.length ≤ 1048576) (hi : i < (sealS k a).length) : refFirst ((sealS k a).take i) = (0, [], 0, 4) := by
  have hl := sealS_len k a
  have hS := sealS_eq k a []
  rw [List.append_nil] at hS
  match i, hi with
  | 0, _ => rw [List.take_zero]; rfl
  | 1, _ =>
    rw [hS, List.take_succ_cons, List.take_zero, refFirst, if_neg (by simp), if_neg (by rintro (h | h); exact h rfl; exact absurd h.1 (by simp)), if_pos (by simp)]
  | i + 2, hi =>
    have hd : ((sealS k a).take (i + 2)).drop 2 = (varB a.length ++ (a ++ (crcB (sumI (sealB k a)) ++ []))).take i := by rw [hS]; rfl
    have hln : ((sealS k a).take (i + 2)).length = i + 2 := by rw [List.length_take]; omega
    have h82 : rd ((sealS k a).take (i + 2)) 0 = 82 := by rw [hS]; rfl
    have hk : rd ((sealS k a).take (i + 2)) 1 = k := by rw [hS]; rfl
    by_cases hv : i < (varB a.length).length
    · have hr : refLen (((sealS k a).take (i + 2)).drop 2) = (0, 0, 4) := by
        rw [hd, List.take_append_of_le_length (by omega)]
        exact refLen_short _ ha i hv
      rw [refFirst, if_neg (by omega), if_neg (by rintro (h | h); exact h h82; exact absurd h.2 (by omega)), if_neg (by omega), hr, if_pos (by simp)]
    · have hr : refLen (((sealS k a).take (i + 2)).drop 2) = ((a.length : Int), ((varB a.length).length : Int), 0) := by
        rw [hd, List.take_append, List.take_of_length_le (by omega)]
        exact refLen_varB _ ha _
      rw [refFirst_of (by omega) h82 (by omega) hr, if_pos (by omega)]

/-- What First takes is a sealed frame. -/
theorem refFirst_inv (p : List Int) (hp : ∀ x ∈ p, 0 ≤ x ∧ x ≤ 255) (h : (refFirst p).2.2.2 = 0) :
    ∃ k c, 1 ≤ k ∧ k ≤ 255 ∧ c.length ≤ 1048576 ∧ (∀ x ∈ c, 0 ≤ x ∧ x ≤ 255) ∧ (sealS k c).length ≤ p.length ∧ p.take (sealS k c).length = sealS k c ∧ refFirst p = (k, c, ((sealS k c).length : Int), 0) := by
  by_cases h0 : p.length = 0
  · rw [refFirst, if_pos h0] at h; simp at h
  by_cases h1 : rd p 0 ≠ 82 ∨ (1 < p.length ∧ rd p 1 = 0)
  · rw [refFirst, if_neg h0, if_pos h1] at h; simp at h
  by_cases h2 : p.length = 1
  · rw [refFirst, if_neg h0, if_neg h1, if_pos h2] at h; simp at h
  have h82 : rd p 0 = 82 := by rcases Classical.em (rd p 0 = 82) with h | h; exact h; exact absurd (.inl h) h1
  have hk : rd p 1 ≠ 0 := fun h => h1 (.inr ⟨by omega, h⟩)
  have hk2 : 0 ≤ rd p 1 ∧ rd p 1 ≤ 255 := bytes_rd hp 1
  rcases refLen_cases (p.drop 2) (fun x hx => hp x (List.mem_of_mem_drop hx)) with (hr | hr) | ⟨n, hn, hr, hm⟩
  · rw [refFirst, if_neg h0, if_neg h1, if_neg h2, hr, if_pos (by simp)] at h; simp at h
  · rw [refFirst, if_neg h0, if_neg h1, if_neg h2, hr, if_pos (by simp)] at h; simp at h
  have hF := refFirst_of (by omega) h82 hk hr
  rw [hF] at h ⊢
  by_cases hs : p.length < 2 + (varB n).length + n + 4
  · rw [if_pos hs] at h; simp at h
  rw [if_neg hs] at h ⊢
  by_cases hc : sealS (rd p 1) ((p.take (2 + (varB n).length + n)).drop (2 + (varB n).length)) = p.take (2 + (varB n).length + n + 4)
  · rw [if_pos hc]
    have hbl : ((p.take (2 + (varB n).length + n)).drop (2 + (varB n).length)).length = n := by
      rw [List.length_drop, List.length_take]; omega
    have hsl : (sealS (rd p 1) ((p.take (2 + (varB n).length + n)).drop (2 + (varB n).length))).length = 2 + (varB n).length + n + 4 := by rw [sealS_len, hbl]
    refine ⟨rd p 1, (p.take (2 + (varB n).length + n)).drop (2 + (varB n).length), by omega, hk2.2, by omega, fun x hx => hp x (List.mem_of_mem_take (List.mem_of_mem_drop hx)), by omega, by rw [hsl, hc], by rw [hsl]⟩
  · rw [if_neg hc] at h; simp at h

/-- What Open returns. -/
def openR (l : List Int) : Int × List Int × Int := if (refFirst l).2.2.2 = 0 ∧ (refFirst l).2.2.1 < l.length then (0, [], 12) else ((refFirst l).1, (refFirst l).2.1, (refFirst l).2.2.2)
theorem open_eq (l : List Int) (hb : ∀ x ∈ l, 0 ≤ x ∧ x ≤ 255) (hl : l.length ≤ 140737488355300) : frame_Open.f l = some (openR l) := by
  rw [frame_Open.f, first_eq l hb hl, openR]
  simp only [Option.bind_some]
  by_cases h : (refFirst l).2.2.2 = 0
  · rw [if_pos h]
    by_cases h2 : (refFirst l).2.2.1 < (l.length : Int)
    · rw [if_pos h2, if_pos ⟨h, h2⟩]
    · rw [if_neg h2, if_neg (fun h5 => h2 h5.2)]
  · rw [if_neg h, if_neg (fun h5 => h h5.1)]
theorem opens_true {l : List Int} {k e : Int} {c : List Int} (hb : ∀ x ∈ l, 0 ≤ x ∧ x ≤ 255) (hl : l.length ≤ 140737488355300) (h : openR l = (k, c, e)) : redpencillaw19_opens.f l k c e = some true := by
  rw [redpencillaw19_opens.f, open_eq l hb hl, h]
  simp
theorem firsts_true {l : List Int} {k n e : Int} {c : List Int} (hb : ∀ x ∈ l, 0 ≤ x ∧ x ≤ 255) (hl : l.length ≤ 140737488355300) (h : refFirst l = (k, c, n, e)) : redpencillaw19_firsts.f l k c n e = some true := by
  rw [redpencillaw19_firsts.f, first_eq l hb hl, h]
  simp
theorem seals_true {k e : Int} {a p : List Int} (hb : ∀ x ∈ a, 0 ≤ x ∧ x ≤ 255) (h : sealF k a = (p, e)) : redpencillaw19_seals.f k a p e = some true := by
  rw [redpencillaw19_seals.f, frame_Seal.f, if_pos (isBytes_iff.2 hb), h]
  simp
theorem sealF_ok {k : Int} {a : List Int} (h0 : 1 ≤ k) (h1 : k ≤ 255) (ha : a.length ≤ 1048576) : sealF k a = (sealS k a, 0) := by
  rw [sealF, if_neg (by omega), if_neg (by omega)]; rfl
theorem sizes_true {n : Nat} {m : Int} (hn : n ≤ 1048576) (h : m = ((2 + (varB n).length + n + 4 : Nat) : Int)) : redpencillaw19_sizes.f n m 0 = some true := by
  rw [redpencillaw19_sizes.f, size_eq n hn, h]
  simp
theorem openR_err {l : List Int} {e : Int} (h : refFirst l = (0, [], 0, e)) (he : e ≠ 0) : openR l = (0, [], e) := by
  rw [openR, h, if_neg (fun h5 => he h5.1)]
theorem openR_seal (k : Int) (a : List Int) (h0 : 1 ≤ k) (ha : a.length ≤ 1048576) : openR (sealS k a) = (k, a, 0) := by
  have h := refFirst_seal k a [] h0 ha
  rw [List.append_nil] at h
  rw [openR, h, if_neg (by simp)]
theorem openR_more (k : Int) (a y : List Int) (h0 : 1 ≤ k) (ha : a.length ≤ 1048576) (hy : y ≠ []) : openR (sealS k a ++ y) = (0, [], 12) := by
  rw [openR, refFirst_seal k a y h0 ha, if_pos]
  have := List.length_pos_iff.2 hy
  exact ⟨rfl, by simp only [List.length_append]; omega⟩

/-- Where the first frame is: the loop over what is left. -/
def seekG (l : List Int) : Nat → Nat → Int × Int
  | 0, _ => (0, 9)
  | r + 1, i => if (refFirst (l.drop i)).2.2.2 = 0 then ((i : Int), 0) else seekG l r (i + 1)
def seekR (l : List Int) : Int × Int := seekG l l.length 0
theorem seek_loop (l : List Int) (hb : ∀ x ∈ l, 0 ≤ x ∧ x ≤ 255) (hl : l.length ≤ 140737488355300) : ∀ (r i k : Nat), i + r = l.length → r < k → frame_Seek.l0 k l (l.length : Int) (i : Int) = some (seekG l r i) := by
  intro r
  induction r with
  | zero =>
    intro i k hi hk
    obtain ⟨k, rfl⟩ : ∃ k', k = k' + 1 := ⟨k - 1, by omega⟩
    rw [frame_Seek.l0, if_neg (by omega)]
    rfl
  | succ r ih =>
    intro i k hi hk
    obtain ⟨k, rfl⟩ : ∃ k', k = k' + 1 := ⟨k - 1, by omega⟩
    rw [frame_Seek.l0, if_pos (by omega)]
    (repeat rw [if_pos (by omega)])
    rw [Int.toNat_natCast, first_eq _ (fun x hx => hb x (List.mem_of_mem_drop hx)) (by rw [List.length_drop]; omega)]
    simp only [Option.bind_some, seekG]
    by_cases h : (refFirst (l.drop i)).2.2.2 = 0
    · rw [if_pos h, if_pos h]
    · rw [if_neg h, if_neg h, wrap64_small (by omega) (by omega)]
      exact ih (i + 1) k (by omega) (by omega)
theorem seek_eq (l : List Int) (hb : ∀ x ∈ l, 0 ≤ x ∧ x ≤ 255) (hl : l.length ≤ 140737488355300) (k : Nat) (hk : l.length < k) : frame_Seek.f k l = some (seekR l) := by
  rw [frame_Seek.f]
  exact seek_loop l hb hl l.length 0 k (by omega) hk
theorem seeks_true {l : List Int} {n e : Int} (hb : ∀ x ∈ l, 0 ≤ x ∧ x ≤ 255) (hl : l.length ≤ 140737488355300) (h : seekR l = (n, e)) (k : Nat) (hk : l.length < k) : redpencillaw19_seeks.f k l n e = some true := by
  rw [redpencillaw19_seeks.f, seek_eq l hb hl k hk, h]
  simp
theorem seekR_seal (k : Int) (a y : List Int) (h0 : 1 ≤ k) (ha : a.length ≤ 1048576) : seekR (sealS k a ++ y) = (0, 0) := by
  have hl := sealS_len k a
  rw [seekR]
  obtain ⟨m, hm⟩ : ∃ m, (sealS k a ++ y).length = m + 1 := ⟨(sealS k a ++ y).length - 1, by rw [List.length_append]; omega⟩
  rw [hm, seekG, List.drop_zero, refFirst_seal k a y h0 ha]
  rfl
end Go.Proofs.Ytaiainlkgfpcmaa.H
