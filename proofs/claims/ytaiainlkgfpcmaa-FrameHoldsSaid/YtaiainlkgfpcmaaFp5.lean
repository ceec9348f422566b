/- A frame in which a byte of the kind, the body or the check sum is another one is not opened. -/
import Derived.Test.YtaiainlkgfpcmaaFp4
import Derived.Test.YtaiainlkgfpcmaaCrcOne
namespace Go.Proofs.Ytaiainlkgfpcmaa.H
open Go.RowKit Go.Proofs.YtaiainlkgfpcmaaW.PrintWords Go.Proofs.YtaiainlkgfpcmaaW.PrintMore Go.Proofs.Ytaiainlkgfpcmaa.PFa
set_option maxRecDepth 100000

/-- A frame in which one byte is another one, not that of the length (a body of less than 128 bytes). -/
theorem spoilt_one (k : Int) (a : List Int) (k0 : 1 ≤ k) (k1 : k ≤ 255) (ha : a.length < 128) (hab : ∀ x ∈ a, 0 ≤ x ∧ x ≤ 255) (i : Nat) (hi : i < (sealS k a).length) (hi0 : i ≠ 0) (hi2 : i ≠ 2) (v : Int) (v0 : 0 ≤ v) (v1 : v ≤ 255) (hv : v ≠ (sealS k a)[i]) :
    (refFirst ((sealS k a).set i v)).2.2.2 ≠ 0 := by
  intro h
  have hxb := sealS_bytes k a k0 k1 hab
  have hzb : ∀ x ∈ (sealS k a).set i v, 0 ≤ x ∧ x ≤ 255 := fun x hx => by
    rcases List.mem_or_eq_of_mem_set hx with h | rfl
    · exact hxb x h
    · exact ⟨v0, v1⟩
  obtain ⟨kd, c, kd0, kd1, hc, hcb, hsl, ht, _⟩ := refFirst_inv _ hzb h
  have hlx := sealS_len k a
  have hlz := sealS_len kd c
  have hva : varB a.length = [(a.length : Int)] := varB_small ha
  have hva1 : (varB a.length).length = 1 := by rw [hva]; rfl
  rw [List.length_set] at hsl
  have hX : sealS k a = 82 :: k :: ((a.length : Int) :: (a ++ crcB (sumI (sealB k a)))) := by
    have := sealS_eq k a []
    rw [List.append_nil, List.append_nil, hva] at this
    exact this
  have hZ := sealS_eq kd c []
  rw [List.append_nil, List.append_nil] at hZ
  -- the byte of the length
  have hz2 : ((sealS k a).set i v)[2]? = some (a.length : Int) := by
    rw [List.getElem?_set_ne hi2, hX]; rfl
  have hz2' : ((sealS k a).set i v)[2]? = (sealS kd c)[2]? := by
    rw [← ht, List.getElem?_take_of_lt (by omega)]
  have hcl : c.length = a.length := by
    rw [hz2', hZ] at hz2
    by_cases h1 : c.length < 128
    · rw [varB_small h1] at hz2
      have : (c.length : Int) = (a.length : Int) := Option.some.inj hz2
      omega
    · rw [varB_big h1] at hz2
      have : ((c.length % 128 + 128 : Nat) : Int) = (a.length : Int) := Option.some.inj hz2
      omega
  have hz : (sealS k a).set i v = sealS kd c := by
    rw [← ht, List.take_of_length_le (by rw [List.length_set, hlz, hcl, hlx]; omega)]
  have hm : (sealB kd c).length = (sealB k a).length := by rw [sealB_len, sealB_len, hcl]
  by_cases him : i < (sealB k a).length
  · have h1 := congrArg (List.drop (sealB k a).length) hz
    rw [List.drop_set_of_lt him] at h1
    have e1 : (sealS k a).drop (sealB k a).length = crcB (sumI (sealB k a)) := List.drop_left' rfl
    have e2 : (sealS kd c).drop (sealB k a).length = crcB (sumI (sealB kd c)) := List.drop_left' hm
    rw [e1, e2] at h1
    have h2 := congrArg (List.take (sealB k a).length) hz
    rw [List.take_set] at h2
    have e3 : (sealS k a).take (sealB k a).length = sealB k a := List.take_left' rfl
    have e4 : (sealS kd c).take (sealB k a).length = sealB kd c := List.take_left' hm
    rw [e3, e4] at h2
    have hs := crcB_inj (sumI_range _).1 (sumI_range _).2 (sumI_range _).1 (sumI_range _).2 h1
    rw [← h2] at hs
    have := sum_set (sealB_bytes k a k0 k1 hab) him v0 v1 hs.symm
    apply hv
    rw [this]
    exact (List.getElem_append_left him).symm
  · have h2 := congrArg (List.take (sealB k a).length) hz
    rw [List.take_set_of_le (by omega)] at h2
    have e3 : (sealS k a).take (sealB k a).length = sealB k a := List.take_left' rfl
    have e4 : (sealS kd c).take (sealB k a).length = sealB kd c := List.take_left' hm
    rw [e3, e4] at h2
    have h3 : sealS kd c = sealS k a := by rw [sealS, sealS, h2]
    rw [h3] at hz
    apply hv
    have := congrArg (fun l : List Int => l[i]?) hz
    simp only [List.getElem?_set_self hi, List.getElem?_eq_getElem hi] at this
    exact Option.some.inj this
end Go.Proofs.Ytaiainlkgfpcmaa.H
