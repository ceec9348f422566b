import Derived.Test.YtaiainlkgfpcmaaHseal
namespace Go.Proofs.Ytaiainlkgfpcmaa.H
open Go.RowKit Go.Proofs.YtaiainlkgfpcmaaW.PrintWords
set_option maxRecDepth 100000

/-- The index of the first element of which p holds, or -1. -/
def idxP (p : Int → Bool) (l : List Int) : Int := match l.findIdx? p with | some i => (i : Int) | none => -1
theorem idxP_some {p : Int → Bool} {l : List Int} {k : Nat} (hk : k < l.length) (h : p (rd l k) = true) (hn : ∀ j : Nat, j < k → p (rd l j) = false) : idxP p l = k := by
  have : l.findIdx? p = some k := by
    rw [List.findIdx?_eq_some_iff_getElem]
    refine ⟨hk, by rw [← rd_eq_getElem hk]; exact h, fun j hj => ?_⟩
    have h5 := hn j hj
    rw [rd_eq_getElem (by omega)] at h5
    simp [h5]
  simp [idxP, this]
theorem idxP_none {p : Int → Bool} {l : List Int} (hn : ∀ j : Nat, j < l.length → p (rd l j) = false) : idxP p l = -1 := by
  have : l.findIdx? p = none := by
    rw [List.findIdx?_eq_none_iff]
    intro x hx
    obtain ⟨i, hi, rfl⟩ := List.getElem_of_mem hx
    have h5 := hn i hi
    rwa [rd_eq_getElem hi] at h5
  simp [idxP, this]

def RetW (v : Value) (w : World) (e : Ending) (w' : World) : Prop := e = .returned v ∧ w = w'
set_option maxHeartbeats 800000 in
theorem indexFunc_any (p : Int → Bool) (f : FuncId) (A : Option Addr) (n c : Nat) (l : List Int) (w : World) (hr : ReadsInt w .u8 A n l)
    (he : ∀ (args : Array Value) (W : World), (callFunc f args).run Try.prog W = .ok (.enter f args) W) (hf : ∀ (x : Int) (W : World), Calls Try.prog f #[.int .u8 x] W fun e w' => e = .returned (.bool (p x)) ∧ W = w') :
    Calls Try.prog 92 #[.slice A n c, .func (.func f) #[] #[]] w (RetW (.int .i64 (idxP p l)) w) := by
  have hn9 := hr.2.1
  have hnl := hr.1
  subst hnl
  go_enter Try.func92, Try.ntmps92
  go_wp2_with fail
  go_loop [8] (fun i => ∃ k : Nat, k ≤ l.length ∧ i = .int .i64 k ∧ Hid (∀ j : Nat, j < k → p (rd l j) = false)) (fun i => l.length - (intOf i).toNat)
  case atStart => exact ⟨0, Nat.zero_le _, rfl, fun j hj => absurd hj (by omega)⟩
  case round =>
    obtain ⟨k, hk, rfl, hp⟩ := hrel
    by_cases hlt : k < l.length
    · obtain ⟨ad, rfl, hcell⟩ := hr.at_ k (by omega) (by omega)
      rw [show ((k : Int)).toNat = k from rfl] at hcell
      have HF := Lib.hid hf; clear hf
      by_cases hpe : p (rd l k) = true
      · have HI := Lib.hid (idxP_some hlt hpe hp.out)
        have HE := Lib.hid hpe; clear hpe
        go_wp2_with (refine (HF.out (rd l k) _).mono ?_; rw [HE.out]; rintro e w1 ⟨rfl, rfl⟩)
        go_ret
        exact ⟨by rw [HI.out]; rfl, rfl⟩
      · have he2 : p (rd l k) = false := by simpa using hpe
        have HE := Lib.hid he2; clear hpe he2
        go_wp2_with (refine (HF.out (rd l k) _).mono ?_; rw [HE.out]; rintro e w1 ⟨rfl, rfl⟩)
        go_round
        case rel =>
          exact ⟨k + 1, by omega, by go_num, fun j hj => by
            rcases Nat.lt_or_ge j k with h | h
            · exact hp.out j h
            · obtain rfl : j = k := by omega
              exact HE.out⟩
        case measure => simp [intOf]; omega
    · obtain rfl : k = l.length := by omega
      have HI := Lib.hid (idxP_none hp.out)
      clear hp
      go_wp2_with fail
      go_ret
      exact ⟨by rw [HI.out]; rfl, rfl⟩

def lt128 (x : Int) : Bool := decide (x < 128)
theorem head1_any (x : Int) (W : World) : Calls Try.prog 93 #[.int .u8 x] W fun e w' => e = .returned (.bool (lt128 x)) ∧ W = w' := by
  go_enter Try.func93, Try.ntmps93
  go_wp2
  go_ret
  exact ⟨rfl, rfl⟩
theorem number1_any (x : Int) (W : World) : Calls Try.prog 106 #[.int .u8 x] W fun e w' => e = .returned (.bool (lt128 x)) ∧ W = w' := by
  go_enter Try.func106, Try.ntmps106
  go_wp2
  go_ret
  exact ⟨rfl, rfl⟩
end Go.Proofs.Ytaiainlkgfpcmaa.H
