import Derived.Test.YtaiainlkgfpcmaaHvar
namespace Go.Proofs.Ytaiainlkgfpcmaa.H
open Go.RowKit Go.Proofs.YtaiainlkgfpcmaaW.PrintWords
set_option maxRecDepth 100000

theorem add_block (a : Addr) (j : Nat) : (a.add j).block = a.block := by unfold Addr.add; split <;> rfl
theorem reads_kp {w w1 : World} {k : IntKind} {A : Option Addr} {n : Nat} {xs : List Int} {S : Nat → Prop} (h : ReadsInt w k A n xs) (hk : Kp w w1 S) (hS : ∀ ad, A = some ad → 0 < n → ¬ S ad.block) : ReadsInt w1 k A n xs :=
  ⟨h.1, h.2.1, fun hn => by
    obtain ⟨ad, e, hc⟩ := h.2.2 hn
    refine ⟨ad, e, fun j hj => ?_⟩
    have h1 := hc j hj
    have hlt := World.block_lt_of_cell? w _ h1
    refine (World.cell?_of_block (hk.block _ hlt ?_)).trans h1
    rw [add_block]
    exact hS ad e hn⟩
theorem reads_block {w : World} {k : IntKind} {A : Option Addr} {n : Nat} {xs : List Int} (h : ReadsInt w k A n xs) : ∀ ad, A = some ad → 0 < n → ad.block < w.heap.size := by
  intro ad e hn
  obtain ⟨ad', e', hc⟩ := h.2.2 hn
  rw [e] at e'
  injection e' with e'
  subst e'
  have := World.block_lt_of_cell? w _ (hc 0 hn)
  rwa [add_block] at this
/-- The bytes of numbers, one behind the other. -/
def varsB (ns : List Int) : List Int := (ns.map fun n => varB n.toNat).flatten
theorem varsB_snoc (ns : List Int) (n : Int) : varsB (ns ++ [n]) = varsB ns ++ varB n.toNat := by simp [varsB]
theorem varsB_length (ns : List Int) (h : ∀ n ∈ ns, 0 ≤ n ∧ n < 18446744073709551616) : (varsB ns).length ≤ 10 * ns.length := by
  induction ns with
  | nil => simp [varsB]
  | cons n ns ih =>
    have h1 := varB_length10 (n := n.toNat) (by have := h n (by simp); omega)
    have h2 := ih (fun m hm => h m (by simp [hm]))
    simp only [varsB, List.map_cons, List.flatten_cons, List.length_append, List.length_cons] at h2 ⊢
    omega

set_option maxHeartbeats 800000 in
theorem wnum_any (base g : Nat) (v : Value) (xs ns : List Int) (A : Option Addr) (n c : Nat) (w : World) (hI : IsW w base g v xs) (hr : ReadsInt w .u64 A n ns) (hns : ∀ x ∈ ns, 0 ≤ x ∧ x < 18446744073709551616)
    (hA : ∀ ad, A = some ad → 0 < n → ¬ (ad.block = g ∨ some ad.block = v.ownBlock)) (hl : xs.length + 10 * n ≤ 140737488355328) :
    Calls Try.prog 70 #[.pointer (some ⟨g, 0, none⟩), .slice A n c] w fun e w' => e = .returned (.tuple #[]) ∧ ∃ v', IsW w' base g v' (xs ++ varsB ns) ∧ WStep w w' g v v' := by
  have hn9 := hr.2.1
  have hnl := hr.1
  subst hnl
  go_enter Try.func70, Try.ntmps70
  go_wp2_with fail
  go_loopw [8] (fun i wr => ∃ k : Nat, k ≤ ns.length ∧ i = .int .i64 k ∧ ∃ vr, IsW wr base g vr (xs ++ varsB (ns.take k)) ∧ WStep w wr g v vr) (fun i _ => ns.length - (intOf i).toNat)
  case atStart => exact ⟨0, Nat.zero_le _, rfl, v, by rw [List.take_zero]; simpa [varsB] using hI, WStep.refl _ _ _⟩
  case round =>
    obtain ⟨k, hk, rfl, vr, hIr, hst⟩ := hrel
    by_cases hlt : k < ns.length
    · obtain ⟨ad, rfl, hcell⟩ := (reads_kp hr hst.kp hA).at_ k (by omega) (by omega)
      rw [show ((k : Int)).toNat = k from rfl] at hcell
      have hx : 0 ≤ rd ns k ∧ rd ns k < 18446744073709551616 := by
        have h5 : rd ns k = ns[k] := by rw [rd, List.getD_eq_getElem?_getD, show ((k : Int)).toNat = k from rfl, List.getElem?_eq_getElem hlt]; rfl
        rw [h5]
        exact hns _ (List.getElem_mem hlt)
      have HR := Lib.hid (take_rd ns k hlt)
      have hvl := varB_length10 (n := (rd ns k).toNat) (by omega)
      have htl : (varsB (ns.take k)).length ≤ 10 * k := by
        have h6 := varsB_length (ns.take k) (fun x hx => hns x (List.mem_of_mem_take hx))
        rw [List.length_take] at h6
        omega
      have hll : (xs ++ varsB (ns.take k)).length + 10 ≤ 140737488355328 := by rw [List.length_append]; omega
      clear hns hr htl
      go_wp2_with (first
        | (go_at_call 89; refine (number_any _ _ hx.1 hx.2).mono ?_; rintro e w1 ⟨v1, rfl, ho1, hb1⟩; obtain ⟨A1, c1, rfl, hr1⟩ := own_reads ho1)
        | (go_at_call 41; refine (raw_any base g vr _ _ A1 _ c1 _ (hIr.below hb1) hr1 (by omega)).mono ?_; rintro e w2 ⟨rfl, v2, hI2, hs2⟩))
      go_roundw
      case rel => exact ⟨k + 1, by omega, by go_num, v2, by rw [HR.out, varsB_snoc, ← List.append_assoc]; exact hI2, hst.trans (WStep.before hb1 hs2)⟩
      case measure => simp [intOf]; omega
    · obtain rfl : k = ns.length := by omega
      rw [List.take_length] at hIr
      go_wp2_with fail
      go_end0
      exact ⟨rfl, vr, hIr, hst⟩

set_option maxHeartbeats 800000 in
theorem put_any (base g : Nat) (v : Value) (xs ys : List Int) (A : Option Addr) (n c : Nat) (w : World) (hI : IsW w base g v xs) (hr : ReadsInt w .u8 A n ys)
    (hA : ∀ ad, A = some ad → 0 < n → ¬ (ad.block = g ∨ some ad.block = v.ownBlock)) (hl : xs.length + 10 + n ≤ 140737488355328) :
    Calls Try.prog 42 #[.pointer (some ⟨g, 0, none⟩), .slice A n c] w fun e w' => e = .returned (.tuple #[]) ∧ ∃ v', IsW w' base g v' (xs ++ varB n ++ ys) ∧ WStep w w' g v v' := by
  have hn9 := hr.2.1
  have hlt := hI.lt
  have hvl := varB_length10 (n := n) (by omega)
  have hvr : ∀ k, v.ownBlock = some k → k < w.heap.size := fun k hk => own_lt hI.own k hk
  go_enter Try.func42, Try.ntmps42
  go_wp2_with (first
    | (go_at_call 70; refine (wnum_any base g v xs [(n : Int)] (some ⟨w.heap.size, 0, none⟩) 1 1 _ (hI.below (below_alloc (Below.refl _ _) _)) (lit_reads w 68 .u64 [(n : Int)]) ?_ ?_ (by omega)).mono ?_; (simp; omega); (rintro ad hh _ (h5 | h5); (injection hh with hh; subst hh; simp at h5; omega); (injection hh with hh; subst hh; have := hvr _ h5.symm; simp at this)); rintro e w1 ⟨rfl, v1, hI1, hs1⟩)
    | (go_at_call 41; refine (raw_any base g v1 _ ys A n c _ hI1 (reads_kp (hr.below (below_alloc (Below.refl _ _) _)) hs1.kp hA) ?_).mono ?_; (simp only [varsB, List.map_cons, List.map_nil, List.flatten_cons, List.flatten_nil, List.append_nil, List.length_append, Int.toNat_natCast]; omega); rintro e w2 ⟨rfl, v2, hI2, hs2⟩))
  go_end0
  refine ⟨rfl, v2, ?_, WStep.before (below_alloc (Below.refl _ _) _) (hs1.trans hs2)⟩
  have : varsB [(n : Int)] = varB n := by simp [varsB]
  rw [this] at hI2
  exact hI2

set_option maxHeartbeats 800000 in
theorem wbytes_any (base g : Nat) (v : Value) (xs : List Int) (w : World) (hI : IsW w base g v xs) (hl : xs.length ≤ 140737488355328) :
    Calls Try.prog 44 #[.pointer (some ⟨g, 0, none⟩)] w fun e w' => ∃ v', e = .returned v' ∧ OwnB w' w.heap.size v' xs ∧ Below w.heap.size w w' := by
  obtain ⟨Av, cv, rfl⟩ := own_slice hI.own
  have hcell : w.cell? ⟨g, 0, none⟩ = some (.slice Av xs.length cv) := (cell_of_row w g 0 _ _ _ hI.heap).trans rfl
  obtain ⟨A2, c2, he, hr⟩ := own_reads hI.own
  injection he with h1 h2 h3
  subst h1; subst h3
  clear h2 hI
  go_enter Try.func44, Try.ntmps44
  go_wp2_with (go_at_call 74; refine (clone_n Av _ cv xs _ hr hl).mono ?_; rintro e w1 ⟨v1, rfl, ho1, hb1⟩)
  go_ret
  exact ⟨_, rfl, ho1, hb1⟩
end Go.Proofs.Ytaiainlkgfpcmaa.H
