import Derived.Test.YtaiainlkgfpcmaaHnum
namespace Go.Proofs.Ytaiainlkgfpcmaa.H
open Go.RowKit Go.Proofs.YtaiainlkgfpcmaaW.PrintWords
set_option maxRecDepth 100000

theorem lit_reads_at (w : World) (t : TypeId) (k : IntKind) (xs : List Int) (B : Nat) (hB : w.heap.size = B) (hm : xs.length ≤ 9223372036854775807 := by simp) : ReadsInt (w.alloc (.cells (nums k xs).toArray t)) k (some ⟨B, 0, none⟩) xs.length xs := by
  subst hB
  exact lit_reads w t k xs hm
theorem new_isW (w : World) : IsW (w.alloc (.cells #[.slice none 0 0] 77)) w.heap.size w.heap.size (.slice none 0 0) [] :=
  ⟨heap_alloc_new w _, Nat.le_refl _, own_nil _ _ _ _, by simp [Value.ownBlock]⟩
theorem isW_old {w : World} {base g : Nat} {v : Value} {xs : List Int} (h : IsW w base g v xs) {ad : Addr} (had : ad.block < base) : ¬ (ad.block = g ∨ some ad.block = v.ownBlock) := by
  rintro (h1 | h1)
  · have := h.ge; omega
  · have := own_base h.own _ h1.symm; omega
def sealB (kind : Int) (body : List Int) : List Int := [82, kind] ++ varB body.length ++ body
theorem sealB_eq {kind : Int} {body : List Int} {n : Nat} (h : body.length = n) : sealB kind body = [] ++ [82, kind] ++ varB n ++ body := by rw [← h]; rfl
theorem isW_eq {w : World} {base g : Nat} {v : Value} {xs ys : List Int} (h : IsW w base g v xs) (e : xs = ys) : IsW w base g v ys := e ▸ h
def sealF (kind : Int) (body : List Int) : List Int × Int :=
  if kind < 1 ∨ 255 < kind then ([], 2) else if 1048576 < body.length then ([], 5) else (sealB kind body ++ crcB (sumI (sealB kind body)), 0)
theorem sealB_bytes (kind : Int) (body : List Int) (h0 : 1 ≤ kind) (h1 : kind ≤ 255) (hb : ∀ x ∈ body, 0 ≤ x ∧ x ≤ 255) : ∀ x ∈ sealB kind body, 0 ≤ x ∧ x ≤ 255 := by
  intro x hx
  simp only [sealB, List.mem_append, List.mem_cons, List.not_mem_nil, or_false] at hx
  rcases hx with ((rfl | rfl) | hx) | hx
  · omega
  · omega
  · exact varB_bytes _ x hx
  · exact hb x hx

set_option maxHeartbeats 800000 in
theorem seal_any (kind : Int) (A : Option Addr) (n c : Nat) (body : List Int) (w : World) (hr : ReadsInt w .u8 A n body) (hb : ∀ x ∈ body, 0 ≤ x ∧ x ≤ 255) :
    Calls Try.prog 18 #[.int .i64 kind, .slice A n c] w (OpenPost w (sealF kind body)) := by
  have hnl := hr.1
  have hn9 := hr.2.1
  by_cases hk0 : kind < 1
  · have hR : sealF kind body = ([], 2) := by rw [sealF, if_pos (.inl hk0)]
    rw [hR]; clear hR
    have hd : decide (kind < 1) = true := decide_eq_true hk0
    go_enter Try.func18, Try.ntmps18
    go_wp2
    go_ret2
    exact ⟨_, rfl, own_nil _ _ _ _, Below.refl _ _⟩
  by_cases hk1 : 255 < kind
  · have hR : sealF kind body = ([], 2) := by rw [sealF, if_pos (.inr hk1)]
    rw [hR]; clear hR
    have hd : decide (kind < 1) = false := decide_eq_false hk0
    have hd2 : decide (255 < kind) = true := decide_eq_true hk1
    go_enter Try.func18, Try.ntmps18
    go_wp2
    go_ret2
    exact ⟨_, rfl, own_nil _ _ _ _, Below.refl _ _⟩
  have hd : decide (kind < 1) = false := decide_eq_false hk0
  have hd2 : decide (255 < kind) = false := decide_eq_false hk1
  by_cases hm : 1048576 < n
  · have hR : sealF kind body = ([], 5) := by rw [sealF, if_neg (by omega), if_pos (by omega)]
    rw [hR]; clear hR
    have hd3 : decide ((1048576 : Int) < (n : Int)) = true := decide_eq_true (by omega)
    go_enter Try.func18, Try.ntmps18
    go_wp2
    go_ret2
    exact ⟨_, rfl, own_nil _ _ _ _, Below.refl _ _⟩
  have hR : sealF kind body = (sealB kind body ++ crcB (sumI (sealB kind body)), 0) := by rw [sealF, if_neg (by omega), if_neg (by omega)]
  rw [hR]; clear hR
  have hd3 : decide ((1048576 : Int) < (n : Int)) = false := decide_eq_false (by omega)
  have hsb := sealB_bytes kind body (by omega) (by omega) hb
  have hvl := varB_length10 (n := n) (by omega)
  have hkm : kind % 256 = kind := by omega
  have HK := Lib.hid hkm; clear hkm
  have hbl : body.length ≤ 1048576 := by omega
  have hsl : (sealB kind body).length ≤ 1048588 := by
    simp only [sealB, List.length_append, List.length_cons, List.length_nil, hnl]
    omega
  have HN := Lib.hid hnl; clear hnl
  go_enter Try.func18, Try.ntmps18
  go_wp2_with (first
    | (go_at_call 41; refine (raw_any w.heap.size w.heap.size (.slice none 0 0) [] [82, kind] (some ⟨w.heap.size + 1, 0, none⟩) 2 2 _ ((new_isW w).below (below_alloc (Below.refl _ _) _)) (lit_reads_at (w.alloc _) 5 .u8 [82, kind] (w.heap.size + 1) (by simp)) (by simp)).mono ?_; rintro e w1 ⟨rfl, v1, hI1, hs1⟩; have hB1 := hs1.belowB ((new_isW w).below (below_alloc (Below.refl _ _) _)); have hBw := ((Below.refl w.heap.size w).alloc (Nat.le_refl _) (.cells #[.slice none 0 0] 77)).alloc (by simp) (.cells (nums .u8 [82, kind]).toArray 5); have hBa := hBw.trans hB1)
    | (go_at_call 42; refine (put_any w.heap.size w.heap.size v1 _ body A n c _ hI1 (hr.below hBa) ?_ ?_).mono ?_; (intro ad had hn0; exact isW_old hI1 (reads_block hr ad had hn0)); (simp; omega); rintro e w2 ⟨rfl, v2, hI20, hs2⟩; have hI2 := isW_eq hI20 (sealB_eq HN.out).symm; clear hI20)
    | (go_at_call 44; refine (wbytes_any w.heap.size w.heap.size v2 _ _ hI2 (by omega)).mono ?_; rintro e w3 ⟨v3, rfl, ho3, hB3⟩; obtain ⟨A3, c3, rfl, hr3⟩ := own_reads ho3)
    | (go_at_call 43; refine (append_n A3 _ c3 _ _ hr3 hsb (by omega)).mono ?_; rintro e w4 ⟨v4, rfl, ho4, hB4⟩))
  go_ret2
  have hB2 := hs2.belowB hI1
  have hBb := hBa.trans hB2
  have hBc := hBb.trans (hB3.mono hBb.size)
  exact ⟨_, rfl, ho4.rebase hBc.size, hBc.trans (hB4.mono hBc.size)⟩
end Go.Proofs.Ytaiainlkgfpcmaa.H
