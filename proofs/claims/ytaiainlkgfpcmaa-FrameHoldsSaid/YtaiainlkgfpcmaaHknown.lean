/- The law's own examples of the chapter (redpencillaw19.known) hold. -/
import Derived.Test.YtaiainlkgfpcmaaFp4
namespace Go.Proofs.Ytaiainlkgfpcmaa.H
open Go.RowKit Go.Proofs.YtaiainlkgfpcmaaW.PrintWords Go.Proofs.YtaiainlkgfpcmaaW.PrintMore Go.Proofs.Ytaiainlkgfpcmaa.PFa
set_option maxRecDepth 100000

theorem nil_reads (W : World) : ReadsInt W .u8 none 0 [] := reads_ofC (Kd.C_nil _ _)
def TrueAt (W : World) (e : Ending) (w' : World) : Prop := e = .returned (.bool true) ∧ Below W.heap.size W w'
theorem opens_n {A0 A2 : Option Addr} {n m c0 c2 : Nat} {l0 l2 : List Int} {a1 a3 : Int} {W : World} (hr0 : ReadsInt W .u8 A0 n l0) (hc0 : n ≤ c0) (hr2 : ReadsInt W .u8 A2 m l2) (hc2 : m ≤ c2) (h : redpencillaw19_opens.f l0 a1 l2 a3 = some true) :
    Calls Try.prog 19 #[.slice A0 n c0, .int .i64 a1, .slice A2 m c2, .int .i64 a3] W (TrueAt W) := by
  obtain rfl := hr0.1
  obtain rfl := hr2.1
  exact redpencillaw19_opens.calls A0 c0 l0 a1 A2 c2 l2 a3 true W (C_ofReads hr0) hc0 (C_ofReads hr2) hc2 h
theorem firsts_n {A0 A2 : Option Addr} {n m c0 c2 : Nat} {l0 l2 : List Int} {a1 a3 a4 : Int} {W : World} (hr0 : ReadsInt W .u8 A0 n l0) (hc0 : n ≤ c0) (hr2 : ReadsInt W .u8 A2 m l2) (hc2 : m ≤ c2) (h : redpencillaw19_firsts.f l0 a1 l2 a3 a4 = some true) :
    Calls Try.prog 20 #[.slice A0 n c0, .int .i64 a1, .slice A2 m c2, .int .i64 a3, .int .i64 a4] W (TrueAt W) := by
  obtain rfl := hr0.1
  obtain rfl := hr2.1
  exact redpencillaw19_firsts.calls A0 c0 l0 a1 A2 c2 l2 a3 a4 true W (C_ofReads hr0) hc0 (C_ofReads hr2) hc2 h
theorem seals_n {A0 A2 : Option Addr} {n m c0 c2 : Nat} {l0 l2 : List Int} {a1 a3 : Int} {W : World} (hr0 : ReadsInt W .u8 A0 n l0) (hc0 : n ≤ c0) (hr2 : ReadsInt W .u8 A2 m l2) (hc2 : m ≤ c2) (h : redpencillaw19_seals.f a1 l0 l2 a3 = some true) :
    Calls Try.prog 14 #[.int .i64 a1, .slice A0 n c0, .slice A2 m c2, .int .i64 a3] W (TrueAt W) := by
  obtain rfl := hr0.1
  obtain rfl := hr2.1
  exact redpencillaw19_seals.calls a1 A0 c0 l0 A2 c2 l2 a3 true W (C_ofReads hr0) hc0 (C_ofReads hr2) hc2 h
theorem seeks_n {A0 : Option Addr} {n c0 : Nat} {l0 : List Int} {a1 a2 : Int} {W : World} (k : Nat) (hr0 : ReadsInt W .u8 A0 n l0) (hc0 : n ≤ c0) (h : redpencillaw19_seeks.f k l0 a1 a2 = some true) :
    Calls Try.prog 21 #[.slice A0 n c0, .int .i64 a1, .int .i64 a2] W (TrueAt W) := by
  obtain rfl := hr0.1
  exact redpencillaw19_seeks.calls k A0 c0 l0 a1 a2 true W (C_ofReads hr0) hc0 h
theorem sizes_n {a0 a1 a2 : Int} {W : World} (h : redpencillaw19_sizes.f a0 a1 a2 = some true) : Calls Try.prog 16 #[.int .i64 a0, .int .i64 a1, .int .i64 a2] W (TrueAt W) :=
  redpencillaw19_sizes.calls a0 a1 a2 true W h
def SealAt (W : World) (n : Nat) (xs : List Int) (e : Ending) (w' : World) : Prop := ∃ ad c, e = .returned (.tuple #[.slice (some ad) n c, .int .i64 0]) ∧ OwnB w' W.heap.size (.slice (some ad) n c) xs ∧ ReadsInt w' .u8 (some ad) n xs ∧ n ≤ c ∧ Below W.heap.size W w'
theorem seal_n {A : Option Addr} {n c m : Nat} {l xs : List Int} {k : Int} {W : World} (hr : ReadsInt W .u8 A n l) (hb : ∀ x ∈ l, 0 ≤ x ∧ x ≤ 255) (h : sealF k l = (xs, 0)) (hm : xs.length = m) (h0 : 0 < m) :
    Calls Try.prog 18 #[.int .i64 k, .slice A n c] W (SealAt W m xs) := by
  refine (seal_any k A n c l W hr hb).mono fun e w' ⟨v, he, ho, hB⟩ => ?_
  rw [h] at he ho
  obtain ⟨A1, c1, rfl, hr1⟩ := own_reads ho
  have hcap : xs.length ≤ c1 := own_cap ho
  have ho : OwnB w' W.heap.size (.slice A1 xs.length c1) xs := ho
  have hr1 : ReadsInt w' .u8 A1 xs.length xs := hr1
  have he : e = .returned (.tuple #[.slice A1 xs.length c1, .int .i64 0]) := he
  rw [hm] at hr1 he ho hcap
  obtain ⟨ad, rfl, _⟩ := reads_cell0 hr1 h0
  exact ⟨ad, c1, he, ho, hr1, hcap, hB⟩

theorem known_size1 : redpencillaw19_sizes.f 127 134 0 = some true := sizes_true (n := 127) (by omega) (by rw [varB_len 127 (by omega)]; rfl)
theorem known_size2 : redpencillaw19_sizes.f 128 136 0 = some true := sizes_true (n := 128) (by omega) (by rw [varB_len 128 (by omega)]; rfl)
theorem bytes_list {l : List Int} (h : isBytes l = true) : ∀ x ∈ l, 0 ≤ x ∧ x ≤ 255 := isBytes_iff.1 h
theorem sealS9_len : (sealS 9 [5, 6]).length = 9 := by rw [sealS_len, varB_len _ (by simp)]; rfl
theorem sealS3_len : (sealS 3 []).length = 7 := by rw [sealS_len, varB_len _ (by simp)]; rfl
theorem sealS1_len : (sealS 1 []).length = 7 := by rw [sealS_len, varB_len _ (by simp)]; rfl
theorem b9 : ∀ x ∈ sealS 9 [5, 6], 0 ≤ x ∧ x ≤ 255 := sealS_bytes _ _ (by omega) (by omega) (bytes_list (by decide))
theorem b3 : ∀ x ∈ sealS 3 [], 0 ≤ x ∧ x ≤ 255 := sealS_bytes _ _ (by omega) (by omega) (bytes_list (by decide))
theorem b9m : ∀ x ∈ sealS 9 [5, 6] ++ [1, 2], 0 ≤ x ∧ x ≤ 255 := fun x hx => by
  rcases List.mem_append.1 hx with h | h
  · exact b9 x h
  · simp only [List.mem_cons, List.not_mem_nil, or_false] at h; rcases h with rfl | rfl <;> omega
theorem b3m : ∀ x ∈ [1, 2] ++ sealS 3 [], 0 ≤ x ∧ x ≤ 255 := fun x hx => by
  rcases List.mem_append.1 hx with h | h
  · simp only [List.mem_cons, List.not_mem_nil, or_false] at h; rcases h with rfl | rfl <;> omega
  · exact b3 x h
theorem known_open1 : redpencillaw19_opens.f (sealS 9 [5, 6]) 9 [5, 6] 0 = some true := opens_true b9 (by rw [sealS9_len]; omega) (openR_seal 9 _ (by omega) (by simp))
theorem known_first : redpencillaw19_firsts.f (sealS 9 [5, 6] ++ [1, 2]) 9 [5, 6] 9 0 = some true :=
  firsts_true b9m (by rw [List.length_append, sealS9_len]; simp) (by rw [refFirst_seal 9 _ _ (by omega) (by simp), sealS9_len]; rfl)
theorem known_open2 : redpencillaw19_opens.f (sealS 9 [5, 6] ++ [1, 2]) 0 [] 12 = some true :=
  opens_true b9m (by rw [List.length_append, sealS9_len]; simp) (openR_more 9 _ _ (by omega) (by simp) (by simp))
theorem known_seek1 : redpencillaw19_seeks.f 100 ([1, 2] ++ sealS 3 []) 2 0 = some true := by
  refine seeks_true b3m (by rw [List.length_append, sealS3_len]; simp) ?_ 100 (by rw [List.length_append, sealS3_len]; simp)
  have h := refFirst_seal 3 [] [] (by omega) (by simp)
  rw [List.append_nil] at h
  have hl : ([1, 2] ++ sealS 3 []).length = 9 := by rw [List.length_append, sealS3_len]; rfl
  have bad : ∀ (x : Int) (t : List Int), x ≠ 82 → (refFirst (x :: t)).2.2.2 ≠ 0 := fun x t hx => by
    rw [refFirst, if_neg (by simp), if_pos (.inl (show x ≠ 82 from hx))]
    decide
  have d0 : ([1, 2] ++ sealS 3 []).drop 0 = 1 :: 2 :: sealS 3 [] := rfl
  have d2 : ([1, 2] ++ sealS 3 []).drop (0 + 1 + 1) = sealS 3 [] := rfl
  have d1 : ([1, 2] ++ sealS 3 []).drop (0 + 1) = 2 :: sealS 3 [] := rfl
  rw [seekR, hl, seekG, d0, if_neg (bad 1 _ (by decide)), seekG, d1, if_neg (bad 2 _ (by decide)), seekG, d2, if_pos (by rw [h])]
  rfl
theorem known_open3 : redpencillaw19_opens.f [] 0 [] 4 = some true := opens_true (by simp) (by simp) (openR_err (by rfl) (by decide))
theorem known_open4 : redpencillaw19_opens.f [82, 1] 0 [] 4 = some true := opens_true (bytes_list (by decide)) (by simp) (openR_err (by
  rw [refFirst, if_neg (by simp), if_neg (by rintro (h | ⟨_, h⟩); exact h rfl; exact absurd h (by decide)), if_neg (by simp), show ([82, 1] : List Int).drop 2 = [] from rfl, refLen_nil, if_pos (by simp)]) (by decide))
theorem known_open5 : redpencillaw19_opens.f [82, 0] 0 [] 12 = some true := opens_true (bytes_list (by decide)) (by simp) (openR_err (by
  rw [refFirst, if_neg (by simp), if_pos (.inr ⟨by simp, rfl⟩)]) (by decide))
theorem known_open6 : redpencillaw19_opens.f [82, 1, 128, 0] 0 [] 12 = some true := opens_true (bytes_list (by decide)) (by simp) (openR_err (by
  rw [refFirst, if_neg (by simp), if_neg (by rintro (h | ⟨_, h⟩); exact h rfl; exact absurd h (by decide)), if_neg (by simp), show ([82, 1, 128, 0] : List Int).drop 2 = 128 :: 0 :: [] from rfl, refLen_2 128 0 [] (by omega) (by omega) (by omega), if_pos rfl, if_pos (by simp)]) (by decide))
theorem sum7 : sumI [82, 1, 1, 7] ≠ 0 := by decide
theorem known_open7 : redpencillaw19_opens.f [82, 1, 1, 7, 0, 0, 0, 0] 0 [] 10 = some true := opens_true (bytes_list (by decide)) (by simp) (openR_err (by
  have hr : refLen (([82, 1, 1, 7, 0, 0, 0, 0] : List Int).drop 2) = (((1 : Nat) : Int), ((varB 1).length : Int), 0) := by
    rw [varB_small (by omega)]; exact refLen_1 1 _ (by omega) (by omega)
  have hv : (varB 1).length = 1 := by rw [varB_small (by omega)]; rfl
  rw [refFirst_of (by simp) rfl (by decide) hr, hv, if_neg (by simp), if_neg]
  intro h
  have hB : sealB 1 [7] = [82, 1, 1, 7] := by rw [sealB]; simp only [List.length_cons, List.length_nil]; rw [varB_small (by omega)]; rfl
  have h1 : sealS 1 [7] = [82, 1, 1, 7, 0, 0, 0, 0] := h
  rw [sealS, hB] at h1
  have h2 : crcB (sumI [82, 1, 1, 7]) = [0, 0, 0, 0] := List.append_cancel_left (show [82, 1, 1, 7] ++ _ = [82, 1, 1, 7] ++ [0, 0, 0, 0] from h1)
  simp only [crcB, List.cons.injEq, and_true] at h2
  have := sum7
  have := sumI_range [82, 1, 1, 7]
  omega) (by decide))
theorem known_seals : redpencillaw19_seals.f 0 [] [] 2 = some true := seals_true (by simp) (by rw [sealF, if_pos (.inl (by omega))])
theorem known_seek2 : redpencillaw19_seeks.f 100 [82] 0 9 = some true := seeks_true (bytes_list (by decide)) (by simp) (by
  rw [seekR, show ([82] : List Int).length = 1 from rfl, seekG, if_neg, seekG]
  rw [List.drop_zero, refFirst, if_neg (by simp), if_neg (by rintro (h | h); exact h rfl; exact absurd h.1 (by simp)), if_pos (by simp)]
  decide) 100 (by simp)

theorem lit1 {W : World} (a : Int) {g : Nat} (hg : W.heap.size = g) : ReadsInt (W.alloc (.cells #[.int .u8 a] 5)) .u8 (some ⟨g, 0, none⟩) 1 [a] := lit_reads_at W 5 .u8 [a] g hg
theorem lit2 {W : World} (a b : Int) {g : Nat} (hg : W.heap.size = g) : ReadsInt (W.alloc (.cells #[.int .u8 a, .int .u8 b] 5)) .u8 (some ⟨g, 0, none⟩) 2 [a, b] := lit_reads_at W 5 .u8 [a, b] g hg
theorem lit4 {W : World} (a b c d : Int) {g : Nat} (hg : W.heap.size = g) : ReadsInt (W.alloc (.cells #[.int .u8 a, .int .u8 b, .int .u8 c, .int .u8 d] 5)) .u8 (some ⟨g, 0, none⟩) 4 [a, b, c, d] := lit_reads_at W 5 .u8 [a, b, c, d] g hg
theorem lit8 {W : World} (a b c d e f x y : Int) {g : Nat} (hg : W.heap.size = g) : ReadsInt (W.alloc (.cells #[.int .u8 a, .int .u8 b, .int .u8 c, .int .u8 d, .int .u8 e, .int .u8 f, .int .u8 x, .int .u8 y] 5)) .u8 (some ⟨g, 0, none⟩) 8 [a, b, c, d, e, f, x, y] := lit_reads_at W 5 .u8 [a, b, c, d, e, f, x, y] g hg
theorem below_new {w W w' : World} (h : Below w.heap.size w W) (o : Obj) (h2 : Below (W.alloc o).heap.size (W.alloc o) w') : Below w.heap.size w w' := (h.alloc h.size o).trans (h2.mono (le_alloc h.size o))
theorem below_on {w W w' : World} (h : Below w.heap.size w W) (h2 : Below W.heap.size W w') : Below w.heap.size w w' := h.trans (h2.mono h.size)
set_option maxHeartbeats 3200000 in
theorem known_any (w : World) : Calls Try.prog 13 #[] w fun e w' => e = .returned (.bool true) ∧ Below w.heap.size w w' := by
  obtain ⟨la, hla⟩ : ∃ la, sealS 1 [] = la := ⟨_, rfl⟩
  obtain ⟨lb, hlb⟩ : ∃ lb, sealS 9 [5, 6] = lb := ⟨_, rfl⟩
  obtain ⟨lc, hlc⟩ : ∃ lc, sealS 3 [] = lc := ⟨_, rfl⟩
  have hS1 : sealF 1 [] = (la, 0) := hla ▸ sealF_ok (by omega) (by omega) (by simp)
  have hS9 : sealF 9 [5, 6] = (lb, 0) := hlb ▸ sealF_ok (by omega) (by omega) (by simp)
  have hS3 : sealF 3 [] = (lc, 0) := hlc ▸ sealF_ok (by omega) (by omega) (by simp)
  have h1l : la.length = 7 := hla ▸ sealS1_len
  have h9l : lb.length = 9 := hlb ▸ sealS9_len
  have h3l : lc.length = 7 := hlc ▸ sealS3_len
  have hr0 : rd la 0 = 82 := by rw [← hla]; rfl
  have hr1 : rd la 1 = 1 := by rw [← hla]; rfl
  have hr2 : rd la 2 = 0 := by rw [← hla, sealS, sealB]; simp only [List.length_nil]; rw [varB_small (by omega)]; rfl
  obtain ⟨lm, hlm⟩ : ∃ lm, [] ++ lb ++ [1, 2] = lm := ⟨_, rfl⟩
  obtain ⟨ln, hln⟩ : ∃ ln, [1, 2] ++ lc = ln := ⟨_, rfl⟩
  have hml : lm.length = 11 := by rw [← hlm]; simp; omega
  have hnl : ln.length = 9 := by rw [← hln]; simp; omega
  have ko1 : redpencillaw19_opens.f lb 9 [5, 6] 0 = some true := hlb ▸ known_open1
  have kf : redpencillaw19_firsts.f lm 9 [5, 6] 9 0 = some true := by rw [← hlm, ← hlb]; exact known_first
  have ko2 : redpencillaw19_opens.f lm 0 [] 12 = some true := by rw [← hlm, ← hlb]; exact known_open2
  have ks1 : redpencillaw19_seeks.f 100 ln 2 0 = some true := by rw [← hln, ← hlc]; exact known_seek1
  have S1 := Lib.hid (fun (W : World) => seal_n (nil_reads W) (c := 0) (by simp) hS1 h1l (by omega))
  have S9 := Lib.hid (fun (W : World) (A : Option Addr) (hr : ReadsInt W .u8 A 2 [5, 6]) => seal_n hr (c := 2) (bytes_list (by decide)) hS9 h9l (by omega))
  have S3 := Lib.hid (fun (W : World) => seal_n (nil_reads W) (c := 0) (by simp) hS3 h3l (by omega))
  have Z1 := Lib.hid (fun (W : World) => sizes_n (W := W) known_size1)
  have Z2 := Lib.hid (fun (W : World) => sizes_n (W := W) known_size2)
  have O1 := Lib.hid (fun (W : World) (A A2 : Option Addr) (c : Nat) (h : ReadsInt W .u8 A 9 lb) (hc : 9 ≤ c) (h2 : ReadsInt W .u8 A2 2 [5, 6]) => opens_n h hc h2 (Nat.le_refl 2) ko1)
  have O2 := Lib.hid (fun (W : World) (A : Option Addr) (c : Nat) (h : ReadsInt W .u8 A 11 lm) (hc : 11 ≤ c) => opens_n h hc (nil_reads W) (Nat.le_refl 0) ko2)
  have F1 := Lib.hid (fun (W : World) (A A2 : Option Addr) (c : Nat) (h : ReadsInt W .u8 A 11 lm) (hc : 11 ≤ c) (h2 : ReadsInt W .u8 A2 2 [5, 6]) => firsts_n h hc h2 (Nat.le_refl 2) kf)
  have K1 := Lib.hid (fun (W : World) (A : Option Addr) (c : Nat) (h : ReadsInt W .u8 A 9 ln) (hc : 9 ≤ c) => seeks_n 100 h hc ks1)
  have O3 := Lib.hid (fun (W : World) => opens_n (nil_reads W) (Nat.le_refl 0) (nil_reads W) (Nat.le_refl 0) known_open3)
  have O4 := Lib.hid (fun (W : World) (A : Option Addr) (h : ReadsInt W .u8 A 2 [82, 1]) => opens_n h (Nat.le_refl 2) (nil_reads W) (Nat.le_refl 0) known_open4)
  have O5 := Lib.hid (fun (W : World) (A : Option Addr) (h : ReadsInt W .u8 A 2 [82, 0]) => opens_n h (Nat.le_refl 2) (nil_reads W) (Nat.le_refl 0) known_open5)
  have O6 := Lib.hid (fun (W : World) (A : Option Addr) (h : ReadsInt W .u8 A 4 [82, 1, 128, 0]) => opens_n h (Nat.le_refl 4) (nil_reads W) (Nat.le_refl 0) known_open6)
  have O7 := Lib.hid (fun (W : World) (A : Option Addr) (h : ReadsInt W .u8 A 8 [82, 1, 1, 7, 0, 0, 0, 0]) => opens_n h (Nat.le_refl 8) (nil_reads W) (Nat.le_refl 0) known_open7)
  have L1 := Lib.hid (fun (W : World) => seals_n (nil_reads W) (Nat.le_refl 0) (nil_reads W) (Nat.le_refl 0) known_seals)
  have K2 := Lib.hid (fun (W : World) (A : Option Addr) (h : ReadsInt W .u8 A 1 [82]) => seeks_n 100 h (Nat.le_refl 1) known_seek2)
  have HM := Lib.hid hlm
  have HN := Lib.hid hln
  have HL := Lib.hid (And.intro h9l (And.intro h3l (And.intro hml hnl)))
  clear hS1 hS9 hS3 hla hlb hlc ko1 kf ko2 ks1 hlm hln h9l h3l hml hnl
  go_enter Try.func13, Try.ntmps13
  go_upto_region 2 with (go_at_call 18; refine (S1.out _).mono ?_; rintro e w1 ⟨ad1, c1, rfl, ho1, hrd1, hcap1, hb1⟩; have hx0 := hrd1.at_ 0 (by omega) (by omega); obtain ⟨_, ⟨⟩, hx0⟩ := hx0; have hx1 := reads_cell1 hrd1 (by omega); have hx2 := hrd1.at_ 2 (by omega) (by omega); obtain ⟨_, ⟨⟩, hx2⟩ := hx2; rw [hr0] at hx0; rw [hr1] at hx1; rw [hr2] at hx2; simp only [Addr.add, Int.toNat_zero, Int.reduceToNat, Nat.reduceEqDiff, ↓reduceIte] at hx0 hx1 hx2)
  clear hr0 hr1 hr2 h1l
  have hrd1 := Lib.hid hrd1
  have ho1 := Lib.hid ho1
  have hb1 := Lib.hid hb1
  go_cut [43] (fun v43 wc => v43 = .bool false ∧ Below w.heap.size w wc)
  case first =>
    go_wp2_with (first
      | (go_at_call 16; (with_reducible refine (Z1.out _).mono ?_); rintro e w2 ⟨rfl, hb2⟩; have hb2 := Lib.hid hb2)
      | (go_at_call 16; (with_reducible refine (Z2.out _).mono ?_); rintro e w3 ⟨rfl, hb3⟩; have hb3 := Lib.hid hb3))
    go_meet
    case rel => exact ⟨rfl, below_on (below_on hb1.out hb2.out) hb3.out⟩
  case rest =>
    obtain ⟨rfl, hbc⟩ := hcut
    clear hb1 hx0 hx1 hx2 hrd1 ho1 hcap1 S1 Z1 Z2
    have hbc := Lib.hid hbc
    go_upto_region 7 with (first
      | (go_at_call 18; (with_reducible refine (S9.out _ _ ?r).mono ?_); (case r => exact lit2 5 6 rfl); rintro e w4 ⟨ad4, c4, rfl, ho4, hrd4, hcap4, hb4⟩; have hB4 := Lib.hid (below_new hbc.out _ hb4); clear hb4 ho4; have hrd4 := Lib.hid hrd4)
      | (at_builtin; refine print_append_row (w0 := w4) w4.heap.size rfl (.const (.slice none 0 0)) (.tmp 49) 22 5 .u8 1 rfl Try.underlying22 Try.infoU8 (by decide) _ [] lb (some ad4) _ c4 rfl rfl (own_nil _ _ _ _) hrd4.out (Below.refl _ _) (Nat.le_refl _) (by simp) ?_; intro v5 w5 ho5 hb5 hg5 hat5; have ho5 := Lib.hid ho5; have hb5 := Lib.hid hb5; clear hg5 hat5)
      | (at_builtin; refine print_append_row (w0 := w4) w4.heap.size rfl (.tmp 50) (.tmp 51) 22 5 .u8 1 rfl Try.underlying22 Try.infoU8 (by decide) _ ([] ++ lb) [1, 2] (some ⟨w5.heap.size, 0, none⟩) 2 2 rfl rfl (pw_own_below ho5.out (below_alloc (Below.refl _ _) _)) (lit2 1 2 rfl) (below_alloc hb5.out _) (le_alloc hb5.out.size _) (by have := HL.out.1; simp; omega) ?_; intro v6 w6 ho6 hb6 hg6 hat6; have ho6 := ownB_eq ho6 HM.out; obtain ⟨A6, c6, rfl, hr6⟩ := own_reads ho6; have hcap6 : lm.length ≤ c6 := own_cap ho6; rw [HL.out.2.2.1] at hr6 hcap6 ⊢; have hr6 := Lib.hid hr6; have hb6 := Lib.hid hb6; clear hg6 hat6 ho6)
      | (go_at_call 18; (with_reducible refine (S3.out _).mono ?_); rintro e w7 ⟨ad7, c7, rfl, ho7, hrd7, hcap7, hb7⟩; have hrd7 := Lib.hid hrd7; have hb7 := Lib.hid hb7; clear ho7))
    have K7 := Lib.hid (below_on hB4.out ((hb6.out.trans (hb7.out.mono hb6.out.size)).mono (Nat.le_refl _)))
    have R4 := Lib.hid ((hrd4.out.below hb6.out).below hb7.out)
    have R6 := Lib.hid (hr6.out.below hb7.out)
    clear hrd4 hr6 hb6 hb7 hB4 hb5 ho5 ho6 S9 S3 hbc HM
    go_cut [86] (fun v86 wd => v86 = .bool false ∧ Below w.heap.size w wd)
    case first =>
      go_wp2_with (first
        | (go_at_call 19; (with_reducible refine (O1.out _ _ _ _ ?r hcap4 ?r2).mono ?_); (case r => exact R4.out.below (below_alloc (Below.refl _ _) _)); (case r2 => exact lit2 5 6 rfl); rintro e w8 ⟨rfl, hb8⟩; have K8 := Lib.hid (below_new (Below.refl _ _) _ hb8); clear hb8)
        | (go_at_call 20; (with_reducible refine (F1.out _ _ _ _ ?r hcap6 ?r2).mono ?_); (case r => exact (R6.out.below K8.out).below (below_alloc (Below.refl _ _) _)); (case r2 => exact lit2 5 6 rfl); rintro e w9 ⟨rfl, hb9⟩; have K9 := Lib.hid (below_new K8.out _ hb9); clear hb9)
        | (go_at_call 19; (with_reducible refine (O2.out _ _ _ ?r hcap6).mono ?_); (case r => exact R6.out.below K9.out); rintro e w10 ⟨rfl, hb10⟩; have K10 := Lib.hid (below_on K9.out hb10); clear hb10)
        | ((with_reducible refine gate_dst (N := 83) rfl ?_); (refine gate_guard (by rfl) ?_; dsimp only); refine print_append_row (w0 := w7) w7.heap.size rfl (.tmp 81) (.tmp 82) 22 5 .u8 1 rfl Try.underlying22 Try.infoU8 (by decide) _ [1, 2] lc (some ad7) _ c7 rfl rfl (own_lit w10 w7.heap.size 5 .u8 [1, 2] K10.out.size (by simp)) ((hrd7.out.below K10.out).below (below_alloc (Below.refl _ _) _)) (below_alloc K10.out _) (le_alloc K10.out.size _) (by simp) ?_; intro v11 w11 ho11 hb11 hg11 hat11; have ho11 := ownB_eq ho11 HN.out; obtain ⟨A11, c11, rfl, hr11⟩ := own_reads ho11; have hcap11 : ln.length ≤ c11 := own_cap ho11; rw [HL.out.2.2.2] at hr11 hcap11 ⊢; have hr11 := Lib.hid hr11; have hb11 := Lib.hid hb11; clear hg11 hat11 ho11)
        | (go_at_call 21; (with_reducible refine (K1.out _ _ _ ?r hcap11).mono ?_); (case r => exact hr11.out); rintro e w12 ⟨rfl, hb12⟩; have K12 := Lib.hid (below_on hb11.out hb12); clear hb12))
      go_meet
      case rel => exact ⟨rfl, below_on K7.out K12.out⟩
    case rest =>
      obtain ⟨rfl, hbd⟩ := hcut
      clear K7 R4 R6 hrd7 O1 O2 F1 K1 hcap4 hcap6 hcap7 HN HL
      have hbd := Lib.hid hbd
      go_wp2_with (first
        | (go_at_call 19; (with_reducible refine (O3.out _).mono ?_); rintro e x1 ⟨rfl, hb1⟩; have K1 := Lib.hid (below_on hbd.out hb1); clear hb1)
        | (go_at_call 19; (with_reducible refine (O4.out _ _ ?r).mono ?_); (case r => exact lit2 82 1 rfl); rintro e x2 ⟨rfl, hb2⟩; have K2' := Lib.hid (below_new K1.out _ hb2); clear hb2)
        | (go_at_call 19; (with_reducible refine (O5.out _ _ ?r).mono ?_); (case r => exact lit2 82 0 rfl); rintro e x3 ⟨rfl, hb3⟩; have K3 := Lib.hid (below_new K2'.out _ hb3); clear hb3)
        | (go_at_call 19; (with_reducible refine (O6.out _ _ ?r).mono ?_); (case r => exact lit4 82 1 128 0 rfl); rintro e x4 ⟨rfl, hb4⟩; have K4 := Lib.hid (below_new K3.out _ hb4); clear hb4)
        | (go_at_call 19; (with_reducible refine (O7.out _ _ ?r).mono ?_); (case r => exact lit8 82 1 1 7 0 0 0 0 rfl); rintro e x5 ⟨rfl, hb5⟩; have K5 := Lib.hid (below_new K4.out _ hb5); clear hb5)
        | (go_at_call 14; (with_reducible refine (L1.out _).mono ?_); rintro e x6 ⟨rfl, hb6⟩; have K6 := Lib.hid (below_on K5.out hb6); clear hb6)
        | (go_at_call 21; (with_reducible refine (K2.out _ _ ?r).mono ?_); (case r => exact lit1 82 rfl); rintro e x7 ⟨rfl, hb7⟩; have K7 := Lib.hid (below_new K6.out _ hb7); clear hb7))
      go_ret
      exact ⟨rfl, K7.out⟩
end Go.Proofs.Ytaiainlkgfpcmaa.H
