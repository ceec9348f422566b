/- FrameHolds, walked: it returns true for all arguments. -/
import Derived.Test.YtaiainlkgfpcmaaHknown
import Derived.Test.YtaiainlkgfpcmaaFp5
namespace Go.Proofs.Ytaiainlkgfpcmaa.H
open Go.RowKit Go.Proofs.YtaiainlkgfpcmaaW.PrintWords Go.Proofs.YtaiainlkgfpcmaaW.PrintMore Go.Proofs.Ytaiainlkgfpcmaa.PFa
set_option maxRecDepth 100000

theorem take_reads {W : World} {A : Option Addr} {n j : Nat} {l : List Int} (h : ReadsInt W .u8 A n l) (hj : j ≤ n) : ReadsInt W .u8 A j (l.take j) := by
  obtain ⟨h1, h2, h3⟩ := h
  refine ⟨by rw [List.length_take]; omega, by omega, fun hp => ?_⟩
  obtain ⟨ad, e, hc⟩ := h3 (by omega)
  refine ⟨ad, e, fun i hi => ?_⟩
  rw [hc i (by omega)]
  simp [List.getD_eq_getElem?_getD, List.getElem?_take_of_lt hi]
theorem run_max (ats : Array TypeId) (ty : TypeId) (a b m : Int) (h : m = if a < b then b else a) (W : World) : (Builtin.max_ ats ty #[.int .i64 a, .int .i64 b]).run Try.prog W = .ok (.int .i64 m) W := by
  subst h
  rw [max_two]
  simp [max2_int]
def OpenAt (W : World) (k : Int) (c : List Int) (x : Int) (e : Ending) (w' : World) : Prop := ∃ A n cc, e = .returned (.tuple #[.int .i64 k, .slice A n cc, .int .i64 x]) ∧ ReadsInt w' .u8 A n c ∧ n ≤ cc ∧ Below W.heap.size W w'
theorem open_n {A : Option Addr} {n c : Nat} {l cd : List Int} {k x : Int} {W : World} (hr : ReadsInt W .u8 A n l) (hc : n ≤ c) (hb : ∀ y ∈ l, 0 ≤ y ∧ y ≤ 255) (hl : n ≤ 1000) (h : openR l = (k, cd, x)) :
    Calls Try.prog 22 #[.slice A n c] W (OpenAt W k cd x) := by
  obtain rfl := hr.1
  refine (frame_Open.calls A c l k cd x W (C_ofReads hr) hc (by rw [open_eq l hb (by omega), h])).mono ?_
  rintro e w' ⟨v, rfl, hR, hB⟩
  obtain ⟨A1, c1, rfl, hc1, hC⟩ := Kd.R_reads hR
  exact ⟨A1, _, c1, rfl, reads_ofC hC, hc1, hB⟩
theorem holds_len {k : Int} {a : List Int} (h : a.length ≤ 60) : (sealS k a).length = 7 + a.length := by
  rw [sealS_len, varB_len _ (by omega), if_pos (by omega)]; omega
theorem prefix_short {k : Int} {a : List Int} {j : Nat} (k0 : 1 ≤ k) (k1 : k ≤ 255) (ha : a.length ≤ 60) (hab : ∀ x ∈ a, 0 ≤ x ∧ x ≤ 255) (hj : j < (sealS k a).length) :
    redpencillaw19_opens.f ((sealS k a).take j) 0 [] 4 = some true ∧ redpencillaw19_firsts.f ((sealS k a).take j) 0 [] 0 4 = some true := by
  have hb : ∀ y ∈ (sealS k a).take j, 0 ≤ y ∧ y ≤ 255 := fun y hy => sealS_bytes k a k0 k1 hab y (List.mem_of_mem_take hy)
  have hs := refFirst_short k a j k0 (by omega) hj
  have hl := holds_len (k := k) ha
  exact ⟨opens_true hb (by rw [List.length_take]; omega) (openR_err hs (by decide)), firsts_true hb (by rw [List.length_take]; omega) hs⟩
theorem openR_bad {l : List Int} (h : (refFirst l).2.2.2 ≠ 0) : (openR l).2.2 ≠ 0 := by
  rw [openR, if_neg (fun h2 => h h2.1)]
  exact h
/-- What Open accepts is sealed to the same bytes. -/
theorem openR_ok {l : List Int} (hb : ∀ x ∈ l, 0 ≤ x ∧ x ≤ 255) (hl : l.length ≤ 1000) (h : (openR l).2.2 = 0) : redpencillaw19_seals.f (openR l).1 (openR l).2.1 l 0 = some true := by
  unfold openR at h ⊢
  split at h
  · simp at h
  · rename_i hn
    rw [if_neg hn]
    have h0 : (refFirst l).2.2.2 = 0 := h
    obtain ⟨k, c, k0, k1, hc, hcb, hsl, ht, hR⟩ := refFirst_inv l hb h0
    rw [hR] at hn ⊢
    have hlen : (sealS k c).length = l.length := by
      simp only [true_and] at hn
      omega
    rw [hlen, List.take_length] at ht
    refine seals_true hcb ?_
    rw [sealF_ok k0 k1 hc, ht]

theorem spoil_at {k : Int} {a : List Int} (k0 : 1 ≤ k) (k1 : k ≤ 255) (ha : a.length ≤ 60) (hab : ∀ x ∈ a, 0 ≤ x ∧ x ≤ 255) {i : Nat} (hi : i < (sealS k a).length) (hi0 : i ≠ 0) (hi2 : i ≠ 2) {v : Int} (v0 : 0 ≤ v) (v1 : v ≤ 255) (hv : v ≠ rd (sealS k a) i) :
    (openR ((sealS k a).set i v)).2.2 ≠ 0 := by
  refine openR_bad (spoilt_one k a k0 k1 (by omega) hab i hi hi0 hi2 v v0 v1 ?_)
  rw [← rd_eq_getElem hi]
  exact hv

set_option maxHeartbeats 3200000 in
theorem holds_main (k o q1 q2 : Int) (A2 A3 A4 : Option Addr) (n2 n3 n4 c2 c3 c4 : Nat) (a b p : List Int) (w : World) (hr2 : ReadsInt w .u8 A2 n2 a) (hr3 : ReadsInt w .u8 A3 n3 b) (hr4 : ReadsInt w .u8 A4 n4 p) (hc2 : n2 ≤ c2) (hc4 : n4 ≤ c4)
    (ha : ∀ x ∈ a, 0 ≤ x ∧ x ≤ 255) (hb : ∀ x ∈ b, 0 ≤ x ∧ x ≤ 255) (hp : ∀ x ∈ p, 0 ≤ x ∧ x ≤ 255) (k0 : 1 ≤ k) (k1 : k ≤ 255) (o0 : 1 ≤ o) (o1 : o ≤ 255) (l2 : n2 ≤ 60) (l3 : n3 ≤ 60) (l4 : n4 ≤ 100)
    (q10 : 0 ≤ q1) (q11 : q1 ≤ 255) (q20 : 0 ≤ q2) (q21 : q2 ≤ 255) :
    Calls Try.prog 8 #[.int .i64 k, .int .i64 o, .slice A2 n2 c2, .slice A3 n3 c3, .slice A4 n4 c4, .int .u8 q1, .int .u8 q2] w (TrueAt w) := by
  have hal := hr2.1
  have hbl := hr3.1
  have hpl := hr4.1
  obtain ⟨lx, hlx⟩ : ∃ lx, sealS k a = lx := ⟨_, rfl⟩
  obtain ⟨ly, hly⟩ : ∃ ly, sealS o b = ly := ⟨_, rfl⟩
  have hSx : sealF k a = (lx, 0) := hlx ▸ sealF_ok k0 k1 (by omega)
  have hSy : sealF o b = (ly, 0) := hly ▸ sealF_ok o0 o1 (by omega)
  have hxl : lx.length = 7 + n2 := by rw [← hlx, holds_len (by omega), hal]
  have hyl : ly.length = 7 + n3 := by rw [← hly, holds_len (by omega), hbl]
  obtain ⟨mx, hmx⟩ : ∃ mx, lx.length = mx := ⟨_, rfl⟩
  obtain ⟨my, hmy⟩ : ∃ my, ly.length = my := ⟨_, rfl⟩
  have hxb : ∀ x ∈ lx, 0 ≤ x ∧ x ≤ 255 := hlx ▸ sealS_bytes k a k0 k1 ha
  have hyb : ∀ x ∈ ly, 0 ≤ x ∧ x ≤ 255 := hly ▸ sealS_bytes o b o0 o1 hb
  have ko : redpencillaw19_opens.f lx k a 0 = some true := hlx ▸ opens_true (sealS_bytes k a k0 k1 ha) (by rw [hlx]; omega) (openR_seal k a k0 (by omega))
  have hpre : ∀ j, j < mx → redpencillaw19_opens.f (lx.take j) 0 [] 4 = some true ∧ redpencillaw19_firsts.f (lx.take j) 0 [] 0 4 = some true := fun j hj => by
    have := prefix_short (j := j) k0 k1 (show a.length ≤ 60 by omega) ha (by rw [hlx]; omega)
    rwa [hlx] at this
  obtain ⟨lm, hlm⟩ : ∃ lm, [] ++ lx ++ ly = lm := ⟨_, rfl⟩
  have hml : lm.length = mx + my := by rw [← hlm]; simp; omega
  have hmb : ∀ x ∈ lm, 0 ≤ x ∧ x ≤ 255 := fun x hx => by
    rw [← hlm] at hx
    simp only [List.nil_append, List.mem_append] at hx
    exact hx.elim (hxb x) (hyb x)
  have kf : redpencillaw19_firsts.f lm k a (mx : Int) 0 = some true := firsts_true hmb (by omega) (by
    rw [← hlm, List.nil_append, ← hlx, refFirst_seal k a _ k0 (by omega), hlx, hmx])
  have ks : redpencillaw19_seeks.f 200 lm 0 0 = some true := seeks_true hmb (by omega) (by rw [← hlm, List.nil_append, ← hlx]; exact seekR_seal k a _ k0 (by omega)) 200 (by omega)
  obtain ⟨mm, hmm⟩ : ∃ mm, lm.length = mm := ⟨_, rfl⟩
  have hmm2 : mm ≤ 134 := by omega
  have hmx1 : mx ≤ 7 + n2 := by omega
  have hmx2 : 7 + n2 ≤ mx := by omega
  have hmy1 : my ≤ 7 + n3 := by omega
  have hmy2 : 7 + n3 ≤ my := by omega
  have hdx : ((mx : Int) != 7 + (n2 : Int)) = false := by rw [bne_eq_false_iff_eq]; omega
  have hdy : ((my : Int) != 7 + (n3 : Int)) = false := by rw [bne_eq_false_iff_eq]; omega
  have hop := fun i (hi : i < mx) (h0 : i ≠ 0) (h2 : i ≠ 2) (v : Int) (v0 : 0 ≤ v) (v1 : v ≤ 255) (hv : v ≠ rd lx i) => by
    have := spoil_at (i := i) (v := v) k0 k1 (show a.length ≤ 60 by omega) ha (by rw [hlx]; omega) h0 h2 v0 v1 (by rw [hlx]; exact hv)
    rwa [hlx] at this
  have hpo : (openR p).2.2 = 0 → redpencillaw19_seals.f (openR p).1 (openR p).2.1 p 0 = some true := openR_ok hp (by omega)
  have SX := Lib.hid (fun (W : World) (hr : ReadsInt W .u8 A2 n2 a) => seal_n hr (c := c2) ha hSx hmx (by omega))
  have SY := Lib.hid (fun (W : World) (hr : ReadsInt W .u8 A3 n3 b) => seal_n hr (c := c3) hb hSy hmy (by omega))
  have O1 := Lib.hid (fun (W : World) (A : Option Addr) (c : Nat) (h : ReadsInt W .u8 A mx lx) (hc : mx ≤ c) (h2 : ReadsInt W .u8 A2 n2 a) => opens_n h hc h2 hc2 ko)
  have OJ := Lib.hid (fun (W : World) (A : Option Addr) (c j : Nat) (hj : j < mx) (h : ReadsInt W .u8 A mx lx) (hc : mx ≤ c) => opens_n (take_reads h (Nat.le_of_lt hj)) (Nat.le_trans (Nat.le_of_lt hj) hc) (nil_reads W) (Nat.le_refl 0) (hpre j hj).1)
  have FJ := Lib.hid (fun (W : World) (A : Option Addr) (c j : Nat) (hj : j < mx) (h : ReadsInt W .u8 A mx lx) (hc : mx ≤ c) => firsts_n (take_reads h (Nat.le_of_lt hj)) (Nat.le_trans (Nat.le_of_lt hj) hc) (nil_reads W) (Nat.le_refl 0) (hpre j hj).2)
  have F1 := Lib.hid (fun (W : World) (A : Option Addr) (c : Nat) (h : ReadsInt W .u8 A mm lm) (hc : mm ≤ c) (h2 : ReadsInt W .u8 A2 n2 a) => firsts_n h hc h2 hc2 kf)
  have K1 := Lib.hid (fun (W : World) (A : Option Addr) (c : Nat) (h : ReadsInt W .u8 A mm lm) (hc : mm ≤ c) => seeks_n 200 h hc ks)
  have R2 := Lib.hid hr2
  have R3 := Lib.hid hr3
  have R4 := Lib.hid hr4
  have HM := Lib.hid hlm
  have HL := Lib.hid (And.intro hmx (And.intro hmy hmm))
  have HOP := Lib.hid hop
  have HPO := Lib.hid hpo
  have HPB := Lib.hid hp
  have HXB := Lib.hid hxb
  clear hSx hSy hlx hly ko hpre kf ks hxl hyl hmx hmy hmm hml hmb hlm hop hpo hr2 hr3 hr4 hal hbl hpl hxb hyb hp ha hb
  have hd1 : decide (k < 1) = false := decide_eq_false (by omega)
  have hd2 : decide (255 < k) = false := decide_eq_false (by omega)
  have hd3 : decide (o < 1) = false := decide_eq_false (by omega)
  have hd4 : decide (255 < o) = false := decide_eq_false (by omega)
  have hd5 : decide (60 < n2) = false := decide_eq_false (by omega)
  have hd6 : decide (60 < n3) = false := decide_eq_false (by omega)
  have hd7 : decide (100 < n4) = false := decide_eq_false (by omega)
  go_enter Try.func8, Try.ntmps8
  go_upto_region 7 with (first
    | (go_at_call 18; (with_reducible refine (SX.out _ ?r).mono ?_); (case r => exact R2.out); rintro e w1 ⟨adx, cx, rfl, ho1, hrd1, hcap1, hb1⟩; have B1 := Lib.hid hb1; have X1 := Lib.hid hrd1; clear ho1 hb1 hrd1)
    | (go_at_call 18; (with_reducible refine (SY.out _ ?r).mono ?_); (case r => exact R3.out.below B1.out); rintro e w2 ⟨ady, cy, rfl, ho2, hrd2, hcap2, hb2⟩; have B2 := Lib.hid (below_on B1.out hb2); have X2 := Lib.hid (X1.out.below hb2); have Y2 := Lib.hid hrd2; clear ho2 hb2 hrd2)
    | (go_at_call 19; (with_reducible refine (O1.out _ _ _ ?r hcap1 ?r2).mono ?_); (case r => exact X2.out); (case r2 => exact R2.out.below B2.out); rintro e w3 ⟨rfl, hb3⟩; have B3 := Lib.hid (below_on B2.out hb3); have X3 := Lib.hid (X2.out.below hb3); have Y3 := Lib.hid (Y2.out.below hb3); clear hb3))
  go_wp2_with fail
  go_loopw [19] (fun i wr => ∃ j : Nat, j ≤ mx ∧ i = .int .i64 j ∧ Hid (Below w3.heap.size w3 wr)) (fun i _ => mx - (intOf i).toNat)
  case atStart => exact ⟨0, by omega, rfl, Below.refl _ _⟩
  case round =>
    obtain ⟨j, hj, rfl, hB⟩ := hrel
    by_cases hlt : j < mx
    · have hsl := slice_h (some adx) mx cx j (by omega)
      go_wp2_with (first
        | (go_at_call 19; (with_reducible refine (OJ.out _ _ _ _ hlt ?r hcap1).mono ?_); (case r => exact X3.out.below hB.out); rintro e w4 ⟨rfl, hb4⟩; have B4 := Lib.hid (below_on hB.out hb4); clear hb4)
        | (go_at_call 20; (with_reducible refine (FJ.out _ _ _ _ hlt ?r hcap1).mono ?_); (case r => exact X3.out.below B4.out); rintro e w5 ⟨rfl, hb5⟩; have B5 := Lib.hid (below_on B4.out hb5); clear hb5))
      go_roundw
      case rel => exact ⟨j + 1, by omega, by go_num, B5.out⟩
      case measure => simp [intOf]; omega
    · obtain rfl : mx = j := by omega
      clear OJ FJ SX SY O1
      go_upto_region 14 with (first
        | (at_builtin; refine print_append_row (w0 := wr) wr.heap.size rfl (.const (.slice none 0 0)) (.tmp 117) 22 5 .u8 1 rfl Try.underlying22 Try.infoU8 (by decide) _ [] lx (some adx) _ cx rfl rfl (own_nil _ _ _ _) (X3.out.below hB.out) (Below.refl _ _) (Nat.le_refl _) (by simp; omega) ?_; intro v5 w5 ho5 hb5 hg5 hat5; have ho5 := Lib.hid ho5; have hb5 := Lib.hid hb5; clear hg5 hat5)
        | (at_builtin; refine print_append_row (w0 := wr) wr.heap.size rfl (.tmp 118) (.tmp 119) 22 5 .u8 1 rfl Try.underlying22 Try.infoU8 (by decide) _ ([] ++ lx) ly (some ady) _ cy rfl rfl ho5.out (Y3.out.below (below_on hB.out hb5.out)) hb5.out hb5.out.size (by have := HL.out.1; simp; omega) ?_; intro v6 w6 ho6 hb6 hg6 hat6; have ho6 := ownB_eq ho6 HM.out; obtain ⟨A6, c6, rfl, hr6⟩ := own_reads ho6; have hcap6 : lm.length ≤ c6 := own_cap ho6; rw [HL.out.2.2] at hr6 hcap6 ⊢; have hr6 := Lib.hid hr6; have hb6 := Lib.hid (below_on hB.out hb6); clear hg6 hat6 ho6)
        | (go_at_call 20; (with_reducible refine (F1.out _ _ _ ?r hcap6 ?r2).mono ?_); (case r => exact hr6.out); (case r2 => exact R2.out.below (below_on B3.out hb6.out)); rintro e w7 ⟨rfl, hb7⟩; have hb7 := Lib.hid (below_on hb6.out hb7))
        | ((with_reducible refine gate_dst (N := 129) rfl ?_); (refine gate_guard (by rfl) ?_; dsimp only); refine print_append_row (w0 := w7) w7.heap.size rfl (.const (.slice none 0 0)) (.tmp 128) 22 5 .u8 1 rfl Try.underlying22 Try.infoU8 (by decide) _ [] lx (some adx) _ cx rfl rfl (own_nil _ _ _ _) (X3.out.below hb7.out) (Below.refl _ _) (Nat.le_refl _) (by simp; omega) ?_; intro v8 w8 ho8 hb8 hg8 hat8; have ho8 := Lib.hid ho8; have hb8 := Lib.hid hb8; clear hg8 hat8)
        | ((with_reducible refine gate_dst (N := 131) rfl ?_); (refine gate_guard (by rfl) ?_; dsimp only); refine print_append_row (w0 := w7) w7.heap.size rfl (.tmp 129) (.tmp 130) 22 5 .u8 1 rfl Try.underlying22 Try.infoU8 (by decide) _ ([] ++ lx) ly (some ady) _ cy rfl rfl ho8.out (Y3.out.below (below_on hb7.out hb8.out)) hb8.out hb8.out.size (by have := HL.out.1; simp; omega) ?_; intro v9 w9 ho9 hb9 hg9 hat9; have ho9 := ownB_eq ho9 HM.out; obtain ⟨A9, c9, rfl, hr9⟩ := own_reads ho9; have hcap9 : lm.length ≤ c9 := own_cap ho9; rw [HL.out.2.2] at hr9 hcap9 ⊢; have hr9 := Lib.hid hr9; have hb9 := Lib.hid (below_on hb7.out hb9); clear hg9 hat9 ho9)
        | (go_at_call 21; (with_reducible refine (K1.out _ _ _ ?r hcap9).mono ?_); (case r => exact hr9.out); rintro e w10 ⟨rfl, hb10⟩; have hb10 := Lib.hid (below_on hb9.out hb10)))
      have hqr := Int.emod_nonneg q1 (show ((mx : Int) - 2) ≠ 0 by omega)
      have hqs := Int.emod_lt_of_pos q1 (show 0 < ((mx : Int) - 2) by omega)
      obtain ⟨q, hq⟩ : ∃ q : Nat, q1 % ((mx : Int) - 2) = (q : Int) := ⟨(q1 % ((mx : Int) - 2)).toNat, (Int.toNat_of_nonneg hqr).symm⟩
      have hq2 : q + 3 ≤ mx := by omega
      clear hqr hqs
      obtain ⟨m, hm0, hm1, hm⟩ : ∃ m : Int, 1 ≤ m ∧ m ≤ 255 ∧ m = (if (1 : Int) < q2 then q2 else 1) := ⟨_, by split <;> omega, by split <;> omega, rfl⟩
      have hmax := run_max #[3, 3] 3 1 q2 m hm
      clear hm
      by_cases hq0 : 0 < q
      all_goals
        first
          | (have hd8 : decide ((1 : Int) < 1 + (q : Int)) = true := decide_eq_true (by omega)
             go_upto_region 17 with fail
             obtain ⟨I, hI, hI1, hI2, hI3⟩ : ∃ I : Nat, 1 + (q : Int) + 1 = (I : Int) ∧ I < mx ∧ I ≠ 0 ∧ I ≠ 2 := ⟨q + 2, by omega, by omega, by omega, by omega⟩
             simp only [hI])
          | (have hd8 : decide ((1 : Int) < 1 + (q : Int)) = false := decide_eq_false (by omega)
             go_upto_region 17 with fail
             obtain ⟨I, hI, hI1, hI2, hI3⟩ : ∃ I : Nat, 1 + (q : Int) = (I : Int) ∧ I < mx ∧ I ≠ 0 ∧ I ≠ 2 := ⟨q + 1, by omega, by omega, by omega, by omega⟩
             simp only [hI])
      all_goals
        clear hq hI hd8 hq0
        go_upto_region 18 with (at_builtin; refine print_append_row (w0 := w10) w10.heap.size rfl (.const (.slice none 0 0)) (.tmp 146) 22 5 .u8 1 rfl Try.underlying22 Try.infoU8 (by decide) _ [] lx (some adx) _ cx rfl rfl (own_nil _ _ _ _) (X3.out.below hb10.out) (Below.refl _ _) (Nat.le_refl _) (by simp; omega) ?_; intro v11 w11 ho11 hb11 hg11 hat11; have ho11 : w11.ownsRow w10.heap.size 5 1 v11 mx (nums .u8 lx) := (by have h := ownB_eq ho11 (List.nil_append lx); unfold OwnB at h; rw [HL.out.1] at h; exact h); obtain ⟨gz, cz, rfl, hgb, hgl⟩ := ho11.form (by omega); have hcz := own_cap ho11; have ho11 := Lib.hid ho11; have hb11 := Lib.hid hb11; clear hg11 hat11)
        have hcI := own_at ho11.out (I : Int) (by omega) (by omega)
        rw [Int.toNat_natCast] at hcI
        obtain ⟨hci, hfi⟩ := hcI
        have hxr := bytes_rd HXB.out I
        obtain ⟨x0, hx0⟩ : ∃ x0, rd lx (I : Int) = x0 := ⟨_, rfl⟩
        rw [hx0] at hci hxr
        have HX0 := Lib.hid hx0
        clear hx0
        go_upto_region 19 with fail
        obtain ⟨V, hV, hV0, hV1, hV2⟩ : ∃ V : Int, (x0 + m) % 256 = V ∧ 0 ≤ V ∧ V ≤ 255 ∧ V ≠ x0 := ⟨_, rfl, by omega, by omega, by omega⟩
        simp only [hV]
        have hst := own_store ho11.out (I : Int) V
        rw [Int.toNat_natCast] at hst
        obtain ⟨hs1, hs2⟩ := hst
        have hrz := own_reads' hs1
        have hBz := hb11.out.setCell (p := ⟨gz, I, none⟩) hgb (.int .u8 V)
        obtain ⟨w12, hw12⟩ : ∃ w12, w11.setCell ⟨gz, I, none⟩ (.int .u8 V) = w12 := ⟨_, rfl⟩
        rw [hw12] at hrz hBz ⊢
        clear hs1 hs2 hw12 hci hfi hV hmax
        have hz := HOP.out I hI1 hI2 hI3 V hV0 hV1 (by rw [HX0.out]; exact hV2)
        have hzb : ∀ y ∈ lx.set I V, 0 ≤ y ∧ y ≤ 255 := fun y hy => by
          rcases List.mem_or_eq_of_mem_set hy with h | rfl
          · exact HXB.out y h
          · exact ⟨hV0, hV1⟩
        obtain ⟨z1, zc, z3, hR⟩ : ∃ z1 zc z3, openR (lx.set I V) = (z1, zc, z3) := ⟨_, _, _, rfl⟩
        rw [hR] at hz
        have hz3 : (z3 == 0) = false := beq_eq_false_iff_ne.2 hz
        have Z := Lib.hid (open_n hrz hcz hzb (by omega) hR)
        have hBz := Lib.hid (below_on hb10.out hBz)
        obtain ⟨s1, sc, s3, hRp⟩ : ∃ s1 sc s3, openR p = (s1, sc, s3) := ⟨_, _, _, rfl⟩
        have hpo := HPO.out
        rw [hRp] at hpo
        have P := Lib.hid (fun (W : World) (hr : ReadsInt W .u8 A4 n4 p) => open_n hr hc4 HPB.out (by omega) hRp)
        have N := Lib.hid (fun (W : World) => known_any W)
        clear hrz hzb hR hz hV0 hV1 hV2 HOP HPO HX0 hRp hxr hm0 hm1 hI1 hI2 hI3
        by_cases hs0 : s3 = 0
        · have hsl := hpo hs0
          subst hs0
          have S := Lib.hid (fun (W : World) (A : Option Addr) (n c : Nat) (h : ReadsInt W .u8 A n sc) (hc : n ≤ c) (h2 : ReadsInt W .u8 A4 n4 p) => seals_n h hc h2 hc4 hsl)
          clear hpo hsl
          go_wp2_with (first
            | (go_at_call 22; (with_reducible refine (Z.out).mono ?_); rintro e w13 ⟨A13, n13, c13, rfl, hr13, hc13, hb13⟩; have hb13 := Lib.hid (below_on hBz.out hb13); clear hr13)
            | (go_at_call 22; (with_reducible refine (P.out _ ?r).mono ?_); (case r => exact R4.out.below (below_on B3.out hb13.out)); rintro e w14 ⟨A14, n14, c14, rfl, hr14, hc14, hb14⟩; have hb14 := Lib.hid (below_on hb13.out hb14); have hr14 := Lib.hid hr14)
            | (go_at_call 14; (with_reducible refine (S.out _ _ _ _ ?r hc14 ?r2).mono ?_); (case r => exact hr14.out); (case r2 => exact R4.out.below (below_on B3.out hb14.out)); rintro e w15 ⟨rfl, hb15⟩; have hb15 := Lib.hid (below_on hb14.out hb15))
            | (go_at_call 13; (with_reducible refine (N.out _).mono ?_); rintro e w16 ⟨rfl, hb16⟩; have hb16 := Lib.hid (below_on hb15.out hb16)))
          go_ret
          exact ⟨rfl, below_on B3.out hb16.out⟩
        · have hs3 : (s3 == 0) = false := beq_eq_false_iff_ne.2 hs0
          clear hpo hs0
          go_wp2_with (first
            | (go_at_call 22; (with_reducible refine (Z.out).mono ?_); rintro e w13 ⟨A13, n13, c13, rfl, hr13, hc13, hb13⟩; have hb13 := Lib.hid (below_on hBz.out hb13); clear hr13)
            | (go_at_call 22; (with_reducible refine (P.out _ ?r).mono ?_); (case r => exact R4.out.below (below_on B3.out hb13.out)); rintro e w14 ⟨A14, n14, c14, rfl, hr14, hc14, hb14⟩; have hb14 := Lib.hid (below_on hb13.out hb14); clear hr14)
            | (go_at_call 13; (with_reducible refine (N.out _).mono ?_); rintro e w16 ⟨rfl, hb16⟩; have hb16 := Lib.hid (below_on hb14.out hb16)))
          go_ret
          exact ⟨rfl, below_on B3.out hb16.out⟩
set_option maxHeartbeats 1600000 in
theorem holds_out (k o q1 q2 : Int) (A2 A3 A4 : Option Addr) (n2 n3 n4 c2 c3 c4 : Nat) (w : World) (h : k < 1 ∨ 255 < k ∨ o < 1 ∨ 255 < o ∨ 60 < n2 ∨ 60 < n3 ∨ 100 < n4) :
    Calls Try.prog 8 #[.int .i64 k, .int .i64 o, .slice A2 n2 c2, .slice A3 n3 c3, .slice A4 n4 c4, .int .u8 q1, .int .u8 q2] w (TrueAt w) := by
  have N := Lib.hid (fun (W : World) => known_any W)
  by_cases h1 : k < 1
  · have hd : decide (k < 1) = true := decide_eq_true h1
    clear h h1
    go_enter Try.func8, Try.ntmps8
    go_wp2_with (go_at_call 13; (with_reducible refine (N.out _).mono ?_); rintro e w1 ⟨rfl, hb1⟩)
    go_ret
    exact ⟨rfl, hb1⟩
  have hd1 : decide (k < 1) = false := decide_eq_false h1
  by_cases h2 : 255 < k
  · have hd : decide (255 < k) = true := decide_eq_true h2
    clear h h1 h2
    go_enter Try.func8, Try.ntmps8
    go_wp2_with (go_at_call 13; (with_reducible refine (N.out _).mono ?_); rintro e w1 ⟨rfl, hb1⟩)
    go_ret
    exact ⟨rfl, hb1⟩
  have hd2 : decide (255 < k) = false := decide_eq_false h2
  by_cases h3 : o < 1
  · have hd : decide (o < 1) = true := decide_eq_true h3
    clear h h1 h2 h3
    go_enter Try.func8, Try.ntmps8
    go_wp2_with (go_at_call 13; (with_reducible refine (N.out _).mono ?_); rintro e w1 ⟨rfl, hb1⟩)
    go_ret
    exact ⟨rfl, hb1⟩
  have hd3 : decide (o < 1) = false := decide_eq_false h3
  by_cases h4 : 255 < o
  · have hd : decide (255 < o) = true := decide_eq_true h4
    clear h h1 h2 h3 h4
    go_enter Try.func8, Try.ntmps8
    go_wp2_with (go_at_call 13; (with_reducible refine (N.out _).mono ?_); rintro e w1 ⟨rfl, hb1⟩)
    go_ret
    exact ⟨rfl, hb1⟩
  have hd4 : decide (255 < o) = false := decide_eq_false h4
  by_cases h5 : 60 < n2
  · have hd : decide (60 < n2) = true := decide_eq_true h5
    clear h h1 h2 h3 h4
    go_enter Try.func8, Try.ntmps8
    go_wp2_with (go_at_call 13; (with_reducible refine (N.out _).mono ?_); rintro e w1 ⟨rfl, hb1⟩)
    go_ret
    exact ⟨rfl, hb1⟩
  have hd5 : decide (60 < n2) = false := decide_eq_false h5
  by_cases h6 : 60 < n3
  · have hd : decide (60 < n3) = true := decide_eq_true h6
    clear h h1 h2 h3 h4 h5
    have h5 : n2 ≤ 60 := by simpa using hd5
    go_enter Try.func8, Try.ntmps8
    go_wp2_with (go_at_call 13; (with_reducible refine (N.out _).mono ?_); rintro e w1 ⟨rfl, hb1⟩)
    go_ret
    exact ⟨rfl, hb1⟩
  have hd6 : decide (60 < n3) = false := decide_eq_false h6
  have hd : decide (100 < n4) = true := decide_eq_true (by omega)
  have h7 : n2 ≤ 60 ∧ n3 ≤ 60 ∧ 100 < n4 := by omega
  obtain ⟨h7, h8, h9⟩ := h7
  clear h h1 h2 h3 h4 h5 h6
  go_enter Try.func8, Try.ntmps8
  go_wp2_with (go_at_call 13; (with_reducible refine (N.out _).mono ?_); rintro e w1 ⟨rfl, hb1⟩)
  go_ret
  exact ⟨rfl, hb1⟩
/-- FrameHolds returns true for all arguments. -/
theorem holds_any (k o q1 q2 : Int) (A2 A3 A4 : Option Addr) (n2 n3 n4 c2 c3 c4 : Nat) (a b p : List Int) (w : World) (hr2 : ReadsInt w .u8 A2 n2 a) (hr3 : ReadsInt w .u8 A3 n3 b) (hr4 : ReadsInt w .u8 A4 n4 p) (hc2 : n2 ≤ c2) (hc4 : n4 ≤ c4)
    (ha : ∀ x ∈ a, 0 ≤ x ∧ x ≤ 255) (hb : ∀ x ∈ b, 0 ≤ x ∧ x ≤ 255) (hp : ∀ x ∈ p, 0 ≤ x ∧ x ≤ 255) (q10 : 0 ≤ q1) (q11 : q1 ≤ 255) (q20 : 0 ≤ q2) (q21 : q2 ≤ 255) :
    Calls Try.prog 8 #[.int .i64 k, .int .i64 o, .slice A2 n2 c2, .slice A3 n3 c3, .slice A4 n4 c4, .int .u8 q1, .int .u8 q2] w (TrueAt w) := by
  rcases Classical.em (k < 1 ∨ 255 < k ∨ o < 1 ∨ 255 < o ∨ 60 < n2 ∨ 60 < n3 ∨ 100 < n4) with h | h
  · exact holds_out k o q1 q2 A2 A3 A4 n2 n3 n4 c2 c3 c4 w h
  · exact holds_main k o q1 q2 A2 A3 A4 n2 n3 n4 c2 c3 c4 a b p w hr2 hr3 hr4 hc2 hc4 ha hb hp (by omega) (by omega) (by omega) (by omega) (by omega) (by omega) (by omega) q10 q11 q20 q21
end Go.Proofs.Ytaiainlkgfpcmaa.H
