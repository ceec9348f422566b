import Derived.Test.YtaiainlkgfpcmaaHref3
import Derived.Deep.RegionHeld3
namespace Go.Proofs.Ytaiainlkgfpcmaa.H
open Go.RowKit Go.Proofs.YtaiainlkgfpcmaaW.PrintWords Go.Proofs.YtaiainlkgfpcmaaW.PrintMore
set_option maxRecDepth 100000

def refFirst (l : List Int) : Int × List Int × Int × Int :=
  if l.length = 0 then (0, [], 0, 4)
  else if rd l 0 ≠ 82 ∨ (1 < l.length ∧ rd l 1 = 0) then (0, [], 0, 12)
  else if l.length = 1 then (0, [], 0, 4)
  else if (refLen (l.drop 2)).2.2 ≠ 0 then (0, [], 0, (refLen (l.drop 2)).2.2)
  else if l.length < 2 + (refLen (l.drop 2)).2.1.toNat + (refLen (l.drop 2)).1.toNat + 4 then (0, [], 0, 4)
  else if sealS (rd l 1) ((l.take (2 + (refLen (l.drop 2)).2.1.toNat + (refLen (l.drop 2)).1.toNat)).drop (2 + (refLen (l.drop 2)).2.1.toNat)) = l.take (2 + (refLen (l.drop 2)).2.1.toNat + (refLen (l.drop 2)).1.toNat + 4) then
    (rd l 1, (l.take (2 + (refLen (l.drop 2)).2.1.toNat + (refLen (l.drop 2)).1.toNat)).drop (2 + (refLen (l.drop 2)).2.1.toNat), ((2 + (refLen (l.drop 2)).2.1.toNat + (refLen (l.drop 2)).1.toNat + 4 : Nat) : Int), 0)
  else (0, [], 0, 10)
def FirstPost (w : World) (r : Int × List Int × Int × Int) (e : Ending) (w' : World) : Prop :=
  ∃ v, e = .returned (.tuple #[.int .i64 r.1, v, .int .i64 r.2.2.1, .int .i64 r.2.2.2]) ∧ OwnB w' w.heap.size v r.2.1 ∧ Below w.heap.size w w'
theorem refLenG_range (p : List Int) : ∀ (r k : Nat) (n : Int), 0 ≤ n → (∀ x ∈ p, 0 ≤ x) → 0 ≤ (refLenG p r k n).1 ∧ (refLenG p r k n).1 ≤ 1048576 ∧ 0 ≤ (refLenG p r k n).2.1 ∧ (refLenG p r k n).2.1 ≤ k + r
  | 0, k, n, _, _ => by refine ⟨?_, ?_, ?_, ?_⟩ <;> simp only [refLenG] <;> omega
  | r + 1, k, n, hn, hp => by
    have h1 : (0 : Int) ≤ rd p k % 128 * 2 ^ (7 * k) := Int.mul_nonneg (by omega) (Int.pow_nonneg (by decide))
    have ih := refLenG_range p r (k + 1) (n + rd p k % 128 * 2 ^ (7 * k)) (by omega) hp
    simp only [refLenG]
    split
    · refine ⟨?_, ?_, ?_, ?_⟩ <;> simp only <;> omega
    · split
      · split
        · refine ⟨?_, ?_, ?_, ?_⟩ <;> simp only <;> omega
        · refine ⟨?_, ?_, ?_, ?_⟩ <;> simp only <;> omega
      · refine ⟨ih.1, ih.2.1, ih.2.2.1, by omega⟩
theorem refLen_range (p : List Int) (hp : ∀ x ∈ p, 0 ≤ x) : 0 ≤ (refLen p).1 ∧ (refLen p).1 ≤ 1048576 ∧ 0 ≤ (refLen p).2.1 ∧ (refLen p).2.1 ≤ 3 := by
  have := refLenG_range p 3 0 0 (by omega) hp
  simpa [refLen] using this
theorem conv_reads {w : World} {A : Option Addr} {n c : Nat} {xs : List Int} (h : ReadsInt w .u8 A n xs) : (convert 22 9 (.slice A n c)).run Try.prog w = .ok (.string (strOfNums xs)) w :=
  string_of_reads Try.underlying22 Try.underlying5 Try.underlying9 h
theorem sealS_bytes (kind : Int) (body : List Int) (h0 : 1 ≤ kind) (h1 : kind ≤ 255) (hb : ∀ x ∈ body, 0 ≤ x ∧ x ≤ 255) : ∀ x ∈ sealS kind body, 0 ≤ x ∧ x ≤ 255 := by
  intro x hx
  rcases List.mem_append.1 hx with hx | hx
  · exact sealB_bytes kind body h0 h1 hb x hx
  · exact crcB_bytes _ (sumI_range _).1 (sumI_range _).2 x hx
theorem strOf_inj {a b : List Int} (ha : ∀ x ∈ a, 0 ≤ x ∧ x ≤ 255) (hb : ∀ x ∈ b, 0 ≤ x ∧ x ≤ 255) : (strOfNums a).toList = (strOfNums b).toList ↔ a = b := by
  constructor
  · intro h
    have e : ∀ l : List Int, (strOfNums l).toList = l.map fun n => UInt8.ofNat n.toNat := fun l => by
      rw [ByteArray.toList_eq]
      exact strOfNums_data l
    rw [e, e] at h
    induction a generalizing b with
    | nil => cases b with | nil => rfl | cons y b => simp at h
    | cons x a ih =>
      cases b with
      | nil => simp at h
      | cons y b =>
        simp only [List.map_cons, List.cons.injEq] at h
        have hx := ha x (by simp)
        have hy := hb y (by simp)
        have h5 := congrArg UInt8.toNat h.1
        simp only [UInt8.toNat_ofNat'] at h5
        rw [ih (fun z hz => ha z (by simp [hz])) (fun z hz => hb z (by simp [hz])) h.2, show x = y by omega]
  · rintro rfl; rfl

/-- 'append(v, ys...)' of bytes in a region that draws. -/
theorem app_step {ops : Array Oper} {o : Oper} {a : Act} {Q : Exit → Act → World → Prop} {K : Act → World → Prop} {E : Prop} {w0 W : World} (base : Nat) (hgd : o.guard = none) (s x : Operand)
    (ho : o.op = .call { callee := .builtin .append, args := #[s, x], argTypes := #[22, 22] })
    (v : Value) (xs ys : List Int) (A : Option Addr) (m c : Nat) (hs : a.eval s = v) (hx : a.eval x = .slice A m c) (HO : OwnB W base v xs) (HR : ReadsInt W .u8 A m ys) (HB : Below base w0 W) (hl : xs.length + m ≤ 140737488355328)
    (hbase : base ≤ W.heap.size)
    (h : ∀ v1 w1, OwnB w1 base v1 (xs ++ ys) → Below base w0 w1 → W.grownBy w1 v.ownBlock → K (a.put o.dst v1) w1) :
    if Region.wanted o (yielded ops a.tmps) = true then Oper.wp Try.prog o a W K Q else E := by
  have hw : Region.wanted o (yielded ops a.tmps) = true := by simp [Region.wanted, hgd]
  have := Kd.R_append_rows_step (ops := ops) (Kc := K) (Q := Q) (Kd.int .u8) (w0 := w0) (W := W) base hw s x 22 5 (.int .u8 0) 1 ho Try.underlying22 Try.infoU8 rfl (by decide) (by omega) v xs ys A m c (fun _ => True) (fun _ => False) hs hx HO.toR (C_ofReads HR) (fun _ _ h => h) (fun _ h => h.elim) (fun _ _ => trivial) HB hbase (by omega)
    (fun v1 w1 ho hb hg _ => h v1 w1 (OwnB.ofR ho) hb hg)
  rw [if_pos hw] at this ⊢
  exact this

set_option maxHeartbeats 3200000 in
theorem refFirst_any (A : Option Addr) (n c : Nat) (l : List Int) (w : World) (hr : ReadsInt w .u8 A n l) (hc : n ≤ c) (hb : ∀ x ∈ l, 0 ≤ x ∧ x ≤ 255) (hn : n ≤ 140737488355300) :
    Calls Try.prog 39 #[.slice A n c] w (FirstPost w (refFirst l)) := by
  have hnl := hr.1
  rcases Nat.eq_zero_or_pos n with rfl | hn0
  · have hF : refFirst l = (0, [], 0, 4) := by rw [refFirst, if_pos (by omega)]
    rw [hF]
    clear hr hnl hF
    go_enter Try.func39, Try.ntmps39
    go_wp2
    refine bodyPost_ret (results_list (rs := [.tmp 2, .tmp 3, .tmp 4, .tmp 5]) rfl (by simp) (.tmp (.tmp (.tmp (.tmp .nil))))) rfl ?_
    exact ⟨_, rfl, own_nil _ _ _ _, Below.refl _ _⟩
  obtain ⟨ad, rfl, hc0⟩ := reads_cell0 hr hn0
  have hn00 : ((n : Int) == 0) = false := by simp; omega
  by_cases hx : rd l 0 = 82
  · have hx0 : (rd l 0 != 82) = false := by simp [hx]
    by_cases hn1 : 1 < n
    · have hc1 := reads_cell1 hr hn1
      have hc1' := hc1
      simp only [Addr.add, Nat.reduceEqDiff, ↓reduceIte] at hc1'
      have hd1 : decide (1 < n) = true := decide_eq_true hn1
      have hn10 : ((n : Int) == 1) = false := by simp; omega
      by_cases hy : rd l 1 = 0
      · have hy0 : (rd l 1 == 0) = true := by simp [hy]
        have hF : refFirst l = (0, [], 0, 12) := by rw [refFirst, if_neg (by omega), if_pos (.inr ⟨by omega, hy⟩)]
        rw [hF]
        clear hr hnl hF hx hy
        go_enter Try.func39, Try.ntmps39
        go_wp2
        refine bodyPost_ret (results_list (rs := [.tmp 2, .tmp 3, .tmp 4, .tmp 5]) rfl (by simp) (.tmp (.tmp (.tmp (.tmp .nil))))) rfl ?_
        exact ⟨_, rfl, own_nil _ _ _ _, Below.refl _ _⟩
      · have hy0 : (rd l 1 == 0) = false := by simpa using hy
        have hx5 := bytes_rd hb 1
        have hx6 : 0 ≤ rd l 1 ∧ rd l 1 ≤ 255 := hx5
        have hb2 : ∀ x ∈ l.drop 2, 0 ≤ x ∧ x ≤ 255 := fun x hx => hb x (List.mem_of_mem_drop hx)
        have hrr := refLen_range (l.drop 2) (fun x hx => (hb2 x hx).1)
        have hrd := hr.drop_ (c := c) 2 (by omega) hc
        have hsl := slice_l (some ad) n c 2 (by omega)
        obtain ⟨A2, hA2⟩ : ∃ A2, (if c = 2 then some ad else (some ad).map (·.add 2)) = A2 := ⟨_, rfl⟩
        rw [hA2] at hsl hrd
        simp only [show ((2 : Nat) : Int) = 2 from rfl] at hsl
        clear hA2
        have hRL := Lib.hid (fun (W : World) (hW : ReadsInt W .u8 A2 (n - 2) (l.drop 2)) => refLen_any A2 (n - 2) (c - 2) (l.drop 2) W hW hb2)
        obtain ⟨many, at_, e, ht⟩ : ∃ (many at_ : Nat) (e : Int), refLen (l.drop 2) = ((many : Int), (at_ : Int), e) := by
          refine ⟨(refLen (l.drop 2)).1.toNat, (refLen (l.drop 2)).2.1.toNat, (refLen (l.drop 2)).2.2, ?_⟩
          rw [Int.toNat_of_nonneg hrr.1, Int.toNat_of_nonneg hrr.2.2.1]
        have hF : refFirst l = if e ≠ 0 then (0, [], 0, e)
            else if n < 2 + at_ + many + 4 then (0, [], 0, 4)
            else if sealS (rd l 1) ((l.take (2 + at_ + many)).drop (2 + at_)) = l.take (2 + at_ + many + 4) then (rd l 1, (l.take (2 + at_ + many)).drop (2 + at_), ((2 + at_ + many + 4 : Nat) : Int), 0)
            else (0, [], 0, 10) := by
          rw [refFirst, if_neg (by omega), if_neg (by omega), if_neg (by omega), ht, hnl]
          simp only [Int.toNat_natCast]
        rw [hF]
        rw [ht] at hrr
        have hm1 : many ≤ 1048576 := by have := hrr.2.1; simp only at this; omega
        have hm2 : at_ ≤ 3 := by have := hrr.2.2.2; simp only at this; omega
        have hRL2 := Lib.hid (show ∀ (W : World), ReadsInt W .u8 A2 (n - 2) (l.drop 2) → Calls Try.prog 69 #[.slice A2 (n - 2) (c - 2)] W fun e' w' => e' = .returned (.tuple #[.int .i64 many, .int .i64 at_, .int .i64 e]) ∧ W = w' from fun W hW => by
          have := hRL.out W hW
          rw [ht] at this
          exact this)
        clear hF ht hrr hRL hb2 hx
        by_cases he : e = 0
        · subst he
          rw [if_neg (by simp)]
          by_cases hlt : n < 2 + at_ + many + 4
          · rw [if_pos hlt]
            have hd : decide ((n : Int) < 2 + (at_ : Int) + (many : Int) + 4) = true := decide_eq_true (by omega)
            go_enter Try.func39, Try.ntmps39
            go_wp2_with (go_at_call 69; refine (hRL2.out _ hrd).mono ?_; rintro e w1 ⟨rfl, rfl⟩)
            refine bodyPost_ret (results_list (rs := [.tmp 2, .tmp 3, .tmp 4, .tmp 5]) rfl (by simp) (.tmp (.tmp (.tmp (.tmp .nil))))) rfl ?_
            exact ⟨_, rfl, own_nil _ _ _ _, Below.refl _ _⟩
          · rw [if_neg hlt]
            have hd : decide ((n : Int) < 2 + (at_ : Int) + (many : Int) + 4) = false := decide_eq_false (by omega)
            have hrf := hr.take_ (2 + at_ + many + 4) (by omega)
            have hsf := slice_h (some ad) n c (2 + at_ + many + 4) (by omega)
            simp only [show ((2 + at_ + many + 4 : Nat) : Int) = 2 + (at_ : Int) + (many : Int) + 4 from by omega] at hsf
            have hcv0 := conv_reads (w := w.drew) (c := c) hrf
            have hrb := (hr.take_ (2 + at_ + many) (by omega)).drop_ (c := c) (2 + at_) (by omega) (by omega)
            rw [if_neg (by omega), show 2 + at_ + many - (2 + at_) = many by omega] at hrb
            have hrb : ReadsInt w .u8 (some (ad.add (2 + at_))) many ((l.take (2 + at_ + many)).drop (2 + at_)) := hrb
            have hbb : ∀ x ∈ (l.take (2 + at_ + many)).drop (2 + at_), 0 ≤ x ∧ x ≤ 255 := fun x hx => hb x (List.mem_of_mem_take (List.mem_of_mem_drop hx))
            have hbf : ∀ x ∈ l.take (2 + at_ + many + 4), 0 ≤ x ∧ x ≤ 255 := fun x hx => hb x (List.mem_of_mem_take hx)
            have hsS : ∀ x ∈ sealS (rd l 1) ((l.take (2 + at_ + many)).drop (2 + at_)), 0 ≤ x ∧ x ≤ 255 := sealS_bytes _ _ (by omega) (by omega) hbb
            have hwx : IntKind.i64.wrap (rd l 1) = rd l 1 := IntWalk.i64_in _ (by omega)
            have hinj := strOf_inj hsS hbf
            have hw4 : IntKind.i64.wrap (2 + (at_ : Int) + (many : Int) + 4) = 2 + (at_ : Int) + (many : Int) + 4 := IntWalk.i64_in _ (by omega)
            generalize (l.take (2 + at_ + many)).drop (2 + at_) = body at *
            generalize l.take (2 + at_ + many + 4) = fr at *
            clear hb hsS hbf
            by_cases hseal : sealS (rd l 1) body = fr
            · rw [if_pos hseal]
              have hE : ((strOfNums (sealS (rd l 1) body)).toList == (strOfNums fr).toList) = true := beq_iff_eq.2 (hinj.2 hseal)
              clear hseal hinj
              go_enter Try.func39, Try.ntmps39
              go_wp2_with (go_at_call 69; refine (hRL2.out _ hrd).mono ?_; rintro e w1 ⟨rfl, rfl⟩)
              go_region_with (go_at_call 15; refine (refSeal_any (rd l 1) (some (ad.add (2 + at_))) many _ body _ ?_ hbb (by omega) (by omega) (by omega)).mono ?_; exact hrb; rintro e w1 ⟨v1, rfl, ho1, hb1⟩; obtain ⟨A1, c1, rfl, hr1⟩ := own_reads ho1; have hcv1 := conv_reads (c := c1) hr1; have hcvw := conv_reads (c := c) (hrf.below (undrew hb1)); have hcw1 := pw_cell_below (undrew hb1) hc1'; have hrb1 := hrb.below (undrew hb1); have hBw1 := undrew hb1)

              all_goals
                go_wp2
                clear hcv1 hcvw hcv0 hE
                have hrb1d : ReadsInt w1.drew .u8 (some (ad.add (2 + at_))) many body := hrb1
                have hBw1d : Below w.heap.size w w1.drew := below_drew hBw1
                have HOd : OwnB w1.drew w.heap.size (.slice none 0 0) [] := own_nil _ _ _ _
                have hszd : w.heap.size ≤ w1.drew.heap.size := hBw1d.size
                have hlm : ([] : List Int).length + many ≤ 140737488355328 := by simp only [List.length_nil]; omega
                go_region_held3 (fun w' => w'.cell? ⟨ad.block, ad.off + 1, none⟩ = some (.int .u8 (rd l 1))) (first | go_keep | exact pw_cell_below hb5 hc1')
                  ((refine app_step (w0 := w) w.heap.size (by rfl) (.const (.slice none 0 0)) (.tmp 73) (by rfl) (.slice none 0 0) [] body (some (ad.add (2 + at_))) many (c - (2 + at_)) (by rfl) (by first | (go_simp; done) | (go_simp; rfl)) HOd hrb1d hBw1d hlm hszd ?_; intro v5 w5 ho5 hb5 hg5))
                go_wp2
                refine bodyPost_ret (results_list (rs := [.tmp 2, .tmp 3, .tmp 4, .tmp 5]) rfl (by simp) (.tmp (.tmp (.tmp (.tmp .nil))))) rfl ?_
                refine ⟨v5, ?_, ho5, hb5⟩
                have hce : ((2 + at_ + many + 4 : Nat) : Int) = 2 + (at_ : Int) + (many : Int) + 4 := by omega
                show _ = Ending.returned (.tuple #[.int .i64 (rd l 1), v5, .int .i64 ((2 + at_ + many + 4 : Nat) : Int), .int .i64 0])
                rw [hce]
                first | (go_simp; done) | (go_simp; rfl)
            · rw [if_neg hseal]
              have hE : ((strOfNums (sealS (rd l 1) body)).toList == (strOfNums fr).toList) = false := beq_eq_false_iff_ne.2 (fun h5 => hseal (hinj.1 h5))
              clear hseal hinj
              go_enter Try.func39, Try.ntmps39
              go_wp2_with (go_at_call 69; refine (hRL2.out _ hrd).mono ?_; rintro e w1 ⟨rfl, rfl⟩)
              go_region_with (go_at_call 15; refine (refSeal_any (rd l 1) (some (ad.add (2 + at_))) many _ body _ ?_ hbb (by omega) (by omega) (by omega)).mono ?_; exact hrb; rintro e w1 ⟨v1, rfl, ho1, hb1⟩; obtain ⟨A1, c1, rfl, hr1⟩ := own_reads ho1; have hcv1 := conv_reads (c := c1) hr1; have hcvw := conv_reads (c := c) (hrf.below (undrew hb1)); have hcw1 := pw_cell_below (undrew hb1) hc1'; have hrb1 := hrb.below (undrew hb1); have hBw1 := undrew hb1)

              all_goals
                go_wp2
                refine bodyPost_ret (results_list (rs := [.tmp 2, .tmp 3, .tmp 4, .tmp 5]) rfl (by simp) (.tmp (.tmp (.tmp (.tmp .nil))))) rfl ?_
                exact ⟨_, rfl, own_nil _ _ _ _, undrew hb1⟩
        · rw [if_pos he]
          have hd : (e != 0) = true := by simpa using he
          clear he
          go_enter Try.func39, Try.ntmps39
          go_wp2_with (go_at_call 69; refine (hRL2.out _ hrd).mono ?_; rintro e w1 ⟨rfl, rfl⟩)
          refine bodyPost_ret (results_list (rs := [.tmp 2, .tmp 3, .tmp 4, .tmp 5]) rfl (by simp) (.tmp (.tmp (.tmp (.tmp .nil))))) rfl ?_
          exact ⟨_, rfl, own_nil _ _ _ _, Below.refl _ _⟩
    · obtain rfl : n = 1 := by omega
      have hF : refFirst l = (0, [], 0, 4) := by rw [refFirst, if_neg (by omega), if_neg (by omega), if_pos (by omega)]
      rw [hF]
      clear hr hnl hF hx hn1
      go_enter Try.func39, Try.ntmps39
      go_wp2
      refine bodyPost_ret (results_list (rs := [.tmp 2, .tmp 3, .tmp 4, .tmp 5]) rfl (by simp) (.tmp (.tmp (.tmp (.tmp .nil))))) rfl ?_
      exact ⟨_, rfl, own_nil _ _ _ _, Below.refl _ _⟩
  · have hx0 : (rd l 0 != 82) = true := by simpa using hx
    have hF : refFirst l = (0, [], 0, 12) := by rw [refFirst, if_neg (by omega), if_pos (.inl hx)]
    rw [hF]
    clear hr hnl hF hx
    go_enter Try.func39, Try.ntmps39
    go_wp2
    refine bodyPost_ret (results_list (rs := [.tmp 2, .tmp 3, .tmp 4, .tmp 5]) rfl (by simp) (.tmp (.tmp (.tmp (.tmp .nil))))) rfl ?_
    exact ⟨_, rfl, own_nil _ _ _ _, Below.refl _ _⟩
end Go.Proofs.Ytaiainlkgfpcmaa.H
