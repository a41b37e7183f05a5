
/- The walk of the law that a polynomial is recovered from its text. -/
import Derived.Test.YtgajgonepcikbaaDoorPolD
import Derived.Test.YtgajgonepcikbaaDoorRdF5
namespace Go.Proofs.YtgajgonepcikbaaDoor
open Go.RowKit Go.Joins

theorem rf_text {f : List Int} (h : POk f) : rfL (plT f) = f ∧ rfC (plT f) = 0 := by
  have h1 : RfOk (plT f) f := ⟨h, rfl⟩
  have e := h1.both.1
  have h2 : RfOk (plT f) (trimL (plP (plT f))) := by rw [e]; exact h1
  have := rf_yes h2
  rw [e] at this
  exact this

set_option maxRecDepth 100000 in
set_option maxHeartbeats 4000000 in
theorem walkPolynomialTexts (A0 : Option Addr) (n0 c0 : Nat) (ys0 : List Int) (w : World) (hr0 : IsRow .u8 w A0 n0 c0 ys0) (hE : Er w) :
    Calls Tryd.prog 13 #[.slice A0 n0 c0] w fun e w' => e = .returned (.bool true) ∧ Below w.heap.size w w' := by
  have HBy := Lib.hid (bysT_of hr0)
  have hm := hr0.2.1
  have hc := hr0.1
  unfold maxLen at hm
  have R0 := Lib.hid hr0.rd
  have HE := Lib.hid hE
  clear hr0 hE
  by_cases hbig : 4096 < n0
  · have hbd : decide (4096 < (n0 : Int)) = true := by simp; omega
    go_enter Tryd.func13, Tryd.ntmps13
    go_wp2_with fail
    refine (bigT_any _ _ _ _).mono ?_
    rintro e w' ⟨rfl, rfl⟩
    rw [hbd]
    go_wp2
    go_ret
    exact ⟨rfl, Below.refl _ _⟩
  have hbd : decide (4096 < (n0 : Int)) = false := by simp; omega
  go_enter Tryd.func13, Tryd.ntmps13
  go_wp2_with fail
  refine (bigT_any _ _ _ _).mono ?_
  rintro e w' ⟨rfl, rfl⟩
  rw [hbd]
  go_wp2_with fail
  refine (drawPolynomialText_any _ _ _ _ _ R0.out HBy.out).mono ?_
  rintro e w1 ⟨B, N, d, f, rfl, hrx, hN, hb1⟩
  have HZ := Lib.hid hrx.1
  have HX1 := Lib.hid hrx
  have HB1 := Lib.hid hb1
  clear hb1 hrx
  obtain ⟨T1, hT1⟩ : ∃ T, T = ptT f := ⟨_, rfl⟩
  obtain ⟨C1, hC1⟩ : ∃ T, T = ptC f := ⟨_, rfl⟩
  have HT1 := Lib.hid hT1
  have HC1 := Lib.hid hC1
  clear hT1 hC1
  go_wp2_with fail
  refine (implPolynomialText_at HT1.out HC1.out _ HX1.out (HE.out.below HB1.out).1).mono ?_
  rintro e w2 ⟨rfl, hb2⟩
  have HB2 := Lib.hid (bl_trans HB1.out hb2)
  have HX2 := Lib.hid (HX1.out.below hb2)
  clear hb2 HX1
  go_wp2_with fail
  refine (specPolynomialText_at HT1.out HC1.out _ HX2.out).mono ?_
  rintro e w3 ⟨rfl, hb3⟩
  have HB3 := Lib.hid (bl_trans HB2.out hb3)
  have HX3 := Lib.hid (HX2.out.below hb3)
  clear hb3 HX2
  go_wp2_with fail
  refine (drawReadPolynomial_any _ _ _ _ _ (R0.out.below HB3.out) HBy.out).mono ?_
  rintro e w4 ⟨u, rfl, hu, hb4⟩
  have HB4 := Lib.hid (bl_trans HB3.out hb4)
  have HX4 := Lib.hid (HX3.out.below hb4)
  have hu2 : u.size ≤ 1048576 := by omega
  clear hb4 HX3
  obtain ⟨L, hL⟩ : ∃ T, T = rfL u.data.toList := ⟨_, rfl⟩
  obtain ⟨C2, hC2⟩ : ∃ T, T = rfC u.data.toList := ⟨_, rfl⟩
  have HL := Lib.hid hL
  have HC2 := Lib.hid hC2
  clear hL hC2
  go_wp2_with fail
  refine (implReadPolynomial_at HL.out HC2.out hu2 _ (HE.out.below HB4.out)).mono ?_
  rintro e w5 ⟨A5, c5, rfl, ho5, hb5⟩
  have HB5 := Lib.hid (bl_trans HB4.out hb5)
  have HX5 := Lib.hid (HX4.out.below hb5)
  have HY5 := Lib.hid ho5.rd
  clear hb5 HX4 ho5
  go_wp2_with fail
  refine (specReadPolynomial_at HL.out HC2.out hu2 _).mono ?_
  rintro e w6 ⟨A6, c6, rfl, ho6, hb6⟩
  have HB6 := Lib.hid (bl_trans HB5.out hb6)
  have HX6 := Lib.hid (HX5.out.below hb6)
  have HY6 := Lib.hid (HY5.out.below hb6)
  have HZ6 := Lib.hid ho6.rd
  clear hb6 HX5 HY5 ho6
  have e1 : (C1 != C1) = false := by simp
  have e2 : (C2 != C2) = false := by simp
  have e3 : (T1.toList != T1.toList) = false := by simp
  go_wp2_with fail
  refine (likeInts_any _ _ _ _ _ _ _ HY6.out HZ6.out).mono ?_
  rintro e w7 ⟨rfl, hb7⟩
  have HB7 := Lib.hid (bl_trans HB6.out hb7)
  have HX7 := Lib.hid (HX6.out.below hb7)
  have HY7 := Lib.hid (HY6.out.below hb7)
  clear hb7 HX6 HY6 HZ6
  by_cases hr : RfOk u.data.toList (trimL (plP u.data.toList))
  · have hv := rf_yes hr
    have HV : Hid (u = ptT L ∧ (0 : Int) = ptC L) := Lib.hid (by
      have h2 := hr
      rw [← hv.1, ← HL.out] at h2
      have h3 := ptT_yes h2.1
      exact ⟨by rw [h3.1, h2.2, ← bs_of], h3.2.symm⟩)
    obtain rfl : C2 = 0 := by rw [HC2.out, hv.2]
    have e7 : (u.toList != u.toList) = false := by simp
    clear hr hv
    go_wp2_with fail
    refine (implPolynomialText_at HV.out.1 HV.out.2 _ HY7.out (HE.out.below HB7.out).1).mono ?_
    rintro e w8 ⟨rfl, hb8⟩
    have HB8 := Lib.hid (bl_trans HB7.out hb8)
    have HX8 := Lib.hid (HX7.out.below hb8)
    clear hb8 HX7 HY7
    by_cases hq : POk f
    · have HT0 : Hid (T1 = bs (plT f)) := Lib.hid (by rw [HT1.out, (ptT_yes hq).1])
      obtain rfl : C1 = 0 := by rw [HC1.out, (ptT_yes hq).2]
      have hz1 : T1.size ≤ 1048576 := by rw [HT0.out, bs_size]; have := plT_len hq.cb; omega
      have HQ : Hid (f = rfL T1.data.toList ∧ (0 : Int) = rfC T1.data.toList) := Lib.hid (by
        rw [HT0.out, bs_data]
        have := rf_text hq
        exact ⟨this.1.symm, this.2.symm⟩)
      clear hq
      go_wp2_with fail
      refine (implReadPolynomial_at HQ.out.1 HQ.out.2 hz1 _ (HE.out.below HB8.out)).mono ?_
      rintro e w9 ⟨A9, c9, rfl, ho9, hb9⟩
      have HB9 := Lib.hid (bl_trans HB8.out hb9)
      have HX9 := Lib.hid (HX8.out.below hb9)
      have ho := ho9.rd
      rw [HZ.out] at ho ⊢
      have HY9 := Lib.hid ho
      clear hb9 HX8 ho9 ho
      go_wp2_with fail
      refine (likeInts_any _ _ _ _ _ _ _ HY9.out HX9.out).mono ?_
      rintro e w10 ⟨rfl, hb10⟩
      have HB10 := Lib.hid (bl_trans HB9.out hb10)
      clear hb10
      go_wp2
      go_ret
      exact ⟨rfl, HB10.out⟩
    · obtain rfl : C1 = 1 := by rw [HC1.out, (ptT_no hq).2]
      go_wp2
      go_ret
      exact ⟨rfl, HB8.out⟩
  · obtain rfl : C2 = 6 := by rw [HC2.out, (rf_no hr).2]
    clear hr
    by_cases hq : POk f
    · have HT0 : Hid (T1 = bs (plT f)) := Lib.hid (by rw [HT1.out, (ptT_yes hq).1])
      obtain rfl : C1 = 0 := by rw [HC1.out, (ptT_yes hq).2]
      have hz1 : T1.size ≤ 1048576 := by rw [HT0.out, bs_size]; have := plT_len hq.cb; omega
      have HQ : Hid (f = rfL T1.data.toList ∧ (0 : Int) = rfC T1.data.toList) := Lib.hid (by
        rw [HT0.out, bs_data]
        have := rf_text hq
        exact ⟨this.1.symm, this.2.symm⟩)
      clear hq
      go_wp2_with fail
      refine (implReadPolynomial_at HQ.out.1 HQ.out.2 hz1 _ (HE.out.below HB7.out)).mono ?_
      rintro e w9 ⟨A9, c9, rfl, ho9, hb9⟩
      have HB9 := Lib.hid (bl_trans HB7.out hb9)
      have HX9 := Lib.hid (HX7.out.below hb9)
      have ho := ho9.rd
      rw [HZ.out] at ho ⊢
      have HY9 := Lib.hid ho
      clear hb9 HX7 ho9 ho
      go_wp2_with fail
      refine (likeInts_any _ _ _ _ _ _ _ HY9.out HX9.out).mono ?_
      rintro e w10 ⟨rfl, hb10⟩
      have HB10 := Lib.hid (bl_trans HB9.out hb10)
      clear hb10
      go_wp2
      go_ret
      exact ⟨rfl, HB10.out⟩
    · obtain rfl : C1 = 1 := by rw [HC1.out, (ptT_no hq).2]
      go_wp2
      go_ret
      exact ⟨rfl, HB7.out⟩
end Go.Proofs.YtgajgonepcikbaaDoor
