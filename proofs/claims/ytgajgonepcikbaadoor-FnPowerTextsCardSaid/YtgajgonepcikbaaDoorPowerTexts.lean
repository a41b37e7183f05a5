
/- The walk of the law that prime powers are recovered from their text. -/
import Derived.Test.YtgajgonepcikbaaDoorPwD2
import Derived.Test.YtgajgonepcikbaaDoorRdP2
import Derived.Test.YtgajgonepcikbaaDoorRationalTexts
namespace Go.Proofs.YtgajgonepcikbaaDoor
open Go.RowKit Go.Joins

theorem fl2_pwL {zs : List Int} {N : Nat} (h : zs.length = N * 2) : fl2 (pwL zs N) = zs := by
  apply List.ext_getElem
  · rw [fl2_len, pwL_len, h]
  · intro i h1 h2
    have hi : i / 2 < N := by omega
    have hl : i / 2 < (pwL zs N).length := by rw [pwL_len]; exact hi
    have ⟨a, b⟩ := fl2_at (pwL zs N) hl
    have e : (pwL zs N).getD (i / 2) (0, 0) = (pP zs (i / 2), pE zs (i / 2)) := by
      simp [pwL, List.getD, hi]
    rw [e] at a b
    unfold pP pE at a b
    simp only [List.getD] at a b
    rcases (show i = i / 2 * 2 ∨ i = i / 2 * 2 + 1 by omega) with h | h
    · rw [← h, List.getElem?_eq_getElem h1, List.getElem?_eq_getElem h2] at a
      simpa using a
    · rw [← h, List.getElem?_eq_getElem h1, List.getElem?_eq_getElem h2] at b
      simpa using b
theorem pwB_yes {zs : List Int} {n : Nat} (h : PwOk zs n) : pwB zs n = true := by
  unfold pwB; exact @decide_eq_true _ (Classical.propDecidable _) h
theorem pwTx_yes {zs : List Int} {n : Nat} (h : PwOk zs n) : pwTx zs n = bs (pwT (pwL zs n)) ∧ pwTc zs n = 0 := by
  unfold pwTx pwTc; rw [if_pos (pwB_yes h), if_pos (pwB_yes h)]; exact ⟨rfl, rfl⟩
theorem pwTx_no {zs : List Int} {n : Nat} (h : ¬ PwOk zs n) : pwTc zs n = 1 := by
  unfold pwTc; rw [if_neg (fun hb => h (pwB_true hb))]
theorem lS_text {L : List (Int × Int)} (h : PwOk (fl2 L) L.length) : lS (pwT L) = L := by
  unfold lS
  by_cases h1 : pwT L = [49]
  · rw [if_pos h1]
    rcases pwT_one h.b01 h1 with h2 | h2
    · exact h2.symm
    · subst h2
      have h3 := (h.1 0 (by simp)).1.1.1
      have e : pP (fl2 [((1 : Int), (1 : Int))]) 0 = 1 := rfl
      rw [e] at h3
      omega
  · rw [if_neg h1]
    exact pwS_text (fun h2 => h1 (by rw [h2]; rfl)) h.b01
theorem rp_text {zs : List Int} {N : Nat} (hl : zs.length = N * 2) (h : PwOk zs N) : rpL (pwT (pwL zs N)) = pwL zs N ∧ rpC (pwT (pwL zs N)) = 0 := by
  have e := fl2_pwL hl
  have h2 : PwOk (fl2 (pwL zs N)) (pwL zs N).length := by rw [e, pwL_len]; exact h
  have e2 := lS_text h2
  have h3 : RpOk (pwT (pwL zs N)) (lS (pwT (pwL zs N))) := by rw [e2]; exact ⟨h2, rfl⟩
  have := rp_yes h3
  rw [e2] at this
  exact this
theorem pwT_len2 {zs : List Int} {N : Nat} (hl : zs.length = N * 2) (h : PwOk zs N) : (pwT (pwL zs N)).length ≤ 88001 := by
  refine pwT_len (by rw [pwL_len]; have := h.2; omega) fun x hx => ?_
  simp only [pwL, List.mem_map, List.mem_range] at hx
  obtain ⟨k, hk, rfl⟩ := hx
  have := h.1 k hk
  unfold PwK at this
  have h2 := this.1.1.1
  simp only
  omega

set_option maxRecDepth 100000 in
set_option maxHeartbeats 4000000 in
theorem walkPowerTexts (A0 : Option Addr) (n0 c0 : Nat) (ys0 : List Int) (w : World) (hr0 : IsRow .u8 w A0 n0 c0 ys0) (hE : Er w) :
    Calls Tryd.prog 12 #[.slice A0 n0 c0] w fun e w' => e = .returned (.bool true) ∧ Below w.heap.size w w' := by
  have HBy := Lib.hid (bysT_of hr0)
  have hm := hr0.2.1
  have hc := hr0.1
  unfold maxLen at hm
  have R0 := Lib.hid hr0.rd
  have HE := Lib.hid hE
  clear hr0 hE
  by_cases hbig : 4096 < n0
  · have hbd : decide (4096 < (n0 : Int)) = true := by simp; omega
    go_enter Tryd.func12, Tryd.ntmps12
    go_wp2_with fail
    refine (bigT_any _ _ _ _).mono ?_
    rintro e w' ⟨rfl, rfl⟩
    rw [hbd]
    go_wp2
    go_ret
    exact ⟨rfl, Below.refl _ _⟩
  have hbd : decide (4096 < (n0 : Int)) = false := by simp; omega
  go_enter Tryd.func12, Tryd.ntmps12
  go_wp2_with fail
  refine (bigT_any _ _ _ _).mono ?_
  rintro e w' ⟨rfl, rfl⟩
  rw [hbd]
  go_wp2_with fail
  refine (drawPowersText_any _ _ _ _ _ R0.out HBy.out).mono ?_
  rintro e w1 ⟨B, N, d, zs, rfl, hrx, hN, hb1⟩
  have HZ := Lib.hid hrx.flat
  have HX1 := Lib.hid hrx
  have HB1 := Lib.hid hb1
  clear hb1 hrx
  obtain ⟨T1, hT1⟩ : ∃ T, T = pwTx zs N := ⟨_, rfl⟩
  obtain ⟨C1, hC1⟩ : ∃ T, T = pwTc zs N := ⟨_, rfl⟩
  have HT1 := Lib.hid hT1
  have HC1 := Lib.hid hC1
  clear hT1 hC1
  go_wp2_with fail
  refine (implPowersText_at HT1.out HC1.out _ HX1.out (HE.out.below HB1.out).1).mono ?_
  rintro e w2 ⟨rfl, hb2⟩
  have HB2 := Lib.hid (bl_trans HB1.out hb2)
  have HX2 := Lib.hid (HX1.out.below hb2)
  clear hb2 HX1
  go_wp2_with fail
  refine (specPowersText_at HT1.out HC1.out _ HX2.out).mono ?_
  rintro e w3 ⟨rfl, hb3⟩
  have HB3 := Lib.hid (bl_trans HB2.out hb3)
  have HX3 := Lib.hid (HX2.out.below hb3)
  clear hb3 HX2
  go_wp2_with fail
  refine (drawReadPowers_any _ _ _ _ _ (R0.out.below HB3.out) HBy.out).mono ?_
  rintro e w4 ⟨u, rfl, hu, hb4⟩
  have HB4 := Lib.hid (bl_trans HB3.out hb4)
  have HX4 := Lib.hid (HX3.out.below hb4)
  have hu2 : u.size ≤ 1048576 := by omega
  clear hb4 HX3
  obtain ⟨L, hL⟩ : ∃ T, T = rpL u.data.toList := ⟨_, rfl⟩
  obtain ⟨C2, hC2⟩ : ∃ T, T = rpC u.data.toList := ⟨_, rfl⟩
  have HL := Lib.hid hL
  have HC2 := Lib.hid hC2
  clear hL hC2
  go_wp2_with fail
  refine (implReadPowers_at HL.out HC2.out hu2 _ (HE.out.below HB4.out)).mono ?_
  rintro e w5 ⟨A5, c5, rfl, ho5, hb5⟩
  have HB5 := Lib.hid (bl_trans HB4.out hb5)
  have HX5 := Lib.hid (HX4.out.below hb5)
  have HY5 := Lib.hid ho5.rd
  clear hb5 HX4 ho5
  go_wp2_with fail
  refine (specReadPowers_at HL.out HC2.out hu2 _).mono ?_
  rintro e w6 ⟨A6, c6, rfl, ho6, hb6⟩
  have HB6 := Lib.hid (bl_trans HB5.out hb6)
  have HX6 := Lib.hid (HX5.out.below hb6)
  have HY6 := Lib.hid (HY5.out.below hb6)
  have HZ6 := Lib.hid ho6.rd
  clear hb6 HX5 HY5 ho6
  have e1 : (C1 != C1) = false := by simp
  have e2 : (C2 != C2) = false := by simp
  have e3 : (T1.toList != T1.toList) = false := by simp
  go_wp2_with fail
  refine (likePowers_any _ _ _ _ _ _ _ HY6.out HZ6.out).mono ?_
  rintro e w7 ⟨rfl, hb7⟩
  have HB7 := Lib.hid (bl_trans HB6.out hb7)
  have HX7 := Lib.hid (HX6.out.below hb7)
  have HY7 := Lib.hid (HY6.out.below hb7)
  clear hb7 HX6 HY6 HZ6
  by_cases hr : RpOk u.data.toList (lS u.data.toList)
  · have hv := rp_yes hr
    have HV : Hid (u = pwTx (fl2 L) L.length ∧ (0 : Int) = pwTc (fl2 L) L.length) := Lib.hid (by
      have h2 := hr
      rw [← hv.1, ← HL.out] at h2
      have h3 := pwTx_yes h2.1
      exact ⟨by rw [h3.1, pwL_fl2, h2.2, ← bs_of], h3.2.symm⟩)
    obtain rfl : C2 = 0 := by rw [HC2.out, hv.2]
    have e7 : (u.toList != u.toList) = false := by simp
    clear hr hv
    go_wp2_with fail
    refine (implPowersText_at HV.out.1 HV.out.2 _ HY7.out (HE.out.below HB7.out).1).mono ?_
    rintro e w8 ⟨rfl, hb8⟩
    have HB8 := Lib.hid (bl_trans HB7.out hb8)
    have HX8 := Lib.hid (HX7.out.below hb8)
    clear hb8 HX7 HY7
    by_cases hq : PwOk zs N
    · have HT0 : Hid (T1 = bs (pwT (pwL zs N))) := Lib.hid (by rw [HT1.out, (pwTx_yes hq).1])
      obtain rfl : C1 = 0 := by rw [HC1.out, (pwTx_yes hq).2]
      have hz1 : T1.size ≤ 1048576 := by rw [HT0.out, bs_size]; have := pwT_len2 HZ.out hq; omega
      have HQ : Hid (pwL zs N = rpL T1.data.toList ∧ (0 : Int) = rpC T1.data.toList) := Lib.hid (by
        rw [HT0.out, bs_data]
        have := rp_text HZ.out hq
        exact ⟨this.1.symm, this.2.symm⟩)
      clear hq
      go_wp2_with fail
      refine (implReadPowers_at HQ.out.1 HQ.out.2 hz1 _ (HE.out.below HB8.out)).mono ?_
      rintro e w9 ⟨A9, c9, rfl, ho9, hb9⟩
      have HB9 := Lib.hid (bl_trans HB8.out hb9)
      have HX9 := Lib.hid (HX8.out.below hb9)
      have ho := ho9.rd
      rw [fl2_pwL HZ.out, pwL_len] at ho
      have HY9 := Lib.hid ho
      rw [pwL_len]
      clear hb9 HX8 ho9 ho
      go_wp2_with fail
      refine (likePowers_any _ _ _ _ _ _ _ HY9.out HX9.out).mono ?_
      rintro e w10 ⟨rfl, hb10⟩
      have HB10 := Lib.hid (bl_trans HB9.out hb10)
      clear hb10
      go_wp2
      go_ret
      exact ⟨rfl, HB10.out⟩
    · obtain rfl : C1 = 1 := by rw [HC1.out, pwTx_no hq]
      go_wp2
      go_ret
      exact ⟨rfl, HB8.out⟩
  · obtain rfl : C2 = 6 := by rw [HC2.out, (rp_no hr).2]
    clear hr
    by_cases hq : PwOk zs N
    · have HT0 : Hid (T1 = bs (pwT (pwL zs N))) := Lib.hid (by rw [HT1.out, (pwTx_yes hq).1])
      obtain rfl : C1 = 0 := by rw [HC1.out, (pwTx_yes hq).2]
      have hz1 : T1.size ≤ 1048576 := by rw [HT0.out, bs_size]; have := pwT_len2 HZ.out hq; omega
      have HQ : Hid (pwL zs N = rpL T1.data.toList ∧ (0 : Int) = rpC T1.data.toList) := Lib.hid (by
        rw [HT0.out, bs_data]
        have := rp_text HZ.out hq
        exact ⟨this.1.symm, this.2.symm⟩)
      clear hq
      go_wp2_with fail
      refine (implReadPowers_at HQ.out.1 HQ.out.2 hz1 _ (HE.out.below HB7.out)).mono ?_
      rintro e w9 ⟨A9, c9, rfl, ho9, hb9⟩
      have HB9 := Lib.hid (bl_trans HB7.out hb9)
      have HX9 := Lib.hid (HX7.out.below hb9)
      have ho := ho9.rd
      rw [fl2_pwL HZ.out, pwL_len] at ho
      have HY9 := Lib.hid ho
      rw [pwL_len]
      clear hb9 HX7 ho9 ho
      go_wp2_with fail
      refine (likePowers_any _ _ _ _ _ _ _ HY9.out HX9.out).mono ?_
      rintro e w10 ⟨rfl, hb10⟩
      have HB10 := Lib.hid (bl_trans HB9.out hb10)
      clear hb10
      go_wp2
      go_ret
      exact ⟨rfl, HB10.out⟩
    · obtain rfl : C1 = 1 := by rw [HC1.out, pwTx_no hq]
      go_wp2
      go_ret
      exact ⟨rfl, HB7.out⟩
end Go.Proofs.YtgajgonepcikbaaDoor
