
/- The walk of the law that a rational number is recovered from its text. -/
import Derived.Test.YtgajgonepcikbaaDoorDrw2
import Derived.Test.YtgajgonepcikbaaDoorRdR2
import Derived.Test.YtgajgonepcikbaaDoorCopy
namespace Go.Proofs.YtgajgonepcikbaaDoor
open Go.RowKit Go.Joins

theorem RrOk.of {x y : Int} (h : QOk x y) : RrOk (ratT x y) ∧ rrN (ratT x y) = x ∧ rrD (ratT x y) = y ∧ rrC (ratT x y) = 0 := by
  have e := ratS_text h.b13.1 h.b13.2.1 h.one
  have hr : RrOk (ratT x y) := by unfold RrOk; rw [e]; exact ⟨h, rfl⟩
  have := rr_yes hr
  rw [e] at this
  exact ⟨hr, this⟩
theorem rt_yes {x y : Int} (h : QOk x y) : rtT x y = bs (ratT x y) ∧ rtC x y = 0 := by
  unfold rtT rtC rtB; rw [if_pos (decide_eq_true h), if_pos (decide_eq_true h)]; exact ⟨rfl, rfl⟩
theorem rt_no {x y : Int} (h : ¬ QOk x y) : rtC x y = 1 := by
  unfold rtC rtB; rw [if_neg (by rw [decide_eq_false h]; simp)]

set_option maxRecDepth 100000 in
set_option maxHeartbeats 4000000 in
theorem walkRationalTexts (A0 : Option Addr) (n0 c0 : Nat) (ys0 : List Int) (w : World) (hr0 : IsRow .u8 w A0 n0 c0 ys0) (hE : Er w) :
    Calls Tryd.prog 11 #[.slice A0 n0 c0] w fun e w' => e = .returned (.bool true) ∧ Below w.heap.size w w' := by
  have HBy := Lib.hid (bysT_of hr0)
  have hm := hr0.2.1
  have hc := hr0.1
  unfold maxLen at hm
  have R0 := Lib.hid hr0.rd
  have HE := Lib.hid hE
  clear hr0 hE
  by_cases hbig : 4096 < n0
  · have hbd : decide (4096 < (n0 : Int)) = true := by simp; omega
    go_enter Tryd.func11, Tryd.ntmps11
    go_wp2_with fail
    refine (bigT_any _ _ _ _).mono ?_
    rintro e w' ⟨rfl, rfl⟩
    rw [hbd]
    go_wp2
    go_ret
    exact ⟨rfl, Below.refl _ _⟩
  have hbd : decide (4096 < (n0 : Int)) = false := by simp; omega
  go_enter Tryd.func11, Tryd.ntmps11
  go_wp2_with fail
  refine (bigT_any _ _ _ _).mono ?_
  rintro e w' ⟨rfl, rfl⟩
  rw [hbd]
  go_wp2_with fail
  refine (drawRationalText_any _ _ _ _ _ R0.out HBy.out).mono ?_
  rintro e w1 ⟨x, y, rfl, hb1⟩
  have HB1 := Lib.hid hb1
  clear hb1
  obtain ⟨T1, hT1⟩ : ∃ T, T = rtT x y := ⟨_, rfl⟩
  obtain ⟨C1, hC1⟩ : ∃ T, T = rtC x y := ⟨_, rfl⟩
  have HT1 := Lib.hid hT1
  have HC1 := Lib.hid hC1
  clear hT1 hC1
  have HB1a : Hid (Below w.heap.size w (w1.alloc (.cells #[.int .i64 x, .int .i64 y] 26))) := Lib.hid (bl_alloc HB1.out _)
  go_wp2_with fail
  refine (implRationalText_at HT1.out HC1.out _ (HE.out.below HB1a.out).1).mono ?_
  rintro e w2 ⟨rfl, hb2⟩
  have HB2 := Lib.hid (bl_trans HB1a.out hb2)
  have a0 := keep_cell hb2 (b := w1.heap.size) (o := 0) (v := .int .i64 x) (by simp [go_sem])
  have a1 := keep_cell hb2 (b := w1.heap.size) (o := 1) (v := .int .i64 y) (by simp [go_sem])
  clear hb2
  go_wp2_with fail
  refine (specRationalText_at HT1.out HC1.out _).mono ?_
  rintro e w3 ⟨rfl, hb3⟩
  have HB3 := Lib.hid (bl_trans HB2.out hb3)
  have A0' := keep_cell hb3 a0
  have A1' := keep_cell hb3 a1
  clear hb3 a0 a1
  go_wp2_with fail
  refine (drawReadRational_any _ _ _ _ _ (R0.out.below HB3.out) HBy.out).mono ?_
  rintro e w4 ⟨u, rfl, hu, hb4⟩
  have HB4 := Lib.hid (bl_trans HB3.out hb4)
  have a0 := keep_cell hb4 A0'
  have a1 := keep_cell hb4 A1'
  have hu2 : u.size ≤ 1048576 := by omega
  clear hb4 A0' A1'
  obtain ⟨N, hN⟩ : ∃ T, T = rrN u.data.toList := ⟨_, rfl⟩
  obtain ⟨D, hD⟩ : ∃ T, T = rrD u.data.toList := ⟨_, rfl⟩
  obtain ⟨C2, hC2⟩ : ∃ T, T = rrC u.data.toList := ⟨_, rfl⟩
  have HN := Lib.hid hN
  have HD := Lib.hid hD
  have HC2 := Lib.hid hC2
  clear hN hD hC2
  go_wp2_with fail
  refine (implReadRational_at HN.out HD.out HC2.out hu2 _ (HE.out.below HB4.out)).mono ?_
  rintro e w5 ⟨rfl, hb5⟩
  have HB5 := Lib.hid (bl_trans HB4.out hb5)
  have A0' := keep_cell hb5 a0
  have A1' := keep_cell hb5 a1
  clear hb5 a0 a1
  have hl5 := block_lt_of_cell A0'
  have HB5a : Hid (Below w.heap.size w (w5.alloc (.cells #[.int .i64 N, .int .i64 D] 26))) := Lib.hid (bl_alloc HB5.out _)
  go_wp2_with fail
  refine (specReadRational_at HN.out HD.out HC2.out hu2 _).mono ?_
  rintro e w6 ⟨rfl, hb6⟩
  have HB6 := Lib.hid (bl_trans HB5a.out hb6)
  have a0 := keep_cell hb6 (keep_cell (bl_alloc (Below.refl _ _) _) A0')
  have a1 := keep_cell hb6 (keep_cell (bl_alloc (Below.refl _ _) _) A1')
  have b0 := keep_cell hb6 (b := w5.heap.size) (o := 0) (v := .int .i64 N) (by simp [go_sem])
  have b1 := keep_cell hb6 (b := w5.heap.size) (o := 1) (v := .int .i64 D) (by simp [go_sem])
  clear hb6 A0' A1'
  have hl6 := block_lt_of_cell b0
  have hl6a := block_lt_of_cell a0
  have e1 : (C1 != C1) = false := by simp
  have e2 : (C2 != C2) = false := by simp
  have e3 : (T1.toList != T1.toList) = false := by simp
  have e4 : (N != N) = false := by simp
  have e5 : (D != D) = false := by simp
  have e6 : (T1.toList == T1.toList) = true := by simp
  go_upto_region 11 with fail
  obtain ⟨w7, hw7⟩ : ∃ z, z = w6.alloc (.cells #[.int .i64 N, .int .i64 D] 26) := ⟨_, rfl⟩
  have HB7 : Hid (Below w.heap.size w w7) := Lib.hid (by rw [hw7]; exact bl_alloc HB6.out _)
  have hb7 : Below w6.heap.size w6 w7 := by rw [hw7]; exact bl_alloc (Below.refl _ _) _
  have A0' := keep_cell hb7 a0
  have A1' := keep_cell hb7 a1
  have B0' := keep_cell hb7 b0
  have B1' := keep_cell hb7 b1
  rw [← hw7]
  clear hw7 hb7 a0 a1 b0 b1 e1 e2 e3 e4 e5 e6 hl6 hl6a hl5
  by_cases hr : RrOk u.data.toList
  · have hv := rr_yes hr
    have HV : Hid (QOk N D ∧ u = rtT N D ∧ (0 : Int) = rtC N D) := Lib.hid (by
      have h2 := hr
      unfold RrOk at h2
      rw [← hv.1, ← hv.2.1, ← HN.out, ← HD.out] at h2
      have h3 := rt_yes h2.1
      exact ⟨h2.1, by rw [h3.1, h2.2, ← bs_of], h3.2.symm⟩)
    obtain rfl : C2 = 0 := by rw [HC2.out, hv.2.2]
    have e7 : (u.toList != u.toList) = false := by simp
    clear hr hv
    go_wp2_with fail
    refine (implRationalText_at HV.out.2.1 HV.out.2.2 _ (HE.out.below HB7.out).1).mono ?_
    rintro e w8 ⟨rfl, hb8⟩
    have HB8 := Lib.hid (bl_trans HB7.out hb8)
    have a0 := keep_cell hb8 A0'
    have a1 := keep_cell hb8 A1'
    clear hb8 A0' A1' B0' B1'
    by_cases hq : QOk x y
    · have HT0 : Hid (T1 = bs (ratT x y)) := Lib.hid (by rw [HT1.out, (rt_yes hq).1])
      obtain rfl : C1 = 0 := by rw [HC1.out, (rt_yes hq).2]
      have hz1 : T1.size ≤ 1048576 := by rw [HT0.out, bs_size]; have := ratT_len hq.b13.1 hq.b13.2.1; omega
      have HX : Hid (x = rrN T1.data.toList ∧ y = rrD T1.data.toList ∧ (0 : Int) = rrC T1.data.toList) := Lib.hid (by
        rw [HT0.out, bs_data]
        have := (RrOk.of hq).2
        exact ⟨this.1.symm, this.2.1.symm, this.2.2.symm⟩)
      have f1 : (x != x) = false := by simp
      have f2 : (y != y) = false := by simp
      clear hq
      go_wp2_with fail
      refine (implReadRational_at HX.out.1 HX.out.2.1 HX.out.2.2 hz1 _ (HE.out.below HB8.out)).mono ?_
      rintro e w9 ⟨rfl, hb9⟩
      have HB9 := Lib.hid (bl_trans HB8.out hb9)
      have p0 := keep_cell hb9 a0
      have p1 := keep_cell hb9 a1
      have hl9 := block_lt_of_cell p0
      clear hb9 a0 a1
      go_wp2
      go_ret
      exact ⟨rfl, bl_alloc HB9.out _⟩
    · obtain rfl : C1 = 1 := by rw [HC1.out, rt_no hq]
      go_wp2
      go_ret
      exact ⟨rfl, HB8.out⟩
  · obtain rfl : C2 = 6 := by rw [HC2.out, (rr_no hr).2.2]
    have a0 := A0'
    have a1 := A1'
    clear hr A0' A1' B0' B1'
    by_cases hq : QOk x y
    · have HT0 : Hid (T1 = bs (ratT x y)) := Lib.hid (by rw [HT1.out, (rt_yes hq).1])
      obtain rfl : C1 = 0 := by rw [HC1.out, (rt_yes hq).2]
      have hz1 : T1.size ≤ 1048576 := by rw [HT0.out, bs_size]; have := ratT_len hq.b13.1 hq.b13.2.1; omega
      have HX : Hid (x = rrN T1.data.toList ∧ y = rrD T1.data.toList ∧ (0 : Int) = rrC T1.data.toList) := Lib.hid (by
        rw [HT0.out, bs_data]
        have := (RrOk.of hq).2
        exact ⟨this.1.symm, this.2.1.symm, this.2.2.symm⟩)
      have f1 : (x != x) = false := by simp
      have f2 : (y != y) = false := by simp
      clear hq
      go_wp2_with fail
      refine (implReadRational_at HX.out.1 HX.out.2.1 HX.out.2.2 hz1 _ (HE.out.below HB7.out)).mono ?_
      rintro e w9 ⟨rfl, hb9⟩
      have HB9 := Lib.hid (bl_trans HB7.out hb9)
      have p0 := keep_cell hb9 a0
      have p1 := keep_cell hb9 a1
      have hl9 := block_lt_of_cell p0
      clear hb9 a0 a1
      go_wp2
      go_ret
      exact ⟨rfl, bl_alloc HB9.out _⟩
    · obtain rfl : C1 = 1 := by rw [HC1.out, rt_no hq]
      go_wp2
      go_ret
      exact ⟨rfl, HB7.out⟩
end Go.Proofs.YtgajgonepcikbaaDoor
