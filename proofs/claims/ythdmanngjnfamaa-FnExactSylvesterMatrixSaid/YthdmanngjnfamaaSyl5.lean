
/- The walk of the law over SylvesterMatrix. -/
import Derived.Test.YthdmanngjnfamaaSyl4
namespace Go.Proofs.Ythdmanngjnfamaa
open Go.RowKit

set_option maxRecDepth 100000 in
set_option maxHeartbeats 4000000 in
theorem walkExactSylvesterMatrix (A0 : Option Addr) (n0 c0 : Nat) (xs0 : List Int) (A1 : Option Addr) (n1 c1 : Nat) (xs1 : List Int) (w : World) (hr0 : IsRow .i64 w A0 n0 c0 xs0) (hr1 : IsRow .i64 w A1 n1 c1 xs1) :
    Calls Try.prog 3 #[.slice A0 n0 c0, .slice A1 n1 c1] w fun e w' => e = .returned (.bool true) ∧ Below w.heap.size w w' := by
  have hm0 := hr0.2.1
  have hc0 := hr0.1
  unfold maxLen at hm0
  have R0 := Lib.hid hr0.rd
  clear hr0
  have hm1 := hr1.2.1
  have hc1 := hr1.1
  unfold maxLen at hm1
  have R1 := Lib.hid hr1.rd
  clear hr1
  by_cases hn0 : n0 ≤ 1048576
  · by_cases hn1 : n1 ≤ 1048576
    · obtain ⟨N, hN⟩ : ∃ N, N = sylN xs0 xs1 := ⟨_, rfl⟩
      obtain ⟨ys, cd, hR⟩ : ∃ ys cd, (ys, cd) = sylR xs0 xs1 := ⟨_, _, rfl⟩
      have ⟨p0, p1⟩ := sylN_pos xs0 xs1
      rw [← hN] at p0 p1
      have hy := sylR_len xs0 xs1
      rw [← hR] at hy
      have hy : ys.length ≤ 100 := hy
      have HS : Hid (∀ (B0 : Option Addr) (d0 : Nat) (B1 : Option Addr) (d1 : Nat) (w : World), Rd .i64 w B0 n0 d0 xs0 → Rd .i64 w B1 n1 d1 xs1 → Calls Try.prog 8 #[.slice B0 n0 d0, .slice B1 n1 d1] w fun e w' => ∃ (A : Option Addr) (c : Nat) (gs : List Nat), e = .returned (.tuple #[.slice A ys.length c, .int .i64 cd]) ∧ gs.length = ys.length ∧ Mx w' w.heap.size (.slice A ys.length c) N gs ys ∧ Below w.heap.size w w') := Lib.hid (fun B0 d0 B1 d1 w h0 h1 => by
        have := specSylvester_any B0 n0 d0 xs0 B1 n1 d1 xs1 w h0 h1
        rw [← hR, ← hN] at this
        exact this)
      have HI : Hid (∀ (B0 : Option Addr) (d0 : Nat) (B1 : Option Addr) (d1 : Nat) (w : World), Rd .i64 w B0 n0 d0 xs0 → Rd .i64 w B1 n1 d1 xs1 → Calls Try.prog 10 #[.slice B0 n0 d0, .slice B1 n1 d1] w fun e w' => ∃ (A : Option Addr) (c : Nat) (gs : List Nat), e = .returned (.tuple #[.slice A ys.length c, .int .i64 cd]) ∧ gs.length = ys.length ∧ Mx w' w.heap.size (.slice A ys.length c) N gs ys ∧ Below w.heap.size w w') := Lib.hid (fun B0 d0 B1 d1 w h0 h1 => by
        have := implSylvester_any B0 n0 d0 xs0 B1 n1 d1 xs1 w h0 h1
        rw [← hR, ← hN] at this
        exact this)
      clear hN hR
      go_enter Try.func3, Try.ntmps3
      have e1 : (cd != cd) = false := by simp
      go_wp2_with fail
      refine (toInt64S_any _ _ _ _ _ R0.out hn0).mono ?_
      rintro e w1 ⟨rfl, ho, hb⟩
      have HB1 := Lib.hid (hb)
      have s0_1 := Lib.hid (OwnI.of_row ho)
      have z1 := hb.size
      clear hb ho 
      go_wp2_with fail
      refine (toInt64S_any _ _ _ _ _ (R1.out.below HB1.out) hn1).mono ?_
      rintro e w2 ⟨rfl, ho, hb⟩
      have HB2 := Lib.hid (bl_trans HB1.out hb)
      have s0_2 := Lib.hid (s0_1.out.below hb)
      have s1_2 := Lib.hid (OwnI.of_row ho)
      have z2 := hb.size
      clear hb ho HB1 s0_1
      go_wp2_with fail
      refine (HS.out _ _ _ _ _ s0_2.out.rd s1_2.out.rd).mono ?_
      rintro e w3 ⟨A_W, c_W, gs_W, rfl, hl, hm, hb⟩
      have HB3 := Lib.hid (bl_trans HB2.out hb)
      have W_3 := Lib.hid (hm.mb p0)
      have z3 := hb.size
      have L_W := Lib.hid hl
      clear hb hm hl HB2 s0_2 s1_2
      go_wp2_with fail
      refine (toInt64S_any _ _ _ _ _ (R0.out.below HB3.out) hn0).mono ?_
      rintro e w4 ⟨rfl, ho, hb⟩
      have HB4 := Lib.hid (bl_trans HB3.out hb)
      have W_4 := Lib.hid (W_3.out.below p0 hb)
      have x0_4 := Lib.hid (OwnI.of_row ho)
      have z4 := hb.size
      clear hb ho HB3 W_3
      go_wp2_with fail
      refine (toInt64S_any _ _ _ _ _ (R1.out.below HB4.out) hn1).mono ?_
      rintro e w5 ⟨rfl, ho, hb⟩
      have HB5 := Lib.hid (bl_trans HB4.out hb)
      have W_5 := Lib.hid (W_4.out.below p0 hb)
      have x0_5 := Lib.hid (x0_4.out.below hb)
      have x1_5 := Lib.hid (OwnI.of_row ho)
      have S01 := Lib.hid (own_sep x0_4.out (OwnI.of_row ho) (Nat.le_refl _))
      have UX0 := Lib.hid (x0_5.out.row_ge)
      have UX1 := Lib.hid (x1_5.out.row_ge)
      have z5 := hb.size
      clear hb ho HB4 W_4 x0_4
      go_wp2_with fail
      refine (HI.out _ _ _ _ _ x0_5.out.rd x1_5.out.rd).mono ?_
      rintro e w6 ⟨A_G, c_G, gs_G, rfl, hl, hm, hb⟩
      have HB6 := Lib.hid (bl_trans HB5.out hb)
      have W_6 := Lib.hid (W_5.out.below p0 hb)
      have x0_6 := Lib.hid (x0_5.out.below hb)
      have x1_6 := Lib.hid (x1_5.out.below hb)
      have G_6 := Lib.hid (hm.mb p0)
      have z6 := hb.size
      have L_G := Lib.hid hl
      clear hb hm hl HB5 W_5 x0_5 x1_5
      go_wp2_with fail
      refine (eqSS_any _ _ _ _ _ _ _ N _ _ ys _ G_6.out.mx W_6.out.mx rfl p0).mono ?_
      rintro e w7 ⟨rfl, hb⟩
      have HB7 := Lib.hid (bl_trans HB6.out hb)
      have W_7 := Lib.hid (W_6.out.below p0 hb)
      have x0_7 := Lib.hid (x0_6.out.below hb)
      have x1_7 := Lib.hid (x1_6.out.below hb)
      have G_7 := Lib.hid (G_6.out.below p0 hb)
      have z7 := hb.size
      clear hb HB6 W_6 x0_6 x1_6 G_6
      go_wp2_with fail
      refine (toInt64S_any _ _ _ _ _ (R0.out.below HB7.out) hn0).mono ?_
      rintro e w8 ⟨rfl, ho, hb⟩
      have HB8 := Lib.hid (bl_trans HB7.out hb)
      have W_8 := Lib.hid (W_7.out.below p0 hb)
      have x0_8 := Lib.hid (x0_7.out.below hb)
      have x1_8 := Lib.hid (x1_7.out.below hb)
      have G_8 := Lib.hid (G_7.out.below p0 hb)
      have t_8 := Lib.hid (OwnI.of_row ho)
      have z8 := hb.size
      clear hb ho HB7 W_7 x0_7 x1_7 G_7
      go_wp2_with fail
      refine ((eqInt64S_any _ _ _ _ _ _ _ x0_8.out.rd t_8.out.rd).mono fun _ _ h => drawn_below h).mono ?_
      rintro e w9 ⟨rfl, hb⟩
      have HB9 := Lib.hid (bl_trans HB8.out hb)
      have W_9 := Lib.hid (W_8.out.below p0 hb)
      have x0_9 := Lib.hid (x0_8.out.below hb)
      have x1_9 := Lib.hid (x1_8.out.below hb)
      have G_9 := Lib.hid (G_8.out.below p0 hb)
      have z9 := hb.size
      clear hb HB8 W_8 x0_8 x1_8 G_8 t_8
      go_wp2_with fail
      refine (toInt64S_any _ _ _ _ _ (R1.out.below HB9.out) hn1).mono ?_
      rintro e w10 ⟨rfl, ho, hb⟩
      have HB10 := Lib.hid (bl_trans HB9.out hb)
      have W_10 := Lib.hid (W_9.out.below p0 hb)
      have x0_10 := Lib.hid (x0_9.out.below hb)
      have x1_10 := Lib.hid (x1_9.out.below hb)
      have G_10 := Lib.hid (G_9.out.below p0 hb)
      have t_10 := Lib.hid (OwnI.of_row ho)
      have z10 := hb.size
      clear hb ho HB9 W_9 x0_9 x1_9 G_9
      go_wp2_with fail
      refine ((eqInt64S_any _ _ _ _ _ _ _ x1_10.out.rd t_10.out.rd).mono fun _ _ h => drawn_below h).mono ?_
      rintro e w11 ⟨rfl, hb⟩
      have HB11 := Lib.hid (bl_trans HB10.out hb)
      have W_11 := Lib.hid (W_10.out.below p0 hb)
      have x0_11 := Lib.hid (x0_10.out.below hb)
      have x1_11 := Lib.hid (x1_10.out.below hb)
      have G_11 := Lib.hid (G_10.out.below p0 hb)
      have z11 := hb.size
      clear hb HB10 W_10 x0_10 x1_10 G_10 t_10
      go_wp2_with fail
      refine (mark_any _ _ _ _ _ 1 _ x0_11.out hn0 (by omega) (by omega)).mono ?_
      rintro e w12 ⟨rfl, ho, hg⟩
      have HB12 := Lib.hid (below_mark HB11.out hg (fun k hk => by have := UX0.out k hk; omega))
      have W_12 := Lib.hid (W_11.out.kept p0 hg (fun k hk => by have := UX0.out k hk; omega))
      have x0_12 := Lib.hid (ho)
      have x1_12 := Lib.hid (x1_11.out.kept hg (sep_symm S01.out))
      have G_12 := Lib.hid (G_11.out.kept p0 hg (fun k hk => by have := UX0.out k hk; omega))
      have z12 := hg.size
      clear ho hg HB11 W_11 x0_11 x1_11 G_11
      go_wp2_with fail
      refine (mark_any _ _ _ _ _ (1 + (n0 : Int)) _ x1_12.out hn1 (by omega) (by omega)).mono ?_
      rintro e w13 ⟨rfl, ho, hg⟩
      have HB13 := Lib.hid (below_mark HB12.out hg (fun k hk => by have := UX1.out k hk; omega))
      have W_13 := Lib.hid (W_12.out.kept p0 hg (fun k hk => by have := UX1.out k hk; omega))
      have x1_13 := Lib.hid (ho)
      have G_13 := Lib.hid (G_12.out.kept p0 hg (fun k hk => by have := UX1.out k hk; omega))
      have z13 := hg.size
      clear ho hg HB12 W_12 x0_12 x1_12 G_12
      go_wp2_with fail
      refine (eqSS_any _ _ _ _ _ _ _ N _ _ ys _ G_13.out.mx W_13.out.mx rfl p0).mono ?_
      rintro e w14 ⟨rfl, hb⟩
      have HB14 := Lib.hid (bl_trans HB13.out hb)
      have W_14 := Lib.hid (W_13.out.below p0 hb)
      have x1_14 := Lib.hid (x1_13.out.below hb)
      have G_14 := Lib.hid (G_13.out.below p0 hb)
      have z14 := hb.size
      clear hb HB13 W_13 x1_13 G_13
      go_wp2_with fail
      refine (markSS_any _ _ _ _ N _ ys 1 _ G_14.out.mx rfl p0 hy p1 (by omega) (by omega) (by omega)).mono ?_
      rintro e w15 ⟨rfl, hm, hb⟩
      have HB15 := Lib.hid (bl_up HB14.out hb (by omega))
      have W_15 := Lib.hid (W_14.out.under hb (by omega))
      have G_15 := Lib.hid hm
      clear hb hm HB14 W_14 G_14 x1_14
      have q1 : 0 ≤ ((ys.length * N : Nat) : Int) := by omega
      have q2 : ((ys.length * N : Nat) : Int) ≤ 10000 := by have : ys.length * N ≤ 100 * 100 := Nat.mul_le_mul hy p1; omega
      obtain ⟨q, hq⟩ : ∃ q : Nat, q = ys.length * N := ⟨_, rfl⟩
      rw [← hq] at q1 q2 ⊢
      have HQ := Lib.hid hq
      clear hq
      have e2 : ((1 : Int) + (q : Int) != 1 + (q : Int)) = false := by simp
      go_wp2_with fail
      refine (heldSS_any _ _ _ _ N _ 1 _ G_15.out p0 hy p1 (by omega) (by omega)).mono ?_
      rintro e w16 ⟨rfl, hb⟩
      have HB16 := Lib.hid (bl_trans HB15.out hb)
      have W_16 := Lib.hid (W_15.out.below p0 hb)
      have G_16 := Lib.hid (G_15.out.below p0 hb)
      rw [← HQ.out]
      clear hb HB15 W_15 G_15
      go_wp2_with fail
      refine (toInt64S_any _ _ _ _ _ (R0.out.below HB16.out) hn0).mono ?_
      rintro e w17 ⟨rfl, ho, hb⟩
      have HB17 := Lib.hid (bl_trans HB16.out hb)
      have W_17 := Lib.hid (W_16.out.below p0 hb)
      have G_17 := Lib.hid (G_16.out.below p0 hb)
      have u0_17 := Lib.hid (OwnI.of_row ho)
      have z17 := hb.size
      clear hb ho HB16 W_16 G_16
      go_wp2_with fail
      refine (toInt64S_any _ _ _ _ _ (R1.out.below HB17.out) hn1).mono ?_
      rintro e w18 ⟨rfl, ho, hb⟩
      have HB18 := Lib.hid (bl_trans HB17.out hb)
      have W_18 := Lib.hid (W_17.out.below p0 hb)
      have G_18 := Lib.hid (G_17.out.below p0 hb)
      have u0_18 := Lib.hid (u0_17.out.below hb)
      have u1_18 := Lib.hid (OwnI.of_row ho)
      have z18 := hb.size
      clear hb ho HB17 W_17 G_17 u0_17
      go_wp2_with fail
      refine (HI.out _ _ _ _ _ u0_18.out.rd u1_18.out.rd).mono ?_
      rintro e w19 ⟨A_H, c_H, gs_H, rfl, hl, hm, hb⟩
      have HB19 := Lib.hid (bl_trans HB18.out hb)
      have W_19 := Lib.hid (W_18.out.below p0 hb)
      have G_19 := Lib.hid (G_18.out.below p0 hb)
      have H_19 := Lib.hid (hm.mb p0)
      have z19 := hb.size
      have L_H := Lib.hid hl
      clear hb hm hl HB18 W_18 G_18 u0_18 u1_18
      go_wp2_with fail
      refine (eqSS_any _ _ _ _ _ _ _ N _ _ ys _ H_19.out.mx W_19.out.mx rfl p0).mono ?_
      rintro e w20 ⟨rfl, hb⟩
      have HB20 := Lib.hid (bl_trans HB19.out hb)
      have W_20 := Lib.hid (W_19.out.below p0 hb)
      have G_20 := Lib.hid (G_19.out.below p0 hb)
      have H_20 := Lib.hid (H_19.out.below p0 hb)
      have z20 := hb.size
      clear hb HB19 W_19 G_19 H_19
      go_wp2_with fail
      refine (heldSS_any _ _ _ _ N _ 1 _ G_20.out p0 hy p1 (by omega) (by omega)).mono ?_
      rintro e w21 ⟨rfl, hb⟩
      have HB21 := Lib.hid (bl_trans HB20.out hb)
      have W_21 := Lib.hid (W_20.out.below p0 hb)
      have G_21 := Lib.hid (G_20.out.below p0 hb)
      have H_21 := Lib.hid (H_20.out.below p0 hb)
      rw [← HQ.out]
      clear hb HB20 W_20 G_20 H_20
      go_wp2
      go_ret
      exact ⟨rfl, HB21.out⟩
    · go_enter Try.func3, Try.ntmps3
      go_wp2
      go_ret
      exact ⟨rfl, Below.refl _ _⟩
  · go_enter Try.func3, Try.ntmps3
    go_wp2
    go_ret
    exact ⟨rfl, Below.refl _ _⟩
end Go.Proofs.Ythdmanngjnfamaa
