/- The abstract walk of the law over JoinSlopes. -/
import Derived.Test.YtjipalcceflkfaaToSlope
namespace Go.Proofs.Ytjipalcceflkfaa
open Go.RowKit

set_option maxHeartbeats 4000000 in
theorem lawExactJoinSlopes (A0 : Option Addr) (n0 c0 : Nat) (xs0 : List Int) (A1 : Option Addr) (n1 c1 : Nat) (xs1 : List Int) (N : Nat) (zs : List Int) (cd : Int) (w : World) (hr0 : RdC 3 w A0 n0 c0 (xs0.map (Value.int .i64))) (hn0 : n0 ≤ 1048576) (hr1 : RdC 3 w A1 n1 c1 (xs1.map (Value.int .i64))) (hn1 : n1 ≤ 1048576) (hsum : n0 + n1 ≤ 1048576) (hy : N ≤ 1048576)
    (hs : ∀ (B0 : Option Addr) (d0 : Nat) (B1 : Option Addr) (d1 : Nat) (w : World), RdC 3 w B0 n0 d0 (xs0.map (Value.int .i64)) → RdC 3 w B1 n1 d1 (xs1.map (Value.int .i64)) → Calls Try.prog 43 #[.slice B0 n0 d0, .slice B1 n1 d1] w fun e w' => ∃ A c, e = .returned (.tuple #[.slice A N c, .int .i64 cd]) ∧ OwnC 78 3 w' w.heap.size A N c (zs.map (Value.int .i64)) ∧ Below w.heap.size w w')
    (hi : ∀ (B0 : Option Addr) (d0 : Nat) (B1 : Option Addr) (d1 : Nat) (w : World), RdC 3 w B0 n0 d0 (xs0.map (Value.int .i64)) → RdC 3 w B1 n1 d1 (xs1.map (Value.int .i64)) → Calls Try.prog 45 #[.slice B0 n0 d0, .slice B1 n1 d1] w fun e w' => ∃ A c, e = .returned (.tuple #[.slice A N c, .int .i64 cd]) ∧ OwnC 78 3 w' w.heap.size A N c (zs.map (Value.int .i64)) ∧ Below w.heap.size w w') :
    Calls Try.prog 13 #[.slice A0 n0 c0, .slice A1 n1 c1] w fun e w' => e = .returned (.bool true) ∧ Below w.heap.size w w' := by
  have HR0 := Lib.hid hr0
  have HR1 := Lib.hid hr1
  have HS := Lib.hid hs
  have HI := Lib.hid hi
  have HB0 := Lib.hid (Below.refl w.heap.size w)
  clear hs hi hr0 hr1
  go_enter Try.func13, Try.ntmps13
  go_wp2_with fail
  refine (szSlopeS_yes A0 n0 c0 _ w (by omega) (by omega)).mono ?_
  rintro e w' ⟨rfl, rfl⟩
  go_wp2_with fail
  refine (szSlopeS_yes A1 n1 c1 _ w (by omega) (by omega)).mono ?_
  rintro e w' ⟨rfl, rfl⟩
  go_wp2_with fail
  refine (toSlopeS_any _ _ _ _ _ (HR0.out.below HB0.out) hn0).mono ?_
  rintro e w1 ⟨rfl, ho0, hb⟩
  have HB1 := Lib.hid (bl_trans HB0.out hb)
  have G_s0 : Hid (∀ k, rowOf _ _ = some k → w.heap.size ≤ k) := Lib.hid (fun k hk => Nat.le_trans HB0.out.size ((OwnC.row_ge ho0) k hk).1)
  have O_s0_1 := Lib.hid ho0
  clear hb ho0
  go_wp2_with fail
  refine (toSlopeS_any _ _ _ _ _ (HR1.out.below HB1.out) hn1).mono ?_
  rintro e w2 ⟨rfl, ho0, hb⟩
  have HB2 := Lib.hid (bl_trans HB1.out hb)
  have S_s0_s1 := Lib.hid (own_sep O_s0_1.out ho0 (Nat.le_refl _))
  have O_s0_2 := Lib.hid (O_s0_1.out.below hb)
  have G_s1 : Hid (∀ k, rowOf _ _ = some k → w.heap.size ≤ k) := Lib.hid (fun k hk => Nat.le_trans HB1.out.size ((OwnC.row_ge ho0) k hk).1)
  have O_s1_2 := Lib.hid ho0
  clear hb HB1 O_s0_1 ho0
  go_wp2_with fail
  refine (HS.out _ _ _ _ _ O_s0_2.out.rd O_s1_2.out.rd).mono ?_
  rintro e w3 ⟨A_w0, c_w0, rfl, ho0, hb⟩
  have HB3 := Lib.hid (bl_trans HB2.out hb)
  have S_s0_w0 := Lib.hid (own_sep O_s0_2.out ho0 (Nat.le_refl _))
  have S_s1_w0 := Lib.hid (own_sep O_s1_2.out ho0 (Nat.le_refl _))
  have O_s0_3 := Lib.hid (O_s0_2.out.below hb)
  have O_s1_3 := Lib.hid (O_s1_2.out.below hb)
  have G_w0 : Hid (∀ k, rowOf _ _ = some k → w.heap.size ≤ k) := Lib.hid (fun k hk => Nat.le_trans HB2.out.size ((OwnC.row_ge ho0) k hk).1)
  have O_w0_3 := Lib.hid ho0
  clear hb HB2 O_s0_2 O_s1_2 ho0
  clear O_s0_3
  clear O_s1_3
  go_wp2_with fail
  refine (toSlopeS_any _ _ _ _ _ (HR0.out.below HB3.out) hn0).mono ?_
  rintro e w4 ⟨rfl, ho0, hb⟩
  have HB4 := Lib.hid (bl_trans HB3.out hb)
  have S_w0_x0 := Lib.hid (own_sep O_w0_3.out ho0 (Nat.le_refl _))
  have O_w0_4 := Lib.hid (O_w0_3.out.below hb)
  have G_x0 : Hid (∀ k, rowOf _ _ = some k → w.heap.size ≤ k) := Lib.hid (fun k hk => Nat.le_trans HB3.out.size ((OwnC.row_ge ho0) k hk).1)
  have O_x0_4 := Lib.hid ho0
  clear hb HB3 O_w0_3 ho0
  go_wp2_with fail
  refine (toSlopeS_any _ _ _ _ _ (HR1.out.below HB4.out) hn1).mono ?_
  rintro e w5 ⟨rfl, ho0, hb⟩
  have HB5 := Lib.hid (bl_trans HB4.out hb)
  have S_w0_x1 := Lib.hid (own_sep O_w0_4.out ho0 (Nat.le_refl _))
  have S_x0_x1 := Lib.hid (own_sep O_x0_4.out ho0 (Nat.le_refl _))
  have O_w0_5 := Lib.hid (O_w0_4.out.below hb)
  have O_x0_5 := Lib.hid (O_x0_4.out.below hb)
  have G_x1 : Hid (∀ k, rowOf _ _ = some k → w.heap.size ≤ k) := Lib.hid (fun k hk => Nat.le_trans HB4.out.size ((OwnC.row_ge ho0) k hk).1)
  have O_x1_5 := Lib.hid ho0
  clear hb HB4 O_w0_4 O_x0_4 ho0
  go_wp2_with fail
  refine (HI.out _ _ _ _ _ O_x0_5.out.rd O_x1_5.out.rd).mono ?_
  rintro e w6 ⟨A_g0, c_g0, rfl, ho0, hb⟩
  have HB6 := Lib.hid (bl_trans HB5.out hb)
  have S_w0_g0 := Lib.hid (own_sep O_w0_5.out ho0 (Nat.le_refl _))
  have S_x0_g0 := Lib.hid (own_sep O_x0_5.out ho0 (Nat.le_refl _))
  have S_x1_g0 := Lib.hid (own_sep O_x1_5.out ho0 (Nat.le_refl _))
  have O_w0_6 := Lib.hid (O_w0_5.out.below hb)
  have O_x0_6 := Lib.hid (O_x0_5.out.below hb)
  have O_x1_6 := Lib.hid (O_x1_5.out.below hb)
  have G_g0 : Hid (∀ k, rowOf _ _ = some k → w.heap.size ≤ k) := Lib.hid (fun k hk => Nat.le_trans HB5.out.size ((OwnC.row_ge ho0) k hk).1)
  have O_g0_6 := Lib.hid ho0
  clear hb HB5 O_w0_5 O_x0_5 O_x1_5 ho0
  go_wp2_with fail
  refine (eqSlopeS_any _ _ _ _ _ _ _ O_g0_6.out.rd O_w0_6.out.rd).mono ?_
  rintro e w7 ⟨rfl, hb⟩
  have HB7 := Lib.hid (bl_trans HB6.out hb)
  have O_w0_7 := Lib.hid (O_w0_6.out.below hb)
  have O_x0_7 := Lib.hid (O_x0_6.out.below hb)
  have O_x1_7 := Lib.hid (O_x1_6.out.below hb)
  have O_g0_7 := Lib.hid (O_g0_6.out.below hb)
  clear hb HB6 O_w0_6 O_x0_6 O_x1_6 O_g0_6
  go_wp2_with fail
  refine (toSlopeS_any _ _ _ _ _ (HR0.out.below HB7.out) hn0).mono ?_
  rintro e w8 ⟨rfl, ho0, hb⟩
  have HB8 := Lib.hid (bl_trans HB7.out hb)
  have S_w0_t0 := Lib.hid (own_sep O_w0_7.out ho0 (Nat.le_refl _))
  have S_x0_t0 := Lib.hid (own_sep O_x0_7.out ho0 (Nat.le_refl _))
  have S_x1_t0 := Lib.hid (own_sep O_x1_7.out ho0 (Nat.le_refl _))
  have S_g0_t0 := Lib.hid (own_sep O_g0_7.out ho0 (Nat.le_refl _))
  have O_w0_8 := Lib.hid (O_w0_7.out.below hb)
  have O_x0_8 := Lib.hid (O_x0_7.out.below hb)
  have O_x1_8 := Lib.hid (O_x1_7.out.below hb)
  have O_g0_8 := Lib.hid (O_g0_7.out.below hb)
  have G_t0 : Hid (∀ k, rowOf _ _ = some k → w.heap.size ≤ k) := Lib.hid (fun k hk => Nat.le_trans HB7.out.size ((OwnC.row_ge ho0) k hk).1)
  have O_t0_8 := Lib.hid ho0
  clear hb HB7 O_w0_7 O_x0_7 O_x1_7 O_g0_7 ho0
  go_wp2_with fail
  refine (eqSlopeS_any _ _ _ _ _ _ _ O_x0_8.out.rd O_t0_8.out.rd).mono ?_
  rintro e w9 ⟨rfl, hb⟩
  have HB9 := Lib.hid (bl_trans HB8.out hb)
  have O_w0_9 := Lib.hid (O_w0_8.out.below hb)
  have O_x0_9 := Lib.hid (O_x0_8.out.below hb)
  have O_x1_9 := Lib.hid (O_x1_8.out.below hb)
  have O_g0_9 := Lib.hid (O_g0_8.out.below hb)
  have O_t0_9 := Lib.hid (O_t0_8.out.below hb)
  clear hb HB8 O_w0_8 O_x0_8 O_x1_8 O_g0_8 O_t0_8
  clear O_t0_9
  go_wp2_with fail
  refine (toSlopeS_any _ _ _ _ _ (HR1.out.below HB9.out) hn1).mono ?_
  rintro e w10 ⟨rfl, ho0, hb⟩
  have HB10 := Lib.hid (bl_trans HB9.out hb)
  have S_w0_t1 := Lib.hid (own_sep O_w0_9.out ho0 (Nat.le_refl _))
  have S_x0_t1 := Lib.hid (own_sep O_x0_9.out ho0 (Nat.le_refl _))
  have S_x1_t1 := Lib.hid (own_sep O_x1_9.out ho0 (Nat.le_refl _))
  have S_g0_t1 := Lib.hid (own_sep O_g0_9.out ho0 (Nat.le_refl _))
  have O_w0_10 := Lib.hid (O_w0_9.out.below hb)
  have O_x0_10 := Lib.hid (O_x0_9.out.below hb)
  have O_x1_10 := Lib.hid (O_x1_9.out.below hb)
  have O_g0_10 := Lib.hid (O_g0_9.out.below hb)
  have G_t1 : Hid (∀ k, rowOf _ _ = some k → w.heap.size ≤ k) := Lib.hid (fun k hk => Nat.le_trans HB9.out.size ((OwnC.row_ge ho0) k hk).1)
  have O_t1_10 := Lib.hid ho0
  clear hb HB9 O_w0_9 O_x0_9 O_x1_9 O_g0_9 ho0
  go_wp2_with fail
  refine (eqSlopeS_any _ _ _ _ _ _ _ O_x1_10.out.rd O_t1_10.out.rd).mono ?_
  rintro e w11 ⟨rfl, hb⟩
  have HB11 := Lib.hid (bl_trans HB10.out hb)
  have O_w0_11 := Lib.hid (O_w0_10.out.below hb)
  have O_x0_11 := Lib.hid (O_x0_10.out.below hb)
  have O_x1_11 := Lib.hid (O_x1_10.out.below hb)
  have O_g0_11 := Lib.hid (O_g0_10.out.below hb)
  have O_t1_11 := Lib.hid (O_t1_10.out.below hb)
  clear hb HB10 O_w0_10 O_x0_10 O_x1_10 O_g0_10 O_t1_10
  clear O_t1_11
  go_wp2_with fail
  refine (markSlopeS_any _ _ _ _ _ _ _ O_x0_11.out hn0 (by omega) (by omega)).mono ?_
  rintro e w12 ⟨rfl, ho, hg⟩
  have HB12 := Lib.hid (below_mark HB11.out hg G_x0.out)
  have O_w0_12 := Lib.hid (O_w0_11.out.kept hg S_w0_x0.out)
  have O_x0_12 := Lib.hid ho
  have O_x1_12 := Lib.hid (O_x1_11.out.kept hg (sep_symm S_x0_x1.out))
  have O_g0_12 := Lib.hid (O_g0_11.out.kept hg (sep_symm S_x0_g0.out))
  clear ho hg HB11 O_w0_11 O_x0_11 O_x1_11 O_g0_11
  go_wp2_with fail
  refine (markSlopeS_any _ _ _ _ _ _ _ O_x1_12.out hn1 (by omega) (by omega)).mono ?_
  rintro e w13 ⟨rfl, ho, hg⟩
  have HB13 := Lib.hid (below_mark HB12.out hg G_x1.out)
  have O_w0_13 := Lib.hid (O_w0_12.out.kept hg S_w0_x1.out)
  have O_x0_13 := Lib.hid (O_x0_12.out.kept hg S_x0_x1.out)
  have O_x1_13 := Lib.hid ho
  have O_g0_13 := Lib.hid (O_g0_12.out.kept hg (sep_symm S_x1_g0.out))
  clear ho hg HB12 O_w0_12 O_x0_12 O_x1_12 O_g0_12
  go_wp2_with fail
  refine (eqSlopeS_any _ _ _ _ _ _ _ O_g0_13.out.rd O_w0_13.out.rd).mono ?_
  rintro e w14 ⟨rfl, hb⟩
  have HB14 := Lib.hid (bl_trans HB13.out hb)
  have O_w0_14 := Lib.hid (O_w0_13.out.below hb)
  have O_x0_14 := Lib.hid (O_x0_13.out.below hb)
  have O_x1_14 := Lib.hid (O_x1_13.out.below hb)
  have O_g0_14 := Lib.hid (O_g0_13.out.below hb)
  clear hb HB13 O_w0_13 O_x0_13 O_x1_13 O_g0_13
  clear O_x0_14
  clear O_x1_14
  go_wp2_with fail
  refine (markSlopeS_any _ _ _ _ _ _ _ O_g0_14.out hy (by omega) (by omega)).mono ?_
  rintro e w15 ⟨rfl, ho, hg⟩
  have HB15 := Lib.hid (below_mark HB14.out hg G_g0.out)
  have O_w0_15 := Lib.hid (O_w0_14.out.kept hg S_w0_g0.out)
  have O_g0_15 := Lib.hid ho
  clear ho hg HB14 O_w0_14 O_g0_14
  go_wp2_with fail
  refine ((heldSlopeS_any _ _ _ _ _ O_g0_15.out.rd hy (by omega) (by omega)).mono fun _ _ h => drawn_below h).mono ?_
  rintro e w16 ⟨rfl, hb⟩
  have HB16 := Lib.hid (bl_trans HB15.out hb)
  have O_w0_16 := Lib.hid (O_w0_15.out.below hb)
  have O_g0_16 := Lib.hid (O_g0_15.out.below hb)
  clear hb HB15 O_w0_15 O_g0_15
  go_wp2_with fail
  refine (toSlopeS_any _ _ _ _ _ (HR0.out.below HB16.out) hn0).mono ?_
  rintro e w17 ⟨rfl, ho0, hb⟩
  have HB17 := Lib.hid (bl_trans HB16.out hb)
  have S_w0_u0 := Lib.hid (own_sep O_w0_16.out ho0 (Nat.le_refl _))
  have S_g0_u0 := Lib.hid (own_sep O_g0_16.out ho0 (Nat.le_refl _))
  have O_w0_17 := Lib.hid (O_w0_16.out.below hb)
  have O_g0_17 := Lib.hid (O_g0_16.out.below hb)
  have G_u0 : Hid (∀ k, rowOf _ _ = some k → w.heap.size ≤ k) := Lib.hid (fun k hk => Nat.le_trans HB16.out.size ((OwnC.row_ge ho0) k hk).1)
  have O_u0_17 := Lib.hid ho0
  clear hb HB16 O_w0_16 O_g0_16 ho0
  go_wp2_with fail
  refine (toSlopeS_any _ _ _ _ _ (HR1.out.below HB17.out) hn1).mono ?_
  rintro e w18 ⟨rfl, ho0, hb⟩
  have HB18 := Lib.hid (bl_trans HB17.out hb)
  have S_w0_u1 := Lib.hid (own_sep O_w0_17.out ho0 (Nat.le_refl _))
  have S_g0_u1 := Lib.hid (own_sep O_g0_17.out ho0 (Nat.le_refl _))
  have S_u0_u1 := Lib.hid (own_sep O_u0_17.out ho0 (Nat.le_refl _))
  have O_w0_18 := Lib.hid (O_w0_17.out.below hb)
  have O_g0_18 := Lib.hid (O_g0_17.out.below hb)
  have O_u0_18 := Lib.hid (O_u0_17.out.below hb)
  have G_u1 : Hid (∀ k, rowOf _ _ = some k → w.heap.size ≤ k) := Lib.hid (fun k hk => Nat.le_trans HB17.out.size ((OwnC.row_ge ho0) k hk).1)
  have O_u1_18 := Lib.hid ho0
  clear hb HB17 O_w0_17 O_g0_17 O_u0_17 ho0
  go_wp2_with fail
  refine (HI.out _ _ _ _ _ O_u0_18.out.rd O_u1_18.out.rd).mono ?_
  rintro e w19 ⟨A_h0, c_h0, rfl, ho0, hb⟩
  have HB19 := Lib.hid (bl_trans HB18.out hb)
  have S_w0_h0 := Lib.hid (own_sep O_w0_18.out ho0 (Nat.le_refl _))
  have S_g0_h0 := Lib.hid (own_sep O_g0_18.out ho0 (Nat.le_refl _))
  have S_u0_h0 := Lib.hid (own_sep O_u0_18.out ho0 (Nat.le_refl _))
  have S_u1_h0 := Lib.hid (own_sep O_u1_18.out ho0 (Nat.le_refl _))
  have O_w0_19 := Lib.hid (O_w0_18.out.below hb)
  have O_g0_19 := Lib.hid (O_g0_18.out.below hb)
  have O_u0_19 := Lib.hid (O_u0_18.out.below hb)
  have O_u1_19 := Lib.hid (O_u1_18.out.below hb)
  have G_h0 : Hid (∀ k, rowOf _ _ = some k → w.heap.size ≤ k) := Lib.hid (fun k hk => Nat.le_trans HB18.out.size ((OwnC.row_ge ho0) k hk).1)
  have O_h0_19 := Lib.hid ho0
  clear hb HB18 O_w0_18 O_g0_18 O_u0_18 O_u1_18 ho0
  go_wp2_with fail
  refine (eqSlopeS_any _ _ _ _ _ _ _ O_h0_19.out.rd O_w0_19.out.rd).mono ?_
  rintro e w20 ⟨rfl, hb⟩
  have HB20 := Lib.hid (bl_trans HB19.out hb)
  have O_w0_20 := Lib.hid (O_w0_19.out.below hb)
  have O_g0_20 := Lib.hid (O_g0_19.out.below hb)
  have O_u0_20 := Lib.hid (O_u0_19.out.below hb)
  have O_u1_20 := Lib.hid (O_u1_19.out.below hb)
  have O_h0_20 := Lib.hid (O_h0_19.out.below hb)
  clear hb HB19 O_w0_19 O_g0_19 O_u0_19 O_u1_19 O_h0_19
  go_wp2_with fail
  refine ((heldSlopeS_any _ _ _ _ _ O_g0_20.out.rd hy (by omega) (by omega)).mono fun _ _ h => drawn_below h).mono ?_
  rintro e w21 ⟨rfl, hb⟩
  have HB21 := Lib.hid (bl_trans HB20.out hb)
  have O_w0_21 := Lib.hid (O_w0_20.out.below hb)
  have O_g0_21 := Lib.hid (O_g0_20.out.below hb)
  have O_u0_21 := Lib.hid (O_u0_20.out.below hb)
  have O_u1_21 := Lib.hid (O_u1_20.out.below hb)
  have O_h0_21 := Lib.hid (O_h0_20.out.below hb)
  clear hb HB20 O_w0_20 O_g0_20 O_u0_20 O_u1_20 O_h0_20
  go_wp2
  go_ret
  exact ⟨rfl, HB21.out⟩

end Go.Proofs.Ytjipalcceflkfaa