
/- The abstract walk of the law over PowerSums. -/
import Derived.Test.YtjipalcceflkfaaOx
namespace Go.Proofs.Ytjipalcceflkfaa
open Go.RowKit

set_option maxHeartbeats 4000000 in
theorem lawExactPowerSums (A0 : Option Addr) (n0 c0 : Nat) (xs0 : List Int) (a1 : Int) (ys : List Int) (cd : Int) (w : World) (hr0 : Rd .i64 w A0 n0 c0 xs0) (hn0 : n0 ≤ 1048576) (hy : ys.length ≤ 1048576)
    (hs : ∀ (B0 : Option Addr) (d0 : Nat) (w : World), Rd .i64 w B0 n0 d0 xs0 → Calls Try.prog 35 #[.slice B0 n0 d0, .int .i64 a1] w fun e w' => ∃ A c, e = .returned (.tuple #[.slice A ys.length c, .int .i64 cd]) ∧ OwnX w' w.heap.size A ys.length c ys ∧ Below w.heap.size w w')
    (hi : ∀ (B0 : Option Addr) (d0 : Nat) (w : World), Rd .i64 w B0 n0 d0 xs0 → Calls Try.prog 36 #[.slice B0 n0 d0, .int .i64 a1] w fun e w' => ∃ A c, e = .returned (.tuple #[.slice A ys.length c, .int .i64 cd]) ∧ OwnX w' w.heap.size A ys.length c ys ∧ Below w.heap.size w w') :
    Calls Try.prog 11 #[.slice A0 n0 c0, .int .i64 a1] w fun e w' => e = .returned (.bool true) ∧ Below w.heap.size w w' := by
  have HR0 := Lib.hid hr0
  have HS := Lib.hid hs
  have HI := Lib.hid hi
  have HB0 := Lib.hid (Below.refl w.heap.size w)
  clear hs hi hr0
  go_enter Try.func11, Try.ntmps11
  go_wp2_with fail
  refine (toInt64S_any _ _ _ _ _ (HR0.out.below HB0.out) hn0).mono ?_
  rintro e w1 ⟨rfl, ho0, hb⟩
  have HB1 := Lib.hid (bl_trans HB0.out hb)
  have G_s0 : Hid (∀ k, rowOf _ _ = some k → w.heap.size ≤ k) := Lib.hid (fun k hk => Nat.le_trans HB0.out.size ((((OwnI.of_row ho0)).row_ge) k hk).1)
  have O_s0_1 := Lib.hid (OwnI.of_row ho0)
  clear hb ho0
  go_wp2_with fail
  refine (HS.out _ _ _ O_s0_1.out.rd).mono ?_
  rintro e w2 ⟨A_w0, c_w0, rfl, ho0, hb⟩
  have HB2 := Lib.hid (bl_trans HB1.out hb)
  have S_s0_w0 := Lib.hid (sep_ge O_s0_1.out.row_ge (ho0).row_ge (Nat.le_refl _))
  have O_s0_2 := Lib.hid (O_s0_1.out.below hb)
  have G_w0 : Hid (∀ k, rowOf _ _ = some k → w.heap.size ≤ k) := Lib.hid (fun k hk => Nat.le_trans HB1.out.size (((ho0).row_ge) k hk).1)
  have O_w0_2 := Lib.hid ho0
  clear hb HB1 O_s0_1 ho0
  clear O_s0_2
  go_wp2_with fail
  refine (toInt64S_any _ _ _ _ _ (HR0.out.below HB2.out) hn0).mono ?_
  rintro e w3 ⟨rfl, ho0, hb⟩
  have HB3 := Lib.hid (bl_trans HB2.out hb)
  have S_w0_x0 := Lib.hid (sep_ge O_w0_2.out.row_ge ((OwnI.of_row ho0)).row_ge (Nat.le_refl _))
  have O_w0_3 := Lib.hid (O_w0_2.out.below hb)
  have G_x0 : Hid (∀ k, rowOf _ _ = some k → w.heap.size ≤ k) := Lib.hid (fun k hk => Nat.le_trans HB2.out.size ((((OwnI.of_row ho0)).row_ge) k hk).1)
  have O_x0_3 := Lib.hid (OwnI.of_row ho0)
  clear hb HB2 O_w0_2 ho0
  go_wp2_with fail
  refine (HI.out _ _ _ O_x0_3.out.rd).mono ?_
  rintro e w4 ⟨A_g0, c_g0, rfl, ho0, hb⟩
  have HB4 := Lib.hid (bl_trans HB3.out hb)
  have S_w0_g0 := Lib.hid (sep_ge O_w0_3.out.row_ge (ho0).row_ge (Nat.le_refl _))
  have S_x0_g0 := Lib.hid (sep_ge O_x0_3.out.row_ge (ho0).row_ge (Nat.le_refl _))
  have O_w0_4 := Lib.hid (O_w0_3.out.below hb)
  have O_x0_4 := Lib.hid (O_x0_3.out.below hb)
  have G_g0 : Hid (∀ k, rowOf _ _ = some k → w.heap.size ≤ k) := Lib.hid (fun k hk => Nat.le_trans HB3.out.size (((ho0).row_ge) k hk).1)
  have O_g0_4 := Lib.hid ho0
  clear hb HB3 O_w0_3 O_x0_3 ho0
  go_wp2_with fail
  refine ((eqInt64S_any _ _ _ _ _ _ _ O_g0_4.out.rd O_w0_4.out.rd).mono fun _ _ h => drawn_below h).mono ?_
  rintro e w5 ⟨rfl, hb⟩
  have HB5 := Lib.hid (bl_trans HB4.out hb)
  have O_w0_5 := Lib.hid (O_w0_4.out.below hb)
  have O_x0_5 := Lib.hid (O_x0_4.out.below hb)
  have O_g0_5 := Lib.hid (O_g0_4.out.below hb)
  clear hb HB4 O_w0_4 O_x0_4 O_g0_4
  go_wp2_with fail
  refine (toInt64S_any _ _ _ _ _ (HR0.out.below HB5.out) hn0).mono ?_
  rintro e w6 ⟨rfl, ho0, hb⟩
  have HB6 := Lib.hid (bl_trans HB5.out hb)
  have S_w0_t0 := Lib.hid (sep_ge O_w0_5.out.row_ge ((OwnI.of_row ho0)).row_ge (Nat.le_refl _))
  have S_x0_t0 := Lib.hid (sep_ge O_x0_5.out.row_ge ((OwnI.of_row ho0)).row_ge (Nat.le_refl _))
  have S_g0_t0 := Lib.hid (sep_ge O_g0_5.out.row_ge ((OwnI.of_row ho0)).row_ge (Nat.le_refl _))
  have O_w0_6 := Lib.hid (O_w0_5.out.below hb)
  have O_x0_6 := Lib.hid (O_x0_5.out.below hb)
  have O_g0_6 := Lib.hid (O_g0_5.out.below hb)
  have G_t0 : Hid (∀ k, rowOf _ _ = some k → w.heap.size ≤ k) := Lib.hid (fun k hk => Nat.le_trans HB5.out.size ((((OwnI.of_row ho0)).row_ge) k hk).1)
  have O_t0_6 := Lib.hid (OwnI.of_row ho0)
  clear hb HB5 O_w0_5 O_x0_5 O_g0_5 ho0
  go_wp2_with fail
  refine ((eqInt64S_any _ _ _ _ _ _ _ O_x0_6.out.rd O_t0_6.out.rd).mono fun _ _ h => drawn_below h).mono ?_
  rintro e w7 ⟨rfl, hb⟩
  have HB7 := Lib.hid (bl_trans HB6.out hb)
  have O_w0_7 := Lib.hid (O_w0_6.out.below hb)
  have O_x0_7 := Lib.hid (O_x0_6.out.below hb)
  have O_g0_7 := Lib.hid (O_g0_6.out.below hb)
  have O_t0_7 := Lib.hid (O_t0_6.out.below hb)
  clear hb HB6 O_w0_6 O_x0_6 O_g0_6 O_t0_6
  clear O_t0_7
  go_wp2_with fail
  refine (mark_any _ _ _ _ _ _ _ O_x0_7.out hn0 (by omega) (by omega)).mono ?_
  rintro e w8 ⟨rfl, ho, hg⟩
  have HB8 := Lib.hid (below_mark HB7.out hg G_x0.out)
  have O_w0_8 := Lib.hid (O_w0_7.out.kept hg S_w0_x0.out)
  have O_x0_8 := Lib.hid ho
  have O_g0_8 := Lib.hid (O_g0_7.out.kept hg (sep_symm S_x0_g0.out))
  clear ho hg HB7 O_w0_7 O_x0_7 O_g0_7
  go_wp2_with fail
  refine ((eqInt64S_any _ _ _ _ _ _ _ O_g0_8.out.rd O_w0_8.out.rd).mono fun _ _ h => drawn_below h).mono ?_
  rintro e w9 ⟨rfl, hb⟩
  have HB9 := Lib.hid (bl_trans HB8.out hb)
  have O_w0_9 := Lib.hid (O_w0_8.out.below hb)
  have O_x0_9 := Lib.hid (O_x0_8.out.below hb)
  have O_g0_9 := Lib.hid (O_g0_8.out.below hb)
  clear hb HB8 O_w0_8 O_x0_8 O_g0_8
  clear O_x0_9
  go_wp2_with fail
  refine (markX_any _ _ _ _ _ _ _ O_g0_9.out hy (by omega) (by omega)).mono ?_
  rintro e w10 ⟨rfl, ho, hg⟩
  have HB10 := Lib.hid (below_mark HB9.out hg G_g0.out)
  have O_w0_10 := Lib.hid (O_w0_9.out.kept hg S_w0_g0.out)
  have O_g0_10 := Lib.hid ho
  clear ho hg HB9 O_w0_9 O_g0_9
  go_wp2_with fail
  refine ((held_any _ _ _ _ _ O_g0_10.out.rd hy (by omega) (by omega)).mono fun _ _ h => drawn_below h).mono ?_
  rintro e w11 ⟨rfl, hb⟩
  have HB11 := Lib.hid (bl_trans HB10.out hb)
  have O_w0_11 := Lib.hid (O_w0_10.out.below hb)
  have O_g0_11 := Lib.hid (O_g0_10.out.below hb)
  clear hb HB10 O_w0_10 O_g0_10
  go_wp2_with fail
  refine (toInt64S_any _ _ _ _ _ (HR0.out.below HB11.out) hn0).mono ?_
  rintro e w12 ⟨rfl, ho0, hb⟩
  have HB12 := Lib.hid (bl_trans HB11.out hb)
  have S_w0_u0 := Lib.hid (sep_ge O_w0_11.out.row_ge ((OwnI.of_row ho0)).row_ge (Nat.le_refl _))
  have S_g0_u0 := Lib.hid (sep_ge O_g0_11.out.row_ge ((OwnI.of_row ho0)).row_ge (Nat.le_refl _))
  have O_w0_12 := Lib.hid (O_w0_11.out.below hb)
  have O_g0_12 := Lib.hid (O_g0_11.out.below hb)
  have G_u0 : Hid (∀ k, rowOf _ _ = some k → w.heap.size ≤ k) := Lib.hid (fun k hk => Nat.le_trans HB11.out.size ((((OwnI.of_row ho0)).row_ge) k hk).1)
  have O_u0_12 := Lib.hid (OwnI.of_row ho0)
  clear hb HB11 O_w0_11 O_g0_11 ho0
  go_wp2_with fail
  refine (HI.out _ _ _ O_u0_12.out.rd).mono ?_
  rintro e w13 ⟨A_h0, c_h0, rfl, ho0, hb⟩
  have HB13 := Lib.hid (bl_trans HB12.out hb)
  have S_w0_h0 := Lib.hid (sep_ge O_w0_12.out.row_ge (ho0).row_ge (Nat.le_refl _))
  have S_g0_h0 := Lib.hid (sep_ge O_g0_12.out.row_ge (ho0).row_ge (Nat.le_refl _))
  have S_u0_h0 := Lib.hid (sep_ge O_u0_12.out.row_ge (ho0).row_ge (Nat.le_refl _))
  have O_w0_13 := Lib.hid (O_w0_12.out.below hb)
  have O_g0_13 := Lib.hid (O_g0_12.out.below hb)
  have O_u0_13 := Lib.hid (O_u0_12.out.below hb)
  have G_h0 : Hid (∀ k, rowOf _ _ = some k → w.heap.size ≤ k) := Lib.hid (fun k hk => Nat.le_trans HB12.out.size (((ho0).row_ge) k hk).1)
  have O_h0_13 := Lib.hid ho0
  clear hb HB12 O_w0_12 O_g0_12 O_u0_12 ho0
  go_wp2_with fail
  refine ((eqInt64S_any _ _ _ _ _ _ _ O_h0_13.out.rd O_w0_13.out.rd).mono fun _ _ h => drawn_below h).mono ?_
  rintro e w14 ⟨rfl, hb⟩
  have HB14 := Lib.hid (bl_trans HB13.out hb)
  have O_w0_14 := Lib.hid (O_w0_13.out.below hb)
  have O_g0_14 := Lib.hid (O_g0_13.out.below hb)
  have O_u0_14 := Lib.hid (O_u0_13.out.below hb)
  have O_h0_14 := Lib.hid (O_h0_13.out.below hb)
  clear hb HB13 O_w0_13 O_g0_13 O_u0_13 O_h0_13
  go_wp2_with fail
  refine ((held_any _ _ _ _ _ O_g0_14.out.rd hy (by omega) (by omega)).mono fun _ _ h => drawn_below h).mono ?_
  rintro e w15 ⟨rfl, hb⟩
  have HB15 := Lib.hid (bl_trans HB14.out hb)
  have O_w0_15 := Lib.hid (O_w0_14.out.below hb)
  have O_g0_15 := Lib.hid (O_g0_14.out.below hb)
  have O_u0_15 := Lib.hid (O_u0_14.out.below hb)
  have O_h0_15 := Lib.hid (O_h0_14.out.below hb)
  clear hb HB14 O_w0_14 O_g0_14 O_u0_14 O_h0_14
  go_wp2
  go_ret
  exact ⟨rfl, HB15.out⟩

end Go.Proofs.Ytjipalcceflkfaa