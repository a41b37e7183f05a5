
/- The walk of the law over ReadPowers. -/
import Derived.Test.YtgajgonepcikbaaDoorRdP2
import Derived.Test.YtgajgonepcikbaaDoorSPower
import Derived.Test.YtgajgonepcikbaaDoorOwn
namespace Go.Proofs.YtgajgonepcikbaaDoor
open Go.RowKit Go.Joins

set_option maxHeartbeats 4000000 in
theorem lawExactReadPowers (s0 : ByteArray) (N : Nat) (zs : List Int) (cd : Int) (w : World)  (hz0 : s0.size ≤ 1048576) (hy : N ≤ 1048576)
    (hs : ∀  (w1 : World), Below w.heap.size w w1 → Calls Tryd.prog 35 #[.string s0] w1 fun e w' => ∃ A c, e = .returned (.tuple #[.slice A N c, .int .i64 cd]) ∧ OwnC 74 2 w' w1.heap.size A N c (zs.map (Value.int .i64)) ∧ Below w1.heap.size w1 w')
    (hi : ∀  (w1 : World), Below w.heap.size w w1 → Calls Tryd.prog 36 #[.string s0] w1 fun e w' => ∃ A c, e = .returned (.tuple #[.slice A N c, .int .i64 cd]) ∧ OwnC 74 2 w' w1.heap.size A N c (zs.map (Value.int .i64)) ∧ Below w1.heap.size w1 w') :
    Calls Tryd.prog 8 #[.string s0] w fun e w' => e = .returned (.bool true) ∧ Below w.heap.size w w' := by
  have HS := Lib.hid hs
  have HI := Lib.hid hi
  have HB0 := Lib.hid (Below.refl w.heap.size w)
  clear hs hi 
  go_enter Tryd.func8, Tryd.ntmps8
  go_wp2_with fail
  refine (HS.out  _ HB0.out ).mono ?_
  rintro e w1 ⟨A_w0, c_w0, rfl, ho0, hb⟩
  have HB1 := Lib.hid (bl_trans HB0.out hb)
  have G_w0 : Hid (∀ k, rowOf _ _ = some k → w.heap.size ≤ k) := Lib.hid (fun k hk => Nat.le_trans HB0.out.size ((OwnC.row_ge ho0) k hk).1)
  have O_w0_1 := Lib.hid ho0
  clear hb ho0
  go_wp2_with fail
  refine (HI.out  _ HB1.out ).mono ?_
  rintro e w2 ⟨A_g0, c_g0, rfl, ho0, hb⟩
  have HB2 := Lib.hid (bl_trans HB1.out hb)
  have S_w0_g0 := Lib.hid (own_sep O_w0_1.out ho0 (Nat.le_refl _))
  have O_w0_2 := Lib.hid (O_w0_1.out.below hb)
  have G_g0 : Hid (∀ k, rowOf _ _ = some k → w.heap.size ≤ k) := Lib.hid (fun k hk => Nat.le_trans HB1.out.size ((OwnC.row_ge ho0) k hk).1)
  have O_g0_2 := Lib.hid ho0
  clear hb HB1 O_w0_1 ho0
  go_wp2_with fail
  refine (eqPowerS_any _ _ _ _ _ _ _ O_g0_2.out.rd O_w0_2.out.rd).mono ?_
  rintro e w3 ⟨rfl, hb⟩
  have HB3 := Lib.hid (bl_trans HB2.out hb)
  have O_w0_3 := Lib.hid (O_w0_2.out.below hb)
  have O_g0_3 := Lib.hid (O_g0_2.out.below hb)
  clear hb HB2 O_w0_2 O_g0_2
  go_wp2_with fail
  refine (markPowerS_any _ _ _ _ _ _ _ O_g0_3.out hy (by omega) (by omega)).mono ?_
  rintro e w4 ⟨rfl, ho, hg⟩
  have HB4 := Lib.hid (below_mark HB3.out hg G_g0.out)
  have O_w0_4 := Lib.hid (O_w0_3.out.kept hg S_w0_g0.out)
  have O_g0_4 := Lib.hid ho
  clear ho hg HB3 O_w0_3 O_g0_3
  go_wp2_with fail
  refine ((heldPowerS_any _ _ _ _ _ O_g0_4.out.rd hy (by omega) (by omega)).mono fun _ _ h => drawn_below h).mono ?_
  rintro e w5 ⟨rfl, hb⟩
  have HB5 := Lib.hid (bl_trans HB4.out hb)
  have O_w0_5 := Lib.hid (O_w0_4.out.below hb)
  have O_g0_5 := Lib.hid (O_g0_4.out.below hb)
  clear hb HB4 O_w0_4 O_g0_4
  go_wp2_with fail
  refine (HI.out  _ HB5.out ).mono ?_
  rintro e w6 ⟨A_h0, c_h0, rfl, ho0, hb⟩
  have HB6 := Lib.hid (bl_trans HB5.out hb)
  have S_w0_h0 := Lib.hid (own_sep O_w0_5.out ho0 (Nat.le_refl _))
  have S_g0_h0 := Lib.hid (own_sep O_g0_5.out ho0 (Nat.le_refl _))
  have O_w0_6 := Lib.hid (O_w0_5.out.below hb)
  have O_g0_6 := Lib.hid (O_g0_5.out.below hb)
  have G_h0 : Hid (∀ k, rowOf _ _ = some k → w.heap.size ≤ k) := Lib.hid (fun k hk => Nat.le_trans HB5.out.size ((OwnC.row_ge ho0) k hk).1)
  have O_h0_6 := Lib.hid ho0
  clear hb HB5 O_w0_5 O_g0_5 ho0
  go_wp2_with fail
  refine (eqPowerS_any _ _ _ _ _ _ _ O_h0_6.out.rd O_w0_6.out.rd).mono ?_
  rintro e w7 ⟨rfl, hb⟩
  have HB7 := Lib.hid (bl_trans HB6.out hb)
  have O_w0_7 := Lib.hid (O_w0_6.out.below hb)
  have O_g0_7 := Lib.hid (O_g0_6.out.below hb)
  have O_h0_7 := Lib.hid (O_h0_6.out.below hb)
  clear hb HB6 O_w0_6 O_g0_6 O_h0_6
  go_wp2_with fail
  refine ((heldPowerS_any _ _ _ _ _ O_g0_7.out.rd hy (by omega) (by omega)).mono fun _ _ h => drawn_below h).mono ?_
  rintro e w8 ⟨rfl, hb⟩
  have HB8 := Lib.hid (bl_trans HB7.out hb)
  have O_w0_8 := Lib.hid (O_w0_7.out.below hb)
  have O_g0_8 := Lib.hid (O_g0_7.out.below hb)
  have O_h0_8 := Lib.hid (O_h0_7.out.below hb)
  clear hb HB7 O_w0_7 O_g0_7 O_h0_7
  go_wp2
  go_ret
  exact ⟨rfl, HB8.out⟩

theorem walkExactReadPowers (s0 : ByteArray) (w : World) (_ : s0.size ≤ maxLen) (hE : Er w) :
    Calls Tryd.prog 8 #[.string s0] w fun e w' => e = .returned (.bool true) ∧ Below w.heap.size w w' := by
  by_cases hz0 : s0.size ≤ 1048576
  · exact lawExactReadPowers s0 (rpL s0.data.toList).length (fl2 (rpL s0.data.toList)) (rpC s0.data.toList) w hz0 rpL_len
      (fun _ _ => specReadPowers_at rfl rfl hz0 _)
      (fun _ hb => implReadPowers_at rfl rfl hz0 _ (hE.below hb))
  · have hz2 : 1048576 < s0.size := by omega
    go_enter Tryd.func8, Tryd.ntmps8
    go_wp2
    go_ret
    exact ⟨rfl, Below.refl _ _⟩

end Go.Proofs.YtgajgonepcikbaaDoor
