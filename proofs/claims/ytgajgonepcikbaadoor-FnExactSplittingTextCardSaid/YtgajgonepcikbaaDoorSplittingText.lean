
/- The walk of the law over SplittingText. -/
import Derived.Test.YtgajgonepcikbaaDoorSpT2
import Derived.Test.YtgajgonepcikbaaDoorToSplitting
import Derived.Test.YtgajgonepcikbaaDoorOwn
namespace Go.Proofs.YtgajgonepcikbaaDoor
open Go.RowKit Go.Joins

set_option maxHeartbeats 4000000 in
theorem lawExactSplittingText (A0 : Option Addr) (n0 c0 : Nat) (xs0 : List Int) (T : ByteArray) (C : Int) (w : World) (hr0 : RdC 3 w A0 n0 c0 (xs0.map (Value.int .i64))) (hn0 : n0 ≤ 1048576)
    (hs : ∀ (B0 : Option Addr) (d0 : Nat) (w1 : World), Below w.heap.size w w1 → RdC 3 w1 B0 n0 d0 (xs0.map (Value.int .i64)) → Calls Tryd.prog 28 #[.slice B0 n0 d0] w1 fun e w' => e = .returned (.tuple #[.string T, .int .i64 C]) ∧ Below w1.heap.size w1 w')
    (hi : ∀ (B0 : Option Addr) (d0 : Nat) (w1 : World), Below w.heap.size w w1 → RdC 3 w1 B0 n0 d0 (xs0.map (Value.int .i64)) → Calls Tryd.prog 30 #[.slice B0 n0 d0] w1 fun e w' => e = .returned (.tuple #[.string T, .int .i64 C]) ∧ Below w1.heap.size w1 w') :
    Calls Tryd.prog 6 #[.slice A0 n0 c0] w fun e w' => e = .returned (.bool true) ∧ Below w.heap.size w w' := by
  have HR0 := Lib.hid hr0
  have HS := Lib.hid hs
  have HI := Lib.hid hi
  have HB0 := Lib.hid (Below.refl w.heap.size w)
  clear hs hi hr0
  have hself : (T.toList == T.toList) = true := by simp
  have hself2 : (C == C) = true := by simp
  go_enter Tryd.func6, Tryd.ntmps6
  go_wp2_with fail
  refine (szSplittingS_yes A0 n0 c0 _ w (by omega) (by omega)).mono ?_
  rintro e w' ⟨rfl, rfl⟩
  go_wp2_with fail
  refine (toSplittingS_any _ _ _ _ _ (HR0.out.below HB0.out) hn0).mono ?_
  rintro e w1 ⟨rfl, ho0, hb⟩
  have HB1 := Lib.hid (bl_trans HB0.out hb)
  have G_s0 : Hid (∀ k, rowOf _ _ = some k → w.heap.size ≤ k) := Lib.hid (fun k hk => Nat.le_trans HB0.out.size ((OwnC.row_ge ho0) k hk).1)
  have O_s0_1 := Lib.hid ho0
  clear hb ho0
  go_wp2_with fail
  refine (HS.out _ _ _ HB1.out O_s0_1.out.rd).mono ?_
  rintro e w2 ⟨rfl, hb⟩
  have HB2 := Lib.hid (bl_trans HB1.out hb)
  have O_s0_2 := Lib.hid (O_s0_1.out.below hb)
  clear hb HB1 O_s0_1
  clear O_s0_2
  go_wp2_with fail
  refine (toSplittingS_any _ _ _ _ _ (HR0.out.below HB2.out) hn0).mono ?_
  rintro e w3 ⟨rfl, ho0, hb⟩
  have HB3 := Lib.hid (bl_trans HB2.out hb)
  have G_x0 : Hid (∀ k, rowOf _ _ = some k → w.heap.size ≤ k) := Lib.hid (fun k hk => Nat.le_trans HB2.out.size ((OwnC.row_ge ho0) k hk).1)
  have O_x0_3 := Lib.hid ho0
  clear hb HB2 ho0
  go_wp2_with fail
  refine (HI.out _ _ _ HB3.out O_x0_3.out.rd).mono ?_
  rintro e w4 ⟨rfl, hb⟩
  have HB4 := Lib.hid (bl_trans HB3.out hb)
  have O_x0_4 := Lib.hid (O_x0_3.out.below hb)
  clear hb HB3 O_x0_3
  go_wp2_with fail
  refine (toSplittingS_any _ _ _ _ _ (HR0.out.below HB4.out) hn0).mono ?_
  rintro e w5 ⟨rfl, ho0, hb⟩
  have HB5 := Lib.hid (bl_trans HB4.out hb)
  have S_x0_t0 := Lib.hid (own_sep O_x0_4.out ho0 (Nat.le_refl _))
  have O_x0_5 := Lib.hid (O_x0_4.out.below hb)
  have G_t0 : Hid (∀ k, rowOf _ _ = some k → w.heap.size ≤ k) := Lib.hid (fun k hk => Nat.le_trans HB4.out.size ((OwnC.row_ge ho0) k hk).1)
  have O_t0_5 := Lib.hid ho0
  clear hb HB4 O_x0_4 ho0
  go_wp2_with fail
  refine (eqSplittingS_any _ _ _ _ _ _ _ O_x0_5.out.rd O_t0_5.out.rd).mono ?_
  rintro e w6 ⟨rfl, hb⟩
  have HB6 := Lib.hid (bl_trans HB5.out hb)
  have O_x0_6 := Lib.hid (O_x0_5.out.below hb)
  have O_t0_6 := Lib.hid (O_t0_5.out.below hb)
  clear hb HB5 O_x0_5 O_t0_5
  clear O_t0_6
  go_wp2
  go_ret
  exact ⟨rfl, HB6.out⟩

theorem walkExactSplittingText (A0 : Option Addr) (n0 c0 : Nat) (xs0 : List Int) (w : World) (hr0 : IsRows 3 w A0 n0 c0 xs0) (hT : Tb w) :
    Calls Tryd.prog 6 #[.slice A0 n0 c0] w fun e w' => e = .returned (.bool true) ∧ Below w.heap.size w w' := by
  have hm0 := hr0.1.2.2.1
  have hc0 := hr0.1.2.1
  unfold maxLen at hm0
  have R0 := Lib.hid hr0.1
  clear hr0
  by_cases hn0 : n0 ≤ 1048576
  · exact lawExactSplittingText A0 n0 c0 xs0 (spTx xs0 n0) (spTc xs0 n0) w R0.out (by omega) 
      (fun _ _ _ _ h => specSplittingText_at rfl rfl _ h (by omega))
      (fun _ _ _ hb h => implSplittingText_at rfl rfl _ h (by omega) (hT.below hb))
  · go_enter Tryd.func6, Tryd.ntmps6

    go_wp2_with fail
    refine (szSplittingS_no A0 n0 c0 _ w (by omega) (by omega) (by omega)).mono ?_
    rintro e w' ⟨rfl, rfl⟩
    go_wp2
    go_ret
    exact ⟨rfl, Below.refl _ _⟩

end Go.Proofs.YtgajgonepcikbaaDoor
