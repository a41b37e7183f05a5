/- The walks of FactorOf, and of the law over it. -/
import Derived.Test.YthnnihjiojhbiaaFac
import Derived.Test.YthnnihjiojhbiaaSPower
namespace Go.Proofs.Ythnnihjiojhbiaa
open Go.RowKit

set_option maxHeartbeats 4000000 in
theorem lawExactFactorOf (a0 : Int) (N : Nat) (zs : List Int) (cd : Int) (w : World)  (hy : N ≤ 1048576)
    (hs : ∀  (w : World), Calls Try.prog 30 #[.int .i64 a0] w fun e w' => ∃ A c, e = .returned (.tuple #[.slice A N c, .int .i64 cd]) ∧ OwnC 60 2 w' w.heap.size A N c (zs.map (Value.int .i64)) ∧ Below w.heap.size w w')
    (hi : ∀  (w : World), Calls Try.prog 31 #[.int .i64 a0] w fun e w' => ∃ A c, e = .returned (.tuple #[.slice A N c, .int .i64 cd]) ∧ OwnC 60 2 w' w.heap.size A N c (zs.map (Value.int .i64)) ∧ Below w.heap.size w w') :
    Calls Try.prog 8 #[.int .i64 a0] w fun e w' => e = .returned (.bool true) ∧ Below w.heap.size w w' := by
  have HS := Lib.hid hs
  have HI := Lib.hid hi
  have HB0 := Lib.hid (Below.refl w.heap.size w)
  clear hs hi 
  go_enter Try.func8, Try.ntmps8
  go_wp2_with fail
  refine (HS.out  _ ).mono ?_
  rintro e w1 ⟨A_w0, c_w0, rfl, ho0, hb⟩
  have HB1 := Lib.hid (bl_trans HB0.out hb)
  have G_w0 : Hid (∀ k, rowOf _ _ = some k → w.heap.size ≤ k) := Lib.hid (fun k hk => Nat.le_trans HB0.out.size ((OwnC.row_ge ho0) k hk).1)
  have O_w0_1 := Lib.hid ho0
  clear hb ho0
  go_wp2_with fail
  refine (HI.out  _ ).mono ?_
  rintro e w2 ⟨A_g0, c_g0, rfl, ho0, hb⟩
  have HB2 := Lib.hid (bl_trans HB1.out hb)
  have S_w0_g0 := Lib.hid (own_sep O_w0_1.out ho0 (Nat.le_refl _))
  have O_w0_2 := Lib.hid (O_w0_1.out.below hb)
  have G_g0 : Hid (∀ k, rowOf _ _ = some k → w.heap.size ≤ k) := Lib.hid (fun k hk => Nat.le_trans HB1.out.size ((OwnC.row_ge ho0) k hk).1)
  have O_g0_2 := Lib.hid ho0
  clear hb HB1 O_w0_1 ho0
  go_wp2_with fail
  refine (eqPowerS_any _ _ _ _ _ _ _ O_g0_2.out.rd O_w0_2.out.rd).mono ?_
  rintro e w3 ⟨rfl, hb⟩
  have HB3 := Lib.hid (bl_trans HB2.out hb)
  have O_w0_3 := Lib.hid (O_w0_2.out.below hb)
  have O_g0_3 := Lib.hid (O_g0_2.out.below hb)
  clear hb HB2 O_w0_2 O_g0_2
  go_wp2_with fail
  refine (markPowerS_any _ _ _ _ _ _ _ O_g0_3.out hy (by omega) (by omega)).mono ?_
  rintro e w4 ⟨rfl, ho, hg⟩
  have HB4 := Lib.hid (below_mark HB3.out hg G_g0.out)
  have O_w0_4 := Lib.hid (O_w0_3.out.kept hg S_w0_g0.out)
  have O_g0_4 := Lib.hid ho
  clear ho hg HB3 O_w0_3 O_g0_3
  go_wp2_with fail
  refine ((heldPowerS_any _ _ _ _ _ O_g0_4.out.rd hy (by omega) (by omega)).mono fun _ _ h => drawn_below h).mono ?_
  rintro e w5 ⟨rfl, hb⟩
  have HB5 := Lib.hid (bl_trans HB4.out hb)
  have O_w0_5 := Lib.hid (O_w0_4.out.below hb)
  have O_g0_5 := Lib.hid (O_g0_4.out.below hb)
  clear hb HB4 O_w0_4 O_g0_4
  go_wp2_with fail
  refine (HI.out  _ ).mono ?_
  rintro e w6 ⟨A_h0, c_h0, rfl, ho0, hb⟩
  have HB6 := Lib.hid (bl_trans HB5.out hb)
  have S_w0_h0 := Lib.hid (own_sep O_w0_5.out ho0 (Nat.le_refl _))
  have S_g0_h0 := Lib.hid (own_sep O_g0_5.out ho0 (Nat.le_refl _))
  have O_w0_6 := Lib.hid (O_w0_5.out.below hb)
  have O_g0_6 := Lib.hid (O_g0_5.out.below hb)
  have G_h0 : Hid (∀ k, rowOf _ _ = some k → w.heap.size ≤ k) := Lib.hid (fun k hk => Nat.le_trans HB5.out.size ((OwnC.row_ge ho0) k hk).1)
  have O_h0_6 := Lib.hid ho0
  clear hb HB5 O_w0_5 O_g0_5 ho0
  go_wp2_with fail
  refine (eqPowerS_any _ _ _ _ _ _ _ O_h0_6.out.rd O_w0_6.out.rd).mono ?_
  rintro e w7 ⟨rfl, hb⟩
  have HB7 := Lib.hid (bl_trans HB6.out hb)
  have O_w0_7 := Lib.hid (O_w0_6.out.below hb)
  have O_g0_7 := Lib.hid (O_g0_6.out.below hb)
  have O_h0_7 := Lib.hid (O_h0_6.out.below hb)
  clear hb HB6 O_w0_6 O_g0_6 O_h0_6
  go_wp2_with fail
  refine ((heldPowerS_any _ _ _ _ _ O_g0_7.out.rd hy (by omega) (by omega)).mono fun _ _ h => drawn_below h).mono ?_
  rintro e w8 ⟨rfl, hb⟩
  have HB8 := Lib.hid (bl_trans HB7.out hb)
  have O_w0_8 := Lib.hid (O_w0_7.out.below hb)
  have O_g0_8 := Lib.hid (O_g0_7.out.below hb)
  have O_h0_8 := Lib.hid (O_h0_7.out.below hb)
  clear hb HB7 O_w0_7 O_g0_7 O_h0_7
  go_wp2
  go_ret
  exact ⟨rfl, HB8.out⟩

theorem factored_any (n : Int) (w : World) :
    Calls Try.prog 66 #[.int .i64 n] w fun e w' => e = .returned (.bool (decide (1 ≤ n) && decide (n ≤ 1000000))) ∧ w = w' := by
  go_enter Try.func66, Try.ntmps66
  go_wp2_with (first | (go_at_call 53; refine (within_any _ _ _ _).mono ?_; rintro e w' ⟨rfl, rfl⟩))
  go_ret
  exact ⟨rfl, rfl⟩
def flatI (L : List (Int × Int)) : List Int := L.flatMap fun x => [x.1, x.2]
theorem flatI_map (L : List (Int × Int)) : flat2 L = (flatI L).map (Value.int .i64) := by
  unfold flat2 flatI
  induction L with
  | nil => rfl
  | cons x L ih => rw [List.flatMap_cons, List.flatMap_cons, List.map_append, ih]; rfl
theorem facF_len : ∀ (f : Nat) (n p : Int), (facF f n p).length ≤ f + 1
  | 0, n, p => by unfold facF; split <;> simp
  | f + 1, n, p => by
    unfold facF
    by_cases h : p * p ≤ n
    · rw [if_pos h, List.length_append]
      have := facF_len f (sn n p) (p + 1)
      split <;> simp <;> omega
    · rw [if_neg h]
      split <;> simp
/-- what FactorOf returns -/
def facR (n : Int) : List (Int × Int) × Int := if 1 ≤ n ∧ n ≤ 1000000 then (facs n, 0) else ([], 2)
theorem facR_len (n : Int) : (facR n).1.length ≤ 1048576 := by
  unfold facR
  split
  · exact Nat.le_trans (facF_len _ _ _) (by omega)
  · simp

set_option maxHeartbeats 800000 in
theorem specFactorOf_any (n : Int) (w : World) :
    Calls Try.prog 30 #[.int .i64 n] w fun e w' => ∃ A c, e = .returned (.tuple #[.slice A (facR n).1.length c, .int .i64 (facR n).2]) ∧ OwnC 60 2 w' w.heap.size A (facR n).1.length c ((flatI (facR n).1).map (Value.int .i64)) ∧ Below w.heap.size w w' := by
  by_cases h : 1 ≤ n ∧ n ≤ 1000000
  · have HE : Hid (facR n = (facs n, 0)) := Lib.hid (by unfold facR; rw [if_pos h])
    obtain ⟨h1, h2⟩ := h
    go_enter Try.func30, Try.ntmps30
    go_wp2_with (first | (go_at_call 49; refine (l01In_any _ _ _ _).mono ?_; rintro e w' ⟨rfl, rfl⟩) | (go_at_call 65; refine (l01Factor_any n h1 h2 _).mono ?_; rintro e w1 ⟨v, rfl, ho, hb⟩; obtain ⟨A, c, rfl, _⟩ := own_cells ho; have HO := Lib.hid (OwnC.of_row ho); have HB := Lib.hid hb; clear ho hb))
    go_ret2
    exact ⟨A, c, by rw [HE.out]; rfl, by rw [HE.out, ← flatI_map]; exact HO.out, HB.out⟩
  · have HE : Hid (facR n = ([], 2)) := Lib.hid (by unfold facR; rw [if_neg h])
    have hd : (decide (1 ≤ n) && decide (n ≤ 1000000)) = false := by simp only [Bool.and_eq_false_iff, decide_eq_false_iff_not]; omega
    clear h
    go_enter Try.func30, Try.ntmps30
    go_wp2_with (first | (go_at_call 49; refine (l01In_any _ _ _ _).mono ?_; rintro e w' ⟨rfl, rfl⟩))
    go_ret2
    exact ⟨none, 0, by rw [HE.out]; rfl, by rw [HE.out]; exact OwnC.nil (by unfold maxLen; omega), Below.refl _ _⟩

set_option maxHeartbeats 800000 in
theorem implFactorOf_any (n : Int) (w : World) :
    Calls Try.prog 31 #[.int .i64 n] w fun e w' => ∃ A c, e = .returned (.tuple #[.slice A (facR n).1.length c, .int .i64 (facR n).2]) ∧ OwnC 60 2 w' w.heap.size A (facR n).1.length c ((flatI (facR n).1).map (Value.int .i64)) ∧ Below w.heap.size w w' := by
  by_cases h : 1 ≤ n ∧ n ≤ 1000000
  · have HE : Hid (facR n = (facs n, 0)) := Lib.hid (by unfold facR; rw [if_pos h])
    obtain ⟨h1, h2⟩ := h
    go_enter Try.func31, Try.ntmps31
    go_wp2_with (first | (go_at_call 66; refine (factored_any _ _).mono ?_; rintro e w' ⟨rfl, rfl⟩) | (go_at_call 67; refine (factors_any n h1 h2 _).mono ?_; rintro e w1 ⟨v, rfl, ho, hb⟩; obtain ⟨A, c, rfl, _⟩ := own_cells ho; have HO := Lib.hid (OwnC.of_row ho); have HB := Lib.hid hb; clear ho hb))
    go_ret2
    exact ⟨A, c, by rw [HE.out]; rfl, by rw [HE.out, ← flatI_map]; exact HO.out, HB.out⟩
  · have HE : Hid (facR n = ([], 2)) := Lib.hid (by unfold facR; rw [if_neg h])
    have hd : (decide (1 ≤ n) && decide (n ≤ 1000000)) = false := by simp only [Bool.and_eq_false_iff, decide_eq_false_iff_not]; omega
    clear h
    go_enter Try.func31, Try.ntmps31
    go_wp2_with (first | (go_at_call 66; refine (factored_any _ _).mono ?_; rintro e w' ⟨rfl, rfl⟩))
    go_ret2
    exact ⟨none, 0, by rw [HE.out]; rfl, by rw [HE.out]; exact OwnC.nil (by unfold maxLen; omega), Below.refl _ _⟩

theorem walkExactFactorOf (a0 : Int) (w : World) (_ : (Lit.int .i64 a0).wf = true) :
    Calls Try.prog 8 #[.int .i64 a0] w fun e w' => e = .returned (.bool true) ∧ Below w.heap.size w w' := by
  exact lawExactFactorOf a0 (facR a0).1.length (flatI (facR a0).1) (facR a0).2 w  (facR_len a0)
    (fun w => specFactorOf_any _ w)
    (fun w => implFactorOf_any _ w)

end Go.Proofs.Ythnnihjiojhbiaa