/- The walk of the law over IsModular. -/
import Derived.Test.YthnnihjiojhbiaaModu
import Derived.Test.YthnnihjiojhbiaaOwn
import Derived.Test.YthnnihjiojhbiaaCopy
namespace Go.Proofs.Ythnnihjiojhbiaa
open Go.RowKit

set_option maxHeartbeats 4000000 in
theorem lawExactIsModular (a0 : Int) (A1 : Option Addr) (n1 c1 : Nat) (xs1 : List Int) (v : Bool) (w : World) (hr1 : Rd .i64 w A1 n1 c1 xs1) (hn1 : n1 ≤ 1048576)
    (hs : ∀ (B1 : Option Addr) (d1 : Nat) (w : World), Rd .i64 w B1 n1 d1 xs1 → Calls Try.prog 15 #[.int .i64 a0, .slice B1 n1 d1] w fun e w' => e = .returned (.bool v) ∧ Below w.heap.size w w')
    (hi : ∀ (B1 : Option Addr) (d1 : Nat) (w : World), Rd .i64 w B1 n1 d1 xs1 → Calls Try.prog 17 #[.int .i64 a0, .slice B1 n1 d1] w fun e w' => e = .returned (.bool v) ∧ Below w.heap.size w w') :
    Calls Try.prog 3 #[.int .i64 a0, .slice A1 n1 c1] w fun e w' => e = .returned (.bool true) ∧ Below w.heap.size w w' := by
  have HR1 := Lib.hid hr1
  have HS := Lib.hid hs
  have HI := Lib.hid hi
  have HB0 := Lib.hid (Below.refl w.heap.size w)
  clear hs hi hr1
  go_enter Try.func3, Try.ntmps3
  go_wp2_with fail
  refine (toInt64S_any _ _ _ _ _ (HR1.out.below HB0.out) hn1).mono ?_
  rintro e w1 ⟨rfl, ho0, hb⟩
  have HB1 := Lib.hid (bl_trans HB0.out hb)
  have G_s1 : Hid (∀ k, rowOf _ _ = some k → w.heap.size ≤ k) := Lib.hid (fun k hk => Nat.le_trans HB0.out.size ((OwnC.row_ge (OwnI.of_row ho0)) k hk).1)
  have O_s1_1 := Lib.hid (OwnI.of_row ho0)
  clear hb ho0
  go_wp2_with fail
  refine (HS.out _ _ _ O_s1_1.out.rd).mono ?_
  rintro e w2 ⟨rfl, hb⟩
  have HB2 := Lib.hid (bl_trans HB1.out hb)
  have O_s1_2 := Lib.hid (O_s1_1.out.below hb)
  clear hb HB1 O_s1_1
  clear O_s1_2
  go_wp2_with fail
  refine (toInt64S_any _ _ _ _ _ (HR1.out.below HB2.out) hn1).mono ?_
  rintro e w3 ⟨rfl, ho0, hb⟩
  have HB3 := Lib.hid (bl_trans HB2.out hb)
  have G_x1 : Hid (∀ k, rowOf _ _ = some k → w.heap.size ≤ k) := Lib.hid (fun k hk => Nat.le_trans HB2.out.size ((OwnC.row_ge (OwnI.of_row ho0)) k hk).1)
  have O_x1_3 := Lib.hid (OwnI.of_row ho0)
  clear hb HB2 ho0
  go_wp2_with fail
  refine (HI.out _ _ _ O_x1_3.out.rd).mono ?_
  rintro e w4 ⟨rfl, hb⟩
  have HB4 := Lib.hid (bl_trans HB3.out hb)
  have O_x1_4 := Lib.hid (O_x1_3.out.below hb)
  clear hb HB3 O_x1_3
  go_wp2_with fail
  refine (toInt64S_any _ _ _ _ _ (HR1.out.below HB4.out) hn1).mono ?_
  rintro e w5 ⟨rfl, ho0, hb⟩
  have HB5 := Lib.hid (bl_trans HB4.out hb)
  have S_x1_t1 := Lib.hid (own_sep O_x1_4.out (OwnI.of_row ho0) (Nat.le_refl _))
  have O_x1_5 := Lib.hid (O_x1_4.out.below hb)
  have G_t1 : Hid (∀ k, rowOf _ _ = some k → w.heap.size ≤ k) := Lib.hid (fun k hk => Nat.le_trans HB4.out.size ((OwnC.row_ge (OwnI.of_row ho0)) k hk).1)
  have O_t1_5 := Lib.hid (OwnI.of_row ho0)
  clear hb HB4 O_x1_4 ho0
  go_wp2_with fail
  refine ((eqInt64S_any _ _ _ _ _ _ _ O_x1_5.out.rd O_t1_5.out.rd).mono fun _ _ h => drawn_below h).mono ?_
  rintro e w6 ⟨rfl, hb⟩
  have HB6 := Lib.hid (bl_trans HB5.out hb)
  have O_x1_6 := Lib.hid (O_x1_5.out.below hb)
  have O_t1_6 := Lib.hid (O_t1_5.out.below hb)
  clear hb HB5 O_x1_5 O_t1_5
  clear O_t1_6
  go_wp2
  go_ret
  exact ⟨rfl, HB6.out⟩

theorem specModAny (p : Int) (A : Option Addr) (n c : Nat) (xs : List Int) (w : World) (hr : Rd .i64 w A n c xs) :
    Calls Try.prog 15 #[.int .i64 p, .slice A n c] w fun e w' => e = .returned (.bool (decide (MOk p xs))) ∧ Below w.heap.size w w' := by
  by_cases h : MOk p xs
  · rw [decide_eq_true h]; exact (specIsModular_yes p A n c xs w hr h).mono fun _ _ h => same_below h
  · rw [decide_eq_false h]; exact (specIsModular_no p A n c xs w hr h).mono fun _ _ h => same_below h
theorem implModAny (p : Int) (A : Option Addr) (n c : Nat) (xs : List Int) (w : World) (hr : Rd .i64 w A n c xs) :
    Calls Try.prog 17 #[.int .i64 p, .slice A n c] w fun e w' => e = .returned (.bool (decide (MOk p xs))) ∧ Below w.heap.size w w' := by
  by_cases h : MOk p xs
  · rw [decide_eq_true h]; exact implIsModular_yes p A n c xs w hr h
  · rw [decide_eq_false h]; exact implIsModular_no p A n c xs w hr h

theorem walkExactIsModular (a0 : Int) (A1 : Option Addr) (n1 c1 : Nat) (xs1 : List Int) (w : World) (_ : (Lit.int .i64 a0).wf = true) (hr1 : IsRow .i64 w A1 n1 c1 xs1) :
    Calls Try.prog 3 #[.int .i64 a0, .slice A1 n1 c1] w fun e w' => e = .returned (.bool true) ∧ Below w.heap.size w w' := by
  have hm1 := hr1.2.1
  have hc1 := hr1.1
  unfold maxLen at hm1
  have R1 := Lib.hid hr1.rd
  clear hr1
  by_cases hn1 : n1 ≤ 1048576
  · exact lawExactIsModular a0 A1 n1 c1 xs1 (decide (MOk a0 xs1))  w R1.out hn1 
      (fun _ _ _ h => specModAny _ _ _ _ _ _ h)
      (fun _ _ _ h => implModAny _ _ _ _ _ _ h)
  · go_enter Try.func3, Try.ntmps3
    go_wp2
    go_ret
    exact ⟨rfl, Below.refl _ _⟩

end Go.Proofs.Ythnnihjiojhbiaa