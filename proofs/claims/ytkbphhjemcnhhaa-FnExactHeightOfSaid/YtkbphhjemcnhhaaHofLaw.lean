/- The walk of the law over HeightOf. -/
import Derived.Test.YtkbphhjemcnhhaaHof
import Derived.Test.YtkbphhjemcnhhaaOwn
namespace Go.Proofs.Ytkbphhjemcnhhaa
open Go.RowKit

set_option maxRecDepth 100000 in
set_option maxHeartbeats 1600000 in
theorem walkExactHeightOf (a0 : Int) (A1 : Option Addr) (n1 c1 : Nat) (xs1 : List Int) (a2 : Int) (w : World) (_ : (Lit.int .i64 a0).wf = true) (hr1 : IsRow .i64 w A1 n1 c1 xs1) (_ : (Lit.int .i64 a2).wf = true) :
    Calls Try.prog 8 #[.int .i64 a0, .slice A1 n1 c1, .int .i64 a2] w fun e w' => e = .returned (.bool true) ∧ Below w.heap.size w w' := by
  have hm1 := hr1.2.1
  have hc1 := hr1.1
  unfold maxLen at hm1
  have HR := Lib.hid hr1.rd
  clear hr1
  by_cases hn1 : n1 ≤ 1048576
  · have HS : Hid (∀ (B : Option Addr) (d : Nat) (w : World), Rd .i64 w B n1 d xs1 → Calls Try.prog 30 #[.int .i64 a0, .slice B n1 d, .int .i64 a2] w fun e w' => e = .returned (.tuple #[.agg #[.int .i64 (hoN a0 xs1 a2), .int .i64 (hoD a0 xs1 a2)], .int .i64 (hoC a0 xs1 a2)]) ∧ Below w.heap.size w w') := Lib.hid (fun _ _ _ h => specHeightOf_any _ _ _ _ _ _ _ h)
    have HJ : Hid (∀ (B : Option Addr) (d : Nat) (w : World), Rd .i64 w B n1 d xs1 → Calls Try.prog 31 #[.int .i64 a0, .slice B n1 d, .int .i64 a2] w fun e w' => e = .returned (.tuple #[.agg #[.int .i64 (hoN a0 xs1 a2), .int .i64 (hoD a0 xs1 a2)], .int .i64 (hoC a0 xs1 a2)]) ∧ Below w.heap.size w w') := Lib.hid (fun _ _ _ h => implHeightOf_any _ _ _ _ _ _ _ h)
    generalize hoN a0 xs1 a2 = x at HS HJ
    generalize hoD a0 xs1 a2 = y at HS HJ
    generalize hoC a0 xs1 a2 = z at HS HJ
    go_enter Try.func8, Try.ntmps8
    go_wp2_with fail
    refine (toInt64S_any _ _ _ _ _ HR.out hn1).mono ?_
    rintro e w1 ⟨rfl, ho, hb⟩
    have R1 := Lib.hid (Rd.of_own ho).1
    have HB1 := Lib.hid hb
    clear ho hb
    go_wp2_with fail
    refine (HS.out _ _ _ R1.out).mono ?_
    rintro e w2 ⟨rfl, hb⟩
    have HB2 := Lib.hid (bl_trans HB1.out hb)
    clear hb
    go_wp2_with fail
    refine (toInt64S_any _ _ _ _ _ (HR.out.below (bl_alloc HB2.out _)) hn1).mono ?_
    rintro e w3 ⟨rfl, ho, hb⟩
    have hsz : (w2.alloc (.cells #[.int .i64 x, .int .i64 y] 39)).heap.size = w2.heap.size + 1 := by simp
    rw [hsz] at ho ⊢
    have R3 := Lib.hid (Rd.of_own ho).1
    have c0 := keep_cell hb (b := w2.heap.size) (o := 0) (v := .int .i64 x) (by simp [go_sem])
    have c1' := keep_cell hb (b := w2.heap.size) (o := 1) (v := .int .i64 y) (by simp [go_sem])
    have HB3 := Lib.hid (bl_trans (bl_alloc HB2.out _) hb)
    obtain ⟨g7, hg7⟩ : ∃ g, g = w2.heap.size := ⟨_, rfl⟩
    rw [← hg7] at c0 c1' R3 ⊢
    have C0 := Lib.hid (And.intro c0 c1')
    clear ho hb c0 c1' hg7 hsz
    go_wp2_with fail
    refine (HJ.out _ _ _ R3.out).mono ?_
    rintro e w4 ⟨rfl, hb⟩
    have R4 := Lib.hid (R3.out.below hb)
    have c0 := keep_cell hb C0.out.1
    have c1' := keep_cell hb C0.out.2
    have HB4 := Lib.hid (bl_trans HB3.out hb)
    have hlt := block_lt_of_cell c0
    clear hb
    go_wp2_with fail
    refine (eqRational_any _ _ _).mono ?_
    rintro e w5 ⟨rfl, hb⟩
    have R5 := Lib.hid ((R4.out.below (bl_alloc (Below.refl _ _) _)).below hb)
    have HB5 := Lib.hid (bl_trans (bl_alloc HB4.out _) hb)
    clear hb c0 c1' hlt
    go_wp2_with fail
    refine (toInt64S_any _ _ _ _ _ (HR.out.below HB5.out) hn1).mono ?_
    rintro e w6 ⟨rfl, ho, hb⟩
    have R6 := Lib.hid (Rd.of_own ho).1
    have R7 := Lib.hid (R5.out.below hb)
    have HB6 := Lib.hid (bl_trans HB5.out hb)
    clear ho hb
    go_wp2_with fail
    refine (eqInt64S_any _ _ _ _ _ _ _ R7.out R6.out).mono ?_
    rintro e w7 ⟨rfl, k6, rfl⟩
    go_wp2
    go_ret
    exact ⟨rfl, below_drewN HB6.out _⟩
  · go_enter Try.func8, Try.ntmps8
    go_wp2
    go_ret
    exact ⟨rfl, Below.refl _ _⟩
end Go.Proofs.Ytkbphhjemcnhhaa