
/- The walk of the law over RationalText. -/
import Derived.Test.YtgajgonepcikbaaDoorRatT
import Derived.Test.YtgajgonepcikbaaDoorRatEq
namespace Go.Proofs.YtgajgonepcikbaaDoor
open Go.RowKit Go.Joins

set_option maxHeartbeats 1600000 in
theorem walkExactRationalText (p q : Int) (w : World) (_ : (Lit.int .i64 p).wf = true) (_ : (Lit.int .i64 q).wf = true) (hT : Tb w) :
    Calls Tryd.prog 3 #[.agg #[.int .i64 p, .int .i64 q]] w fun e w' => e = .returned (.bool true) ∧ Below w.heap.size w w' := by
  have HT := Lib.hid hT
  clear hT
  obtain ⟨T, hTx⟩ : ∃ T, T = rtT p q := ⟨_, rfl⟩
  obtain ⟨C, hC⟩ : ∃ C, C = rtC p q := ⟨_, rfl⟩
  have HTx := Lib.hid hTx
  have HC := Lib.hid hC
  clear hTx hC
  have hself : (T.toList == T.toList) = true := by simp
  have hself2 : (C == C) = true := by simp
  go_enter Tryd.func3, Tryd.ntmps3
  go_wp2_with fail
  refine (toRational_any _ _ _).mono ?_
  rintro e w1 ⟨rfl, hb⟩
  have q0 : w1.cell? ⟨w.heap.size, 0, none⟩ = some (.int .i64 p) := keep_cell hb (by simp)
  have q1 : w1.cell? ⟨w.heap.size, 1, none⟩ = some (.int .i64 q) := keep_cell hb (by simp)
  have HB1 : Hid (Below w.heap.size w w1) := Lib.hid (bl_trans (bl_alloc (Below.refl _ _) _) hb)
  clear hb
  go_wp2_with fail
  refine (specRationalText_at HTx.out HC.out _).mono ?_
  rintro e w2 ⟨rfl, hb⟩
  have r0 := keep_cell hb q0
  have r1 := keep_cell hb q1
  have HB2 : Hid (Below w.heap.size w w2) := Lib.hid (bl_trans HB1.out hb)
  clear hb q0 q1
  go_wp2_with fail
  refine (toRational_any _ _ _).mono ?_
  rintro e w3 ⟨rfl, hb⟩
  have HB3 : Hid (Below w.heap.size w w3) := Lib.hid (bl_trans HB2.out hb)
  clear hb r0 r1
  go_wp2_with fail
  refine (implRationalText_at HTx.out HC.out _ (HT.out.below HB3.out)).mono ?_
  rintro e w4 ⟨rfl, hb⟩
  have HB4 : Hid (Below w.heap.size w w4) := Lib.hid (bl_trans HB3.out hb)
  clear hb
  go_wp2
  go_ret
  exact ⟨rfl, HB4.out⟩
end Go.Proofs.YtgajgonepcikbaaDoor
