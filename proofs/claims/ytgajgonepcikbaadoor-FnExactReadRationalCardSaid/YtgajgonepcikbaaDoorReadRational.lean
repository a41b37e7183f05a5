
/- The walk of the law over ReadRational. -/
import Derived.Test.YtgajgonepcikbaaDoorRdR2
import Derived.Test.YtgajgonepcikbaaDoorRatEq
namespace Go.Proofs.YtgajgonepcikbaaDoor
open Go.RowKit Go.Joins

set_option maxHeartbeats 1600000 in
theorem walkExactReadRational (s : ByteArray) (w : World) (_ : s.size ≤ maxLen) (hE : Er w) :
    Calls Tryd.prog 7 #[.string s] w fun e w' => e = .returned (.bool true) ∧ Below w.heap.size w w' := by
  have HE := Lib.hid hE
  clear hE
  by_cases hs : s.size ≤ 1048576
  · obtain ⟨N, hN⟩ : ∃ T, T = rrN s.data.toList := ⟨_, rfl⟩
    obtain ⟨D, hD⟩ : ∃ T, T = rrD s.data.toList := ⟨_, rfl⟩
    obtain ⟨C, hC⟩ : ∃ T, T = rrC s.data.toList := ⟨_, rfl⟩
    have HN := Lib.hid hN
    have HD := Lib.hid hD
    have HC := Lib.hid hC
    clear hN hD hC
    have hself : (C != C) = false := by simp
    go_enter Tryd.func7, Tryd.ntmps7
    go_wp2_with fail
    refine (specReadRational_at HN.out HD.out HC.out hs w).mono ?_
    rintro e w1 ⟨rfl, hb1⟩
    have HB1 := Lib.hid hb1
    clear hb1
    go_wp2_with fail
    refine (implReadRational_at HN.out HD.out HC.out hs _ (HE.out.below (bl_alloc HB1.out _))).mono ?_
    rintro e w2 ⟨rfl, hb2⟩
    have HB2 : Hid (Below w.heap.size w w2) := Lib.hid (bl_trans (bl_alloc HB1.out _) hb2)
    have q0 := keep_cell hb2 (b := w1.heap.size) (o := 0) (v := .int .i64 N) (by simp [go_sem])
    have q1 := keep_cell hb2 (b := w1.heap.size) (o := 1) (v := .int .i64 D) (by simp [go_sem])
    have hlt := block_lt_of_cell q0
    clear hb2
    go_wp2_with fail
    refine (eqRational_any _ _ _).mono ?_
    rintro e w4 ⟨rfl, hb4⟩
    have HB4 := Lib.hid (bl_trans (bl_alloc HB2.out _) hb4)
    clear hb4
    go_wp2
    go_ret
    exact ⟨rfl, HB4.out⟩
  · have hs2 : 1048576 < s.size := by omega
    go_enter Tryd.func7, Tryd.ntmps7
    go_wp2
    go_ret
    exact ⟨rfl, Below.refl _ _⟩
end Go.Proofs.YtgajgonepcikbaaDoor
