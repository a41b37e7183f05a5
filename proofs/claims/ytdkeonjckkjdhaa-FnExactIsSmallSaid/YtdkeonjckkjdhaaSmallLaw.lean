/- The walk of the law over IsSmall. -/
import Derived.Test.YtdkeonjckkjdhaaPolyLaw
import Derived.Test.YtdkeonjckkjdhaaSmall
namespace Go.Proofs.Ytdkeonjckkjdhaa
open Go.RowKit

set_option maxHeartbeats 800000 in
theorem walkExactIsSmall (A : Option Addr) (n c : Nat) (xs : List Int) (w : World) (hr : IsRow .i64 w A n c xs) :
    Calls Try.prog 10 #[.slice A n c] w fun e w' => e = .returned (.bool true) ∧ Below w.heap.size w w' := by
  have HR := Lib.hid hr.rd
  have hc := hr.1
  have hm := hr.2.1
  unfold maxLen at hm
  clear hr
  by_cases hn : n ≤ 1048576
  · by_cases h : SmOk xs
    · have H := Lib.hid h
      clear h
      go_enter Try.func10, Try.ntmps10
      go_wp2_with fail
      refine (toInt64S_any _ _ _ _ _ HR.out hn).mono ?_
      rintro e w1 ⟨rfl, ho1, hb1⟩
      have R1 := Lib.hid (Rd.of_own ho1).1
      have HB1 := Lib.hid hb1
      clear ho1 hb1
      go_wp2_with fail
      refine ((specIsSmall_yes _ _ _ _ _ R1.out H.out).mono fun _ _ h => same_below h).mono ?_
      rintro e w2 ⟨rfl, hb2⟩
      have HB2 := Lib.hid (bl_trans HB1.out hb2)
      clear hb2
      go_wp2_with fail
      refine (toInt64S_any _ _ _ _ _ (HR.out.below HB2.out) hn).mono ?_
      rintro e w3 ⟨rfl, ho3, hb3⟩
      have R3 := Lib.hid (Rd.of_own ho3).1
      have HB3 := Lib.hid (bl_trans HB2.out hb3)
      clear ho3 hb3
      go_wp2_with fail
      refine ((implIsSmall_yes _ _ _ _ _ R3.out H.out).mono fun _ _ h => same_below h).mono ?_
      rintro e w4 ⟨rfl, hb4⟩
      have R4 := Lib.hid (R3.out.below hb4)
      have HB4 := Lib.hid (bl_trans HB3.out hb4)
      clear hb4
      go_wp2_with fail
      refine (toInt64S_any _ _ _ _ _ (HR.out.below HB4.out) hn).mono ?_
      rintro e w5 ⟨rfl, ho5, hb5⟩
      have R5 := Lib.hid (Rd.of_own ho5).1
      have R6 := Lib.hid (R4.out.below hb5)
      have HB5 := Lib.hid (bl_trans HB4.out hb5)
      clear ho5 hb5
      go_wp2_with fail
      refine (eqInt64S_any _ _ _ _ _ _ _ R6.out R5.out).mono ?_
      rintro e w6 ⟨rfl, k6, rfl⟩
      go_wp2
      go_ret
      exact ⟨rfl, below_drewN HB5.out _⟩
    · have H := Lib.hid h
      clear h
      go_enter Try.func10, Try.ntmps10
      go_wp2_with fail
      refine (toInt64S_any _ _ _ _ _ HR.out hn).mono ?_
      rintro e w1 ⟨rfl, ho1, hb1⟩
      have R1 := Lib.hid (Rd.of_own ho1).1
      have HB1 := Lib.hid hb1
      clear ho1 hb1
      go_wp2_with fail
      refine ((specIsSmall_no _ _ _ _ _ R1.out H.out).mono fun _ _ h => same_below h).mono ?_
      rintro e w2 ⟨rfl, hb2⟩
      have HB2 := Lib.hid (bl_trans HB1.out hb2)
      clear hb2
      go_wp2_with fail
      refine (toInt64S_any _ _ _ _ _ (HR.out.below HB2.out) hn).mono ?_
      rintro e w3 ⟨rfl, ho3, hb3⟩
      have R3 := Lib.hid (Rd.of_own ho3).1
      have HB3 := Lib.hid (bl_trans HB2.out hb3)
      clear ho3 hb3
      go_wp2_with fail
      refine ((implIsSmall_no _ _ _ _ _ R3.out H.out).mono fun _ _ h => same_below h).mono ?_
      rintro e w4 ⟨rfl, hb4⟩
      have R4 := Lib.hid (R3.out.below hb4)
      have HB4 := Lib.hid (bl_trans HB3.out hb4)
      clear hb4
      go_wp2_with fail
      refine (toInt64S_any _ _ _ _ _ (HR.out.below HB4.out) hn).mono ?_
      rintro e w5 ⟨rfl, ho5, hb5⟩
      have R5 := Lib.hid (Rd.of_own ho5).1
      have R6 := Lib.hid (R4.out.below hb5)
      have HB5 := Lib.hid (bl_trans HB4.out hb5)
      clear ho5 hb5
      go_wp2_with fail
      refine (eqInt64S_any _ _ _ _ _ _ _ R6.out R5.out).mono ?_
      rintro e w6 ⟨rfl, k6, rfl⟩
      go_wp2
      go_ret
      exact ⟨rfl, below_drewN HB5.out _⟩
  · go_enter Try.func10, Try.ntmps10
    go_wp2
    go_ret
    exact ⟨rfl, Below.refl _ _⟩

end Go.Proofs.Ytdkeonjckkjdhaa