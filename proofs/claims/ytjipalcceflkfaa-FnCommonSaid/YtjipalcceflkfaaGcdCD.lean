/- The walks of CommonDivisor. -/
import Derived.Test.YtjipalcceflkfaaGcd
namespace Go.Proofs.Ytjipalcceflkfaa
open Go.RowKit
theorem specCommonDivisor_yes (a b : Int) (ha : V a) (hb : V b) (w : World) :
    Calls Try.prog 54 #[.int .i64 a, .int .i64 b] w fun e w' => e = .returned (.tuple #[.int .i64 (Int.gcd a b), .int .i64 0]) ∧ ∃ n, w' = w.drewN n := by
  have HA := Lib.hid ha
  have HB := Lib.hid hb
  obtain ⟨ha1, ha2⟩ := ha
  obtain ⟨hb1, hb2⟩ := hb
  go_enter Try.func54, Try.ntmps54
  go_wp2_with (first | (go_at_call 87; refine (l01Is_any _ _).mono ?_; rintro e w' ⟨rfl, rfl⟩) | (go_at_call 105; refine (l01Gcd_any _ _ HA.out.wd HB.out.wd _).mono ?_; rintro e w' ⟨rfl, n, rfl⟩))
  go_ret2
  exact ⟨rfl, n, rfl⟩

theorem specCommonDivisor_no (a b : Int) (h : ¬ (V a ∧ V b)) (w : World) :
    Calls Try.prog 54 #[.int .i64 a, .int .i64 b] w fun e w' => e = .returned (.tuple #[.int .i64 0, .int .i64 2]) ∧ w = w' := by
  by_cases ha : V a
  · have hb := V_dec (fun hb => h ⟨ha, hb⟩)
    obtain ⟨ha1, ha2⟩ := ha
    clear h
    go_enter Try.func54, Try.ntmps54
    go_wp2_with (first | (go_at_call 87; refine (l01Is_any _ _).mono ?_; rintro e w' ⟨rfl, rfl⟩))
    go_ret2
    exact ⟨rfl, rfl⟩
  · have ha2 := V_dec ha
    clear h ha
    go_enter Try.func54, Try.ntmps54
    go_wp2_with (first | (go_at_call 87; refine (l01Is_any _ _).mono ?_; rintro e w' ⟨rfl, rfl⟩))
    go_ret2
    exact ⟨rfl, rfl⟩

theorem implCommonDivisor_yes (a b : Int) (ha : V a) (hb : V b) (w : World) :
    Calls Try.prog 53 #[.int .i64 a, .int .i64 b] w fun e w' => e = .returned (.tuple #[.int .i64 (Int.gcd a b), .int .i64 0]) ∧ ∃ n, w' = w.drewN n := by
  have HA := Lib.hid ha
  have HB := Lib.hid hb
  obtain ⟨ha1, ha2⟩ := ha
  obtain ⟨hb1, hb2⟩ := hb
  go_enter Try.func53, Try.ntmps53
  go_wp2_with (first | (go_at_call 94; refine (isValue_any _ _).mono ?_; rintro e w' ⟨rfl, rfl⟩) | (go_at_call 104; refine (gcd_any _ _ HA.out.wd HB.out.wd _).mono ?_; rintro e w' ⟨rfl, n, rfl⟩))
  go_ret2
  exact ⟨rfl, n, rfl⟩

theorem implCommonDivisor_no (a b : Int) (h : ¬ (V a ∧ V b)) (w : World) :
    Calls Try.prog 53 #[.int .i64 a, .int .i64 b] w fun e w' => e = .returned (.tuple #[.int .i64 0, .int .i64 2]) ∧ w = w' := by
  by_cases ha : V a
  · have hb := V_dec (fun hb => h ⟨ha, hb⟩)
    obtain ⟨ha1, ha2⟩ := ha
    clear h
    go_enter Try.func53, Try.ntmps53
    go_wp2_with (first | (go_at_call 94; refine (isValue_any _ _).mono ?_; rintro e w' ⟨rfl, rfl⟩))
    go_ret2
    exact ⟨rfl, rfl⟩
  · have ha2 := V_dec ha
    clear h ha
    go_enter Try.func53, Try.ntmps53
    go_wp2_with (first | (go_at_call 94; refine (isValue_any _ _).mono ?_; rintro e w' ⟨rfl, rfl⟩))
    go_ret2
    exact ⟨rfl, rfl⟩
end Go.Proofs.Ytjipalcceflkfaa
