
/- The walks of the prime tests. -/
import Derived.Test.YthdmanngjnfamaaRows
import Derived.Test.YthdmanngjnfamaaNum
import Derived.WalkKit
import Derived.WalkLawsBesides
import Derived.WalkSpells
import Derived.Outline
import Derived.Lib.Hide
namespace Go.Proofs.Ythdmanngjnfamaa
open Go.RowKit

theorem l01In_any (n lo hi : Int) (w : World) :
    Calls Try.prog 94 #[.int .i64 n, .int .i64 lo, .int .i64 hi] w fun e w' => e = .returned (.bool (decide (lo ≤ n) && decide (n ≤ hi))) ∧ w = w' := by
  by_cases h : lo ≤ n <;> by_cases h2 : n ≤ hi
  all_goals
    go_enter Try.func94, Try.ntmps94
    go_wp2
    go_ret
    exact ⟨by simp [h, h2], rfl⟩

theorem within_any (n lo hi : Int) (w : World) :
    Calls Try.prog 92 #[.int .i64 n, .int .i64 lo, .int .i64 hi] w fun e w' => e = .returned (.bool (decide (lo ≤ n) && decide (n ≤ hi))) ∧ w = w' := by
  by_cases h : lo ≤ n <;> by_cases h2 : n ≤ hi
  all_goals
    go_enter Try.func92, Try.ntmps92
    go_wp2
    go_ret
    exact ⟨by simp [h, h2], rfl⟩

set_option maxHeartbeats 400000 in
theorem l01Prime_yes (n : Int) (h : Pr n) (hb : n ≤ 1000000) (w : World) :
    Calls Try.prog 134 #[.int .i64 n] w fun e w' => e = .returned (.bool true) ∧ w = w' := by
  obtain ⟨hn, hp⟩ := h
  have HP := Lib.hid hp
  clear hp
  go_enter Try.func134, Try.ntmps134
  go_wp2
  go_loop [3] (fun i => ∃ d : Int, 2 ≤ d ∧ d ≤ 1001 ∧ i = .int .i64 d) (fun i => (1001 - intOf i).toNat)
  case atStart => exact ⟨2, by omega, by omega, rfl⟩
  case round =>
    obtain ⟨d, hd, hd2, rfl⟩ := hrel
    have h1 := sq_lo hd
    have h2 := sq_hi hd hd2
    by_cases hlt : d * d ≤ n
    · have h3 := sq_1000 hd hb hlt
      have h4 : (n % d == 0) = false := by simpa using HP.out d hd hlt
      go_wp2
      go_round
      case rel => exact ⟨d + 1, by omega, by omega, rfl⟩
      case measure => simp [intOf]; omega
    · go_wp2
      go_ret
      exact ⟨rfl, rfl⟩

set_option maxHeartbeats 400000 in
theorem l01Prime_no (n : Int) (h : ¬ Pr n) (hb : n ≤ 1000000) (w : World) :
    Calls Try.prog 134 #[.int .i64 n] w fun e w' => e = .returned (.bool false) ∧ w = w' := by
  have HP := Lib.hid h
  clear h
  by_cases hn : n < 2
  · go_enter Try.func134, Try.ntmps134
    go_wp2
    go_ret
    exact ⟨rfl, rfl⟩
  go_enter Try.func134, Try.ntmps134
  go_wp2
  go_loop [3] (fun i => ∃ d : Int, 2 ≤ d ∧ d ≤ 1001 ∧ Hid (∀ k : Int, 2 ≤ k → k < d → ¬ n % k = 0) ∧ i = .int .i64 d) (fun i => (1001 - intOf i).toNat)
  case atStart => exact ⟨2, by omega, by omega, Lib.hid (fun k _ _ => by omega), rfl⟩
  case round =>
    obtain ⟨d, hd, hd2, H, rfl⟩ := hrel
    have h1 := sq_lo hd
    have h2 := sq_hi hd hd2
    by_cases hlt : d * d ≤ n
    · have h3 := sq_1000 hd hb hlt
      by_cases hz : n % d = 0
      · have h4 : (n % d == 0) = true := by simpa using hz
        clear hz
        go_wp2
        go_ret
        exact ⟨rfl, rfl⟩
      · have h4 : (n % d == 0) = false := by simpa using hz
        have H2 : Hid (∀ k : Int, 2 ≤ k → k < d + 1 → ¬ n % k = 0) := Lib.hid (fun k a b => by
          by_cases e : k = d
          · subst e; exact hz
          · exact H.out k a (by omega))
        clear hz
        go_wp2
        go_round
        case rel => exact ⟨d + 1, by omega, by omega, H2, rfl⟩
        case measure => simp [intOf]; omega
    · exact absurd (pr_of_none (by omega) (by omega) (by omega) H.out) HP.out

set_option maxHeartbeats 400000 in
theorem implIsPrime_yes (n : Int) (h : Pr n) (hb : n ≤ 1000000) (w : World) :
    Calls Try.prog 133 #[.int .i64 n] w fun e w' => e = .returned (.bool true) ∧ w = w' := by
  obtain ⟨hn, hp⟩ := h
  have HP := Lib.hid hp
  clear hp
  go_enter Try.func133, Try.ntmps133
  go_wp2_with (first | (go_at_call 92; refine (within_any _ _ _ _).mono ?_; rintro e w' ⟨rfl, rfl⟩))
  go_loop [3] (fun i => ∃ d : Int, 2 ≤ d ∧ d ≤ 1001 ∧ i = .int .i64 d) (fun i => (1001 - intOf i).toNat)
  case atStart => exact ⟨2, by omega, by omega, rfl⟩
  case round =>
    obtain ⟨d, hd, hd2, rfl⟩ := hrel
    have h1 := sq_lo hd
    have h2 := sq_hi hd hd2
    by_cases hlt : d * d ≤ n
    · have h3 := sq_1000 hd hb hlt
      have h4 : (n % d == 0) = false := by simpa using HP.out d hd hlt
      go_wp2
      go_round
      case rel => exact ⟨d + 1, by omega, by omega, rfl⟩
      case measure => simp [intOf]; omega
    · go_wp2
      go_ret
      exact ⟨rfl, rfl⟩

set_option maxHeartbeats 400000 in
theorem implIsPrime_no (n : Int) (h : ¬ (Pr n ∧ n ≤ 1000000)) (w : World) :
    Calls Try.prog 133 #[.int .i64 n] w fun e w' => e = .returned (.bool false) ∧ w = w' := by
  have HP := Lib.hid h
  clear h
  by_cases h : 2 ≤ n ∧ n ≤ 1000000
  · obtain ⟨hn, hb⟩ := h
    go_enter Try.func133, Try.ntmps133
    go_wp2_with (first | (go_at_call 92; refine (within_any _ _ _ _).mono ?_; rintro e w' ⟨rfl, rfl⟩))
    go_loop [3] (fun i => ∃ d : Int, 2 ≤ d ∧ d ≤ 1001 ∧ Hid (∀ k : Int, 2 ≤ k → k < d → ¬ n % k = 0) ∧ i = .int .i64 d) (fun i => (1001 - intOf i).toNat)
    case atStart => exact ⟨2, by omega, by omega, Lib.hid (fun k _ _ => by omega), rfl⟩
    case round =>
      obtain ⟨d, hd, hd2, H, rfl⟩ := hrel
      have h1 := sq_lo hd
      have h2 := sq_hi hd hd2
      by_cases hlt : d * d ≤ n
      · have h3 := sq_1000 hd hb hlt
        by_cases hz : n % d = 0
        · have h4 : (n % d == 0) = true := by simpa using hz
          clear hz
          go_wp2
          go_ret
          exact ⟨rfl, rfl⟩
        · have h4 : (n % d == 0) = false := by simpa using hz
          have H2 : Hid (∀ k : Int, 2 ≤ k → k < d + 1 → ¬ n % k = 0) := Lib.hid (fun k a b => by
            by_cases e : k = d
            · subst e; exact hz
            · exact H.out k a (by omega))
          clear hz
          go_wp2
          go_round
          case rel => exact ⟨d + 1, by omega, by omega, H2, rfl⟩
          case measure => simp [intOf]; omega
      · exact absurd ⟨pr_of_none (by omega) (by omega) (by omega) H.out, hb⟩ HP.out
  · have hd : (decide (2 ≤ n) && decide (n ≤ 1000000)) = false := by simp; omega
    clear h
    go_enter Try.func133, Try.ntmps133
    go_wp2_with (first | (go_at_call 92; refine (within_any _ _ _ _).mono ?_; rintro e w' ⟨rfl, rfl⟩))
    go_ret
    exact ⟨rfl, rfl⟩
end Go.Proofs.Ythdmanngjnfamaa
