
/- The walks of IsSmall. -/
import Derived.Test.YthdmanngjnfamaaSl
namespace Go.Proofs.Ythdmanngjnfamaa
open Go.RowKit

def nsm (x : Int) : Bool := !(decide (-60 ≤ x) && decide (x ≤ 60))
theorem nsm_any (x : Int) (w : World) :
    Calls Try.prog 143 #[.int .i64 x] w fun e w' => e = .returned (.bool (nsm x)) ∧ w = w' := by
  unfold nsm
  by_cases h : -60 ≤ x <;> by_cases h2 : x ≤ 60
  all_goals
    go_enter Try.func143, Try.ntmps143
    go_wp2_with (go_at_call 92; refine (within_any _ _ _ _).mono ?_; rintro e w' ⟨rfl, rfl⟩)
    go_ret
    exact ⟨by simp [h, h2], rfl⟩

set_option maxHeartbeats 400000 in
theorem nsm_index (A : Option Addr) (n c : Nat) (xs : List Int) (w : World) (hr : Rd .i64 w A n c xs) :
    Calls Try.prog 140 #[.slice A n c, .func (.func 143) #[] #[]] w fun e w' => (∃ j : Int, e = .returned (.int .i64 j) ∧ decide (0 ≤ j) = xs.any nsm) ∧ w = w' := by
  obtain ⟨hl, hc, hm, hr⟩ := hr
  unfold maxLen at hm
  have HL := Lib.hid hl
  clear hl
  rcases Nat.eq_zero_or_pos n with h0 | h0
  · subst h0
    clear hr
    go_enter Try.func140, Try.ntmps140
    go_wp2
    refine wp_loop_rounds 1 ?_
    rw [rounds_succ]
    go_wp2
    go_ret
    exact ⟨⟨-1, rfl, by rw [List.eq_nil_of_length_eq_zero HL.out]; rfl⟩, rfl⟩
  obtain ⟨b, off, rfl, hb, hcell⟩ := hr h0
  clear hr
  have HC := Lib.hid hcell
  clear hcell
  go_enter Try.func140, Try.ntmps140
  go_wp2
  go_loop [5, 8] (fun _ j => ∃ k : Nat, k ≤ n ∧ j = .int .i64 k ∧ Hid (∀ i, i < k → nsm (xs.getD i 0) = false)) (fun _ j => n - (intOf j).toNat)
  case atStart => exact ⟨0, Nat.zero_le _, rfl, Lib.hid (fun i hi => absurd hi (Nat.not_lt_zero _))⟩
  case round =>
    obtain ⟨k, hk, rfl, HN⟩ := hrel
    by_cases hlt : k < n
    · have hx := HC.out k hlt
      obtain ⟨x, hxe⟩ : ∃ x, x = xs.getD k 0 := ⟨_, rfl⟩
      rw [← hxe] at hx
      have HX := Lib.hid hxe
      clear hxe
      by_cases hp : nsm x = true
      · have HA : Hid (xs.any nsm = true) := Lib.hid (any_at (k := k) (by have := HL.out; omega) (by rw [← HX.out]; exact hp))
        go_wp2_with (go_at_call 143; refine (nsm_any _ _).mono ?_; rintro e w' ⟨rfl, rfl⟩; rw [hp])
        go_ret
        exact ⟨⟨k, rfl, by rw [HA.out]; simp⟩, rfl⟩
      · have hp2 : nsm x = false := by simpa using hp
        clear hp
        have HN2 : Hid (∀ i, i < k + 1 → nsm (xs.getD i 0) = false) := Lib.hid (fun i hi => by
          by_cases e : i = k
          · subst e; rw [← HX.out]; exact hp2
          · exact HN.out i (by omega))
        go_wp2_with (go_at_call 143; refine (nsm_any _ _).mono ?_; rintro e w' ⟨rfl, rfl⟩; rw [hp2])
        go_round
        case rel => exact ⟨k + 1, by omega, by go_num, HN2⟩
        case measure => simp [intOf]; omega
    · have HA : Hid (xs.any nsm = false) := Lib.hid (any_none (fun i hi => HN.out i (by have := HL.out; omega)))
      go_wp2
      go_ret
      exact ⟨⟨-1, rfl, by rw [HA.out]; rfl⟩, rfl⟩

theorem nsm_has (A : Option Addr) (n c : Nat) (xs : List Int) (w : World) (hr : Rd .i64 w A n c xs) :
    Calls Try.prog 105 #[.slice A n c, .func (.func 143) #[] #[]] w fun e w' => e = .returned (.bool (xs.any nsm)) ∧ w = w' := by
  have HR := Lib.hid hr
  clear hr
  go_enter Try.func105, Try.ntmps105
  go_wp2_with (go_at_call 140; refine (nsm_index _ _ _ _ _ HR.out).mono ?_; rintro e w' ⟨⟨j, rfl, HJ⟩, rfl⟩; have HJ2 := Lib.hid HJ; clear HJ)
  go_ret
  exact ⟨ret_bool HJ2.out, rfl⟩

/-- a small polynomial -/
def SmOk (xs : List Int) : Prop := POk xs ∧ (2 ≤ xs.length ∧ xs.length ≤ 5) ∧ ∀ i, i < xs.length → -60 ≤ xs.getD i 0 ∧ xs.getD i 0 ≤ 60
theorem sm_any {xs : List Int} (h : ∀ i, i < xs.length → -60 ≤ xs.getD i 0 ∧ xs.getD i 0 ≤ 60) : xs.any nsm = false := any_none (fun i hi => by
  have := h i hi
  simp only [nsm, Bool.not_eq_false', Bool.and_eq_true, decide_eq_true_eq]; exact this)
theorem sm_any' {xs : List Int} (h : xs.any nsm = false) : ∀ i, i < xs.length → -60 ≤ xs.getD i 0 ∧ xs.getD i 0 ≤ 60 := by
  intro i hi
  apply Decidable.byContradiction
  intro hn
  rw [any_at (k := i) hi (by unfold nsm; simp only [Bool.not_eq_true', Bool.and_eq_false_iff, decide_eq_false_iff_not]; omega)] at h
  cases h
theorem size_any (A : Option Addr) (n c : Nat) (w : World) : Calls Try.prog 144 #[.slice A n c] w fun e w' => e = .returned (.int .i64 n) ∧ w = w' := by
  go_enter Try.func144, Try.ntmps144
  go_wp2
  go_ret
  exact ⟨rfl, rfl⟩
theorem degree_any (A : Option Addr) (n c : Nat) (hn : n ≤ 9223372036854775807) (w : World) : Calls Try.prog 130 #[.slice A n c] w fun e w' => e = .returned (.int .i64 (n - 1)) ∧ w = w' := by
  go_enter Try.func130, Try.ntmps130
  go_wp2_with (first | (go_at_call 144; refine (size_any _ _ _ _).mono ?_; rintro e w' ⟨rfl, rfl⟩))
  go_ret
  exact ⟨rfl, rfl⟩

set_option maxHeartbeats 800000 in
theorem implIsSmall_yes (A : Option Addr) (n c : Nat) (xs : List Int) (w : World) (hr : Rd .i64 w A n c xs) (h : SmOk xs) :
    Calls Try.prog 129 #[.slice A n c] w fun e w' => e = .returned (.bool true) ∧ w = w' := by
  have HR := Lib.hid hr
  have HL := Lib.hid hr.1
  have hm : n ≤ 9223372036854775807 := by have := hr.2.1; have := hr.2.2.1; unfold maxLen at this; omega
  have HH := Lib.hid h
  clear h
  have HP := Lib.hid HH.out.1
  have HA := Lib.hid (sm_any HH.out.2.2)
  have h2 : 2 ≤ n := by have := HH.out.2.1; have := HL.out; omega
  have h5 : n ≤ 5 := by have := HH.out.2.1; have := HL.out; omega
  clear hr
  go_enter Try.func129, Try.ntmps129
  go_wp2_with (first | (go_at_call 130; refine (degree_any _ _ _ hm _).mono ?_; rintro e w' ⟨rfl, rfl⟩) | (go_at_call 92; refine (within_any _ _ _ _).mono ?_; rintro e w' ⟨rfl, rfl⟩) | (go_at_call 105; refine (nsm_has _ _ _ _ _ HR.out).mono ?_; rintro e w' ⟨rfl, rfl⟩; rw [HA.out]) | (go_at_call 40; refine (implIsPolynomial_yes _ _ _ _ _ HR.out HP.out).mono ?_; rintro e w' ⟨rfl, rfl⟩))
  go_ret
  exact ⟨rfl, rfl⟩

set_option maxHeartbeats 800000 in
theorem implIsSmall_no (A : Option Addr) (n c : Nat) (xs : List Int) (w : World) (hr : Rd .i64 w A n c xs) (h : ¬ SmOk xs) :
    Calls Try.prog 129 #[.slice A n c] w fun e w' => e = .returned (.bool false) ∧ w = w' := by
  have HR := Lib.hid hr
  have HL := Lib.hid hr.1
  have hm : n ≤ 9223372036854775807 := by have := hr.2.1; have := hr.2.2.1; unfold maxLen at this; omega
  have HH := Lib.hid h
  clear h
  by_cases hp : POk xs
  · have HP := Lib.hid hp
    clear hp hr
    by_cases hn : 2 ≤ n ∧ n ≤ 5
    · have hA : xs.any nsm = true := by
        cases e : xs.any nsm with
        | true => rfl
        | false => exact absurd ⟨HP.out, by have := HL.out; omega, sm_any' e⟩ HH.out
      have HA := Lib.hid hA
      obtain ⟨h2, h5⟩ := hn
      clear hA
      go_enter Try.func129, Try.ntmps129
      go_wp2_with (first | (go_at_call 130; refine (degree_any _ _ _ hm _).mono ?_; rintro e w' ⟨rfl, rfl⟩) | (go_at_call 92; refine (within_any _ _ _ _).mono ?_; rintro e w' ⟨rfl, rfl⟩) | (go_at_call 105; refine (nsm_has _ _ _ _ _ HR.out).mono ?_; rintro e w' ⟨rfl, rfl⟩; rw [HA.out]) | (go_at_call 40; refine (implIsPolynomial_yes _ _ _ _ _ HR.out HP.out).mono ?_; rintro e w' ⟨rfl, rfl⟩))
      go_ret
      exact ⟨rfl, rfl⟩
    · have hd : (decide (1 ≤ (n : Int) - 1) && decide ((n : Int) - 1 ≤ 4)) = false := by simp only [Bool.and_eq_false_iff, decide_eq_false_iff_not]; omega
      clear hn
      go_enter Try.func129, Try.ntmps129
      go_wp2_with (first | (go_at_call 130; refine (degree_any _ _ _ hm _).mono ?_; rintro e w' ⟨rfl, rfl⟩) | (go_at_call 92; refine (within_any _ _ _ _).mono ?_; rintro e w' ⟨rfl, rfl⟩; rw [hd]) | (go_at_call 40; refine (implIsPolynomial_yes _ _ _ _ _ HR.out HP.out).mono ?_; rintro e w' ⟨rfl, rfl⟩))
      go_ret
      exact ⟨rfl, rfl⟩
  · have HP := Lib.hid hp
    clear hp hr
    go_enter Try.func129, Try.ntmps129
    go_wp2_with (first | (go_at_call 40; refine (implIsPolynomial_no _ _ _ _ _ HR.out HP.out).mono ?_; rintro e w' ⟨rfl, rfl⟩))
    go_ret
    exact ⟨rfl, rfl⟩

set_option maxHeartbeats 800000 in
theorem specIsSmall_yes (A : Option Addr) (n c : Nat) (xs : List Int) (w : World) (hr : Rd .i64 w A n c xs) (h : SmOk xs) :
    Calls Try.prog 124 #[.slice A n c] w fun e w' => e = .returned (.bool true) ∧ w = w' := by
  have HR := Lib.hid hr
  have HL := Lib.hid hr.1
  have hm : n ≤ 9223372036854775807 := by have := hr.2.1; have := hr.2.2.1; unfold maxLen at this; omega
  have HH := Lib.hid h
  clear h
  have HP := Lib.hid HH.out.1
  have h2 : 2 ≤ n := by have := HH.out.2.1; have := HL.out; omega
  have h5 : n ≤ 5 := by have := HH.out.2.1; have := HL.out; omega
  clear hr
  go_enter Try.func124, Try.ntmps124
  go_wp2
  go_loop [3] (fun j => ∃ k : Nat, k ≤ n ∧ j = .int .i64 k ∧ Hid (∀ i, i < k → -60 ≤ xs.getD i 0 ∧ xs.getD i 0 ≤ 60)) (fun j => n - (intOf j).toNat)
  case atStart => exact ⟨0, Nat.zero_le _, rfl, Lib.hid (fun i hi => absurd hi (Nat.not_lt_zero _))⟩
  case round =>
    obtain ⟨k, hk, rfl, HN⟩ := hrel
    by_cases hlt : k < n
    · obtain ⟨b, off, rfl, hb, hcell⟩ := HR.out.2.2.2 (by omega)
      have hx := hcell k hlt
      clear hcell
      obtain ⟨x, hxe⟩ : ∃ x, x = xs.getD k 0 := ⟨_, rfl⟩
      rw [← hxe] at hx
      have HX := Lib.hid hxe
      clear hxe
      by_cases hin : -60 ≤ x ∧ x ≤ 60
      · have HN2 : Hid (∀ i, i < k + 1 → -60 ≤ xs.getD i 0 ∧ xs.getD i 0 ≤ 60) := Lib.hid (fun i hi => by
          by_cases e : i = k
          · subst e; rw [← HX.out]; exact hin
          · exact HN.out i (by omega))
        obtain ⟨x1, x2⟩ := hin
        go_wp2_with (first | (go_at_call 94; refine (l01In_any _ _ _ _).mono ?_; rintro e w' ⟨rfl, rfl⟩))
        go_round
        case rel => exact ⟨k + 1, by omega, by go_num, HN2⟩
        case measure => simp [intOf]; omega
      · exact absurd (by rw [HX.out]; exact HH.out.2.2 k (by have := HL.out; omega)) hin

    · go_wp2_with (first | (go_at_call 94; refine (l01In_any _ _ _ _).mono ?_; rintro e w' ⟨rfl, rfl⟩) | (go_at_call 41; refine (specIsPolynomial_yes _ _ _ _ _ HR.out HP.out).mono ?_; rintro e w' ⟨rfl, rfl⟩))
      go_ret
      exact ⟨ret_bool (by simp; omega), rfl⟩

set_option maxHeartbeats 800000 in
theorem specIsSmall_no (A : Option Addr) (n c : Nat) (xs : List Int) (w : World) (hr : Rd .i64 w A n c xs) (h : ¬ SmOk xs) :
    Calls Try.prog 124 #[.slice A n c] w fun e w' => e = .returned (.bool false) ∧ w = w' := by
  have HR := Lib.hid hr
  have HL := Lib.hid hr.1
  have hm : n ≤ 9223372036854775807 := by have := hr.2.1; have := hr.2.2.1; unfold maxLen at this; omega
  have HH := Lib.hid h
  clear h
  clear hr
  go_enter Try.func124, Try.ntmps124
  go_wp2
  go_loop [3] (fun j => ∃ k : Nat, k ≤ n ∧ j = .int .i64 k ∧ Hid (∀ i, i < k → -60 ≤ xs.getD i 0 ∧ xs.getD i 0 ≤ 60)) (fun j => n - (intOf j).toNat)
  case atStart => exact ⟨0, Nat.zero_le _, rfl, Lib.hid (fun i hi => absurd hi (Nat.not_lt_zero _))⟩
  case round =>
    obtain ⟨k, hk, rfl, HN⟩ := hrel
    by_cases hlt : k < n
    · obtain ⟨b, off, rfl, hb, hcell⟩ := HR.out.2.2.2 (by omega)
      have hx := hcell k hlt
      clear hcell
      obtain ⟨x, hxe⟩ : ∃ x, x = xs.getD k 0 := ⟨_, rfl⟩
      rw [← hxe] at hx
      have HX := Lib.hid hxe
      clear hxe
      by_cases hin : -60 ≤ x ∧ x ≤ 60
      · have HN2 : Hid (∀ i, i < k + 1 → -60 ≤ xs.getD i 0 ∧ xs.getD i 0 ≤ 60) := Lib.hid (fun i hi => by
          by_cases e : i = k
          · subst e; rw [← HX.out]; exact hin
          · exact HN.out i (by omega))
        obtain ⟨x1, x2⟩ := hin
        go_wp2_with (first | (go_at_call 94; refine (l01In_any _ _ _ _).mono ?_; rintro e w' ⟨rfl, rfl⟩))
        go_round
        case rel => exact ⟨k + 1, by omega, by go_num, HN2⟩
        case measure => simp [intOf]; omega
      · have hd : (decide (-60 ≤ x) && decide (x ≤ 60)) = false := by simp only [Bool.and_eq_false_iff, decide_eq_false_iff_not]; omega
        clear hin
        go_wp2_with (first | (go_at_call 94; refine (l01In_any _ _ _ _).mono ?_; rintro e w' ⟨rfl, rfl⟩))
        go_ret
        exact ⟨rfl, rfl⟩

    · by_cases hp : POk xs
      · have HP := Lib.hid hp
        clear hp
        have hd : (decide (2 ≤ (n : Int)) && decide ((n : Int) ≤ 5)) = false := by
          apply Bool.eq_false_iff.2
          intro ht
          simp only [Bool.and_eq_true, decide_eq_true_eq] at ht
          exact HH.out ⟨HP.out, by have := HL.out; omega, fun i hi => HN.out i (by have := HL.out; omega)⟩
        go_wp2_with (first | (go_at_call 94; refine (l01In_any _ _ _ _).mono ?_; rintro e w' ⟨rfl, rfl⟩; rw [hd]) | (go_at_call 41; refine (specIsPolynomial_yes _ _ _ _ _ HR.out HP.out).mono ?_; rintro e w' ⟨rfl, rfl⟩))
        go_ret
        exact ⟨rfl, rfl⟩
      · have HP := Lib.hid hp
        clear hp
        go_wp2_with (first | (go_at_call 41; refine (specIsPolynomial_no _ _ _ _ _ HR.out HP.out).mono ?_; rintro e w' ⟨rfl, rfl⟩))
        go_ret
        exact ⟨rfl, rfl⟩

end Go.Proofs.Ythdmanngjnfamaa