/- The walks of IsEisenstein and IsTame, and of the laws over them. -/
import Derived.Test.YtjipalcceflkfaaSl
import Derived.Test.YtjipalcceflkfaaSmallP
import Derived.Test.YtjipalcceflkfaaOwn
import Derived.Test.YtjipalcceflkfaaCopy
namespace Go.Proofs.Ytjipalcceflkfaa
open Go.RowKit

instance (xs : List Int) : Decidable (POk xs) := by unfold POk; infer_instance
/-- the code of a prime and a monic polynomial -/
def exC (p : Int) (xs : List Int) : Int := if SP p ∧ POk xs then (if 2 ≤ xs.length ∧ xs.getD (xs.length - 1) 0 = 1 then 0 else 5) else 1
def Low (p : Int) (xs : List Int) : Prop := ∀ i, i < xs.length - 1 → (xs.getD i 0).tmod p = 0
instance (p : Int) (xs : List Int) : Decidable (Low p xs) := by unfold Low; infer_instance
def eis (p : Int) (xs : List Int) : Bool := decide (Low p xs) && ((xs.getD 0 0).tmod (p * p) != 0)
theorem sq_bd {p : Int} (h1 : 2 ≤ p) (h2 : p ≤ 97) : 4 ≤ p * p ∧ p * p ≤ 9409 := by
  have a : 2 * 2 ≤ p * p := Int.mul_le_mul h1 h1 (by omega) (by omega)
  have b : p * p ≤ 97 * 97 := Int.mul_le_mul h2 h2 (by omega) (by omega)
  omega

set_option maxHeartbeats 1600000 in
theorem l15Eisenstein_any (p : Int) (A : Option Addr) (n c : Nat) (xs : List Int) (w : World) (hr : Rd .i64 w A n c xs) (h1 : 2 ≤ p) (h2 : p ≤ 97) (hn : 2 ≤ n) (hn2 : n ≤ 9) :
    Calls Try.prog 69 #[.int .i64 p, .slice A n c] w fun e w' => e = .returned (.bool (eis p xs)) ∧ w = w' := by
  have HR := Lib.hid hr
  have HL := Lib.hid hr.1
  have hc0 := hr.2.1
  have hc1 := hr.2.2.1
  unfold maxLen at hc1
  have ⟨q1, q2⟩ := sq_bd h1 h2
  clear hr
  go_enter Try.func69, Try.ntmps69
  go_wp2
  go_loop [5] (fun i => ∃ k : Nat, k + 1 ≤ n ∧ i = .int .i64 k ∧ Hid (∀ j, j < k → (xs.getD j 0).tmod p = 0)) (fun i => n - (intOf i).toNat)
  case atStart => exact ⟨0, by omega, rfl, Lib.hid (fun j hj => absurd hj (Nat.not_lt_zero _))⟩
  case round =>
    obtain ⟨k, hk, rfl, HN⟩ := hrel
    obtain ⟨b, off, rfl, hb, hcell⟩ := HR.out.2.2.2 (by omega)
    by_cases hlt : k + 1 < n
    · have hx := hcell k (by omega)
      obtain ⟨x, hxe⟩ : ∃ x, x = xs.getD k 0 := ⟨_, rfl⟩
      rw [← hxe] at hx
      by_cases hz : x.tmod p = 0
      · have HN2 : Hid (∀ j, j < k + 1 → (xs.getD j 0).tmod p = 0) := Lib.hid (fun j hj => by
          by_cases e : j = k
          · subst e; rw [← hxe]; exact hz
          · exact HN.out j (by omega))
        have hz2 : (x.tmod p != 0) = false := by simpa using hz
        clear hcell hxe hz
        go_wp2
        go_round
        case rel => exact ⟨k + 1, by omega, by go_num, HN2⟩
        case measure => simp [intOf]; omega
      · have HE : Hid (eis p xs = false) := Lib.hid (by
          have : ¬ Low p xs := fun h => hz (by rw [hxe]; exact h k (by have := HL.out; omega))
          unfold eis; rw [decide_eq_false this]; rfl)
        have hz2 : (x.tmod p != 0) = true := by simpa using hz
        clear hcell hxe hz
        go_wp2
        go_ret
        exact ⟨by rw [HE.out]; rfl, rfl⟩
    · have hx := hcell 0 (by omega)
      obtain ⟨x, hxe⟩ : ∃ x, x = xs.getD 0 0 := ⟨_, rfl⟩
      rw [← hxe, Nat.add_zero] at hx
      obtain ⟨v, hv⟩ : ∃ v, v = (x.tmod (p * p) != 0) := ⟨_, rfl⟩
      have HE : Hid (eis p xs = v) := Lib.hid (by
        have : Low p xs := fun j hj => HN.out j (by have := HL.out; omega)
        unfold eis; rw [decide_eq_true this, hv, hxe]; rfl)
      have hv2 := hv.symm
      clear hcell hxe hv
      go_wp2
      go_ret
      exact ⟨by rw [HE.out]; rfl, rfl⟩

set_option maxHeartbeats 1600000 in
theorem isEisenstein_any (p : Int) (A : Option Addr) (n c : Nat) (xs : List Int) (w : World) (hr : Rd .i64 w A n c xs) (h1 : 2 ≤ p) (h2 : p ≤ 97) (hn : 2 ≤ n) (hn2 : n ≤ 9) :
    Calls Try.prog 71 #[.int .i64 p, .slice A n c] w fun e w' => e = .returned (.bool (eis p xs)) ∧ w = w' := by
  have HR := Lib.hid hr
  have HL := Lib.hid hr.1
  have hc0 := hr.2.1
  have hc1 := hr.2.2.1
  unfold maxLen at hc1
  have ⟨q1, q2⟩ := sq_bd h1 h2
  clear hr
  go_enter Try.func71, Try.ntmps71
  go_wp2
  go_loop [6, 13] (fun _ i => ∃ k : Nat, k + 1 ≤ n ∧ i = .int .i64 k ∧ Hid (∀ j, j < k → (xs.getD j 0).tmod p = 0)) (fun _ i => n - (intOf i).toNat)
  case atStart => exact ⟨0, by omega, rfl, Lib.hid (fun j hj => absurd hj (Nat.not_lt_zero _))⟩
  case round =>
    obtain ⟨k, hk, rfl, HN⟩ := hrel
    obtain ⟨b, off, rfl, hb, hcell⟩ := HR.out.2.2.2 (by omega)
    by_cases hlt : k + 1 < n
    · have hx := hcell k (by omega)
      obtain ⟨x, hxe⟩ : ∃ x, x = xs.getD k 0 := ⟨_, rfl⟩
      rw [← hxe] at hx
      by_cases hz : x.tmod p = 0
      · have HN2 : Hid (∀ j, j < k + 1 → (xs.getD j 0).tmod p = 0) := Lib.hid (fun j hj => by
          by_cases e : j = k
          · subst e; rw [← hxe]; exact hz
          · exact HN.out j (by omega))
        have hz2 : (x.tmod p != 0) = false := by simpa using hz
        clear hcell hxe hz
        go_wp2
        go_round
        case rel => exact ⟨k + 1, by omega, by go_num, HN2⟩
        case measure => simp [intOf]; omega
      · have HE : Hid (eis p xs = false) := Lib.hid (by
          have : ¬ Low p xs := fun h => hz (by rw [hxe]; exact h k (by have := HL.out; omega))
          unfold eis; rw [decide_eq_false this]; rfl)
        have hz2 : (x.tmod p != 0) = true := by simpa using hz
        clear hcell hxe hz
        go_wp2
        go_ret
        exact ⟨by rw [HE.out]; rfl, rfl⟩
    · have hx := hcell 0 (by omega)
      obtain ⟨x, hxe⟩ : ∃ x, x = xs.getD 0 0 := ⟨_, rfl⟩
      rw [← hxe, Nat.add_zero] at hx
      obtain ⟨v, hv⟩ : ∃ v, v = (x.tmod (p * p) != 0) := ⟨_, rfl⟩
      have HE : Hid (eis p xs = v) := Lib.hid (by
        have : Low p xs := fun j hj => HN.out j (by have := HL.out; omega)
        unfold eis; rw [decide_eq_true this, hv, hxe]; rfl)
      have hv2 := hv.symm
      clear hcell hxe hv
      go_wp2
      go_ret
      exact ⟨by rw [HE.out]; rfl, rfl⟩

set_option maxHeartbeats 1600000 in
theorem specExt_any (p : Int) (A : Option Addr) (n c : Nat) (xs : List Int) (w : World) (hr : Rd .i64 w A n c xs) :
    Calls Try.prog 68 #[.int .i64 p, .slice A n c] w fun e w' => e = .returned (.int .i64 (exC p xs)) ∧ w = w' := by
  have HR := Lib.hid hr
  have HL := Lib.hid hr.1
  have hc0 := hr.2.1
  have hc1 := hr.2.2.1
  unfold maxLen at hc1
  clear hr
  by_cases h0 : SP p
  · by_cases h1 : POk xs
    · have H0 := Lib.hid h0
      have H1 := Lib.hid h1
      have HX : Hid (exC p xs = if 2 ≤ xs.length ∧ xs.getD (xs.length - 1) 0 = 1 then 0 else 5) := Lib.hid (by unfold exC; rw [if_pos ⟨h0, h1⟩])
      clear h0 h1
      by_cases hn : 2 ≤ n
      · obtain ⟨b, off, rfl, hb, hcell⟩ := HR.out.2.2.2 (by omega)
        have hx := hcell (n - 1) (by omega)
        obtain ⟨x, hxe⟩ : ∃ x, x = xs.getD (n - 1) 0 := ⟨_, rfl⟩
        rw [← hxe] at hx
        by_cases hx1 : x = 1
        · have HE : Hid (exC p xs = 0) := Lib.hid (by rw [HX.out, if_pos]; rw [HL.out, ← hxe]; exact ⟨hn, hx1⟩)
          subst hx1
          clear hcell hxe
          go_enter Try.func68, Try.ntmps68
          go_wp2_with (first | (go_at_call 75; refine (l01Small_yes _ H0.out _).mono ?_; rintro e w' ⟨rfl, rfl⟩) | (go_at_call 76; refine (specIsPolynomial_yes _ _ _ _ _ HR.out H1.out).mono ?_; rintro e w' ⟨rfl, rfl⟩))
          go_ret
          exact ⟨by rw [HE.out]; rfl, rfl⟩
        · have HE : Hid (exC p xs = 5) := Lib.hid (by rw [HX.out, if_neg]; rw [HL.out, ← hxe]; exact fun h => hx1 h.2)
          have hx2 : (x != 1) = true := by simpa using hx1
          clear hcell hxe hx1
          go_enter Try.func68, Try.ntmps68
          go_wp2_with (first | (go_at_call 75; refine (l01Small_yes _ H0.out _).mono ?_; rintro e w' ⟨rfl, rfl⟩) | (go_at_call 76; refine (specIsPolynomial_yes _ _ _ _ _ HR.out H1.out).mono ?_; rintro e w' ⟨rfl, rfl⟩))
          go_ret
          exact ⟨by rw [HE.out]; rfl, rfl⟩
      · have HE : Hid (exC p xs = 5) := Lib.hid (by rw [HX.out, if_neg]; rw [HL.out]; exact fun h => hn h.1)
        have hn1 : n < 2 := by omega
        go_enter Try.func68, Try.ntmps68
        go_wp2_with (first | (go_at_call 75; refine (l01Small_yes _ H0.out _).mono ?_; rintro e w' ⟨rfl, rfl⟩) | (go_at_call 76; refine (specIsPolynomial_yes _ _ _ _ _ HR.out H1.out).mono ?_; rintro e w' ⟨rfl, rfl⟩))
        go_ret
        exact ⟨by rw [HE.out]; rfl, rfl⟩
    · have H0 := Lib.hid h0
      have H1 := Lib.hid h1
      have HE : Hid (exC p xs = 1) := Lib.hid (by unfold exC; rw [if_neg (fun h => h1 h.2)])
      clear h0 h1
      go_enter Try.func68, Try.ntmps68
      go_wp2_with (first | (go_at_call 75; refine (l01Small_yes _ H0.out _).mono ?_; rintro e w' ⟨rfl, rfl⟩) | (go_at_call 76; refine (specIsPolynomial_no _ _ _ _ _ HR.out H1.out).mono ?_; rintro e w' ⟨rfl, rfl⟩))
      go_ret
      exact ⟨by rw [HE.out]; rfl, rfl⟩
  · have H0 := Lib.hid h0
    have HE : Hid (exC p xs = 1) := Lib.hid (by unfold exC; rw [if_neg (fun h => h0 h.1)])
    clear h0
    go_enter Try.func68, Try.ntmps68
    go_wp2_with (first | (go_at_call 75; refine (l01Small_no _ H0.out _).mono ?_; rintro e w' ⟨rfl, rfl⟩))
    go_ret
    exact ⟨by rw [HE.out]; rfl, rfl⟩

set_option maxHeartbeats 1600000 in
theorem implExt_any (p : Int) (A : Option Addr) (n c : Nat) (xs : List Int) (w : World) (hr : Rd .i64 w A n c xs) :
    Calls Try.prog 70 #[.int .i64 p, .slice A n c] w fun e w' => e = .returned (.int .i64 (exC p xs)) ∧ w = w' := by
  have HR := Lib.hid hr
  have HL := Lib.hid hr.1
  have hc0 := hr.2.1
  have hc1 := hr.2.2.1
  unfold maxLen at hc1
  clear hr
  by_cases h0 : SP p
  · by_cases h1 : POk xs
    · have H0 := Lib.hid h0
      have H1 := Lib.hid h1
      have HX : Hid (exC p xs = if 2 ≤ xs.length ∧ xs.getD (xs.length - 1) 0 = 1 then 0 else 5) := Lib.hid (by unfold exC; rw [if_pos ⟨h0, h1⟩])
      clear h0 h1
      by_cases hn : 2 ≤ n
      · obtain ⟨b, off, rfl, hb, hcell⟩ := HR.out.2.2.2 (by omega)
        have hx := hcell (n - 1) (by omega)
        obtain ⟨x, hxe⟩ : ∃ x, x = xs.getD (n - 1) 0 := ⟨_, rfl⟩
        rw [← hxe] at hx
        by_cases hx1 : x = 1
        · have HE : Hid (exC p xs = 0) := Lib.hid (by rw [HX.out, if_pos]; rw [HL.out, ← hxe]; exact ⟨hn, hx1⟩)
          subst hx1
          clear hcell hxe
          go_enter Try.func70, Try.ntmps70
          go_wp2_with (first | (go_at_call 78; refine (isSmallPrime_yes _ H0.out _).mono ?_; rintro e w' ⟨rfl, rfl⟩) | (go_at_call 79; refine (implIsPolynomial_yes _ _ _ _ _ HR.out H1.out).mono ?_; rintro e w' ⟨rfl, rfl⟩) | (go_at_call 90; go_in) | (go_at_call 74; go_in) | (go_at_call 113; go_in))
          go_ret
          exact ⟨by rw [HE.out]; rfl, rfl⟩
        · have HE : Hid (exC p xs = 5) := Lib.hid (by rw [HX.out, if_neg]; rw [HL.out, ← hxe]; exact fun h => hx1 h.2)
          have hx2 : (x == 1) = false := by simpa using hx1
          clear hcell hxe hx1
          go_enter Try.func70, Try.ntmps70
          go_wp2_with (first | (go_at_call 78; refine (isSmallPrime_yes _ H0.out _).mono ?_; rintro e w' ⟨rfl, rfl⟩) | (go_at_call 79; refine (implIsPolynomial_yes _ _ _ _ _ HR.out H1.out).mono ?_; rintro e w' ⟨rfl, rfl⟩) | (go_at_call 90; go_in) | (go_at_call 74; go_in) | (go_at_call 113; go_in))
          go_ret
          exact ⟨by rw [HE.out]; rfl, rfl⟩
      · have HE : Hid (exC p xs = 5) := Lib.hid (by rw [HX.out, if_neg]; rw [HL.out]; exact fun h => hn h.1)
        have hn1 : n < 2 := by omega
        rcases Nat.eq_zero_or_pos n with hz | hz
        · subst hz
          go_enter Try.func70, Try.ntmps70
          go_wp2_with (first | (go_at_call 78; refine (isSmallPrime_yes _ H0.out _).mono ?_; rintro e w' ⟨rfl, rfl⟩) | (go_at_call 79; refine (implIsPolynomial_yes _ _ _ _ _ HR.out H1.out).mono ?_; rintro e w' ⟨rfl, rfl⟩) | (go_at_call 90; go_in) | (go_at_call 74; go_in) | (go_at_call 113; go_in))
          go_ret
          exact ⟨by rw [HE.out]; rfl, rfl⟩
        · obtain rfl : n = 1 := by omega
          obtain ⟨b, off, rfl, hb, hcell⟩ := HR.out.2.2.2 (by omega)
          have hx := hcell 0 (by omega)
          obtain ⟨x, hxe⟩ : ∃ x, x = xs.getD 0 0 := ⟨_, rfl⟩
          rw [← hxe, Nat.add_zero] at hx
          by_cases hx1 : x = 1
          · subst hx1
            clear hcell hxe
            go_enter Try.func70, Try.ntmps70
            go_wp2_with (first | (go_at_call 78; refine (isSmallPrime_yes _ H0.out _).mono ?_; rintro e w' ⟨rfl, rfl⟩) | (go_at_call 79; refine (implIsPolynomial_yes _ _ _ _ _ HR.out H1.out).mono ?_; rintro e w' ⟨rfl, rfl⟩) | (go_at_call 90; go_in) | (go_at_call 74; go_in) | (go_at_call 113; go_in))
            go_ret
            exact ⟨by rw [HE.out]; rfl, rfl⟩
          · have hx2 : (x == 1) = false := by simpa using hx1
            clear hcell hxe hx1
            go_enter Try.func70, Try.ntmps70
            go_wp2_with (first | (go_at_call 78; refine (isSmallPrime_yes _ H0.out _).mono ?_; rintro e w' ⟨rfl, rfl⟩) | (go_at_call 79; refine (implIsPolynomial_yes _ _ _ _ _ HR.out H1.out).mono ?_; rintro e w' ⟨rfl, rfl⟩) | (go_at_call 90; go_in) | (go_at_call 74; go_in) | (go_at_call 113; go_in))
            go_ret
            exact ⟨by rw [HE.out]; rfl, rfl⟩
    · have H0 := Lib.hid h0
      have H1 := Lib.hid h1
      have HE : Hid (exC p xs = 1) := Lib.hid (by unfold exC; rw [if_neg (fun h => h1 h.2)])
      clear h0 h1
      go_enter Try.func70, Try.ntmps70
      go_wp2_with (first | (go_at_call 78; refine (isSmallPrime_yes _ H0.out _).mono ?_; rintro e w' ⟨rfl, rfl⟩) | (go_at_call 79; refine (implIsPolynomial_no _ _ _ _ _ HR.out H1.out).mono ?_; rintro e w' ⟨rfl, rfl⟩) | (go_at_call 90; go_in) | (go_at_call 74; go_in) | (go_at_call 113; go_in))
      go_ret
      exact ⟨by rw [HE.out]; rfl, rfl⟩
  · have H0 := Lib.hid h0
    have HE : Hid (exC p xs = 1) := Lib.hid (by unfold exC; rw [if_neg (fun h => h0 h.1)])
    clear h0
    go_enter Try.func70, Try.ntmps70
    go_wp2_with (first | (go_at_call 78; refine (isSmallPrime_no _ H0.out _).mono ?_; rintro e w' ⟨rfl, rfl⟩) | (go_at_call 90; go_in) | (go_at_call 74; go_in) | (go_at_call 113; go_in))
    go_ret
    exact ⟨by rw [HE.out]; rfl, rfl⟩

end Go.Proofs.Ytjipalcceflkfaa