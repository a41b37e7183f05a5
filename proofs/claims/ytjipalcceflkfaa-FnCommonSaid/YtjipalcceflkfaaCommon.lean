/- The walk of the law on Bezout's numbers and the common divisor. -/
import Derived.Test.YtjipalcceflkfaaSrc2
import Derived.Test.YtjipalcceflkfaaBezId
import Derived.Test.YtjipalcceflkfaaGcdCD
import Derived.Test.YtjipalcceflkfaaPrimeSpec
import Derived.Test.YtjipalcceflkfaaCopy
namespace Go.Proofs.Ytjipalcceflkfaa
open Go.RowKit

theorem bys_of {w : World} {A : Option Addr} {n c : Nat} {bs : List Int} (h : IsRow .u8 w A n c bs) : Bys bs := by
  intro i hi
  have h1 := h.2.2.2.1 (bs.getD i 0) (by simp [List.getD, List.getElem?_eq_getElem hi])
  exact bounds_u8 h1
theorem big_any (A : Option Addr) (n c : Nat) (w : World) :
    Calls Try.prog 49 #[.slice A n c] w fun e w' => e = .returned (.bool (decide (4096 < (n : Int)))) ∧ w = w' := by
  go_enter Try.func49, Try.ntmps49
  go_wp2
  go_ret
  exact ⟨rfl, rfl⟩
theorem drawBezout_any (A : Option Addr) (n c : Nat) (bs : List Int) (w : World) (hr : Rd .u8 w A n c bs) (hb : Bys bs) :
    Calls Try.prog 50 #[.slice A n c] w fun e w' => ∃ x y, e = .returned (.tuple #[.int .i64 x, .int .i64 y]) ∧ Below w.heap.size w w' := by
  have HR := Lib.hid hr
  have HB := Lib.hid hb
  clear hr hb
  go_enter Try.func50, Try.ntmps50
  go_wp2_with fail
  refine (drawCommon_any A n c bs _ HR.out HB.out).mono ?_
  rintro e w1 ⟨x, y, rfl, hb⟩
  have HW := Lib.hid hb
  clear hb
  go_wp2
  go_ret2
  exact ⟨x, y, rfl, HW.out⟩
theorem sBez_at {a b x y : Int} (ha : V a) (hb : V b) (hx : x = bezX a b) (hy : y = bezY a b) (w : World) :
    Calls Try.prog 52 #[.int .i64 a, .int .i64 b] w fun e w' => e = .returned (.tuple #[.int .i64 x, .int .i64 y, .int .i64 0]) ∧ w = w' := by
  subst hx; subst hy; exact specBezout_yes a b ha hb w
theorem iBez_at {a b x y : Int} (ha : V a) (hb : V b) (hx : x = bezX a b) (hy : y = bezY a b) (w : World) :
    Calls Try.prog 51 #[.int .i64 a, .int .i64 b] w fun e w' => e = .returned (.tuple #[.int .i64 x, .int .i64 y, .int .i64 0]) ∧ w = w' := by
  subst hx; subst hy; exact implBezout_yes a b ha hb w
theorem sCd_at {a b g : Int} (ha : V a) (hb : V b) (hg : g = (Int.gcd a b : Int)) (w : World) :
    Calls Try.prog 54 #[.int .i64 a, .int .i64 b] w fun e w' => e = .returned (.tuple #[.int .i64 g, .int .i64 0]) ∧ ∃ n, w' = w.drewN n := by
  subst hg; exact specCommonDivisor_yes a b ha hb w
theorem iCd_at {a b g : Int} (ha : V a) (hb : V b) (hg : g = (Int.gcd a b : Int)) (w : World) :
    Calls Try.prog 53 #[.int .i64 a, .int .i64 b] w fun e w' => e = .returned (.tuple #[.int .i64 g, .int .i64 0]) ∧ ∃ n, w' = w.drewN n := by
  subst hg; exact implCommonDivisor_yes a b ha hb w
/-- what both tests of a prime say -/
theorem both_prime (n : Int) : ∃ v : Bool, (∀ w : World, Calls Try.prog 57 #[.int .i64 n] w fun e w' => e = .returned (.bool v) ∧ w = w') ∧
    (∀ w : World, Calls Try.prog 56 #[.int .i64 n] w fun e w' => e = .returned (.bool v) ∧ w = w') := by
  by_cases h : Pr n ∧ n ≤ 1000000
  · exact ⟨true, fun w => specIsPrime_yes n h.1 h.2 w, fun w => implIsPrime_yes n h.1 h.2 w⟩
  · exact ⟨false, fun w => specIsPrime_no n h w, fun w => implIsPrime_no n h w⟩

set_option maxRecDepth 100000 in
set_option maxHeartbeats 4000000 in
theorem walkCommon (A0 : Option Addr) (n0 c0 : Nat) (bs0 : List Int) (w : World) (hr0 : IsRow .u8 w A0 n0 c0 bs0) :
    Calls Try.prog 14 #[.slice A0 n0 c0] w fun e w' => e = .returned (.bool true) ∧ Below w.heap.size w w' := by
  have HBy := Lib.hid (bys_of hr0)
  have hm := hr0.2.1
  have hc := hr0.1
  unfold maxLen at hm
  have HR := Lib.hid hr0.rd
  clear hr0
  by_cases hn : n0 ≤ 4096
  · have hbig : decide (4096 < (n0 : Int)) = false := by simp; omega
    go_enter Try.func14, Try.ntmps14
    go_wp2_with (go_at_call 49; refine (big_any _ _ _ _).mono ?_; rintro e w' ⟨rfl, rfl⟩)
    refine (drawBezout_any _ _ _ _ _ HR.out HBy.out).mono ?_
    rintro e w1 ⟨a, b, rfl, hb⟩
    have HB1 := Lib.hid hb
    have HR1 := Lib.hid (HR.out.below hb)
    clear hb hbig
    by_cases hV : V a ∧ V b
    · obtain ⟨x, hx⟩ : ∃ x, x = bezX a b := ⟨_, rfl⟩
      obtain ⟨y, hy⟩ : ∃ y, y = bezY a b := ⟨_, rfl⟩
      obtain ⟨g, hg⟩ : ∃ g, g = (Int.gcd a b : Int) := ⟨_, rfl⟩
      have HV := Lib.hid hV
      have HX := Lib.hid hx
      have HY := Lib.hid hy
      have HG := Lib.hid hg
      have g0 : 0 ≤ g := by omega
      have hid : (wrap64 (wrap64 (a * x) + wrap64 (b * y)) == g) = true := by
        have := bez_id a b hV.1 hV.2
        rw [← hx, ← hy, ← hg] at this
        rw [this]; simp
      have ht := gcd_tmod0 a b
      rw [← hg] at ht
      have ⟨⟨a1, a2⟩, ⟨b1, b2⟩⟩ := hV
      clear hx hy hg hV
      by_cases hg0 : g = 0
      · have hgz : (g == 0) = true := by simpa using hg0
        clear ht hg0
        go_wp2_with (first | (go_at_call 51; refine (iBez_at HV.out.1 HV.out.2 HX.out HY.out _).mono ?_; rintro e w' ⟨rfl, rfl⟩) | (go_at_call 52; refine (sBez_at HV.out.1 HV.out.2 HX.out HY.out _).mono ?_; rintro e w' ⟨rfl, rfl⟩) | (go_at_call 53; refine (iCd_at HV.out.1 HV.out.2 HG.out _).mono ?_; rintro e w' ⟨rfl, m1, rfl⟩) | (go_at_call 54; refine (sCd_at HV.out.1 HV.out.2 HG.out _).mono ?_; rintro e w' ⟨rfl, m2, rfl⟩))
        refine (drawPrime_any _ _ _ _ _ (HR1.out.below (below_drewN (Below.refl _ _) _)) HBy.out).mono ?_
        rintro e w2 ⟨q, rfl, hb⟩
        have HB2 := Lib.hid (bl_trans (below_drewN HB1.out _) hb)
        obtain ⟨v, hs, hi⟩ := both_prime q
        have HS := Lib.hid hs
        have HI := Lib.hid hi
        clear hb hs hi
        cases v
        all_goals
          go_wp2_with (first | (go_at_call 56; refine (HI.out _).mono ?_; rintro e w' ⟨rfl, rfl⟩) | (go_at_call 57; refine (HS.out _).mono ?_; rintro e w' ⟨rfl, rfl⟩))
          go_ret
          exact ⟨rfl, HB2.out⟩
      · have hgz : (g == 0) = false := by simpa using hg0
        have ⟨t1, t2⟩ := ht
        have t3 : (a.tmod g == 0) = true := by rw [t1]; rfl
        have t4 : (b.tmod g == 0) = true := by rw [t2]; rfl
        clear ht t1 t2
        go_wp2_with (first | (go_at_call 51; refine (iBez_at HV.out.1 HV.out.2 HX.out HY.out _).mono ?_; rintro e w' ⟨rfl, rfl⟩) | (go_at_call 52; refine (sBez_at HV.out.1 HV.out.2 HX.out HY.out _).mono ?_; rintro e w' ⟨rfl, rfl⟩) | (go_at_call 53; refine (iCd_at HV.out.1 HV.out.2 HG.out _).mono ?_; rintro e w' ⟨rfl, m1, rfl⟩) | (go_at_call 54; refine (sCd_at HV.out.1 HV.out.2 HG.out _).mono ?_; rintro e w' ⟨rfl, m2, rfl⟩))
        refine (drawPrime_any _ _ _ _ _ (HR1.out.below (below_drewN (Below.refl _ _) _)) HBy.out).mono ?_
        rintro e w2 ⟨q, rfl, hb⟩
        have HB2 := Lib.hid (bl_trans (below_drewN HB1.out _) hb)
        obtain ⟨v, hs, hi⟩ := both_prime q
        have HS := Lib.hid hs
        have HI := Lib.hid hi
        clear hb hs hi
        cases v
        all_goals
          go_wp2_with (first | (go_at_call 56; refine (HI.out _).mono ?_; rintro e w' ⟨rfl, rfl⟩) | (go_at_call 57; refine (HS.out _).mono ?_; rintro e w' ⟨rfl, rfl⟩))
          go_ret
          exact ⟨rfl, HB2.out⟩
    · have HV := Lib.hid hV
      clear hV
      go_wp2_with (first | (go_at_call 51; refine (implBezout_no _ _ HV.out _).mono ?_; rintro e w' ⟨rfl, rfl⟩) | (go_at_call 52; refine (specBezout_no _ _ HV.out _).mono ?_; rintro e w' ⟨rfl, rfl⟩) | (go_at_call 53; refine (implCommonDivisor_no _ _ HV.out _).mono ?_; rintro e w' ⟨rfl, rfl⟩) | (go_at_call 54; refine (specCommonDivisor_no _ _ HV.out _).mono ?_; rintro e w' ⟨rfl, rfl⟩))
      refine (drawPrime_any _ _ _ _ _ (HR1.out.below (Below.refl _ _)) HBy.out).mono ?_
      rintro e w2 ⟨q, rfl, hb⟩
      have HB2 := Lib.hid (bl_trans (HB1.out) hb)
      obtain ⟨v, hs, hi⟩ := both_prime q
      have HS := Lib.hid hs
      have HI := Lib.hid hi
      clear hb hs hi
      cases v
      all_goals
        go_wp2_with (first | (go_at_call 56; refine (HI.out _).mono ?_; rintro e w' ⟨rfl, rfl⟩) | (go_at_call 57; refine (HS.out _).mono ?_; rintro e w' ⟨rfl, rfl⟩))
        go_ret
        exact ⟨rfl, HB2.out⟩
  · have hbig : decide (4096 < (n0 : Int)) = true := by simp; omega
    go_enter Try.func14, Try.ntmps14
    go_wp2_with (go_at_call 49; refine (big_any _ _ _ _).mono ?_; rintro e w' ⟨rfl, rfl⟩)
    go_ret
    exact ⟨rfl, Below.refl _ _⟩
end Go.Proofs.Ytjipalcceflkfaa
