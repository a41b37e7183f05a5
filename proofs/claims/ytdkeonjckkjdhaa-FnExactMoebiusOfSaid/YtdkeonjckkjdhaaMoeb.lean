/- The walks of MoebiusOf, and the law's. -/
import Derived.Test.YtdkeonjckkjdhaaFac
import Derived.Test.YtdkeonjckkjdhaaCells
namespace Go.Proofs.Ytdkeonjckkjdhaa
open Go.RowKit

def sgn (k : Nat) : Int := if k % 2 = 1 then -1 else 1
theorem sgn_succ (k : Nat) : sgn (k + 1) = -sgn k := by
  unfold sgn
  by_cases h : k % 2 = 1
  · rw [if_pos h, if_neg (by omega)]; rfl
  · rw [if_neg h, if_pos (by omega)]
theorem sgn_bd (k : Nat) : -1 ≤ sgn k ∧ sgn k ≤ 1 := by
  unfold sgn
  by_cases h : k % 2 = 1
  · rw [if_pos h]; omega
  · rw [if_neg h]; omega
/-- Moebius's number off the factor list -/
def mob (L : List (Int × Int)) : Int := if L.any (fun x => decide (1 < x.2)) then 0 else sgn L.length
theorem mob_hit {L : List (Int × Int)} {k : Nat} (hk : k < L.length) (h : 1 < (L.getD k (0, 0)).2) : mob L = 0 := by
  unfold mob
  rw [if_pos]
  rw [List.any_eq_true]
  refine ⟨L[k], List.getElem_mem hk, ?_⟩
  simpa [List.getD, List.getElem?_eq_getElem hk] using h
theorem mob_none {L : List (Int × Int)} (h : ∀ i, i < L.length → ¬ 1 < (L.getD i (0, 0)).2) : mob L = sgn L.length := by
  unfold mob
  rw [if_neg]
  intro ha
  rw [List.any_eq_true] at ha
  obtain ⟨x, hx, h2⟩ := ha
  obtain ⟨i, hi, rfl⟩ := List.getElem_of_mem hx
  have := h i hi
  simp [List.getD, List.getElem?_eq_getElem hi] at this
  simp at h2
  omega

set_option maxHeartbeats 800000 in
theorem l10Moebius_any (n : Int) (h1 : 1 ≤ n) (h2 : n ≤ 1000000) (w : World) :
    Calls Try.prog 63 #[.int .i64 n] w fun e w' => e = .returned (.int .i64 (mob (facs n))) ∧ Below w.heap.size w w' := by
  go_enter Try.func63, Try.ntmps63
  go_wp2_with fail
  refine (l01Factor_any _ h1 h2 _).mono ?_
  rintro e w1 ⟨v, rfl, hown, hb1⟩
  obtain ⟨A, c, rfl, hr⟩ := own_cells hown
  obtain ⟨L, hL⟩ : ∃ L, L = facs n := ⟨_, rfl⟩
  rw [← hL] at hr ⊢
  have HL := Lib.hid hL
  clear hL hown h1 h2
  obtain ⟨m, hm⟩ : ∃ m, m = L.length := ⟨_, rfl⟩
  rw [← hm] at hr ⊢
  have HM := Lib.hid hm
  have HB := Lib.hid hb1
  obtain ⟨_, hc, hmx, hr⟩ := hr
  unfold maxLen at hmx
  clear hm hb1
  go_wp2
  go_loop [4] (fun j => ∃ k : Nat, k ≤ m ∧ j = .int .i64 k ∧ Hid (∀ i, i < k → ¬ 1 < (L.getD i (0, 0)).2)) (fun j => m - (intOf j).toNat)
  case atStart => exact ⟨0, Nat.zero_le _, rfl, Lib.hid (fun i hi => absurd hi (Nat.not_lt_zero _))⟩
  case round =>
    obtain ⟨k, hk, rfl, HN⟩ := hrel
    by_cases hlt : k < m
    · obtain ⟨b, off, rfl, hb, hcell⟩ := hr (by omega)
      have hx := (hcell (k * 2 + 1) (by omega)).trans (flat2_at L k (by have := HM.out; omega)).2
      rw [← Nat.add_assoc] at hx
      obtain ⟨x, hxe⟩ : ∃ x, x = (L.getD k (0, 0)).2 := ⟨_, rfl⟩
      rw [← hxe] at hx
      have HX := Lib.hid hxe
      clear hxe hcell hr
      by_cases hp : 1 < x
      · have HA : Hid (mob L = 0) := Lib.hid (mob_hit (k := k) (by have := HM.out; omega) (by rw [← HX.out]; exact hp))
        go_wp2
        go_ret
        exact ⟨ret_int (by rw [← HL.out, HA.out]), HB.out⟩
      · have HN2 : Hid (∀ i, i < k + 1 → ¬ 1 < (L.getD i (0, 0)).2) := Lib.hid (fun i hi => by
          by_cases e : i = k
          · subst e; rw [← HX.out]; exact hp
          · exact HN.out i (by omega))
        go_wp2
        go_round
        case rel => exact ⟨k + 1, by omega, by go_num, HN2⟩
        case measure => simp [intOf]; omega
    · have HA : Hid (mob L = sgn m) := Lib.hid (by have := HM.out; rw [this]; exact mob_none (fun i hi => HN.out i (by omega)))
      by_cases h2 : m % 2 = 1
      · have h3 : ((m : Int) % 2 == 1) = true := by simp; omega
        go_wp2
        go_ret
        exact ⟨ret_int (by rw [← HL.out, HA.out]; unfold sgn; rw [if_pos h2]), HB.out⟩
      · have h3 : ((m : Int) % 2 == 1) = false := by simp; omega
        go_wp2
        go_ret
        exact ⟨ret_int (by rw [← HL.out, HA.out]; unfold sgn; rw [if_neg h2]), HB.out⟩

set_option maxHeartbeats 800000 in
theorem moebius_any (n : Int) (h1 : 1 ≤ n) (h2 : n ≤ 1000000) (w : World) :
    Calls Try.prog 65 #[.int .i64 n] w fun e w' => e = .returned (.int .i64 (mob (facs n))) ∧ Below w.heap.size w w' := by
  go_enter Try.func65, Try.ntmps65
  go_wp2_with fail
  refine (factors_any _ h1 h2 _).mono ?_
  rintro e w1 ⟨v, rfl, hown, hb1⟩
  obtain ⟨A, c, rfl, hr⟩ := own_cells hown
  obtain ⟨L, hL⟩ : ∃ L, L = facs n := ⟨_, rfl⟩
  rw [← hL] at hr ⊢
  have HL := Lib.hid hL
  clear hL hown h1 h2
  obtain ⟨m, hm⟩ : ∃ m, m = L.length := ⟨_, rfl⟩
  rw [← hm] at hr ⊢
  have HM := Lib.hid hm
  have HR := Lib.hid hr
  have HB := Lib.hid hb1
  have hc := hr.2.1
  have hmx := hr.2.2.1
  unfold maxLen at hmx
  clear hm hb1 hr
  go_wp2
  go_loopw [3, 5, 9] (fun s _ j wr => ∃ k : Nat, k ≤ m ∧ s = .int .i64 (sgn k) ∧ j = .int .i64 k ∧ Hid (∀ i, i < k → ¬ 1 < (L.getD i (0, 0)).2) ∧ Hid (Below w.heap.size w wr) ∧ Hid (RdC 2 wr A m c (flat2 L))) (fun _ _ j _ => m - (intOf j).toNat)
  case atStart => exact ⟨0, Nat.zero_le _, rfl, rfl, Lib.hid (fun i hi => absurd hi (Nat.not_lt_zero _)), HB, HR⟩
  case round =>
    obtain ⟨k, hk, rfl, rfl, HN, HB2, HR2⟩ := hrel
    have ⟨s1, s2⟩ := sgn_bd k
    by_cases hlt : k < m
    · obtain ⟨b, off, rfl, hb, hcell⟩ := HR2.out.2.2.2 (by omega)
      have hx := (hcell (k * 2 + 1) (by omega)).trans (flat2_at L k (by have := HM.out; omega)).2
      rw [← Nat.add_assoc] at hx
      have hy := (hcell (k * 2) (by omega)).trans (flat2_at L k (by have := HM.out; omega)).1
      obtain ⟨x, hxe⟩ : ∃ x, x = (L.getD k (0, 0)).2 := ⟨_, rfl⟩
      obtain ⟨y, hye⟩ : ∃ y, y = (L.getD k (0, 0)).1 := ⟨_, rfl⟩
      rw [← hxe] at hx
      rw [← hye] at hy
      have HX := Lib.hid hxe
      clear hxe hye hcell
      by_cases hp : 1 < x
      · have HA : Hid (mob L = 0) := Lib.hid (mob_hit (k := k) (by have := HM.out; omega) (by rw [← HX.out]; exact hp))
        go_wp2
        go_ret
        exact ⟨ret_int (by rw [← HL.out, HA.out]), bl_alloc HB2.out _⟩
      · have HN2 : Hid (∀ i, i < k + 1 → ¬ 1 < (L.getD i (0, 0)).2) := Lib.hid (fun i hi => by
          by_cases e : i = k
          · subst e; rw [← HX.out]; exact hp
          · exact HN.out i (by omega))
        go_wp2
        go_roundw
        case rel => exact ⟨k + 1, by omega, by rw [sgn_succ], by go_num, HN2, Lib.hid (bl_alloc HB2.out _), Lib.hid (HR2.out.below (bl_alloc (Below.refl _ _) _))⟩
        case measure => simp [intOf]; omega
    · have HA : Hid (mob L = sgn k) := Lib.hid (by rw [show k = L.length by have := HM.out; omega]; exact mob_none (fun i hi => HN.out i (by have := HM.out; omega)))
      go_wp2
      go_ret
      exact ⟨ret_int (by rw [← HL.out, HA.out]), HB2.out⟩

theorem isFactored_any (n : Int) (w : World) :
    Calls Try.prog 64 #[.int .i64 n] w fun e w' => e = .returned (.bool (decide (1 ≤ n) && decide (n ≤ 1000000))) ∧ w = w' := by
  go_enter Try.func64, Try.ntmps64
  go_wp2_with (first | (go_at_call 44; refine (within_any _ _ _ _).mono ?_; rintro e w' ⟨rfl, rfl⟩))
  go_ret
  exact ⟨rfl, rfl⟩

set_option maxHeartbeats 800000 in
theorem walkExactMoebiusOf (n : Int) (w : World) (_ : (Lit.int .i64 n).wf = true) :
    Calls Try.prog 14 #[.int .i64 n] w fun e w' => e = .returned (.bool true) ∧ Below w.heap.size w w' := by
  by_cases h : 1 ≤ n ∧ n ≤ 1000000
  · obtain ⟨h1, h2⟩ := h
    go_enter Try.func14, Try.ntmps14
    go_wp2_with (first | (go_at_call 40; go_in) | (go_at_call 41; go_in) | (go_at_call 42; refine (l01In_any _ _ _ _).mono ?_; rintro e w' ⟨rfl, rfl⟩) | (go_at_call 64; refine (isFactored_any _ _).mono ?_; rintro e w' ⟨rfl, rfl⟩) | (go_at_call 63; refine (l10Moebius_any _ h1 h2 _).mono ?_; rintro e w1 ⟨rfl, hb1⟩; have HB1 := Lib.hid hb1; clear hb1) | (go_at_call 65; refine (moebius_any _ h1 h2 _).mono ?_; rintro e w2 ⟨rfl, hb2⟩; have HB2 := Lib.hid hb2; clear hb2))
    go_ret
    exact ⟨rfl, bl_trans HB1.out HB2.out⟩
  · have hd : (decide (1 ≤ n) && decide (n ≤ 1000000)) = false := by simp only [Bool.and_eq_false_iff, decide_eq_false_iff_not]; omega
    clear h
    go_enter Try.func14, Try.ntmps14
    go_wp2_with (first | (go_at_call 40; go_in) | (go_at_call 41; go_in) | (go_at_call 42; refine (l01In_any _ _ _ _).mono ?_; rintro e w' ⟨rfl, rfl⟩) | (go_at_call 64; refine (isFactored_any _ _).mono ?_; rintro e w' ⟨rfl, rfl⟩))
    go_ret
    exact ⟨rfl, Below.refl _ _⟩
end Go.Proofs.Ytdkeonjckkjdhaa
