
/- The walks of rational numbers, and of the laws over them. -/
import Derived.Test.YtgajgonepcikbaaDoorGcd
namespace Go.Proofs.YtgajgonepcikbaaDoor
open Go.RowKit

/-- a fraction in lowest terms, its sign above -/
def rdN (num den : Int) : Int := if den < 0 then -num.tdiv (Int.gcd num den : Int) else num.tdiv (Int.gcd num den : Int)
def rdD (num den : Int) : Int := if den < 0 then -den.tdiv (Int.gcd num den : Int) else den.tdiv (Int.gcd num den : Int)
/-- a valid rational number -/
def QOk (n d : Int) : Prop := V n ∧ 1 ≤ d ∧ d ≤ 1000000000000 ∧ Int.gcd n d = 1

theorem gcd_pos {a b : Int} (h : ¬ b = 0) : 1 ≤ ((Int.gcd a b : Nat) : Int) := by
  have := Int.gcd_pos_of_ne_zero_right a h; omega
theorem gcd_wd {a b : Int} (h : ¬ b = 0) : ((Int.gcd a b : Nat) : Int) ≤ b.natAbs := by
  have := Nat.le_of_dvd (by omega) (Nat.gcd_dvd_right a.natAbs b.natAbs)
  unfold Int.gcd; omega
theorem tdiv_wd (a b : Int) (h : -4000000000000 ≤ a) (h2 : a ≤ 4000000000000) : -4000000000000 ≤ a.tdiv b ∧ a.tdiv b ≤ 4000000000000 := by
  have h3 : (a.tdiv b).natAbs ≤ a.natAbs := by rw [Int.natAbs_tdiv]; exact Nat.div_le_self _ _
  generalize a.tdiv b = X at *
  omega
theorem tdiv_v (a b : Int) (h : V a) : V (a.tdiv b) := by
  have h3 : (a.tdiv b).natAbs ≤ a.natAbs := by rw [Int.natAbs_tdiv]; exact Nat.div_le_self _ _
  unfold V at *
  generalize a.tdiv b = X at *
  omega
theorem V.neg {a : Int} (h : V a) : V (-a) := by unfold V at *; omega
theorem rd_nat (num den : Int) : (rdN num den).natAbs = num.natAbs / Int.gcd num den ∧ (rdD num den).natAbs = den.natAbs / Int.gcd num den := by
  unfold rdN rdD
  by_cases hs : den < 0
  · rw [if_pos hs, if_pos hs, Int.natAbs_neg, Int.natAbs_neg, Int.natAbs_tdiv, Int.natAbs_tdiv, Int.natAbs_natCast]; exact ⟨rfl, rfl⟩
  · rw [if_neg hs, if_neg hs, Int.natAbs_tdiv, Int.natAbs_tdiv, Int.natAbs_natCast]; exact ⟨rfl, rfl⟩
theorem rd_gcd (num den : Int) (h0 : ¬ den = 0) : Int.gcd (rdN num den) (rdD num den) = 1 := by
  have ⟨e1, e2⟩ := rd_nat num den
  show Nat.gcd (rdN num den).natAbs (rdD num den).natAbs = 1
  rw [e1, e2]
  have hg : 0 < Nat.gcd num.natAbs den.natAbs := Nat.gcd_pos_of_pos_right _ (by omega)
  unfold Int.gcd
  rw [Nat.gcd_div (Nat.gcd_dvd_left _ _) (Nat.gcd_dvd_right _ _), Nat.div_self hg]
theorem rdD_pos (num den : Int) (h0 : ¬ den = 0) : 1 ≤ rdD num den := by
  have hg := gcd_pos (a := num) h0
  have hd : ((Int.gcd num den : Nat) : Int) ∣ den := Int.gcd_dvd_right num den
  obtain ⟨k, hk⟩ := hd
  unfold rdD
  generalize ((Int.gcd num den : Nat) : Int) = g at *
  subst hk
  rw [Int.mul_tdiv_cancel_left _ (by omega)]
  by_cases hk : k < 0
  · rw [if_pos (Int.mul_neg_of_pos_of_neg (by omega) hk)]; omega
  · have : ¬ k = 0 := by rintro rfl; simp at h0
    have h1 : 0 < g * k := Int.mul_pos (by omega) (by omega)
    rw [if_neg (by omega)]; omega
theorem rd_ok {num den : Int} (hn : V num) (hd : V den) (h0 : ¬ den = 0) : QOk (rdN num den) (rdD num den) := by
  have h1 := rdD_pos num den h0
  have h2 : V (rdD num den) := by unfold rdD; by_cases hs : den < 0 <;> simp only [hs, if_true, if_false] <;> first | exact (tdiv_v _ _ hd).neg | exact tdiv_v _ _ hd
  have h3 : V (rdN num den) := by unfold rdN; by_cases hs : den < 0 <;> simp only [hs, if_true, if_false] <;> first | exact (tdiv_v _ _ hn).neg | exact tdiv_v _ _ hn
  exact ⟨h3, h1, h2.2, rd_gcd num den h0⟩
theorem rd_wd {num den : Int} (hn : Wd num) (hd : Wd den) : Wd (rdN num den) ∧ Wd (rdD num den) := by
  unfold rdN rdD
  have a := tdiv_wd num (Int.gcd num den : Int) hn.1 hn.2
  have b := tdiv_wd den (Int.gcd num den : Int) hd.1 hd.2
  unfold Wd
  by_cases hs : den < 0
  · rw [if_pos hs, if_pos hs]; omega
  · rw [if_neg hs, if_neg hs]; omega


theorem specIsRational_yes (n d : Int) (h : QOk n d) (w : World) :
    Calls Tryd.prog 59 #[.agg #[.int .i64 n, .int .i64 d]] w fun e w' => e = .returned (.bool true) ∧ Below w.heap.size w w' := by
  obtain ⟨hn, d1, d2, hg⟩ := h
  have HA := Lib.hid hn.wd
  have HB : Hid (Wd d) := Lib.hid (by unfold Wd; omega)
  obtain ⟨n1, n2⟩ := hn
  have HG : Hid (1 = ((Int.gcd n d : Nat) : Int)) := Lib.hid (by rw [hg]; rfl)
  clear hg
  go_enter Tryd.func59, Tryd.ntmps59
  go_wp2_with (first | (go_at_call 102; refine (l01Is_any _ _).mono ?_; rintro e w' ⟨rfl, rfl⟩) | (go_at_call 103; refine (l01In_any _ _ _ _).mono ?_; rintro e w' ⟨rfl, rfl⟩) | (go_at_call 104; refine (l01Gcd_any _ _ HA.out HB.out _).mono ?_; rintro e w' ⟨rfl, k, rfl⟩; rw [← HG.out]))
  go_ret
  exact ⟨rfl, (by repeat (first | exact Below.refl _ _ | apply bl_alloc | apply below_drewN))⟩
theorem specIsRational_no (n d : Int) (h : ¬ QOk n d) (w : World) :
    Calls Tryd.prog 59 #[.agg #[.int .i64 n, .int .i64 d]] w fun e w' => e = .returned (.bool false) ∧ Below w.heap.size w w' := by
  by_cases hn : V n
  · by_cases hd : 1 ≤ d ∧ d ≤ 1000000000000
    · have HA := Lib.hid hn.wd
      have HB : Hid (Wd d) := Lib.hid (by unfold Wd; omega)
      have hg : ¬ ((Int.gcd n d : Nat) : Int) = 1 := fun e => h ⟨hn, hd.1, hd.2, by omega⟩
      obtain ⟨d1, d2⟩ := hd
      obtain ⟨n1, n2⟩ := hn
      obtain ⟨g, hge⟩ : ∃ g : Int, g = (Int.gcd n d : Int) := ⟨_, rfl⟩
      rw [← hge] at hg
      have HG := Lib.hid hge
      have hg2 : (g == 1) = false := by simpa using hg
      clear hge h hg
      go_enter Tryd.func59, Tryd.ntmps59
      go_wp2_with (first | (go_at_call 102; refine (l01Is_any _ _).mono ?_; rintro e w' ⟨rfl, rfl⟩) | (go_at_call 103; refine (l01In_any _ _ _ _).mono ?_; rintro e w' ⟨rfl, rfl⟩) | (go_at_call 104; refine (l01Gcd_any _ _ HA.out HB.out _).mono ?_; rintro e w' ⟨rfl, k, rfl⟩; rw [← HG.out]))
      go_ret
      exact ⟨rfl, (by repeat (first | exact Below.refl _ _ | apply bl_alloc | apply below_drewN))⟩
    · obtain ⟨n1, n2⟩ := hn
      have hd2 : (decide (1 ≤ d) && decide (d ≤ 1000000000000)) = false := by simp; omega
      clear hd h
      go_enter Tryd.func59, Tryd.ntmps59
      go_wp2_with (first | (go_at_call 102; refine (l01Is_any _ _).mono ?_; rintro e w' ⟨rfl, rfl⟩) | (go_at_call 103; refine (l01In_any _ _ _ _).mono ?_; rintro e w' ⟨rfl, rfl⟩))
      go_ret
      exact ⟨rfl, (by repeat (first | exact Below.refl _ _ | apply bl_alloc | apply below_drewN))⟩
  · have hd2 := V_dec hn
    clear hn h
    go_enter Tryd.func59, Tryd.ntmps59
    go_wp2_with (first | (go_at_call 102; refine (l01Is_any _ _).mono ?_; rintro e w' ⟨rfl, rfl⟩) | (go_at_call 103; refine (l01In_any _ _ _ _).mono ?_; rintro e w' ⟨rfl, rfl⟩))
    go_ret
    exact ⟨rfl, (by repeat (first | exact Below.refl _ _ | apply bl_alloc | apply below_drewN))⟩


theorem implIsRational_yes (n d : Int) (h : QOk n d) (w : World) :
    Calls Tryd.prog 61 #[.agg #[.int .i64 n, .int .i64 d]] w fun e w' => e = .returned (.bool true) ∧ Below w.heap.size w w' := by
  obtain ⟨hn, d1, d2, hg⟩ := h
  have HA := Lib.hid hn.wd
  have HB : Hid (Wd d) := Lib.hid (by unfold Wd; omega)
  obtain ⟨n1, n2⟩ := hn
  have HG : Hid (1 = ((Int.gcd n d : Nat) : Int)) := Lib.hid (by rw [hg]; rfl)
  clear hg
  go_enter Tryd.func61, Tryd.ntmps61
  go_wp2_with (first | (go_at_call 107; refine (isValue_any _ _).mono ?_; rintro e w' ⟨rfl, rfl⟩) | (go_at_call 90; refine (within_any _ _ _ _).mono ?_; rintro e w' ⟨rfl, rfl⟩) | (go_at_call 108; refine (gcd_any _ _ HA.out HB.out _).mono ?_; rintro e w' ⟨rfl, k, rfl⟩; rw [← HG.out]))
  go_ret
  exact ⟨rfl, (by repeat (first | exact Below.refl _ _ | apply bl_alloc | apply below_drewN))⟩
theorem implIsRational_no (n d : Int) (h : ¬ QOk n d) (w : World) :
    Calls Tryd.prog 61 #[.agg #[.int .i64 n, .int .i64 d]] w fun e w' => e = .returned (.bool false) ∧ Below w.heap.size w w' := by
  by_cases hn : V n
  · by_cases hd : 1 ≤ d ∧ d ≤ 1000000000000
    · have HA := Lib.hid hn.wd
      have HB : Hid (Wd d) := Lib.hid (by unfold Wd; omega)
      have hg : ¬ ((Int.gcd n d : Nat) : Int) = 1 := fun e => h ⟨hn, hd.1, hd.2, by omega⟩
      obtain ⟨d1, d2⟩ := hd
      obtain ⟨n1, n2⟩ := hn
      obtain ⟨g, hge⟩ : ∃ g : Int, g = (Int.gcd n d : Int) := ⟨_, rfl⟩
      rw [← hge] at hg
      have HG := Lib.hid hge
      have hg2 : (g == 1) = false := by simpa using hg
      clear hge h hg
      go_enter Tryd.func61, Tryd.ntmps61
      go_wp2_with (first | (go_at_call 107; refine (isValue_any _ _).mono ?_; rintro e w' ⟨rfl, rfl⟩) | (go_at_call 90; refine (within_any _ _ _ _).mono ?_; rintro e w' ⟨rfl, rfl⟩) | (go_at_call 108; refine (gcd_any _ _ HA.out HB.out _).mono ?_; rintro e w' ⟨rfl, k, rfl⟩; rw [← HG.out]))
      go_ret
      exact ⟨rfl, (by repeat (first | exact Below.refl _ _ | apply bl_alloc | apply below_drewN))⟩
    · obtain ⟨n1, n2⟩ := hn
      have hd2 : (decide (1 ≤ d) && decide (d ≤ 1000000000000)) = false := by simp; omega
      clear hd h
      go_enter Tryd.func61, Tryd.ntmps61
      go_wp2_with (first | (go_at_call 107; refine (isValue_any _ _).mono ?_; rintro e w' ⟨rfl, rfl⟩) | (go_at_call 90; refine (within_any _ _ _ _).mono ?_; rintro e w' ⟨rfl, rfl⟩))
      go_ret
      exact ⟨rfl, (by repeat (first | exact Below.refl _ _ | apply bl_alloc | apply below_drewN))⟩
  · have hd2 := V_dec hn
    clear hn h
    go_enter Tryd.func61, Tryd.ntmps61
    go_wp2_with (first | (go_at_call 107; refine (isValue_any _ _).mono ?_; rintro e w' ⟨rfl, rfl⟩) | (go_at_call 90; refine (within_any _ _ _ _).mono ?_; rintro e w' ⟨rfl, rfl⟩))
    go_ret
    exact ⟨rfl, (by repeat (first | exact Below.refl _ _ | apply bl_alloc | apply below_drewN))⟩


end Go.Proofs.YtgajgonepcikbaaDoor