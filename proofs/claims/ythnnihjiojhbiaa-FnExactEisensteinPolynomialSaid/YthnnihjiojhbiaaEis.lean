/- The walks of EisensteinPolynomial, and of the law. -/
import Derived.Test.YthnnihjiojhbiaaSmallP
import Derived.Test.YthnnihjiojhbiaaTab
import Derived.Test.YthnnihjiojhbiaaAbsEisensteinPolynomial
namespace Go.Proofs.Ythnnihjiojhbiaa
open Go.RowKit

def eisF (p k : Int) (n i : Nat) : Int := if i = 1 ∧ 1 < n then p * k else if i = 0 then p else if i = n then 1 else 0
/-- what EisensteinPolynomial gives -/
def eisR (p n k : Int) : List Int × Int := if SP p then (if (1 ≤ n ∧ n ≤ 8) ∧ (-100 ≤ k ∧ k ≤ 100) then (tab (n.toNat + 1) (eisF p k n.toNat), 0) else ([], 2)) else ([], 1)
theorem eisR_len (p n k : Int) : (eisR p n k).1.length ≤ 1048576 := by
  unfold eisR
  by_cases h : SP p
  · rw [if_pos h]
    by_cases h2 : (1 ≤ n ∧ n ≤ 8) ∧ (-100 ≤ k ∧ k ≤ 100)
    · rw [if_pos h2]; show (tab _ _).length ≤ _; rw [tab_len]; omega
    · rw [if_neg h2]; simp
  · rw [if_neg h]; simp
theorem pk_bd {p k : Int} (h1 : 2 ≤ p) (h2 : p ≤ 97) (h3 : -100 ≤ k) (h4 : k ≤ 100) : -9700 ≤ p * k ∧ p * k ≤ 9700 := by
  have h : (p * k).natAbs ≤ 97 * 100 := by
    rw [Int.natAbs_mul]
    exact Nat.mul_le_mul (by omega) (by omega)
  generalize p * k = y at *
  omega

set_option maxHeartbeats 1600000 in
theorem specEisenstein_any (p n k : Int) (w : World) :
    Calls Try.prog 19 #[.int .i64 p, .int .i64 n, .int .i64 k] w (Gives (eisR p n k) w) := by
  obtain ⟨i0, hi, hz0, hz1, hz2⟩ := info_parts infoI64
  have HI := Lib.hid hi
  have HZ0 := Lib.hid hz0
  have HZ1 := Lib.hid hz1
  have HZ2 := Lib.hid hz2
  clear hi hz0 hz1 hz2
  by_cases hs : SP p
  · have HS := Lib.hid hs
    have p1 := hs.2.1
    have p2 := hs.1
    by_cases hr : (1 ≤ n ∧ n ≤ 8) ∧ (-100 ≤ k ∧ k ≤ 100)
    · obtain ⟨m, rfl⟩ : ∃ m : Nat, n = (m : Int) := ⟨n.toNat, by omega⟩
      have HE : Hid (eisR p m k = (tab (m + 1) (eisF p k m), 0)) := Lib.hid (by unfold eisR; rw [if_pos hs, if_pos hr]; rfl)
      obtain ⟨⟨n1, n2⟩, k1, k2⟩ := hr
      have ⟨q1, q2⟩ := pk_bd p1 p2 k1 k2
      have hm1 : i0.bytes * (m + 1) ≤ 281474976710656 := by rw [HZ2.out]; omega
      have hm2 : m + 1 ≤ maxLen := by unfold maxLen; omega
      have hLN : (m : Int) + 1 = ((m + 1 : Nat) : Int) := by omega
      have HLN := Lib.hid hLN
      clear hs hLN
      by_cases hm : 1 < m
      · go_enter Try.func19, Try.ntmps19
        go_wp2_with (first | (go_at_call 48; refine (l01Small_yes _ HS.out _).mono ?_; rintro e w' ⟨rfl, rfl⟩) | (go_at_call 49; refine (l01In_any _ _ _ _).mono ?_; rintro e w' ⟨rfl, rfl⟩) | (at_make; refine wpList_make_full _ rfl _ _ _ rfl w.heap.size 2 i0 (.int .i64 0) 1 Try.underlying22 HI.out HZ0.out HZ1.out .i64 .i64 _ _ (m + 1) rfl rfl HLN.out HLN.out hm1 hm2 (Nat.le_refl _) ?_; intro w1 hown hgrow; have HO := Lib.hid (own_tab hown); have HB := Lib.hid ((Below.refl w.heap.size w).grown hgrow (Nat.le_refl _) (by simp)); clear hown hgrow hm1 hm2; have ⟨hc0, hf0⟩ := own_cell HO.out (show 0 < m + 1 by omega); have ⟨hc1, hf1⟩ := own_cell HO.out (show 1 < m + 1 by omega); have ⟨hcm, hfm⟩ := own_cell HO.out (show m < m + 1 by omega)))
        go_ret2
        refine ⟨_, _, by rw [HE.out, tab_len]; rfl, ?_, bl_set (bl_set (bl_set HB.out _ _ (Nat.le_refl _) _) _ _ (Nat.le_refl _) _) _ _ (Nat.le_refl _) _⟩
        rw [HE.out, tab_len]
        have := own_store (own_store (own_store HO.out m 1) 0 p) 1 (p * k)
        rw [tab_ext (h' := eisF p k m) (fun i hi => by unfold eisF; by_cases e1 : i = 1 <;> by_cases e0 : i = 0 <;> by_cases em : i = m <;> simp [e1, e0, em, hm] <;> omega)] at this
        exact this
      · have e : m = 1 := by omega
        subst e
        go_enter Try.func19, Try.ntmps19
        go_wp2_with (first | (go_at_call 48; refine (l01Small_yes _ HS.out _).mono ?_; rintro e w' ⟨rfl, rfl⟩) | (go_at_call 49; refine (l01In_any _ _ _ _).mono ?_; rintro e w' ⟨rfl, rfl⟩) | (at_make; refine wpList_make_full _ rfl _ _ _ rfl w.heap.size 2 i0 (.int .i64 0) 1 Try.underlying22 HI.out HZ0.out HZ1.out .i64 .i64 _ _ (1 + 1) rfl rfl HLN.out HLN.out hm1 hm2 (Nat.le_refl _) ?_; intro w1 hown hgrow; have HO := Lib.hid (own_tab hown); have HB := Lib.hid ((Below.refl w.heap.size w).grown hgrow (Nat.le_refl _) (by simp)); clear hown hgrow hm1 hm2; have ⟨hc0, hf0⟩ := own_cell HO.out (show 0 < 1 + 1 by omega); have ⟨hc1, hf1⟩ := own_cell HO.out (show 1 < 1 + 1 by omega); have ⟨hcm, hfm⟩ := own_cell HO.out (show 1 < 1 + 1 by omega)))
        go_ret2
        refine ⟨_, _, by rw [HE.out, tab_len]; rfl, ?_, bl_set (bl_set HB.out _ _ (Nat.le_refl _) _) _ _ (Nat.le_refl _) _⟩
        rw [HE.out, tab_len]
        have := own_store (own_store HO.out 1 1) 0 p
        rw [tab_ext (h' := eisF p k 1) (fun i hi => by unfold eisF; by_cases e1 : i = 1 <;> by_cases e0 : i = 0 <;> simp [e1, e0] <;> omega)] at this
        exact this
    · have HE : Hid (eisR p n k = ([], 2)) := Lib.hid (by unfold eisR; rw [if_pos hs, if_neg hr])
      by_cases hn : 1 ≤ n ∧ n ≤ 8
      · have hd : (decide (-100 ≤ k) && decide (k ≤ 100)) = false := by simp only [Bool.and_eq_false_iff, decide_eq_false_iff_not]; omega
        obtain ⟨n1, n2⟩ := hn
        clear hs hr
        go_enter Try.func19, Try.ntmps19
        go_wp2_with (first | (go_at_call 48; refine (l01Small_yes _ HS.out _).mono ?_; rintro e w' ⟨rfl, rfl⟩) | (go_at_call 49; refine (l01In_any _ _ _ _).mono ?_; rintro e w' ⟨rfl, rfl⟩))
        go_ret2
        exact ⟨none, 0, by rw [HE.out]; rfl, by rw [HE.out]; exact OwnI.nil _ _, Below.refl _ _⟩
      · have hd : (decide (1 ≤ n) && decide (n ≤ 8)) = false := by simp only [Bool.and_eq_false_iff, decide_eq_false_iff_not]; omega
        clear hs hr hn
        go_enter Try.func19, Try.ntmps19
        go_wp2_with (first | (go_at_call 48; refine (l01Small_yes _ HS.out _).mono ?_; rintro e w' ⟨rfl, rfl⟩) | (go_at_call 49; refine (l01In_any _ _ _ _).mono ?_; rintro e w' ⟨rfl, rfl⟩))
        go_ret2
        exact ⟨none, 0, by rw [HE.out]; rfl, by rw [HE.out]; exact OwnI.nil _ _, Below.refl _ _⟩
  · have HS := Lib.hid hs
    have HE : Hid (eisR p n k = ([], 1)) := Lib.hid (by unfold eisR; rw [if_neg hs])
    clear hs
    go_enter Try.func19, Try.ntmps19
    go_wp2_with (first | (go_at_call 48; refine (l01Small_no _ HS.out _).mono ?_; rintro e w' ⟨rfl, rfl⟩))
    go_ret2
    exact ⟨none, 0, by rw [HE.out]; rfl, by rw [HE.out]; exact OwnI.nil _ _, Below.refl _ _⟩

set_option maxHeartbeats 1600000 in
theorem implEisenstein_any (p n k : Int) (w : World) :
    Calls Try.prog 20 #[.int .i64 p, .int .i64 n, .int .i64 k] w (Gives (eisR p n k) w) := by
  obtain ⟨i0, hi, hz0, hz1, hz2⟩ := info_parts infoI64
  have HI := Lib.hid hi
  have HZ0 := Lib.hid hz0
  have HZ1 := Lib.hid hz1
  have HZ2 := Lib.hid hz2
  clear hi hz0 hz1 hz2
  by_cases hs : SP p
  · have HS := Lib.hid hs
    have p1 := hs.2.1
    have p2 := hs.1
    by_cases hr : (1 ≤ n ∧ n ≤ 8) ∧ (-100 ≤ k ∧ k ≤ 100)
    · obtain ⟨m, rfl⟩ : ∃ m : Nat, n = (m : Int) := ⟨n.toNat, by omega⟩
      have HE : Hid (eisR p m k = (tab (m + 1) (eisF p k m), 0)) := Lib.hid (by unfold eisR; rw [if_pos hs, if_pos hr]; rfl)
      obtain ⟨⟨n1, n2⟩, k1, k2⟩ := hr
      have ⟨q1, q2⟩ := pk_bd p1 p2 k1 k2
      have hm1 : i0.bytes * (m + 1) ≤ 281474976710656 := by rw [HZ2.out]; omega
      have hm2 : m + 1 ≤ maxLen := by unfold maxLen; omega
      have hLN : (m : Int) + 1 = ((m + 1 : Nat) : Int) := by omega
      have HLN := Lib.hid hLN
      clear hs hLN
      by_cases hm : 1 < m
      · go_enter Try.func20, Try.ntmps20
        go_wp2_with (first | (go_at_call 50; refine (isSmallPrime_yes _ HS.out _).mono ?_; rintro e w' ⟨rfl, rfl⟩) | (go_at_call 53; refine (within_any _ _ _ _).mono ?_; rintro e w' ⟨rfl, rfl⟩) | (at_make; refine wpList_make_full _ rfl _ _ _ rfl w.heap.size 2 i0 (.int .i64 0) 1 Try.underlying22 HI.out HZ0.out HZ1.out .i64 .i64 _ _ (m + 1) rfl rfl HLN.out HLN.out hm1 hm2 (Nat.le_refl _) ?_; intro w1 hown hgrow; have HO := Lib.hid (own_tab hown); have HB := Lib.hid ((Below.refl w.heap.size w).grown hgrow (Nat.le_refl _) (by simp)); clear hown hgrow hm1 hm2; have ⟨hc0, hf0⟩ := own_cell HO.out (show 0 < m + 1 by omega); have ⟨hc1, hf1⟩ := own_cell HO.out (show 1 < m + 1 by omega); have ⟨hcm, hfm⟩ := own_cell HO.out (show m < m + 1 by omega)))
        go_ret2
        refine ⟨_, _, by rw [HE.out, tab_len]; rfl, ?_, bl_set (bl_set (bl_set HB.out _ _ (Nat.le_refl _) _) _ _ (Nat.le_refl _) _) _ _ (Nat.le_refl _) _⟩
        rw [HE.out, tab_len]
        have := own_store (own_store (own_store HO.out 0 p) m 1) 1 (p * k)
        rw [tab_ext (h' := eisF p k m) (fun i hi => by unfold eisF; by_cases e1 : i = 1 <;> by_cases e0 : i = 0 <;> by_cases em : i = m <;> simp [e1, e0, em, hm] <;> omega)] at this
        exact this
      · have e : m = 1 := by omega
        subst e
        go_enter Try.func20, Try.ntmps20
        go_wp2_with (first | (go_at_call 50; refine (isSmallPrime_yes _ HS.out _).mono ?_; rintro e w' ⟨rfl, rfl⟩) | (go_at_call 53; refine (within_any _ _ _ _).mono ?_; rintro e w' ⟨rfl, rfl⟩) | (at_make; refine wpList_make_full _ rfl _ _ _ rfl w.heap.size 2 i0 (.int .i64 0) 1 Try.underlying22 HI.out HZ0.out HZ1.out .i64 .i64 _ _ (1 + 1) rfl rfl HLN.out HLN.out hm1 hm2 (Nat.le_refl _) ?_; intro w1 hown hgrow; have HO := Lib.hid (own_tab hown); have HB := Lib.hid ((Below.refl w.heap.size w).grown hgrow (Nat.le_refl _) (by simp)); clear hown hgrow hm1 hm2; have ⟨hc0, hf0⟩ := own_cell HO.out (show 0 < 1 + 1 by omega); have ⟨hc1, hf1⟩ := own_cell HO.out (show 1 < 1 + 1 by omega); have ⟨hcm, hfm⟩ := own_cell HO.out (show 1 < 1 + 1 by omega)))
        go_ret2
        refine ⟨_, _, by rw [HE.out, tab_len]; rfl, ?_, bl_set (bl_set HB.out _ _ (Nat.le_refl _) _) _ _ (Nat.le_refl _) _⟩
        rw [HE.out, tab_len]
        have := own_store (own_store HO.out 0 p) 1 1
        rw [tab_ext (h' := eisF p k 1) (fun i hi => by unfold eisF; by_cases e1 : i = 1 <;> by_cases e0 : i = 0 <;> simp [e1, e0] <;> omega)] at this
        exact this
    · have HE : Hid (eisR p n k = ([], 2)) := Lib.hid (by unfold eisR; rw [if_pos hs, if_neg hr])
      by_cases hn : 1 ≤ n ∧ n ≤ 8
      · have hd : (decide (-100 ≤ k) && decide (k ≤ 100)) = false := by simp only [Bool.and_eq_false_iff, decide_eq_false_iff_not]; omega
        obtain ⟨n1, n2⟩ := hn
        clear hs hr
        go_enter Try.func20, Try.ntmps20
        go_wp2_with (first | (go_at_call 50; refine (isSmallPrime_yes _ HS.out _).mono ?_; rintro e w' ⟨rfl, rfl⟩) | (go_at_call 53; refine (within_any _ _ _ _).mono ?_; rintro e w' ⟨rfl, rfl⟩))
        go_ret2
        exact ⟨none, 0, by rw [HE.out]; rfl, by rw [HE.out]; exact OwnI.nil _ _, Below.refl _ _⟩
      · have hd : (decide (1 ≤ n) && decide (n ≤ 8)) = false := by simp only [Bool.and_eq_false_iff, decide_eq_false_iff_not]; omega
        clear hs hr hn
        go_enter Try.func20, Try.ntmps20
        go_wp2_with (first | (go_at_call 50; refine (isSmallPrime_yes _ HS.out _).mono ?_; rintro e w' ⟨rfl, rfl⟩) | (go_at_call 53; refine (within_any _ _ _ _).mono ?_; rintro e w' ⟨rfl, rfl⟩))
        go_ret2
        exact ⟨none, 0, by rw [HE.out]; rfl, by rw [HE.out]; exact OwnI.nil _ _, Below.refl _ _⟩
  · have HS := Lib.hid hs
    have HE : Hid (eisR p n k = ([], 1)) := Lib.hid (by unfold eisR; rw [if_neg hs])
    clear hs
    go_enter Try.func20, Try.ntmps20
    go_wp2_with (first | (go_at_call 50; refine (isSmallPrime_no _ HS.out _).mono ?_; rintro e w' ⟨rfl, rfl⟩))
    go_ret2
    exact ⟨none, 0, by rw [HE.out]; rfl, by rw [HE.out]; exact OwnI.nil _ _, Below.refl _ _⟩

theorem walkExactEisensteinPolynomial (a0 : Int) (a1 : Int) (a2 : Int) (w : World) (_ : (Lit.int .i64 a0).wf = true) (_ : (Lit.int .i64 a1).wf = true) (_ : (Lit.int .i64 a2).wf = true) :
    Calls Try.prog 4 #[.int .i64 a0, .int .i64 a1, .int .i64 a2] w fun e w' => e = .returned (.bool true) ∧ Below w.heap.size w w' := by
  exact lawExactEisensteinPolynomial a0 a1 a2 (eisR a0 a1 a2).1 (eisR a0 a1 a2).2 w  (eisR_len _ _ _)
    (fun w => specEisenstein_any _ _ _ w)
    (fun w => implEisenstein_any _ _ _ w)

end Go.Proofs.Ythnnihjiojhbiaa