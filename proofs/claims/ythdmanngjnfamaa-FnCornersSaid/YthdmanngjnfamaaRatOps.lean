
/- The walks of sums and products of rational numbers, whole. -/
import Derived.Test.YthdmanngjnfamaaRatTwo
namespace Go.Proofs.Ythdmanngjnfamaa
open Go.RowKit

theorem sm_mul {x y : Int} (h : Sm x) (h2 : Sm y) : -1000000000000 ≤ x * y ∧ x * y ≤ 1000000000000 := by
  unfold Sm at h h2
  have h3 : (x * y).natAbs ≤ 1000000 * 1000000 := by
    rw [Int.natAbs_mul]
    exact Nat.mul_le_mul (by omega) (by omega)
  generalize x * y = z at *
  omega
theorem two_zero {a b c d : Int} (h : twoR a b c d = 0) : Sm a ∧ Sm b ∧ Sm c ∧ Sm d ∧ 1 ≤ b ∧ 1 ≤ d := by
  unfold twoR at h
  by_cases h1 : QOk a b ∧ QOk c d
  · rw [if_pos h1] at h
    by_cases h2 : Sm a ∧ Sm b ∧ Sm c ∧ Sm d
    · exact ⟨h2.1, h2.2.1, h2.2.2.1, h2.2.2.2, h1.1.2.1, h1.2.2.1⟩
    · rw [if_neg h2] at h; omega
  · rw [if_neg h1] at h; omega
/-- what a sum or a product of rational numbers returns, off the code and the unreduced fraction -/
def ratR (k N D : Int) : (Int × Int) × Int := if k = 0 then (if QOk (rdN N D) (rdD N D) then ((rdN N D, rdD N D), 0) else ((0, 0), 3)) else ((0, 0), k)
theorem Wd.of {z : Int} (h : -2000000000000 ≤ z) (h2 : z ≤ 2000000000000) : Wd z := by unfold Wd; omega
theorem two_at {a b c d k : Int} (h : k = twoR a b c d) (w : World) : Calls Try.prog 78 #[.agg #[.int .i64 a, .int .i64 b], .agg #[.int .i64 c, .int .i64 d]] w fun e w' => e = .returned (.int .i64 k) ∧ Below w.heap.size w w' := by
  subst h; exact specTwo_any _ _ _ _ _
theorem small_at {a b c d k : Int} (h : k = twoR a b c d) (w : World) : Calls Try.prog 75 #[.agg #[.int .i64 a, .int .i64 b], .agg #[.int .i64 c, .int .i64 d]] w fun e w' => e = .returned (.int .i64 k) ∧ Below w.heap.size w w' := by
  subst h; exact implTwo_any _ _ _ _ _
set_option maxHeartbeats 800000 in
theorem orNoRational_yes (n d : Int) (h : QOk n d) (w : World) :
    Calls Try.prog 76 #[.agg #[.int .i64 n, .int .i64 d]] w fun e w' => e = .returned (.tuple #[.agg #[.int .i64 n, .int .i64 d], .int .i64 0]) ∧ Below w.heap.size w w' := by
  have HQ := Lib.hid h
  clear h
  go_enter Try.func76, Try.ntmps76
  go_wp2_with fail
  refine (implIsRational_yes _ _ HQ.out _).mono ?_
  rintro e w1 ⟨rfl, hb1⟩
  have a0 := keep_cell hb1 (b := w.heap.size) (o := 0) (v := .int .i64 n) (by simp [go_sem])
  have a1 := keep_cell hb1 (b := w.heap.size) (o := 1) (v := .int .i64 d) (by simp [go_sem])
  have c0 := keep_cell hb1 (b := w.heap.size + 1) (o := 0) (v := .int .i64 0) (by simp [go_sem])
  have c1 := keep_cell hb1 (b := w.heap.size + 1) (o := 1) (v := .int .i64 0) (by simp [go_sem])
  have f0 := keep_fr hb1 (b := w.heap.size + 1) (o := 0) (v := .int .i64 0) (by simp [go_sem]) (by simp [go_sem])
  have f1 := keep_fr hb1 (b := w.heap.size + 1) (o := 1) (v := .int .i64 0) (by simp [go_sem]) (by simp [go_sem])
  have HB1 := bl_trans (bl_alloc (bl_alloc (Below.refl _ _) _) _) hb1
  go_wp2
  exact bodyPost_ret (v := .tuple #[.agg #[.int .i64 n, .int .i64 d], .int .i64 0]) (by simp [results, Try.results76, go_sem, c0, c1]) rfl ⟨rfl, bl_set (bl_set HB1 _ _ (Nat.le_succ _) _) _ _ (Nat.le_succ _) _⟩
set_option maxHeartbeats 800000 in
theorem orNoRational_no (n d : Int) (h : ¬ QOk n d) (w : World) :
    Calls Try.prog 76 #[.agg #[.int .i64 n, .int .i64 d]] w fun e w' => e = .returned (.tuple #[.agg #[.int .i64 0, .int .i64 0], .int .i64 3]) ∧ Below w.heap.size w w' := by
  have HQ := Lib.hid h
  clear h
  go_enter Try.func76, Try.ntmps76
  go_wp2_with fail
  refine (implIsRational_no _ _ HQ.out _).mono ?_
  rintro e w1 ⟨rfl, hb1⟩
  have c0 := keep_cell hb1 (b := w.heap.size + 1) (o := 0) (v := .int .i64 0) (by simp [go_sem])
  have c1 := keep_cell hb1 (b := w.heap.size + 1) (o := 1) (v := .int .i64 0) (by simp [go_sem])
  have f0 := keep_fr hb1 (b := w.heap.size + 1) (o := 0) (v := .int .i64 0) (by simp [go_sem]) (by simp [go_sem])
  have f1 := keep_fr hb1 (b := w.heap.size + 1) (o := 1) (v := .int .i64 0) (by simp [go_sem]) (by simp [go_sem])
  have HB1 := bl_trans (bl_alloc (bl_alloc (Below.refl _ _) _) _) hb1
  go_wp2
  exact bodyPost_ret (v := .tuple #[.agg #[.int .i64 0, .int .i64 0], .int .i64 3]) (by simp [results, Try.results76, go_sem, c0, c1]) rfl ⟨rfl, bl_set (bl_set HB1 _ _ (Nat.le_succ _) _) _ _ (Nat.le_succ _) _⟩

set_option maxHeartbeats 1600000 in
theorem specAdd_any (a b c d : Int) (w : World) :
    Calls Try.prog 22 #[.agg #[.int .i64 a, .int .i64 b], .agg #[.int .i64 c, .int .i64 d]] w fun e w' => e = .returned (.tuple #[.agg #[.int .i64 (ratR (twoR a b c d) (a * d + c * b) (b * d)).1.1, .int .i64 (ratR (twoR a b c d) (a * d + c * b) (b * d)).1.2], .int .i64 (ratR (twoR a b c d) (a * d + c * b) (b * d)).2]) ∧ Below w.heap.size w w' := by
  obtain ⟨k, hk⟩ : ∃ k, k = twoR a b c d := ⟨_, rfl⟩
  rw [← hk]
  have HK := Lib.hid hk
  by_cases hz : k = 0
  · subst hz
    have ⟨s1, s2, s3, s4, d1, d2⟩ := two_zero hk.symm
    clear hk
    have ⟨p0, q0⟩ := sm_mul s1 s4
    have ⟨p1, q1⟩ := sm_mul s3 s2
    have ⟨p2, q2⟩ := sm_mul s2 s4
    have hD : 1 ≤ b * d := Int.mul_pos (a := b) (b := d) (by omega) (by omega)
    have HN : Hid (Wd (a * d + c * b)) := Lib.hid (Wd.of (by omega) (by omega))
    have HD : Hid (Wd (b * d)) := Lib.hid (Wd.of (by omega) (by omega))
    have H0 : Hid (¬ b * d = 0) := Lib.hid (by omega)
    clear s1 s2 s3 s4
    by_cases hq : QOk (rdN (a * d + c * b) (b * d)) (rdD (a * d + c * b) (b * d))
    · have HQ := Lib.hid hq
      have HE : Hid (ratR 0 (a * d + c * b) (b * d) = ((rdN (a * d + c * b) (b * d), rdD (a * d + c * b) (b * d)), 0)) := Lib.hid (by unfold ratR; rw [if_pos rfl, if_pos hq])
      clear hq
      go_enter Try.func22, Try.ntmps22
      go_wp2_with fail
      refine (two_at HK.out _).mono ?_
      rintro e w1 ⟨rfl, hb1⟩
      have a0 := keep_cell hb1 (b := w.heap.size) (o := 0) (v := .int .i64 a) (by simp [go_sem])
      have a1 := keep_cell hb1 (b := w.heap.size) (o := 1) (v := .int .i64 b) (by simp [go_sem])
      have b0 := keep_cell hb1 (b := w.heap.size + 1) (o := 0) (v := .int .i64 c) (by simp [go_sem])
      have b1 := keep_cell hb1 (b := w.heap.size + 1) (o := 1) (v := .int .i64 d) (by simp [go_sem])
      have c0 := keep_cell hb1 (b := w.heap.size + 2) (o := 0) (v := .int .i64 0) (by simp [go_sem])
      have c1 := keep_cell hb1 (b := w.heap.size + 2) (o := 1) (v := .int .i64 0) (by simp [go_sem])
      have f0 := keep_fr hb1 (b := w.heap.size + 2) (o := 0) (v := .int .i64 0) (by simp [go_sem]) (by simp [go_sem])
      have f1 := keep_fr hb1 (b := w.heap.size + 2) (o := 1) (v := .int .i64 0) (by simp [go_sem]) (by simp [go_sem])
      have HB1 := Lib.hid (bl_trans (bl_alloc (bl_alloc (bl_alloc (Below.refl _ _) _) _) _) hb1)
      clear hb1
      go_wp2_with fail
      refine (l05Make_yes _ _ HN.out HD.out H0.out HQ.out _).mono ?_
      rintro e w2 ⟨rfl, hb2⟩
      replace f0 := keep_fr hb2 c0 f0
      replace f1 := keep_fr hb2 c1 f1
      replace c0 := keep_cell hb2 c0
      replace c1 := keep_cell hb2 c1
      have HB2 := Lib.hid (bl_trans HB1.out hb2)
      clear hb2 HB1
      go_wp2
      exact bodyPost_ret (v := .tuple #[.agg #[.int .i64 (rdN (a * d + c * b) (b * d)), .int .i64 (rdD (a * d + c * b) (b * d))], .int .i64 0]) (by simp [results, Try.results22, go_sem, c0, c1]) rfl ⟨by rw [HE.out], bl_set (bl_set HB2.out _ _ (Nat.le_add_right _ 2) _) _ _ (Nat.le_add_right _ 2) _⟩
    · have HQ := Lib.hid hq
      have HE : Hid (ratR 0 (a * d + c * b) (b * d) = ((0, 0), 3)) := Lib.hid (by unfold ratR; rw [if_pos rfl, if_neg hq])
      clear hq
      go_enter Try.func22, Try.ntmps22
      go_wp2_with fail
      refine (two_at HK.out _).mono ?_
      rintro e w1 ⟨rfl, hb1⟩
      have a0 := keep_cell hb1 (b := w.heap.size) (o := 0) (v := .int .i64 a) (by simp [go_sem])
      have a1 := keep_cell hb1 (b := w.heap.size) (o := 1) (v := .int .i64 b) (by simp [go_sem])
      have b0 := keep_cell hb1 (b := w.heap.size + 1) (o := 0) (v := .int .i64 c) (by simp [go_sem])
      have b1 := keep_cell hb1 (b := w.heap.size + 1) (o := 1) (v := .int .i64 d) (by simp [go_sem])
      have c0 := keep_cell hb1 (b := w.heap.size + 2) (o := 0) (v := .int .i64 0) (by simp [go_sem])
      have c1 := keep_cell hb1 (b := w.heap.size + 2) (o := 1) (v := .int .i64 0) (by simp [go_sem])
      have f0 := keep_fr hb1 (b := w.heap.size + 2) (o := 0) (v := .int .i64 0) (by simp [go_sem]) (by simp [go_sem])
      have f1 := keep_fr hb1 (b := w.heap.size + 2) (o := 1) (v := .int .i64 0) (by simp [go_sem]) (by simp [go_sem])
      have HB1 := Lib.hid (bl_trans (bl_alloc (bl_alloc (bl_alloc (Below.refl _ _) _) _) _) hb1)
      clear hb1
      go_wp2_with fail
      refine (l05Make_no _ _ HN.out HD.out H0.out HQ.out _).mono ?_
      rintro e w2 ⟨rfl, hb2⟩
      replace f0 := keep_fr hb2 c0 f0
      replace f1 := keep_fr hb2 c1 f1
      replace c0 := keep_cell hb2 c0
      replace c1 := keep_cell hb2 c1
      have HB2 := Lib.hid (bl_trans HB1.out hb2)
      clear hb2 HB1
      go_wp2
      exact bodyPost_ret (v := .tuple #[.agg #[.int .i64 0, .int .i64 0], .int .i64 3]) (by simp [results, Try.results22, go_sem, c0, c1]) rfl ⟨by rw [HE.out], bl_set (bl_set HB2.out _ _ (Nat.le_add_right _ 2) _) _ _ (Nat.le_add_right _ 2) _⟩
  · have HE : Hid (ratR k (a * d + c * b) (b * d) = ((0, 0), k)) := Lib.hid (by unfold ratR; rw [if_neg hz])
    have hk2 : (k != 0) = true := by simpa using hz
    clear hz hk
    go_enter Try.func22, Try.ntmps22
    go_wp2_with fail
    refine (two_at HK.out _).mono ?_
    rintro e w1 ⟨rfl, hb1⟩
    have c0 := keep_cell hb1 (b := w.heap.size + 2) (o := 0) (v := .int .i64 0) (by simp [go_sem])
    have c1 := keep_cell hb1 (b := w.heap.size + 2) (o := 1) (v := .int .i64 0) (by simp [go_sem])
    have f0 := keep_fr hb1 (b := w.heap.size + 2) (o := 0) (v := .int .i64 0) (by simp [go_sem]) (by simp [go_sem])
    have f1 := keep_fr hb1 (b := w.heap.size + 2) (o := 1) (v := .int .i64 0) (by simp [go_sem]) (by simp [go_sem])
    have HB1 := Lib.hid (bl_trans (bl_alloc (bl_alloc (bl_alloc (Below.refl _ _) _) _) _) hb1)
    clear hb1
    go_wp2
    exact bodyPost_ret (v := .tuple #[.agg #[.int .i64 0, .int .i64 0], .int .i64 k]) (by simp [results, Try.results22, go_sem, c0, c1]) rfl ⟨by rw [HE.out], bl_set (bl_set HB1.out _ _ (Nat.le_add_right _ 2) _) _ _ (Nat.le_add_right _ 2) _⟩

set_option maxHeartbeats 1600000 in
theorem implAdd_any (a b c d : Int) (w : World) :
    Calls Try.prog 21 #[.agg #[.int .i64 a, .int .i64 b], .agg #[.int .i64 c, .int .i64 d]] w fun e w' => e = .returned (.tuple #[.agg #[.int .i64 (ratR (twoR a b c d) (a * d + c * b) (b * d)).1.1, .int .i64 (ratR (twoR a b c d) (a * d + c * b) (b * d)).1.2], .int .i64 (ratR (twoR a b c d) (a * d + c * b) (b * d)).2]) ∧ Below w.heap.size w w' := by
  obtain ⟨k, hk⟩ : ∃ k, k = twoR a b c d := ⟨_, rfl⟩
  rw [← hk]
  have HK := Lib.hid hk
  by_cases hz : k = 0
  · subst hz
    have ⟨s1, s2, s3, s4, d1, d2⟩ := two_zero hk.symm
    clear hk
    have ⟨p0, q0⟩ := sm_mul s1 s4
    have ⟨p1, q1⟩ := sm_mul s3 s2
    have ⟨p2, q2⟩ := sm_mul s2 s4
    have hD : 1 ≤ b * d := Int.mul_pos (a := b) (b := d) (by omega) (by omega)
    have HN : Hid (Wd (a * d + c * b)) := Lib.hid (Wd.of (by omega) (by omega))
    have HD : Hid (Wd (b * d)) := Lib.hid (Wd.of (by omega) (by omega))
    have H0 : Hid (¬ b * d = 0) := Lib.hid (by omega)
    clear s1 s2 s3 s4
    by_cases hq : QOk (rdN (a * d + c * b) (b * d)) (rdD (a * d + c * b) (b * d))
    · have HQ := Lib.hid hq
      have HE : Hid (ratR 0 (a * d + c * b) (b * d) = ((rdN (a * d + c * b) (b * d), rdD (a * d + c * b) (b * d)), 0)) := Lib.hid (by unfold ratR; rw [if_pos rfl, if_pos hq])
      clear hq
      go_enter Try.func21, Try.ntmps21
      go_wp2_with fail
      refine (small_at HK.out _).mono ?_
      rintro e w1 ⟨rfl, hb1⟩
      have a0 := keep_cell hb1 (b := w.heap.size) (o := 0) (v := .int .i64 a) (by simp [go_sem])
      have a1 := keep_cell hb1 (b := w.heap.size) (o := 1) (v := .int .i64 b) (by simp [go_sem])
      have b0 := keep_cell hb1 (b := w.heap.size + 1) (o := 0) (v := .int .i64 c) (by simp [go_sem])
      have b1 := keep_cell hb1 (b := w.heap.size + 1) (o := 1) (v := .int .i64 d) (by simp [go_sem])
      have c0 := keep_cell hb1 (b := w.heap.size + 2) (o := 0) (v := .int .i64 0) (by simp [go_sem])
      have c1 := keep_cell hb1 (b := w.heap.size + 2) (o := 1) (v := .int .i64 0) (by simp [go_sem])
      have f0 := keep_fr hb1 (b := w.heap.size + 2) (o := 0) (v := .int .i64 0) (by simp [go_sem]) (by simp [go_sem])
      have f1 := keep_fr hb1 (b := w.heap.size + 2) (o := 1) (v := .int .i64 0) (by simp [go_sem]) (by simp [go_sem])
      have HB1 := Lib.hid (bl_trans (bl_alloc (bl_alloc (bl_alloc (Below.refl _ _) _) _) _) hb1)
      clear hb1
      go_wp2_with fail
      refine (reduced_any _ _ HN.out HD.out H0.out _).mono ?_
      rintro e w2 ⟨rfl, hb2⟩
      replace f0 := keep_fr hb2 c0 f0
      replace f1 := keep_fr hb2 c1 f1
      replace c0 := keep_cell hb2 c0
      replace c1 := keep_cell hb2 c1
      have HB2 := Lib.hid (bl_trans HB1.out hb2)
      clear hb2 HB1
      go_wp2_with fail
      refine (orNoRational_yes _ _ HQ.out _).mono ?_
      rintro e w3 ⟨rfl, hb3⟩
      replace f0 := keep_fr hb3 c0 f0
      replace f1 := keep_fr hb3 c1 f1
      replace c0 := keep_cell hb3 c0
      replace c1 := keep_cell hb3 c1
      have HB3 := Lib.hid (bl_trans HB2.out hb3)
      clear hb3 HB2
      go_wp2
      exact bodyPost_ret (v := .tuple #[.agg #[.int .i64 (rdN (a * d + c * b) (b * d)), .int .i64 (rdD (a * d + c * b) (b * d))], .int .i64 0]) (by simp [results, Try.results21, go_sem, c0, c1]) rfl ⟨by rw [HE.out], bl_set (bl_set HB3.out _ _ (Nat.le_add_right _ 2) _) _ _ (Nat.le_add_right _ 2) _⟩
    · have HQ := Lib.hid hq
      have HE : Hid (ratR 0 (a * d + c * b) (b * d) = ((0, 0), 3)) := Lib.hid (by unfold ratR; rw [if_pos rfl, if_neg hq])
      clear hq
      go_enter Try.func21, Try.ntmps21
      go_wp2_with fail
      refine (small_at HK.out _).mono ?_
      rintro e w1 ⟨rfl, hb1⟩
      have a0 := keep_cell hb1 (b := w.heap.size) (o := 0) (v := .int .i64 a) (by simp [go_sem])
      have a1 := keep_cell hb1 (b := w.heap.size) (o := 1) (v := .int .i64 b) (by simp [go_sem])
      have b0 := keep_cell hb1 (b := w.heap.size + 1) (o := 0) (v := .int .i64 c) (by simp [go_sem])
      have b1 := keep_cell hb1 (b := w.heap.size + 1) (o := 1) (v := .int .i64 d) (by simp [go_sem])
      have c0 := keep_cell hb1 (b := w.heap.size + 2) (o := 0) (v := .int .i64 0) (by simp [go_sem])
      have c1 := keep_cell hb1 (b := w.heap.size + 2) (o := 1) (v := .int .i64 0) (by simp [go_sem])
      have f0 := keep_fr hb1 (b := w.heap.size + 2) (o := 0) (v := .int .i64 0) (by simp [go_sem]) (by simp [go_sem])
      have f1 := keep_fr hb1 (b := w.heap.size + 2) (o := 1) (v := .int .i64 0) (by simp [go_sem]) (by simp [go_sem])
      have HB1 := Lib.hid (bl_trans (bl_alloc (bl_alloc (bl_alloc (Below.refl _ _) _) _) _) hb1)
      clear hb1
      go_wp2_with fail
      refine (reduced_any _ _ HN.out HD.out H0.out _).mono ?_
      rintro e w2 ⟨rfl, hb2⟩
      replace f0 := keep_fr hb2 c0 f0
      replace f1 := keep_fr hb2 c1 f1
      replace c0 := keep_cell hb2 c0
      replace c1 := keep_cell hb2 c1
      have HB2 := Lib.hid (bl_trans HB1.out hb2)
      clear hb2 HB1
      go_wp2_with fail
      refine (orNoRational_no _ _ HQ.out _).mono ?_
      rintro e w3 ⟨rfl, hb3⟩
      replace f0 := keep_fr hb3 c0 f0
      replace f1 := keep_fr hb3 c1 f1
      replace c0 := keep_cell hb3 c0
      replace c1 := keep_cell hb3 c1
      have HB3 := Lib.hid (bl_trans HB2.out hb3)
      clear hb3 HB2
      go_wp2
      exact bodyPost_ret (v := .tuple #[.agg #[.int .i64 0, .int .i64 0], .int .i64 3]) (by simp [results, Try.results21, go_sem, c0, c1]) rfl ⟨by rw [HE.out], bl_set (bl_set HB3.out _ _ (Nat.le_add_right _ 2) _) _ _ (Nat.le_add_right _ 2) _⟩
  · have HE : Hid (ratR k (a * d + c * b) (b * d) = ((0, 0), k)) := Lib.hid (by unfold ratR; rw [if_neg hz])
    have hk2 : (k != 0) = true := by simpa using hz
    clear hz hk
    go_enter Try.func21, Try.ntmps21
    go_wp2_with fail
    refine (small_at HK.out _).mono ?_
    rintro e w1 ⟨rfl, hb1⟩
    have c0 := keep_cell hb1 (b := w.heap.size + 2) (o := 0) (v := .int .i64 0) (by simp [go_sem])
    have c1 := keep_cell hb1 (b := w.heap.size + 2) (o := 1) (v := .int .i64 0) (by simp [go_sem])
    have f0 := keep_fr hb1 (b := w.heap.size + 2) (o := 0) (v := .int .i64 0) (by simp [go_sem]) (by simp [go_sem])
    have f1 := keep_fr hb1 (b := w.heap.size + 2) (o := 1) (v := .int .i64 0) (by simp [go_sem]) (by simp [go_sem])
    have HB1 := Lib.hid (bl_trans (bl_alloc (bl_alloc (bl_alloc (Below.refl _ _) _) _) _) hb1)
    clear hb1
    go_wp2
    exact bodyPost_ret (v := .tuple #[.agg #[.int .i64 0, .int .i64 0], .int .i64 k]) (by simp [results, Try.results21, go_sem, c0, c1]) rfl ⟨by rw [HE.out], bl_set (bl_set HB1.out _ _ (Nat.le_add_right _ 2) _) _ _ (Nat.le_add_right _ 2) _⟩

set_option maxHeartbeats 1600000 in
theorem specMultiply_any (a b c d : Int) (w : World) :
    Calls Try.prog 19 #[.agg #[.int .i64 a, .int .i64 b], .agg #[.int .i64 c, .int .i64 d]] w fun e w' => e = .returned (.tuple #[.agg #[.int .i64 (ratR (twoR a b c d) (a * c) (b * d)).1.1, .int .i64 (ratR (twoR a b c d) (a * c) (b * d)).1.2], .int .i64 (ratR (twoR a b c d) (a * c) (b * d)).2]) ∧ Below w.heap.size w w' := by
  obtain ⟨k, hk⟩ : ∃ k, k = twoR a b c d := ⟨_, rfl⟩
  rw [← hk]
  have HK := Lib.hid hk
  by_cases hz : k = 0
  · subst hz
    have ⟨s1, s2, s3, s4, d1, d2⟩ := two_zero hk.symm
    clear hk
    have ⟨p0, q0⟩ := sm_mul s1 s3
    have ⟨p1, q1⟩ := sm_mul s2 s4
    have hD : 1 ≤ b * d := Int.mul_pos (a := b) (b := d) (by omega) (by omega)
    have HN : Hid (Wd (a * c)) := Lib.hid (Wd.of (by omega) (by omega))
    have HD : Hid (Wd (b * d)) := Lib.hid (Wd.of (by omega) (by omega))
    have H0 : Hid (¬ b * d = 0) := Lib.hid (by omega)
    clear s1 s2 s3 s4
    by_cases hq : QOk (rdN (a * c) (b * d)) (rdD (a * c) (b * d))
    · have HQ := Lib.hid hq
      have HE : Hid (ratR 0 (a * c) (b * d) = ((rdN (a * c) (b * d), rdD (a * c) (b * d)), 0)) := Lib.hid (by unfold ratR; rw [if_pos rfl, if_pos hq])
      clear hq
      go_enter Try.func19, Try.ntmps19
      go_wp2_with fail
      refine (two_at HK.out _).mono ?_
      rintro e w1 ⟨rfl, hb1⟩
      have a0 := keep_cell hb1 (b := w.heap.size) (o := 0) (v := .int .i64 a) (by simp [go_sem])
      have a1 := keep_cell hb1 (b := w.heap.size) (o := 1) (v := .int .i64 b) (by simp [go_sem])
      have b0 := keep_cell hb1 (b := w.heap.size + 1) (o := 0) (v := .int .i64 c) (by simp [go_sem])
      have b1 := keep_cell hb1 (b := w.heap.size + 1) (o := 1) (v := .int .i64 d) (by simp [go_sem])
      have c0 := keep_cell hb1 (b := w.heap.size + 2) (o := 0) (v := .int .i64 0) (by simp [go_sem])
      have c1 := keep_cell hb1 (b := w.heap.size + 2) (o := 1) (v := .int .i64 0) (by simp [go_sem])
      have f0 := keep_fr hb1 (b := w.heap.size + 2) (o := 0) (v := .int .i64 0) (by simp [go_sem]) (by simp [go_sem])
      have f1 := keep_fr hb1 (b := w.heap.size + 2) (o := 1) (v := .int .i64 0) (by simp [go_sem]) (by simp [go_sem])
      have HB1 := Lib.hid (bl_trans (bl_alloc (bl_alloc (bl_alloc (Below.refl _ _) _) _) _) hb1)
      clear hb1
      go_wp2_with fail
      refine (l05Make_yes _ _ HN.out HD.out H0.out HQ.out _).mono ?_
      rintro e w2 ⟨rfl, hb2⟩
      replace f0 := keep_fr hb2 c0 f0
      replace f1 := keep_fr hb2 c1 f1
      replace c0 := keep_cell hb2 c0
      replace c1 := keep_cell hb2 c1
      have HB2 := Lib.hid (bl_trans HB1.out hb2)
      clear hb2 HB1
      go_wp2
      exact bodyPost_ret (v := .tuple #[.agg #[.int .i64 (rdN (a * c) (b * d)), .int .i64 (rdD (a * c) (b * d))], .int .i64 0]) (by simp [results, Try.results19, go_sem, c0, c1]) rfl ⟨by rw [HE.out], bl_set (bl_set HB2.out _ _ (Nat.le_add_right _ 2) _) _ _ (Nat.le_add_right _ 2) _⟩
    · have HQ := Lib.hid hq
      have HE : Hid (ratR 0 (a * c) (b * d) = ((0, 0), 3)) := Lib.hid (by unfold ratR; rw [if_pos rfl, if_neg hq])
      clear hq
      go_enter Try.func19, Try.ntmps19
      go_wp2_with fail
      refine (two_at HK.out _).mono ?_
      rintro e w1 ⟨rfl, hb1⟩
      have a0 := keep_cell hb1 (b := w.heap.size) (o := 0) (v := .int .i64 a) (by simp [go_sem])
      have a1 := keep_cell hb1 (b := w.heap.size) (o := 1) (v := .int .i64 b) (by simp [go_sem])
      have b0 := keep_cell hb1 (b := w.heap.size + 1) (o := 0) (v := .int .i64 c) (by simp [go_sem])
      have b1 := keep_cell hb1 (b := w.heap.size + 1) (o := 1) (v := .int .i64 d) (by simp [go_sem])
      have c0 := keep_cell hb1 (b := w.heap.size + 2) (o := 0) (v := .int .i64 0) (by simp [go_sem])
      have c1 := keep_cell hb1 (b := w.heap.size + 2) (o := 1) (v := .int .i64 0) (by simp [go_sem])
      have f0 := keep_fr hb1 (b := w.heap.size + 2) (o := 0) (v := .int .i64 0) (by simp [go_sem]) (by simp [go_sem])
      have f1 := keep_fr hb1 (b := w.heap.size + 2) (o := 1) (v := .int .i64 0) (by simp [go_sem]) (by simp [go_sem])
      have HB1 := Lib.hid (bl_trans (bl_alloc (bl_alloc (bl_alloc (Below.refl _ _) _) _) _) hb1)
      clear hb1
      go_wp2_with fail
      refine (l05Make_no _ _ HN.out HD.out H0.out HQ.out _).mono ?_
      rintro e w2 ⟨rfl, hb2⟩
      replace f0 := keep_fr hb2 c0 f0
      replace f1 := keep_fr hb2 c1 f1
      replace c0 := keep_cell hb2 c0
      replace c1 := keep_cell hb2 c1
      have HB2 := Lib.hid (bl_trans HB1.out hb2)
      clear hb2 HB1
      go_wp2
      exact bodyPost_ret (v := .tuple #[.agg #[.int .i64 0, .int .i64 0], .int .i64 3]) (by simp [results, Try.results19, go_sem, c0, c1]) rfl ⟨by rw [HE.out], bl_set (bl_set HB2.out _ _ (Nat.le_add_right _ 2) _) _ _ (Nat.le_add_right _ 2) _⟩
  · have HE : Hid (ratR k (a * c) (b * d) = ((0, 0), k)) := Lib.hid (by unfold ratR; rw [if_neg hz])
    have hk2 : (k != 0) = true := by simpa using hz
    clear hz hk
    go_enter Try.func19, Try.ntmps19
    go_wp2_with fail
    refine (two_at HK.out _).mono ?_
    rintro e w1 ⟨rfl, hb1⟩
    have c0 := keep_cell hb1 (b := w.heap.size + 2) (o := 0) (v := .int .i64 0) (by simp [go_sem])
    have c1 := keep_cell hb1 (b := w.heap.size + 2) (o := 1) (v := .int .i64 0) (by simp [go_sem])
    have f0 := keep_fr hb1 (b := w.heap.size + 2) (o := 0) (v := .int .i64 0) (by simp [go_sem]) (by simp [go_sem])
    have f1 := keep_fr hb1 (b := w.heap.size + 2) (o := 1) (v := .int .i64 0) (by simp [go_sem]) (by simp [go_sem])
    have HB1 := Lib.hid (bl_trans (bl_alloc (bl_alloc (bl_alloc (Below.refl _ _) _) _) _) hb1)
    clear hb1
    go_wp2
    exact bodyPost_ret (v := .tuple #[.agg #[.int .i64 0, .int .i64 0], .int .i64 k]) (by simp [results, Try.results19, go_sem, c0, c1]) rfl ⟨by rw [HE.out], bl_set (bl_set HB1.out _ _ (Nat.le_add_right _ 2) _) _ _ (Nat.le_add_right _ 2) _⟩

set_option maxHeartbeats 1600000 in
theorem implMultiply_any (a b c d : Int) (w : World) :
    Calls Try.prog 18 #[.agg #[.int .i64 a, .int .i64 b], .agg #[.int .i64 c, .int .i64 d]] w fun e w' => e = .returned (.tuple #[.agg #[.int .i64 (ratR (twoR a b c d) (a * c) (b * d)).1.1, .int .i64 (ratR (twoR a b c d) (a * c) (b * d)).1.2], .int .i64 (ratR (twoR a b c d) (a * c) (b * d)).2]) ∧ Below w.heap.size w w' := by
  obtain ⟨k, hk⟩ : ∃ k, k = twoR a b c d := ⟨_, rfl⟩
  rw [← hk]
  have HK := Lib.hid hk
  by_cases hz : k = 0
  · subst hz
    have ⟨s1, s2, s3, s4, d1, d2⟩ := two_zero hk.symm
    clear hk
    have ⟨p0, q0⟩ := sm_mul s1 s3
    have ⟨p1, q1⟩ := sm_mul s2 s4
    have hD : 1 ≤ b * d := Int.mul_pos (a := b) (b := d) (by omega) (by omega)
    have HN : Hid (Wd (a * c)) := Lib.hid (Wd.of (by omega) (by omega))
    have HD : Hid (Wd (b * d)) := Lib.hid (Wd.of (by omega) (by omega))
    have H0 : Hid (¬ b * d = 0) := Lib.hid (by omega)
    clear s1 s2 s3 s4
    by_cases hq : QOk (rdN (a * c) (b * d)) (rdD (a * c) (b * d))
    · have HQ := Lib.hid hq
      have HE : Hid (ratR 0 (a * c) (b * d) = ((rdN (a * c) (b * d), rdD (a * c) (b * d)), 0)) := Lib.hid (by unfold ratR; rw [if_pos rfl, if_pos hq])
      clear hq
      go_enter Try.func18, Try.ntmps18
      go_wp2_with fail
      refine (small_at HK.out _).mono ?_
      rintro e w1 ⟨rfl, hb1⟩
      have a0 := keep_cell hb1 (b := w.heap.size) (o := 0) (v := .int .i64 a) (by simp [go_sem])
      have a1 := keep_cell hb1 (b := w.heap.size) (o := 1) (v := .int .i64 b) (by simp [go_sem])
      have b0 := keep_cell hb1 (b := w.heap.size + 1) (o := 0) (v := .int .i64 c) (by simp [go_sem])
      have b1 := keep_cell hb1 (b := w.heap.size + 1) (o := 1) (v := .int .i64 d) (by simp [go_sem])
      have c0 := keep_cell hb1 (b := w.heap.size + 2) (o := 0) (v := .int .i64 0) (by simp [go_sem])
      have c1 := keep_cell hb1 (b := w.heap.size + 2) (o := 1) (v := .int .i64 0) (by simp [go_sem])
      have f0 := keep_fr hb1 (b := w.heap.size + 2) (o := 0) (v := .int .i64 0) (by simp [go_sem]) (by simp [go_sem])
      have f1 := keep_fr hb1 (b := w.heap.size + 2) (o := 1) (v := .int .i64 0) (by simp [go_sem]) (by simp [go_sem])
      have HB1 := Lib.hid (bl_trans (bl_alloc (bl_alloc (bl_alloc (Below.refl _ _) _) _) _) hb1)
      clear hb1
      go_wp2_with fail
      refine (reduced_any _ _ HN.out HD.out H0.out _).mono ?_
      rintro e w2 ⟨rfl, hb2⟩
      replace f0 := keep_fr hb2 c0 f0
      replace f1 := keep_fr hb2 c1 f1
      replace c0 := keep_cell hb2 c0
      replace c1 := keep_cell hb2 c1
      have HB2 := Lib.hid (bl_trans HB1.out hb2)
      clear hb2 HB1
      go_wp2_with fail
      refine (orNoRational_yes _ _ HQ.out _).mono ?_
      rintro e w3 ⟨rfl, hb3⟩
      replace f0 := keep_fr hb3 c0 f0
      replace f1 := keep_fr hb3 c1 f1
      replace c0 := keep_cell hb3 c0
      replace c1 := keep_cell hb3 c1
      have HB3 := Lib.hid (bl_trans HB2.out hb3)
      clear hb3 HB2
      go_wp2
      exact bodyPost_ret (v := .tuple #[.agg #[.int .i64 (rdN (a * c) (b * d)), .int .i64 (rdD (a * c) (b * d))], .int .i64 0]) (by simp [results, Try.results18, go_sem, c0, c1]) rfl ⟨by rw [HE.out], bl_set (bl_set HB3.out _ _ (Nat.le_add_right _ 2) _) _ _ (Nat.le_add_right _ 2) _⟩
    · have HQ := Lib.hid hq
      have HE : Hid (ratR 0 (a * c) (b * d) = ((0, 0), 3)) := Lib.hid (by unfold ratR; rw [if_pos rfl, if_neg hq])
      clear hq
      go_enter Try.func18, Try.ntmps18
      go_wp2_with fail
      refine (small_at HK.out _).mono ?_
      rintro e w1 ⟨rfl, hb1⟩
      have a0 := keep_cell hb1 (b := w.heap.size) (o := 0) (v := .int .i64 a) (by simp [go_sem])
      have a1 := keep_cell hb1 (b := w.heap.size) (o := 1) (v := .int .i64 b) (by simp [go_sem])
      have b0 := keep_cell hb1 (b := w.heap.size + 1) (o := 0) (v := .int .i64 c) (by simp [go_sem])
      have b1 := keep_cell hb1 (b := w.heap.size + 1) (o := 1) (v := .int .i64 d) (by simp [go_sem])
      have c0 := keep_cell hb1 (b := w.heap.size + 2) (o := 0) (v := .int .i64 0) (by simp [go_sem])
      have c1 := keep_cell hb1 (b := w.heap.size + 2) (o := 1) (v := .int .i64 0) (by simp [go_sem])
      have f0 := keep_fr hb1 (b := w.heap.size + 2) (o := 0) (v := .int .i64 0) (by simp [go_sem]) (by simp [go_sem])
      have f1 := keep_fr hb1 (b := w.heap.size + 2) (o := 1) (v := .int .i64 0) (by simp [go_sem]) (by simp [go_sem])
      have HB1 := Lib.hid (bl_trans (bl_alloc (bl_alloc (bl_alloc (Below.refl _ _) _) _) _) hb1)
      clear hb1
      go_wp2_with fail
      refine (reduced_any _ _ HN.out HD.out H0.out _).mono ?_
      rintro e w2 ⟨rfl, hb2⟩
      replace f0 := keep_fr hb2 c0 f0
      replace f1 := keep_fr hb2 c1 f1
      replace c0 := keep_cell hb2 c0
      replace c1 := keep_cell hb2 c1
      have HB2 := Lib.hid (bl_trans HB1.out hb2)
      clear hb2 HB1
      go_wp2_with fail
      refine (orNoRational_no _ _ HQ.out _).mono ?_
      rintro e w3 ⟨rfl, hb3⟩
      replace f0 := keep_fr hb3 c0 f0
      replace f1 := keep_fr hb3 c1 f1
      replace c0 := keep_cell hb3 c0
      replace c1 := keep_cell hb3 c1
      have HB3 := Lib.hid (bl_trans HB2.out hb3)
      clear hb3 HB2
      go_wp2
      exact bodyPost_ret (v := .tuple #[.agg #[.int .i64 0, .int .i64 0], .int .i64 3]) (by simp [results, Try.results18, go_sem, c0, c1]) rfl ⟨by rw [HE.out], bl_set (bl_set HB3.out _ _ (Nat.le_add_right _ 2) _) _ _ (Nat.le_add_right _ 2) _⟩
  · have HE : Hid (ratR k (a * c) (b * d) = ((0, 0), k)) := Lib.hid (by unfold ratR; rw [if_neg hz])
    have hk2 : (k != 0) = true := by simpa using hz
    clear hz hk
    go_enter Try.func18, Try.ntmps18
    go_wp2_with fail
    refine (small_at HK.out _).mono ?_
    rintro e w1 ⟨rfl, hb1⟩
    have c0 := keep_cell hb1 (b := w.heap.size + 2) (o := 0) (v := .int .i64 0) (by simp [go_sem])
    have c1 := keep_cell hb1 (b := w.heap.size + 2) (o := 1) (v := .int .i64 0) (by simp [go_sem])
    have f0 := keep_fr hb1 (b := w.heap.size + 2) (o := 0) (v := .int .i64 0) (by simp [go_sem]) (by simp [go_sem])
    have f1 := keep_fr hb1 (b := w.heap.size + 2) (o := 1) (v := .int .i64 0) (by simp [go_sem]) (by simp [go_sem])
    have HB1 := Lib.hid (bl_trans (bl_alloc (bl_alloc (bl_alloc (Below.refl _ _) _) _) _) hb1)
    clear hb1
    go_wp2
    exact bodyPost_ret (v := .tuple #[.agg #[.int .i64 0, .int .i64 0], .int .i64 k]) (by simp [results, Try.results18, go_sem, c0, c1]) rfl ⟨by rw [HE.out], bl_set (bl_set HB1.out _ _ (Nat.le_add_right _ 2) _) _ _ (Nat.le_add_right _ 2) _⟩

end Go.Proofs.Ythdmanngjnfamaa