
/- The walks of sums and products of rational numbers. -/
import Derived.Test.YthdmanngjnfamaaRatEq
import Derived.Test.YthdmanngjnfamaaRatMake
namespace Go.Proofs.Ythdmanngjnfamaa
open Go.RowKit

/-- a small number -/
def Sm (x : Int) : Prop := -1000000 ≤ x ∧ x ≤ 1000000
theorem Sm_dec {x : Int} (h : ¬ Sm x) : (decide (-1000000 ≤ x) && decide (x ≤ 1000000)) = false := by
  unfold Sm at h
  simp only [Bool.and_eq_false_iff, decide_eq_false_iff_not]; omega
instance (x : Int) : Decidable (Sm x) := by unfold Sm; infer_instance
instance (n d : Int) : Decidable (QOk n d) := by unfold QOk V; infer_instance
/-- the code of two rational numbers -/
def twoR (a b c d : Int) : Int := if QOk a b ∧ QOk c d then (if Sm a ∧ Sm b ∧ Sm c ∧ Sm d then 0 else 2) else 1

set_option maxHeartbeats 1600000 in
theorem specTwo_any (a b c d : Int) (w : World) :
    Calls Try.prog 78 #[.agg #[.int .i64 a, .int .i64 b], .agg #[.int .i64 c, .int .i64 d]] w fun e w' => e = .returned (.int .i64 (twoR a b c d)) ∧ Below w.heap.size w w' := by
  by_cases hq : QOk a b
  · by_cases hp : QOk c d
    · have HQ := Lib.hid hq
      have HP := Lib.hid hp
      have d1 := hq.2.1
      have d2 := hp.2.1
      by_cases s_a : Sm a
      · by_cases s_c : Sm c
        · by_cases s_b : Sm b
          · by_cases s_d : Sm d
            · have HE : Hid (twoR a b c d = 0) := Lib.hid (by unfold twoR; rw [if_pos ⟨hq, hp⟩, if_pos ⟨s_a, s_b, s_c, s_d⟩])
              obtain ⟨s1_a, s2_a⟩ := s_a
              obtain ⟨s1_c, s2_c⟩ := s_c
              obtain ⟨s1_b, s2_b⟩ := s_b
              obtain ⟨s1_d, s2_d⟩ := s_d
              clear hq hp
              go_enter Try.func78, Try.ntmps78
              go_wp2_with fail
              refine (specIsRational_yes _ _ HQ.out _).mono ?_
              rintro e w1 ⟨rfl, hb1⟩
              have a0 := keep_cell hb1 (b := w.heap.size) (o := 0) (v := .int .i64 a) (by simp [go_sem]); have a1 := keep_cell hb1 (b := w.heap.size) (o := 1) (v := .int .i64 b) (by simp [go_sem]); have b0 := keep_cell hb1 (b := w.heap.size + 1) (o := 0) (v := .int .i64 c) (by simp [go_sem]); have b1 := keep_cell hb1 (b := w.heap.size + 1) (o := 1) (v := .int .i64 d) (by simp [go_sem]); have HB1 := Lib.hid (bl_trans (bl_alloc (bl_alloc (Below.refl _ _) _) _) hb1)
              go_wp2_with fail
              refine (specIsRational_yes _ _ HP.out _).mono ?_
              rintro e w2 ⟨rfl, hb2⟩
              have a2 := keep_cell hb2 a0; have a3 := keep_cell hb2 a1; have b2 := keep_cell hb2 b0; have b3 := keep_cell hb2 b1; have HB2 := Lib.hid (bl_trans HB1.out hb2); clear a0 a1 b0 b1 hb1 hb2 HB1
              go_wp2_with (first | (go_at_call 94; refine (l01In_any _ _ _ _).mono ?_; rintro e w' ⟨rfl, rfl⟩))
              go_ret
              exact ⟨by rw [HE.out]; rfl, HB2.out⟩
            · have HE : Hid (twoR a b c d = 2) := Lib.hid (by unfold twoR; rw [if_pos ⟨hq, hp⟩, if_neg (fun h => s_d h.2.2.2)])
              obtain ⟨s1_a, s2_a⟩ := s_a
              obtain ⟨s1_c, s2_c⟩ := s_c
              obtain ⟨s1_b, s2_b⟩ := s_b
              have g_d : 1000000 < d := by unfold Sm at s_d; omega
              clear s_d
              clear hq hp
              go_enter Try.func78, Try.ntmps78
              go_wp2_with fail
              refine (specIsRational_yes _ _ HQ.out _).mono ?_
              rintro e w1 ⟨rfl, hb1⟩
              have a0 := keep_cell hb1 (b := w.heap.size) (o := 0) (v := .int .i64 a) (by simp [go_sem]); have a1 := keep_cell hb1 (b := w.heap.size) (o := 1) (v := .int .i64 b) (by simp [go_sem]); have b0 := keep_cell hb1 (b := w.heap.size + 1) (o := 0) (v := .int .i64 c) (by simp [go_sem]); have b1 := keep_cell hb1 (b := w.heap.size + 1) (o := 1) (v := .int .i64 d) (by simp [go_sem]); have HB1 := Lib.hid (bl_trans (bl_alloc (bl_alloc (Below.refl _ _) _) _) hb1)
              go_wp2_with fail
              refine (specIsRational_yes _ _ HP.out _).mono ?_
              rintro e w2 ⟨rfl, hb2⟩
              have a2 := keep_cell hb2 a0; have a3 := keep_cell hb2 a1; have b2 := keep_cell hb2 b0; have b3 := keep_cell hb2 b1; have HB2 := Lib.hid (bl_trans HB1.out hb2); clear a0 a1 b0 b1 hb1 hb2 HB1
              go_wp2_with (first | (go_at_call 94; refine (l01In_any _ _ _ _).mono ?_; rintro e w' ⟨rfl, rfl⟩))
              go_ret
              exact ⟨by rw [HE.out]; rfl, HB2.out⟩
          · have HE : Hid (twoR a b c d = 2) := Lib.hid (by unfold twoR; rw [if_pos ⟨hq, hp⟩, if_neg (fun h => s_b h.2.1)])
            obtain ⟨s1_a, s2_a⟩ := s_a
            obtain ⟨s1_c, s2_c⟩ := s_c
            have g_b : 1000000 < b := by unfold Sm at s_b; omega
            clear s_b
            clear hq hp
            go_enter Try.func78, Try.ntmps78
            go_wp2_with fail
            refine (specIsRational_yes _ _ HQ.out _).mono ?_
            rintro e w1 ⟨rfl, hb1⟩
            have a0 := keep_cell hb1 (b := w.heap.size) (o := 0) (v := .int .i64 a) (by simp [go_sem]); have a1 := keep_cell hb1 (b := w.heap.size) (o := 1) (v := .int .i64 b) (by simp [go_sem]); have b0 := keep_cell hb1 (b := w.heap.size + 1) (o := 0) (v := .int .i64 c) (by simp [go_sem]); have b1 := keep_cell hb1 (b := w.heap.size + 1) (o := 1) (v := .int .i64 d) (by simp [go_sem]); have HB1 := Lib.hid (bl_trans (bl_alloc (bl_alloc (Below.refl _ _) _) _) hb1)
            go_wp2_with fail
            refine (specIsRational_yes _ _ HP.out _).mono ?_
            rintro e w2 ⟨rfl, hb2⟩
            have a2 := keep_cell hb2 a0; have a3 := keep_cell hb2 a1; have b2 := keep_cell hb2 b0; have b3 := keep_cell hb2 b1; have HB2 := Lib.hid (bl_trans HB1.out hb2); clear a0 a1 b0 b1 hb1 hb2 HB1
            go_wp2_with (first | (go_at_call 94; refine (l01In_any _ _ _ _).mono ?_; rintro e w' ⟨rfl, rfl⟩))
            go_ret
            exact ⟨by rw [HE.out]; rfl, HB2.out⟩
        · have HE : Hid (twoR a b c d = 2) := Lib.hid (by unfold twoR; rw [if_pos ⟨hq, hp⟩, if_neg (fun h => s_c h.2.2.1)])
          obtain ⟨s1_a, s2_a⟩ := s_a
          have g_c := Sm_dec s_c
          clear s_c
          clear hq hp
          go_enter Try.func78, Try.ntmps78
          go_wp2_with fail
          refine (specIsRational_yes _ _ HQ.out _).mono ?_
          rintro e w1 ⟨rfl, hb1⟩
          have a0 := keep_cell hb1 (b := w.heap.size) (o := 0) (v := .int .i64 a) (by simp [go_sem]); have a1 := keep_cell hb1 (b := w.heap.size) (o := 1) (v := .int .i64 b) (by simp [go_sem]); have b0 := keep_cell hb1 (b := w.heap.size + 1) (o := 0) (v := .int .i64 c) (by simp [go_sem]); have b1 := keep_cell hb1 (b := w.heap.size + 1) (o := 1) (v := .int .i64 d) (by simp [go_sem]); have HB1 := Lib.hid (bl_trans (bl_alloc (bl_alloc (Below.refl _ _) _) _) hb1)
          go_wp2_with fail
          refine (specIsRational_yes _ _ HP.out _).mono ?_
          rintro e w2 ⟨rfl, hb2⟩
          have a2 := keep_cell hb2 a0; have a3 := keep_cell hb2 a1; have b2 := keep_cell hb2 b0; have b3 := keep_cell hb2 b1; have HB2 := Lib.hid (bl_trans HB1.out hb2); clear a0 a1 b0 b1 hb1 hb2 HB1
          go_wp2_with (first | (go_at_call 94; refine (l01In_any _ _ _ _).mono ?_; rintro e w' ⟨rfl, rfl⟩))
          go_ret
          exact ⟨by rw [HE.out]; rfl, HB2.out⟩
      · have HE : Hid (twoR a b c d = 2) := Lib.hid (by unfold twoR; rw [if_pos ⟨hq, hp⟩, if_neg (fun h => s_a h.1)])
        have g_a := Sm_dec s_a
        clear s_a
        clear hq hp
        go_enter Try.func78, Try.ntmps78
        go_wp2_with fail
        refine (specIsRational_yes _ _ HQ.out _).mono ?_
        rintro e w1 ⟨rfl, hb1⟩
        have a0 := keep_cell hb1 (b := w.heap.size) (o := 0) (v := .int .i64 a) (by simp [go_sem]); have a1 := keep_cell hb1 (b := w.heap.size) (o := 1) (v := .int .i64 b) (by simp [go_sem]); have b0 := keep_cell hb1 (b := w.heap.size + 1) (o := 0) (v := .int .i64 c) (by simp [go_sem]); have b1 := keep_cell hb1 (b := w.heap.size + 1) (o := 1) (v := .int .i64 d) (by simp [go_sem]); have HB1 := Lib.hid (bl_trans (bl_alloc (bl_alloc (Below.refl _ _) _) _) hb1)
        go_wp2_with fail
        refine (specIsRational_yes _ _ HP.out _).mono ?_
        rintro e w2 ⟨rfl, hb2⟩
        have a2 := keep_cell hb2 a0; have a3 := keep_cell hb2 a1; have b2 := keep_cell hb2 b0; have b3 := keep_cell hb2 b1; have HB2 := Lib.hid (bl_trans HB1.out hb2); clear a0 a1 b0 b1 hb1 hb2 HB1
        go_wp2_with (first | (go_at_call 94; refine (l01In_any _ _ _ _).mono ?_; rintro e w' ⟨rfl, rfl⟩))
        go_ret
        exact ⟨by rw [HE.out]; rfl, HB2.out⟩
    · have HE : Hid (twoR a b c d = 1) := Lib.hid (by unfold twoR; rw [if_neg (fun h => hp h.2)])
      have HQ := Lib.hid hq
      have HP := Lib.hid hp
      clear hq hp
      go_enter Try.func78, Try.ntmps78
      go_wp2_with fail
      refine (specIsRational_yes _ _ HQ.out _).mono ?_
      rintro e w1 ⟨rfl, hb1⟩
      have a0 := keep_cell hb1 (b := w.heap.size) (o := 0) (v := .int .i64 a) (by simp [go_sem]); have a1 := keep_cell hb1 (b := w.heap.size) (o := 1) (v := .int .i64 b) (by simp [go_sem]); have b0 := keep_cell hb1 (b := w.heap.size + 1) (o := 0) (v := .int .i64 c) (by simp [go_sem]); have b1 := keep_cell hb1 (b := w.heap.size + 1) (o := 1) (v := .int .i64 d) (by simp [go_sem]); have HB1 := Lib.hid (bl_trans (bl_alloc (bl_alloc (Below.refl _ _) _) _) hb1)
      go_wp2_with fail
      refine (specIsRational_no _ _ HP.out _).mono ?_
      rintro e w2 ⟨rfl, hb2⟩
      have a2 := keep_cell hb2 a0; have a3 := keep_cell hb2 a1; have b2 := keep_cell hb2 b0; have b3 := keep_cell hb2 b1; have HB2 := Lib.hid (bl_trans HB1.out hb2); clear a0 a1 b0 b1 hb1 hb2 HB1
      go_wp2
      go_ret
      exact ⟨by rw [HE.out]; rfl, HB2.out⟩
  · have HE : Hid (twoR a b c d = 1) := Lib.hid (by unfold twoR; rw [if_neg (fun h => hq h.1)])
    have HQ := Lib.hid hq
    clear hq
    go_enter Try.func78, Try.ntmps78
    go_wp2_with fail
    refine (specIsRational_no _ _ HQ.out _).mono ?_
    rintro e w1 ⟨rfl, hb1⟩
    have a0 := keep_cell hb1 (b := w.heap.size) (o := 0) (v := .int .i64 a) (by simp [go_sem]); have a1 := keep_cell hb1 (b := w.heap.size) (o := 1) (v := .int .i64 b) (by simp [go_sem]); have b0 := keep_cell hb1 (b := w.heap.size + 1) (o := 0) (v := .int .i64 c) (by simp [go_sem]); have b1 := keep_cell hb1 (b := w.heap.size + 1) (o := 1) (v := .int .i64 d) (by simp [go_sem]); have HB1 := Lib.hid (bl_trans (bl_alloc (bl_alloc (Below.refl _ _) _) _) hb1)
    go_wp2
    go_ret
    exact ⟨by rw [HE.out]; rfl, HB1.out⟩

set_option maxHeartbeats 1600000 in
theorem implTwo_any (a b c d : Int) (w : World) :
    Calls Try.prog 75 #[.agg #[.int .i64 a, .int .i64 b], .agg #[.int .i64 c, .int .i64 d]] w fun e w' => e = .returned (.int .i64 (twoR a b c d)) ∧ Below w.heap.size w w' := by
  by_cases hq : QOk a b
  · by_cases hp : QOk c d
    · have HQ := Lib.hid hq
      have HP := Lib.hid hp
      have d1 := hq.2.1
      have d2 := hp.2.1
      by_cases s_a : Sm a
      · by_cases s_b : Sm b
        · by_cases s_c : Sm c
          · by_cases s_d : Sm d
            · have HE : Hid (twoR a b c d = 0) := Lib.hid (by unfold twoR; rw [if_pos ⟨hq, hp⟩, if_pos ⟨s_a, s_b, s_c, s_d⟩])
              obtain ⟨s1_a, s2_a⟩ := s_a
              obtain ⟨s1_b, s2_b⟩ := s_b
              obtain ⟨s1_c, s2_c⟩ := s_c
              obtain ⟨s1_d, s2_d⟩ := s_d
              clear hq hp
              go_enter Try.func75, Try.ntmps75
              go_wp2_with fail
              refine (implIsRational_yes _ _ HQ.out _).mono ?_
              rintro e w1 ⟨rfl, hb1⟩
              have a0 := keep_cell hb1 (b := w.heap.size) (o := 0) (v := .int .i64 a) (by simp [go_sem]); have a1 := keep_cell hb1 (b := w.heap.size) (o := 1) (v := .int .i64 b) (by simp [go_sem]); have b0 := keep_cell hb1 (b := w.heap.size + 1) (o := 0) (v := .int .i64 c) (by simp [go_sem]); have b1 := keep_cell hb1 (b := w.heap.size + 1) (o := 1) (v := .int .i64 d) (by simp [go_sem]); have HB1 := Lib.hid (bl_trans (bl_alloc (bl_alloc (Below.refl _ _) _) _) hb1)
              go_wp2_with fail
              refine (implIsRational_yes _ _ HP.out _).mono ?_
              rintro e w2 ⟨rfl, hb2⟩
              have a2 := keep_cell hb2 a0; have a3 := keep_cell hb2 a1; have b2 := keep_cell hb2 b0; have b3 := keep_cell hb2 b1; have HB2 := Lib.hid (bl_trans HB1.out hb2); clear a0 a1 b0 b1 hb1 hb2 HB1
              go_wp2
              refine wp_loop_rounds 5 ?_
              rw [rounds_succ]
              go_wp2_with (first | (go_at_call 92; refine (within_any _ _ _ _).mono ?_; rintro e w' ⟨rfl, rfl⟩))
              rw [rounds_succ]
              go_wp2_with (first | (go_at_call 92; refine (within_any _ _ _ _).mono ?_; rintro e w' ⟨rfl, rfl⟩))
              rw [rounds_succ]
              go_wp2_with (first | (go_at_call 92; refine (within_any _ _ _ _).mono ?_; rintro e w' ⟨rfl, rfl⟩))
              rw [rounds_succ]
              go_wp2_with (first | (go_at_call 92; refine (within_any _ _ _ _).mono ?_; rintro e w' ⟨rfl, rfl⟩))
              rw [rounds_succ]
              go_wp2_with (first | (go_at_call 92; refine (within_any _ _ _ _).mono ?_; rintro e w' ⟨rfl, rfl⟩))

              go_ret
              exact ⟨by rw [HE.out]; rfl, bl_alloc HB2.out _⟩
            · have HE : Hid (twoR a b c d = 2) := Lib.hid (by unfold twoR; rw [if_pos ⟨hq, hp⟩, if_neg (fun h => s_d h.2.2.2)])
              obtain ⟨s1_a, s2_a⟩ := s_a
              obtain ⟨s1_b, s2_b⟩ := s_b
              obtain ⟨s1_c, s2_c⟩ := s_c
              have g_d := Sm_dec s_d
              clear s_d
              clear hq hp
              go_enter Try.func75, Try.ntmps75
              go_wp2_with fail
              refine (implIsRational_yes _ _ HQ.out _).mono ?_
              rintro e w1 ⟨rfl, hb1⟩
              have a0 := keep_cell hb1 (b := w.heap.size) (o := 0) (v := .int .i64 a) (by simp [go_sem]); have a1 := keep_cell hb1 (b := w.heap.size) (o := 1) (v := .int .i64 b) (by simp [go_sem]); have b0 := keep_cell hb1 (b := w.heap.size + 1) (o := 0) (v := .int .i64 c) (by simp [go_sem]); have b1 := keep_cell hb1 (b := w.heap.size + 1) (o := 1) (v := .int .i64 d) (by simp [go_sem]); have HB1 := Lib.hid (bl_trans (bl_alloc (bl_alloc (Below.refl _ _) _) _) hb1)
              go_wp2_with fail
              refine (implIsRational_yes _ _ HP.out _).mono ?_
              rintro e w2 ⟨rfl, hb2⟩
              have a2 := keep_cell hb2 a0; have a3 := keep_cell hb2 a1; have b2 := keep_cell hb2 b0; have b3 := keep_cell hb2 b1; have HB2 := Lib.hid (bl_trans HB1.out hb2); clear a0 a1 b0 b1 hb1 hb2 HB1
              go_wp2
              refine wp_loop_rounds 4 ?_
              rw [rounds_succ]
              go_wp2_with (first | (go_at_call 92; refine (within_any _ _ _ _).mono ?_; rintro e w' ⟨rfl, rfl⟩))
              rw [rounds_succ]
              go_wp2_with (first | (go_at_call 92; refine (within_any _ _ _ _).mono ?_; rintro e w' ⟨rfl, rfl⟩))
              rw [rounds_succ]
              go_wp2_with (first | (go_at_call 92; refine (within_any _ _ _ _).mono ?_; rintro e w' ⟨rfl, rfl⟩))
              rw [rounds_succ]
              go_wp2_with (first | (go_at_call 92; refine (within_any _ _ _ _).mono ?_; rintro e w' ⟨rfl, rfl⟩))

              go_ret
              exact ⟨by rw [HE.out]; rfl, bl_alloc HB2.out _⟩
          · have HE : Hid (twoR a b c d = 2) := Lib.hid (by unfold twoR; rw [if_pos ⟨hq, hp⟩, if_neg (fun h => s_c h.2.2.1)])
            obtain ⟨s1_a, s2_a⟩ := s_a
            obtain ⟨s1_b, s2_b⟩ := s_b
            have g_c := Sm_dec s_c
            clear s_c
            clear hq hp
            go_enter Try.func75, Try.ntmps75
            go_wp2_with fail
            refine (implIsRational_yes _ _ HQ.out _).mono ?_
            rintro e w1 ⟨rfl, hb1⟩
            have a0 := keep_cell hb1 (b := w.heap.size) (o := 0) (v := .int .i64 a) (by simp [go_sem]); have a1 := keep_cell hb1 (b := w.heap.size) (o := 1) (v := .int .i64 b) (by simp [go_sem]); have b0 := keep_cell hb1 (b := w.heap.size + 1) (o := 0) (v := .int .i64 c) (by simp [go_sem]); have b1 := keep_cell hb1 (b := w.heap.size + 1) (o := 1) (v := .int .i64 d) (by simp [go_sem]); have HB1 := Lib.hid (bl_trans (bl_alloc (bl_alloc (Below.refl _ _) _) _) hb1)
            go_wp2_with fail
            refine (implIsRational_yes _ _ HP.out _).mono ?_
            rintro e w2 ⟨rfl, hb2⟩
            have a2 := keep_cell hb2 a0; have a3 := keep_cell hb2 a1; have b2 := keep_cell hb2 b0; have b3 := keep_cell hb2 b1; have HB2 := Lib.hid (bl_trans HB1.out hb2); clear a0 a1 b0 b1 hb1 hb2 HB1
            go_wp2
            refine wp_loop_rounds 3 ?_
            rw [rounds_succ]
            go_wp2_with (first | (go_at_call 92; refine (within_any _ _ _ _).mono ?_; rintro e w' ⟨rfl, rfl⟩))
            rw [rounds_succ]
            go_wp2_with (first | (go_at_call 92; refine (within_any _ _ _ _).mono ?_; rintro e w' ⟨rfl, rfl⟩))
            rw [rounds_succ]
            go_wp2_with (first | (go_at_call 92; refine (within_any _ _ _ _).mono ?_; rintro e w' ⟨rfl, rfl⟩))

            go_ret
            exact ⟨by rw [HE.out]; rfl, bl_alloc HB2.out _⟩
        · have HE : Hid (twoR a b c d = 2) := Lib.hid (by unfold twoR; rw [if_pos ⟨hq, hp⟩, if_neg (fun h => s_b h.2.1)])
          obtain ⟨s1_a, s2_a⟩ := s_a
          have g_b := Sm_dec s_b
          clear s_b
          clear hq hp
          go_enter Try.func75, Try.ntmps75
          go_wp2_with fail
          refine (implIsRational_yes _ _ HQ.out _).mono ?_
          rintro e w1 ⟨rfl, hb1⟩
          have a0 := keep_cell hb1 (b := w.heap.size) (o := 0) (v := .int .i64 a) (by simp [go_sem]); have a1 := keep_cell hb1 (b := w.heap.size) (o := 1) (v := .int .i64 b) (by simp [go_sem]); have b0 := keep_cell hb1 (b := w.heap.size + 1) (o := 0) (v := .int .i64 c) (by simp [go_sem]); have b1 := keep_cell hb1 (b := w.heap.size + 1) (o := 1) (v := .int .i64 d) (by simp [go_sem]); have HB1 := Lib.hid (bl_trans (bl_alloc (bl_alloc (Below.refl _ _) _) _) hb1)
          go_wp2_with fail
          refine (implIsRational_yes _ _ HP.out _).mono ?_
          rintro e w2 ⟨rfl, hb2⟩
          have a2 := keep_cell hb2 a0; have a3 := keep_cell hb2 a1; have b2 := keep_cell hb2 b0; have b3 := keep_cell hb2 b1; have HB2 := Lib.hid (bl_trans HB1.out hb2); clear a0 a1 b0 b1 hb1 hb2 HB1
          go_wp2
          refine wp_loop_rounds 2 ?_
          rw [rounds_succ]
          go_wp2_with (first | (go_at_call 92; refine (within_any _ _ _ _).mono ?_; rintro e w' ⟨rfl, rfl⟩))
          rw [rounds_succ]
          go_wp2_with (first | (go_at_call 92; refine (within_any _ _ _ _).mono ?_; rintro e w' ⟨rfl, rfl⟩))

          go_ret
          exact ⟨by rw [HE.out]; rfl, bl_alloc HB2.out _⟩
      · have HE : Hid (twoR a b c d = 2) := Lib.hid (by unfold twoR; rw [if_pos ⟨hq, hp⟩, if_neg (fun h => s_a h.1)])
        have g_a := Sm_dec s_a
        clear s_a
        clear hq hp
        go_enter Try.func75, Try.ntmps75
        go_wp2_with fail
        refine (implIsRational_yes _ _ HQ.out _).mono ?_
        rintro e w1 ⟨rfl, hb1⟩
        have a0 := keep_cell hb1 (b := w.heap.size) (o := 0) (v := .int .i64 a) (by simp [go_sem]); have a1 := keep_cell hb1 (b := w.heap.size) (o := 1) (v := .int .i64 b) (by simp [go_sem]); have b0 := keep_cell hb1 (b := w.heap.size + 1) (o := 0) (v := .int .i64 c) (by simp [go_sem]); have b1 := keep_cell hb1 (b := w.heap.size + 1) (o := 1) (v := .int .i64 d) (by simp [go_sem]); have HB1 := Lib.hid (bl_trans (bl_alloc (bl_alloc (Below.refl _ _) _) _) hb1)
        go_wp2_with fail
        refine (implIsRational_yes _ _ HP.out _).mono ?_
        rintro e w2 ⟨rfl, hb2⟩
        have a2 := keep_cell hb2 a0; have a3 := keep_cell hb2 a1; have b2 := keep_cell hb2 b0; have b3 := keep_cell hb2 b1; have HB2 := Lib.hid (bl_trans HB1.out hb2); clear a0 a1 b0 b1 hb1 hb2 HB1
        go_wp2
        refine wp_loop_rounds 1 ?_
        rw [rounds_succ]
        go_wp2_with (first | (go_at_call 92; refine (within_any _ _ _ _).mono ?_; rintro e w' ⟨rfl, rfl⟩))

        go_ret
        exact ⟨by rw [HE.out]; rfl, bl_alloc HB2.out _⟩
    · have HE : Hid (twoR a b c d = 1) := Lib.hid (by unfold twoR; rw [if_neg (fun h => hp h.2)])
      have HQ := Lib.hid hq
      have HP := Lib.hid hp
      clear hq hp
      go_enter Try.func75, Try.ntmps75
      go_wp2_with fail
      refine (implIsRational_yes _ _ HQ.out _).mono ?_
      rintro e w1 ⟨rfl, hb1⟩
      have a0 := keep_cell hb1 (b := w.heap.size) (o := 0) (v := .int .i64 a) (by simp [go_sem]); have a1 := keep_cell hb1 (b := w.heap.size) (o := 1) (v := .int .i64 b) (by simp [go_sem]); have b0 := keep_cell hb1 (b := w.heap.size + 1) (o := 0) (v := .int .i64 c) (by simp [go_sem]); have b1 := keep_cell hb1 (b := w.heap.size + 1) (o := 1) (v := .int .i64 d) (by simp [go_sem]); have HB1 := Lib.hid (bl_trans (bl_alloc (bl_alloc (Below.refl _ _) _) _) hb1)
      go_wp2_with fail
      refine (implIsRational_no _ _ HP.out _).mono ?_
      rintro e w2 ⟨rfl, hb2⟩
      have a2 := keep_cell hb2 a0; have a3 := keep_cell hb2 a1; have b2 := keep_cell hb2 b0; have b3 := keep_cell hb2 b1; have HB2 := Lib.hid (bl_trans HB1.out hb2); clear a0 a1 b0 b1 hb1 hb2 HB1
      go_wp2
      go_ret
      exact ⟨by rw [HE.out]; rfl, HB2.out⟩
  · have HE : Hid (twoR a b c d = 1) := Lib.hid (by unfold twoR; rw [if_neg (fun h => hq h.1)])
    have HQ := Lib.hid hq
    clear hq
    go_enter Try.func75, Try.ntmps75
    go_wp2_with fail
    refine (implIsRational_no _ _ HQ.out _).mono ?_
    rintro e w1 ⟨rfl, hb1⟩
    have a0 := keep_cell hb1 (b := w.heap.size) (o := 0) (v := .int .i64 a) (by simp [go_sem]); have a1 := keep_cell hb1 (b := w.heap.size) (o := 1) (v := .int .i64 b) (by simp [go_sem]); have b0 := keep_cell hb1 (b := w.heap.size + 1) (o := 0) (v := .int .i64 c) (by simp [go_sem]); have b1 := keep_cell hb1 (b := w.heap.size + 1) (o := 1) (v := .int .i64 d) (by simp [go_sem]); have HB1 := Lib.hid (bl_trans (bl_alloc (bl_alloc (Below.refl _ _) _) _) hb1)
    go_wp2
    go_ret
    exact ⟨by rw [HE.out]; rfl, HB1.out⟩

end Go.Proofs.Ythdmanngjnfamaa