/- The walks of IsRing, and the law's. -/
import Derived.Test.YtdkeonjckkjdhaaGcd
namespace Go.Proofs.Ytdkeonjckkjdhaa
open Go.RowKit

theorem pow_pos' {p : Int} (hp : 1 ≤ p) (k : Nat) : 1 ≤ p ^ k := by
  induction k with
  | zero => simp
  | succ k ih =>
    rw [Int.pow_succ]
    have : 1 * 1 ≤ p ^ k * p := Int.mul_le_mul ih hp (by omega) (by omega)
    omega
theorem pow_mono {p : Int} (hp : 1 ≤ p) {j k : Nat} (h : j ≤ k) : p ^ j ≤ p ^ k := by
  induction k with
  | zero => have : j = 0 := by omega
            subst this; exact Int.le_refl _
  | succ k ih =>
    by_cases e : j = k + 1
    · subst e; exact Int.le_refl _
    · have h1 := ih (by omega)
      have h2 := pow_pos' hp k
      rw [Int.pow_succ]
      have : p ^ k * 1 ≤ p ^ k * p := Int.mul_le_mul_of_nonneg_left hp (by omega)
      omega
theorem pow_base {p : Int} (hp : 2 ≤ p) (k : Nat) : (2 : Int) ^ k ≤ p ^ k := by
  induction k with
  | zero => simp
  | succ k ih =>
    rw [Int.pow_succ, Int.pow_succ]
    exact Int.mul_le_mul ih hp (by omega) (by have := pow_pos' (p := p) (by omega) k; omega)
theorem pow_40 {p : Int} (hp : 2 ≤ p) : ¬ p ^ 40 ≤ 1000000000 := by
  have := pow_base hp 40
  have e : (2 : Int) ^ 40 = 1099511627776 := by decide
  omega

/-- the ring's rule: p a prime up to 97, n at least 1, p to the n at most 1000000000 -/
def RingOk (p n : Int) : Prop := SP p ∧ 1 ≤ n ∧ n ≤ 40 ∧ p ^ n.toNat ≤ 1000000000
theorem ringOk_iff {p n : Int} (h : SP p) (h1 : 1 ≤ n) : RingOk p n ↔ p ^ (min n 40).toNat ≤ 1000000000 := by
  have hp := h.2.1
  constructor
  · rintro ⟨_, _, h2, h3⟩
    rw [show min n 40 = n by omega]; exact h3
  · intro h3
    by_cases h2 : n ≤ 40
    · rw [show min n 40 = n by omega] at h3
      exact ⟨h, h1, h2, h3⟩
    · rw [show (min n 40).toNat = 40 by omega] at h3
      exact absurd h3 (pow_40 hp)

theorem mul_small {m p : Int} (h1 : 1 ≤ m) (h2 : m ≤ 1000000000) (h3 : 2 ≤ p) (h4 : p ≤ 97) : 1 ≤ m * p ∧ m * p ≤ 97000000000 := by
  have a : m * p ≤ 1000000000 * 97 := Int.mul_le_mul h2 h4 (by omega) (by omega)
  have b : 1 * 1 ≤ m * p := Int.mul_le_mul h1 (by omega) (by omega) (by omega)
  omega

theorem l01Small_yes (p : Int) (h : SP p) (w : World) :
    Calls Try.prog 52 #[.int .i64 p] w fun e w' => e = .returned (.bool true) ∧ w = w' := by
  have H := Lib.hid h.2
  have h1 := h.1
  have h2 := h.2.1
  clear h
  go_enter Try.func52, Try.ntmps52
  go_wp2_with (first | (go_at_call 42; refine (l01In_any _ _ _ _).mono ?_; rintro e w' ⟨rfl, rfl⟩) | (go_at_call 43; refine (l01Prime_yes _ H.out (by omega) _).mono ?_; rintro e w' ⟨rfl, rfl⟩))
  go_ret
  exact ⟨rfl, rfl⟩
theorem l01Small_no (p : Int) (h : ¬ SP p) (w : World) :
    Calls Try.prog 52 #[.int .i64 p] w fun e w' => e = .returned (.bool false) ∧ w = w' := by
  have H := Lib.hid h
  clear h
  by_cases h : 2 ≤ p ∧ p ≤ 97
  · obtain ⟨h1, h2⟩ := h
    have HN : Hid (¬ Pr p) := Lib.hid (fun hp => H.out ⟨h2, hp⟩)
    go_enter Try.func52, Try.ntmps52
    go_wp2_with (first | (go_at_call 42; refine (l01In_any _ _ _ _).mono ?_; rintro e w' ⟨rfl, rfl⟩) | (go_at_call 43; refine (l01Prime_no _ HN.out (by omega) _).mono ?_; rintro e w' ⟨rfl, rfl⟩))
    go_ret
    exact ⟨rfl, rfl⟩
  · have hd : (decide (2 ≤ p) && decide (p ≤ 97)) = false := by simp; omega
    clear h
    go_enter Try.func52, Try.ntmps52
    go_wp2_with (first | (go_at_call 42; refine (l01In_any _ _ _ _).mono ?_; rintro e w' ⟨rfl, rfl⟩))
    go_ret
    exact ⟨rfl, rfl⟩
theorem isSmallPrime_yes (p : Int) (h : SP p) (w : World) :
    Calls Try.prog 54 #[.int .i64 p] w fun e w' => e = .returned (.bool true) ∧ w = w' := by
  have H := Lib.hid h.2
  have h1 := h.1
  clear h
  go_enter Try.func54, Try.ntmps54
  go_wp2_with (first | (go_at_call 16; refine (implIsPrime_yes _ H.out (by omega) _).mono ?_; rintro e w' ⟨rfl, rfl⟩))
  go_ret
  exact ⟨rfl, rfl⟩
theorem isSmallPrime_no (p : Int) (h : ¬ SP p) (w : World) :
    Calls Try.prog 54 #[.int .i64 p] w fun e w' => e = .returned (.bool false) ∧ w = w' := by
  have H := Lib.hid h
  clear h
  by_cases h : p ≤ 97
  · have HN : Hid (¬ (Pr p ∧ p ≤ 1000000)) := Lib.hid (fun hp => H.out ⟨h, hp.1⟩)
    go_enter Try.func54, Try.ntmps54
    go_wp2_with (first | (go_at_call 16; refine (implIsPrime_no _ HN.out _).mono ?_; rintro e w' ⟨rfl, rfl⟩))
    go_ret
    exact ⟨rfl, rfl⟩
  · go_enter Try.func54, Try.ntmps54
    go_wp2
    go_ret
    exact ⟨rfl, rfl⟩

set_option maxHeartbeats 400000 in
theorem l02Modulus_yes (p n : Int) (hp1 : 2 ≤ p) (hp2 : p ≤ 97) (h1 : 1 ≤ n) (h2 : n ≤ 40) (h : p ^ n.toNat ≤ 1000000000) (w : World) :
    Calls Try.prog 53 #[.int .i64 p, .int .i64 n] w fun e w' => e = .returned (.int .i64 (p ^ n.toNat)) ∧ w = w' := by
  have H := Lib.hid h
  clear h
  go_enter Try.func53, Try.ntmps53
  go_wp2
  go_loop [1, 5] (fun j m => ∃ (k : Int) (x : Int), 0 ≤ k ∧ k ≤ n ∧ 1 ≤ x ∧ x ≤ 1000000000 ∧ Hid (x = p ^ (n - k).toNat) ∧ j = .int .i64 k ∧ m = .int .i64 x) (fun j _ => (intOf j).toNat)
  case atStart => exact ⟨n, 1, by omega, by omega, by omega, by omega, Lib.hid (by simp), rfl, rfl⟩
  case round =>
    obtain ⟨k, x, hk1, hk2, hx1, hx2, HX, rfl, rfl⟩ := hrel
    have ⟨m1, m2⟩ := mul_small hx1 hx2 hp1 hp2
    by_cases hk : 0 < k
    · have e : x * p = p ^ (n - (k - 1)).toNat := by
        rw [show (n - (k - 1)).toNat = (n - k).toNat + 1 by omega, Int.pow_succ, ← HX.out]
      have m3 : x * p ≤ 1000000000 := by
        rw [e]; exact Int.le_trans (pow_mono (by omega) (by omega)) H.out
      have HX2 := Lib.hid e
      clear e
      go_wp2
      go_round
      case rel => exact ⟨k - 1, x * p, by omega, by omega, m1, m3, HX2, rfl, rfl⟩
      case measure => simp [intOf]; omega
    · have hk0 : k = 0 := by omega
      have HX2 : Hid (x = p ^ n.toNat) := Lib.hid (by rw [HX.out, hk0]; simp)
      clear hk0 HX
      go_wp2
      go_ret
      exact ⟨ret_int HX2.out, rfl⟩
set_option maxHeartbeats 400000 in
theorem l02Modulus_no (p n : Int) (hp1 : 2 ≤ p) (hp2 : p ≤ 97) (h1 : 1 ≤ n) (h2 : n ≤ 40) (h : ¬ p ^ n.toNat ≤ 1000000000) (w : World) :
    Calls Try.prog 53 #[.int .i64 p, .int .i64 n] w fun e w' => e = .returned (.int .i64 0) ∧ w = w' := by
  have H := Lib.hid h
  clear h
  go_enter Try.func53, Try.ntmps53
  go_wp2
  go_loop [1, 5] (fun j m => ∃ (k : Int) (x : Int), 0 ≤ k ∧ k ≤ n ∧ 1 ≤ x ∧ x ≤ 1000000000 ∧ Hid (x = p ^ (n - k).toNat) ∧ j = .int .i64 k ∧ m = .int .i64 x) (fun j _ => (intOf j).toNat)
  case atStart => exact ⟨n, 1, by omega, by omega, by omega, by omega, Lib.hid (by simp), rfl, rfl⟩
  case round =>
    obtain ⟨k, x, hk1, hk2, hx1, hx2, HX, rfl, rfl⟩ := hrel
    have ⟨m1, m2⟩ := mul_small hx1 hx2 hp1 hp2
    by_cases hk : 0 < k
    · have HX2 : Hid (x * p = p ^ (n - (k - 1)).toNat) := Lib.hid (by
        rw [show (n - (k - 1)).toNat = (n - k).toNat + 1 by omega, Int.pow_succ, ← HX.out])
      by_cases m3 : x * p ≤ 1000000000
      · go_wp2
        go_round
        case rel => exact ⟨k - 1, x * p, by omega, by omega, m1, m3, HX2, rfl, rfl⟩
        case measure => simp [intOf]; omega
      · go_wp2
        go_ret
        exact ⟨rfl, rfl⟩
    · exfalso
      have e : x = p ^ n.toNat := by rw [HX.out, show (n - k).toNat = n.toNat by omega]
      have := H.out
      omega

theorem toRing_any (p n : Int) (w : World) :
    Calls Try.prog 29 #[.agg #[.int .i64 p, .int .i64 n]] w fun e w' => e = .returned (.agg #[.int .i64 p, .int .i64 n]) ∧ Below w.heap.size w w' := by
  go_enter Try.func29, Try.ntmps29
  go_wp2
  exact bodyPost_ret (v := .agg #[.int .i64 p, .int .i64 n]) (by simp [results, Try.results29, go_sem]) rfl ⟨rfl, bl_alloc (bl_alloc (bl_alloc (Below.refl _ _) _) _) _⟩

theorem specIsRing_yes (p n : Int) (h : RingOk p n) (w : World) :
    Calls Try.prog 28 #[.agg #[.int .i64 p, .int .i64 n]] w fun e w' => e = .returned (.bool true) ∧ Below w.heap.size w w' := by
  obtain ⟨hs, h1, h2, h3⟩ := h
  have HS := Lib.hid hs
  have H3 := Lib.hid h3
  have hp1 := hs.2.1
  have hp2 := hs.1
  have hx := pow_pos' (p := p) (by omega) n.toNat
  obtain ⟨x, hxe⟩ : ∃ x, x = p ^ n.toNat := ⟨_, rfl⟩
  rw [← hxe] at hx
  have HX := Lib.hid hxe
  clear hs h3 hxe
  go_enter Try.func28, Try.ntmps28
  go_wp2_with (first | (go_at_call 52; refine (l01Small_yes _ HS.out _).mono ?_; rintro e w' ⟨rfl, rfl⟩) | (go_at_call 42; refine (l01In_any _ _ _ _).mono ?_; rintro e w' ⟨rfl, rfl⟩) | (go_at_call 53; refine (l02Modulus_yes _ _ hp1 hp2 h1 h2 H3.out _).mono ?_; rintro e w' ⟨rfl, rfl⟩; rw [← HX.out]))
  go_ret
  exact ⟨by simp; omega, (Below.refl _ _).alloc (Nat.le_refl _) _⟩

theorem specIsRing_no (p n : Int) (h : ¬ RingOk p n) (w : World) :
    Calls Try.prog 28 #[.agg #[.int .i64 p, .int .i64 n]] w fun e w' => e = .returned (.bool false) ∧ Below w.heap.size w w' := by
  have H := Lib.hid h
  clear h
  by_cases hs : SP p
  · have HS := Lib.hid hs
    have hp1 := hs.2.1
    have hp2 := hs.1
    clear hs
    by_cases h1 : 1 ≤ n ∧ n ≤ 40
    · obtain ⟨h1, h2⟩ := h1
      have H3 : Hid (¬ p ^ n.toNat ≤ 1000000000) := Lib.hid (fun h3 => H.out ⟨HS.out, h1, h2, h3⟩)
      go_enter Try.func28, Try.ntmps28
      go_wp2_with (first | (go_at_call 52; refine (l01Small_yes _ HS.out _).mono ?_; rintro e w' ⟨rfl, rfl⟩) | (go_at_call 42; refine (l01In_any _ _ _ _).mono ?_; rintro e w' ⟨rfl, rfl⟩) | (go_at_call 53; refine (l02Modulus_no _ _ hp1 hp2 h1 h2 (by have := H3.out; omega) _).mono ?_; rintro e w' ⟨rfl, rfl⟩))
      go_ret
      exact ⟨rfl, (Below.refl _ _).alloc (Nat.le_refl _) _⟩
    · have hd : (decide (1 ≤ n) && decide (n ≤ 40)) = false := by simp; omega
      clear h1
      go_enter Try.func28, Try.ntmps28
      go_wp2_with (first | (go_at_call 52; refine (l01Small_yes _ HS.out _).mono ?_; rintro e w' ⟨rfl, rfl⟩) | (go_at_call 42; refine (l01In_any _ _ _ _).mono ?_; rintro e w' ⟨rfl, rfl⟩))
      go_ret
      exact ⟨rfl, (Below.refl _ _).alloc (Nat.le_refl _) _⟩
  · have HS := Lib.hid hs
    clear hs
    go_enter Try.func28, Try.ntmps28
    go_wp2_with (first | (go_at_call 52; refine (l01Small_no _ HS.out _).mono ?_; rintro e w' ⟨rfl, rfl⟩))
    go_ret
    exact ⟨rfl, (Below.refl _ _).alloc (Nat.le_refl _) _⟩

set_option maxHeartbeats 400000 in
theorem implIsRing_yes (p n : Int) (h : RingOk p n) (w : World) :
    Calls Try.prog 30 #[.agg #[.int .i64 p, .int .i64 n]] w fun e w' => e = .returned (.bool true) ∧ Below w.heap.size w w' := by
  obtain ⟨hs, h1, h2, h3⟩ := h
  have HS := Lib.hid hs
  have H := Lib.hid h3
  have hp1 := hs.2.1
  have hp2 := hs.1
  clear hs h3
  go_enter Try.func30, Try.ntmps30
  go_wp2_with (first | (go_at_call 54; refine (isSmallPrime_yes _ HS.out _).mono ?_; rintro e w' ⟨rfl, rfl⟩))
  all_goals
    go_loop [3, 16] (fun m j => ∃ (k : Int) (x : Int), 0 ≤ k ∧ k ≤ n ∧ 1 ≤ x ∧ x ≤ 1000000000 ∧ Hid (x = p ^ k.toNat) ∧ j = .int .i64 k ∧ m = .int .i64 x) (fun _ j => (n - intOf j).toNat)
    case atStart => exact ⟨0, 1, by omega, by omega, by omega, by omega, Lib.hid (by simp), rfl, rfl⟩
    case round =>
      obtain ⟨k, x, hk1, hk2, hx1, hx2, HX, rfl, rfl⟩ := hrel
      have ⟨m1, m2⟩ := mul_small hx1 hx2 hp1 hp2
      by_cases hk : k < n
      · have e : x * p = p ^ (k + 1).toNat := by
          rw [show (k + 1).toNat = k.toNat + 1 by omega, Int.pow_succ, ← HX.out]
        have m3 : x * p ≤ 1000000000 := by
          rw [e]; exact Int.le_trans (pow_mono (by omega) (by omega)) H.out
        have HX2 := Lib.hid e
        clear e
        go_wp2
        go_round
        case rel => exact ⟨k + 1, x * p, by omega, by omega, m1, m3, HX2, rfl, rfl⟩
        case measure => simp [intOf]; omega
      · go_wp2
        go_ret
        exact ⟨rfl, (Below.refl _ _).alloc (Nat.le_refl _) _⟩

set_option maxHeartbeats 400000 in
theorem implIsRing_no (p n : Int) (h : ¬ RingOk p n) (w : World) :
    Calls Try.prog 30 #[.agg #[.int .i64 p, .int .i64 n]] w fun e w' => e = .returned (.bool false) ∧ Below w.heap.size w w' := by
  have H0 := Lib.hid h
  clear h
  by_cases hs : SP p
  · by_cases h1 : 1 ≤ n
    · have H : Hid (¬ p ^ (min n 40).toNat ≤ 1000000000) := Lib.hid (fun h3 => H0.out ((ringOk_iff hs h1).2 h3))
      have HS := Lib.hid hs
      have hp1 := hs.2.1
      have hp2 := hs.1
      clear hs
      by_cases h40 : 40 < n
      all_goals
        go_enter Try.func30, Try.ntmps30
        go_wp2_with (first | (go_at_call 54; refine (isSmallPrime_yes _ HS.out _).mono ?_; rintro e w' ⟨rfl, rfl⟩))
        all_goals
          go_loop [3, 16] (fun m j => ∃ (k : Int) (x : Int), 0 ≤ k ∧ k ≤ 40 ∧ k ≤ n ∧ 1 ≤ x ∧ x ≤ 1000000000 ∧ Hid (x = p ^ k.toNat) ∧ j = .int .i64 k ∧ m = .int .i64 x) (fun _ j => (40 - intOf j).toNat)
          case atStart => exact ⟨0, 1, by omega, by omega, by omega, by omega, by omega, Lib.hid (by simp), rfl, rfl⟩
          case round =>
            obtain ⟨k, x, hk1, hk40, hk2, hx1, hx2, HX, rfl, rfl⟩ := hrel
            have ⟨m1, m2⟩ := mul_small hx1 hx2 hp1 hp2
            by_cases hk : k < n ∧ k < 40
            · obtain ⟨hk, hk'⟩ := hk
              have HX2 : Hid (x * p = p ^ (k + 1).toNat) := Lib.hid (by
                rw [show (k + 1).toNat = k.toNat + 1 by omega, Int.pow_succ, ← HX.out])
              by_cases m3 : x * p ≤ 1000000000
              · go_wp2
                go_round
                case rel => exact ⟨k + 1, x * p, by omega, by omega, by omega, m1, m3, HX2, rfl, rfl⟩
                case measure => simp [intOf]; omega
              · go_wp2
                go_ret
                exact ⟨rfl, (Below.refl _ _).alloc (Nat.le_refl _) _⟩
            · exfalso
              have e : x = p ^ (min n 40).toNat := by rw [HX.out, show k.toNat = (min n 40).toNat by omega]
              have := H.out
              omega
    · have HS := Lib.hid hs
      clear hs
      go_enter Try.func30, Try.ntmps30
      go_wp2_with (first | (go_at_call 54; refine (isSmallPrime_yes _ HS.out _).mono ?_; rintro e w' ⟨rfl, rfl⟩))
      go_ret
      exact ⟨rfl, (Below.refl _ _).alloc (Nat.le_refl _) _⟩
  · have HS := Lib.hid hs
    clear hs
    go_enter Try.func30, Try.ntmps30
    go_wp2_with (first | (go_at_call 54; refine (isSmallPrime_no _ HS.out _).mono ?_; rintro e w' ⟨rfl, rfl⟩))
    go_ret
    exact ⟨rfl, (Below.refl _ _).alloc (Nat.le_refl _) _⟩

set_option maxHeartbeats 400000 in
theorem walkExactIsRing (p n : Int) (w : World) (_ : (Lit.int .i64 p).wf = true) (_ : (Lit.int .i64 n).wf = true) :
    Calls Try.prog 9 #[.agg #[.int .i64 p, .int .i64 n]] w fun e w' => e = .returned (.bool true) ∧ Below w.heap.size w w' := by
  by_cases h : RingOk p n
  · have H := Lib.hid h
    clear h
    go_enter Try.func9, Try.ntmps9
    go_wp2_with fail
    refine (toRing_any _ _ _).mono ?_
    rintro e w1 ⟨rfl, hb1⟩
    obtain ⟨hc1, hz1, hb1'⟩ := cell_al hb1
    go_wp2_with fail
    refine (specIsRing_yes _ _ H.out _).mono ?_
    rintro e w2 ⟨rfl, hb2⟩
    have ⟨hc2, _⟩ := bcell hb2
    have hz2 := size_al hz1 hb2
    go_wp2_with fail
    refine (toRing_any _ _ _).mono ?_
    rintro e w3 ⟨rfl, hb3⟩
    go_wp2_with fail
    refine (implIsRing_yes _ _ H.out _).mono ?_
    rintro e w4 ⟨rfl, hb4⟩
    go_wp2
    go_ret
    exact ⟨rfl, bl_trans (bl_trans (bl_trans hb1' hb2) hb3) hb4⟩
  · have H := Lib.hid h
    clear h
    go_enter Try.func9, Try.ntmps9
    go_wp2_with fail
    refine (toRing_any _ _ _).mono ?_
    rintro e w1 ⟨rfl, hb1⟩
    obtain ⟨hc1, hz1, hb1'⟩ := cell_al hb1
    go_wp2_with fail
    refine (specIsRing_no _ _ H.out _).mono ?_
    rintro e w2 ⟨rfl, hb2⟩
    have ⟨hc2, _⟩ := bcell hb2
    have hz2 := size_al hz1 hb2
    go_wp2_with fail
    refine (toRing_any _ _ _).mono ?_
    rintro e w3 ⟨rfl, hb3⟩
    go_wp2_with fail
    refine (implIsRing_no _ _ H.out _).mono ?_
    rintro e w4 ⟨rfl, hb4⟩
    go_wp2
    go_ret
    exact ⟨rfl, bl_trans (bl_trans (bl_trans hb1' hb2) hb3) hb4⟩
end Go.Proofs.Ytdkeonjckkjdhaa
