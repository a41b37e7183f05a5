/- The walks of PolynomialWith, and of the law over it. -/
import Derived.Test.YtjipalcceflkfaaGiv
import Derived.Test.YtjipalcceflkfaaSmallP
import Derived.Test.YtjipalcceflkfaaAbsPolynomialWith
namespace Go.Proofs.Ytjipalcceflkfaa
open Go.RowKit

/-- the digits, with fuel -/
def dgF (p : Int) : Nat → Int → List Int
  | 0, _ => []
  | f + 1, n => if 0 < n then n % p :: dgF p f (n / p) else []
def dg (p n : Int) : List Int := dgF p n.toNat n
theorem div_lt {n p : Int} (hn : 1 ≤ n) (hp : 2 ≤ p) : n / p < n := Int.ediv_lt_of_lt_mul (by omega) (by
  have : n * 2 ≤ n * p := Int.mul_le_mul_of_nonneg_left hp (by omega)
  omega)
theorem dgF_eq {p : Int} (hp : 2 ≤ p) : ∀ (f : Nat) (n : Int), n.toNat ≤ f → dgF p f n = dgF p n.toNat n := by
  intro f
  induction f using Nat.strongRecOn with
  | ind f ih =>
    intro n hf
    by_cases h : 0 < n
    · obtain ⟨g, rfl⟩ : ∃ g, f = g + 1 := ⟨f - 1, by omega⟩
      obtain ⟨k, hk⟩ : ∃ k, n.toNat = k + 1 := ⟨n.toNat - 1, by omega⟩
      have h1 := div_lt (n := n) (by omega) hp
      rw [hk]
      unfold dgF
      rw [if_pos h, if_pos h]
      generalize n / p = q at *
      rw [ih g (by omega) q (by omega), ih k (by omega) q (by omega)]
    · have : n.toNat = 0 := by omega
      rw [this]
      cases f with
      | zero => rfl
      | succ f => unfold dgF; rw [if_neg h]
theorem dg_yes {p n : Int} (hp : 2 ≤ p) (h : 0 < n) : dg p n = n % p :: dg p (n / p) := by
  have h1 := div_lt (n := n) (by omega) hp
  unfold dg
  obtain ⟨k, hk⟩ : ∃ k, n.toNat = k + 1 := ⟨n.toNat - 1, by omega⟩
  rw [hk]
  conv => lhs; unfold dgF
  rw [if_pos h, dgF_eq hp k (n / p) (by generalize n / p = q at *; omega)]
theorem dg_no {p n : Int} (h : ¬ 0 < n) : dg p n = [] := by
  unfold dg
  rw [show n.toNat = 0 by omega]
  rfl
/-- what PolynomialWith gives -/
def pwR (p n : Int) : List Int × Int := if SP p then (if 0 ≤ n ∧ n ≤ 1000000000 then (if (dg p n).length ≤ 9 then (dg p n, 0) else ([], 3)) else ([], 2)) else ([], 1)
theorem pwR_len (p n : Int) : (pwR p n).1.length ≤ 1048576 := by
  unfold pwR
  split
  · split
    · split
      · rename_i h; show (dg p n).length ≤ _; omega
      · simp
    · simp
  · simp

set_option maxRecDepth 100000 in
set_option maxHeartbeats 800000 in
theorem withNumber_any (p n : Int) (w : World) (p1 : 2 ≤ p) (p2 : p ≤ 97) (n1 : 0 ≤ n) (n2 : n ≤ 1000000000) :
    Calls Try.prog 60 #[.int .i64 p, .int .i64 n] w fun e w' => ∃ A' c', e = .returned (.slice A' (dg p n).length c') ∧ OwnI w' w.heap.size A' (dg p n).length c' (dg p n) ∧ Below w.heap.size w w' := by
  obtain ⟨i0, hi, hz0, hz1, hz2⟩ := info_parts infoI64
  have HI := Lib.hid hi
  have HZ0 := Lib.hid hz0
  have HZ1 := Lib.hid hz1
  have HZ2 := Lib.hid hz2
  clear hi hz0 hz1 hz2
  go_enter Try.func60, Try.ntmps60
  go_wp2
  go_loopw [1, 5] (fun x v wr => ∃ (m : Int) (L : List Int), 0 ≤ m ∧ (L.length : Int) + m ≤ n ∧ x = .int .i64 m ∧ Hid (L ++ dg p m = dg p n) ∧ Hid (wr.ownsRow w.heap.size 2 1 v L.length (L.map (Value.int .i64))) ∧ Hid (Below w.heap.size w wr)) (fun x _ _ => (intOf x).toNat)
  case atStart => exact ⟨n, [], n1, by simp, rfl, Lib.hid rfl, Lib.hid (World.ownsRow_nil _ _ _ _), Lib.hid (Below.refl _ _)⟩
  case round =>
    obtain ⟨m, L, m1, hkl, rfl, HE, HO, HB⟩ := hrel
    by_cases hlt : 0 < m
    · have hd1 := div_lt (n := m) (by omega) p1
      have hd2 : 0 ≤ m / p := Int.ediv_nonneg m1 (by omega)
      have e1 := Int.emod_nonneg m (show p ≠ 0 by omega)
      have e2 := Int.emod_lt_of_pos m (show 0 < p by omega)
      have HE2 : Hid ((L ++ [m % p]) ++ dg p (m / p) = dg p n) := Lib.hid (by
        have e := HE.out
        rw [dg_yes p1 hlt] at e
        rw [List.append_assoc]; exact e)
      have hl1 : L.length + 1 ≤ maxLen := by unfold maxLen; omega
      have hl2 : (L.length + 1) * 8 ≤ 140737488355328 := by omega
      clear HE
      go_wp2_with (at_builtin; refine wpList_append_own _ rfl _ _ _ rfl w.heap.size 2 i0 (.int .i64 0) 1 8 Try.underlying22 HI.out HZ0.out HZ1.out HZ2.out rfl (by decide) _ L.length (L.map (Value.int .i64)) rfl (HO.out.alloc _) ⟨wr.heap.size, 0, none⟩ 1 1 [.int .i64 (m % p)] rfl rfl (cell_one_new _ _ _) (ints_one [m % p]) hl1 hl2 (base_alloc2 HB.out _) ?_; intro v' w1 hown' hgrow _)
      have HO2 := Lib.hid (own_snoc hown')
      have HB2 : Hid (Below w.heap.size w w1) := Lib.hid ((bl_alloc HB.out _).grown hgrow (base_alloc2 HB.out _) (fun k hk => (HO.out.lt k hk).1))
      clear hown' hgrow HO HB hl1 hl2
      go_wp2
      go_roundw
      case rel => exact ⟨m / p, L ++ [m % p], hd2, by rw [List.length_append]; simp; omega, rfl, HE2, HO2, HB2⟩
      case measure => simp only [intOf]; omega
    · have HF : Hid (L = dg p n) := Lib.hid (by have e := HE.out; rw [dg_no hlt] at e; simpa using e)
      obtain ⟨A', c', rfl, hcells⟩ := own_cells HO.out
      have hcc := hcells.2.1
      have hcm := hcells.2.2.1
      unfold maxLen at hcm
      clear hcells HE
      go_wp2
      go_ret
      exact ⟨A', c', by rw [← HF.out]; rfl, by rw [← HF.out]; exact OwnI.of_row HO.out, HB.out⟩

def speccnt (p n lo hi : Int) : Int := if SP p then (if lo ≤ n ∧ n ≤ hi then 0 else 2) else 1
theorem specCode_any (p n lo hi : Int) (w : World) :
    Calls Try.prog 58 #[.int .i64 p, .int .i64 n, .int .i64 lo, .int .i64 hi] w fun e w' => e = .returned (.int .i64 (speccnt p n lo hi)) ∧ w = w' := by
  by_cases hp : SP p
  · have H0 := Lib.hid hp
    by_cases hn : lo ≤ n ∧ n ≤ hi
    · have HE : Hid (speccnt p n lo hi = 0) := Lib.hid (by unfold speccnt; rw [if_pos hp, if_pos hn])
      obtain ⟨n1, n2⟩ := hn
      clear hp
      go_enter Try.func58, Try.ntmps58
      go_wp2_with (first | (go_at_call 75; refine (l01Small_yes _ H0.out _).mono ?_; rintro e w' ⟨rfl, rfl⟩) | (go_at_call 86; refine (l01In_any _ _ _ _).mono ?_; rintro e w' ⟨rfl, rfl⟩))
      go_ret
      exact ⟨by rw [HE.out]; rfl, rfl⟩
    · have HE : Hid (speccnt p n lo hi = 2) := Lib.hid (by unfold speccnt; rw [if_pos hp, if_neg hn])
      have hd : (decide (lo ≤ n) && decide (n ≤ hi)) = false := by simp only [Bool.and_eq_false_iff, decide_eq_false_iff_not]; omega
      clear hp hn
      go_enter Try.func58, Try.ntmps58
      go_wp2_with (first | (go_at_call 75; refine (l01Small_yes _ H0.out _).mono ?_; rintro e w' ⟨rfl, rfl⟩) | (go_at_call 86; refine (l01In_any _ _ _ _).mono ?_; rintro e w' ⟨rfl, rfl⟩))
      go_ret
      exact ⟨by rw [HE.out]; rfl, rfl⟩
  · have H0 := Lib.hid hp
    have HE : Hid (speccnt p n lo hi = 1) := Lib.hid (by unfold speccnt; rw [if_neg hp])
    clear hp
    go_enter Try.func58, Try.ntmps58
    go_wp2_with (first | (go_at_call 75; refine (l01Small_no _ H0.out _).mono ?_; rintro e w' ⟨rfl, rfl⟩))
    go_ret
    exact ⟨by rw [HE.out]; rfl, rfl⟩
theorem specCode_at (p n lo hi k : Int) (hk : k = speccnt p n lo hi) (w : World) :
    Calls Try.prog 58 #[.int .i64 p, .int .i64 n, .int .i64 lo, .int .i64 hi] w fun e w' => e = .returned (.int .i64 k) ∧ w = w' := by
  subst hk; exact specCode_any p n lo hi w

def implcnt (p n lo hi : Int) : Int := if SP p then (if lo ≤ n ∧ n ≤ hi then 0 else 2) else 1
theorem implCode_any (p n lo hi : Int) (w : World) :
    Calls Try.prog 59 #[.int .i64 p, .int .i64 n, .int .i64 lo, .int .i64 hi] w fun e w' => e = .returned (.int .i64 (implcnt p n lo hi)) ∧ w = w' := by
  by_cases hp : SP p
  · have H0 := Lib.hid hp
    by_cases hn : lo ≤ n ∧ n ≤ hi
    · have HE : Hid (implcnt p n lo hi = 0) := Lib.hid (by unfold implcnt; rw [if_pos hp, if_pos hn])
      obtain ⟨n1, n2⟩ := hn
      clear hp
      go_enter Try.func59, Try.ntmps59
      go_wp2_with (first | (go_at_call 78; refine (isSmallPrime_yes _ H0.out _).mono ?_; rintro e w' ⟨rfl, rfl⟩) | (go_at_call 89; refine (within_any _ _ _ _).mono ?_; rintro e w' ⟨rfl, rfl⟩))
      go_ret
      exact ⟨by rw [HE.out]; rfl, rfl⟩
    · have HE : Hid (implcnt p n lo hi = 2) := Lib.hid (by unfold implcnt; rw [if_pos hp, if_neg hn])
      have hd : (decide (lo ≤ n) && decide (n ≤ hi)) = false := by simp only [Bool.and_eq_false_iff, decide_eq_false_iff_not]; omega
      clear hp hn
      go_enter Try.func59, Try.ntmps59
      go_wp2_with (first | (go_at_call 78; refine (isSmallPrime_yes _ H0.out _).mono ?_; rintro e w' ⟨rfl, rfl⟩) | (go_at_call 89; refine (within_any _ _ _ _).mono ?_; rintro e w' ⟨rfl, rfl⟩))
      go_ret
      exact ⟨by rw [HE.out]; rfl, rfl⟩
  · have H0 := Lib.hid hp
    have HE : Hid (implcnt p n lo hi = 1) := Lib.hid (by unfold implcnt; rw [if_neg hp])
    clear hp
    go_enter Try.func59, Try.ntmps59
    go_wp2_with (first | (go_at_call 78; refine (isSmallPrime_no _ H0.out _).mono ?_; rintro e w' ⟨rfl, rfl⟩))
    go_ret
    exact ⟨by rw [HE.out]; rfl, rfl⟩
theorem implCode_at (p n lo hi k : Int) (hk : k = implcnt p n lo hi) (w : World) :
    Calls Try.prog 59 #[.int .i64 p, .int .i64 n, .int .i64 lo, .int .i64 hi] w fun e w' => e = .returned (.int .i64 k) ∧ w = w' := by
  subst hk; exact implCode_any p n lo hi w

set_option maxRecDepth 100000 in
set_option maxHeartbeats 1600000 in
theorem specPolynomialWith_any (p n : Int) (w : World) :
    Calls Try.prog 15 #[.int .i64 p, .int .i64 n] w (Gives (pwR p n) w) := by
  by_cases hp : SP p
  · by_cases hn : 0 ≤ n ∧ n ≤ 1000000000
    · have HC : Hid ((0 : Int) = speccnt p n 0 1000000000) := Lib.hid (by unfold speccnt; rw [if_pos hp, if_pos hn])
      obtain ⟨n1, n2⟩ := hn
      have p1 := hp.2.1
      have p2 := hp.1
      have HE0 : Hid (pwR p n = if (dg p n).length ≤ 9 then (dg p n, 0) else ([], 3)) := Lib.hid (by unfold pwR; rw [if_pos hp, if_pos ⟨n1, n2⟩])
      clear hp
      obtain ⟨i0, hi, hz0, hz1, hz2⟩ := info_parts infoI64
      have HI := Lib.hid hi
      have HZ0 := Lib.hid hz0
      have HZ1 := Lib.hid hz1
      have HZ2 := Lib.hid hz2
      clear hi hz0 hz1 hz2
      go_enter Try.func15, Try.ntmps15
      go_wp2_with (first | (go_at_call 58; refine (specCode_at _ _ _ _ 0 HC.out _).mono ?_; rintro e w' ⟨rfl, rfl⟩))
      go_loopw [1, 7] (fun x v wr => ∃ (m : Int) (L : List Int), 0 ≤ m ∧ (L.length : Int) + m ≤ n ∧ x = .int .i64 m ∧ Hid (L ++ dg p m = dg p n) ∧ Hid (wr.ownsRow w.heap.size 2 1 v L.length (L.map (Value.int .i64))) ∧ Hid (Below w.heap.size w wr)) (fun x _ _ => (intOf x).toNat)
      case atStart => exact ⟨n, [], n1, by simp, rfl, Lib.hid rfl, Lib.hid (own_made w), Lib.hid (bl_alloc (Below.refl _ _) _)⟩
      case round =>
        obtain ⟨m, L, m1, hkl, rfl, HE, HO, HB⟩ := hrel
        by_cases hlt : 0 < m
        · have hd1 := div_lt (n := m) (by omega) p1
          have hd2 : 0 ≤ m / p := Int.ediv_nonneg m1 (by omega)
          have e1 := Int.emod_nonneg m (show p ≠ 0 by omega)
          have e2 := Int.emod_lt_of_pos m (show 0 < p by omega)
          have HE2 : Hid ((L ++ [m % p]) ++ dg p (m / p) = dg p n) := Lib.hid (by
            have e := HE.out
            rw [dg_yes p1 hlt] at e
            rw [List.append_assoc]; exact e)
          have hl1 : L.length + 1 ≤ maxLen := by unfold maxLen; omega
          have hl2 : (L.length + 1) * 8 ≤ 140737488355328 := by omega
          clear HE
          go_wp2_with (at_builtin; refine wpList_append_own _ rfl _ _ _ rfl w.heap.size 2 i0 (.int .i64 0) 1 8 Try.underlying22 HI.out HZ0.out HZ1.out HZ2.out rfl (by decide) _ L.length (L.map (Value.int .i64)) rfl (HO.out.alloc _) ⟨wr.heap.size, 0, none⟩ 1 1 [.int .i64 (m % p)] rfl rfl (cell_one_new _ _ _) (ints_one [m % p]) hl1 hl2 (base_alloc2 HB.out _) ?_; intro v' w1 hown' hgrow _)
          have HO2 := Lib.hid (own_snoc hown')
          have HB2 : Hid (Below w.heap.size w w1) := Lib.hid ((bl_alloc HB.out _).grown hgrow (base_alloc2 HB.out _) (fun k hk => (HO.out.lt k hk).1))
          clear hown' hgrow HO HB hl1 hl2
          go_wp2
          go_roundw
          case rel => exact ⟨m / p, L ++ [m % p], hd2, by rw [List.length_append]; simp; omega, rfl, HE2, HO2, HB2⟩
          case measure => simp only [intOf]; omega
        · have HF : Hid (L = dg p n) := Lib.hid (by have e := HE.out; rw [dg_no hlt] at e; simpa using e)
          obtain ⟨A', c', rfl, hcells⟩ := own_cells HO.out
          have hcc := hcells.2.1
          have hcm := hcells.2.2.1
          unfold maxLen at hcm
          clear hcells HE
          by_cases h9 : L.length ≤ 9
          · have HE : Hid (pwR p n = (dg p n, 0)) := Lib.hid (by rw [HE0.out, if_pos (by rw [← HF.out]; exact h9)])
            go_wp2
            go_ret2
            exact ⟨A', c', by rw [HE.out, ← HF.out]; rfl, by rw [HE.out, ← HF.out]; exact OwnI.of_row HO.out, HB.out⟩
          · have HE : Hid (pwR p n = ([], 3)) := Lib.hid (by rw [HE0.out, if_neg (by rw [← HF.out]; exact h9)])
            go_wp2
            go_ret2
            exact ⟨none, 0, by rw [HE.out]; rfl, by rw [HE.out]; exact OwnI.nil _ _, HB.out⟩
    · have HC : Hid ((2 : Int) = speccnt p n 0 1000000000) := Lib.hid (by unfold speccnt; rw [if_pos hp, if_neg hn])
      have HE : Hid (pwR p n = ([], 2)) := Lib.hid (by unfold pwR; rw [if_pos hp, if_neg hn])
      clear hp hn
      go_enter Try.func15, Try.ntmps15
      go_wp2_with (first | (go_at_call 58; refine (specCode_at _ _ _ _ 2 HC.out _).mono ?_; rintro e w' ⟨rfl, rfl⟩))
      go_ret2
      exact ⟨none, 0, by rw [HE.out]; rfl, by rw [HE.out]; exact OwnI.nil _ _, Below.refl _ _⟩
  · have HC : Hid ((1 : Int) = speccnt p n 0 1000000000) := Lib.hid (by unfold speccnt; rw [if_neg hp])
    have HE : Hid (pwR p n = ([], 1)) := Lib.hid (by unfold pwR; rw [if_neg hp])
    clear hp
    go_enter Try.func15, Try.ntmps15
    go_wp2_with (first | (go_at_call 58; refine (specCode_at _ _ _ _ 1 HC.out _).mono ?_; rintro e w' ⟨rfl, rfl⟩))
    go_ret2
    exact ⟨none, 0, by rw [HE.out]; rfl, by rw [HE.out]; exact OwnI.nil _ _, Below.refl _ _⟩

set_option maxRecDepth 100000 in
set_option maxHeartbeats 1600000 in
theorem implPolynomialWith_any (p n : Int) (w : World) :
    Calls Try.prog 16 #[.int .i64 p, .int .i64 n] w (Gives (pwR p n) w) := by
  by_cases hp : SP p
  · by_cases hn : 0 ≤ n ∧ n ≤ 1000000000
    · have HC : Hid ((0 : Int) = implcnt p n 0 1000000000) := Lib.hid (by unfold implcnt; rw [if_pos hp, if_pos hn])
      obtain ⟨n1, n2⟩ := hn
      have p1 := hp.2.1
      have p2 := hp.1
      have HE0 : Hid (pwR p n = if (dg p n).length ≤ 9 then (dg p n, 0) else ([], 3)) := Lib.hid (by unfold pwR; rw [if_pos hp, if_pos ⟨n1, n2⟩])
      clear hp
      by_cases h9 : (dg p n).length ≤ 9
      all_goals
        first | have HE : Hid (pwR p n = (dg p n, 0)) := Lib.hid (by rw [HE0.out, if_pos h9]) | have HE : Hid (pwR p n = ([], 3)) := Lib.hid (by rw [HE0.out, if_neg h9])
        obtain ⟨L, hL⟩ : ∃ L, L = dg p n := ⟨_, rfl⟩
        rw [← hL] at h9
        try rw [← hL] at HE
        have HL := Lib.hid hL
        clear hL HE0
        go_enter Try.func16, Try.ntmps16
        go_wp2_with (first | (go_at_call 59; refine (implCode_at _ _ _ _ 0 HC.out _).mono ?_; rintro e w' ⟨rfl, rfl⟩) | (go_at_call 60; refine (withNumber_any _ _ _ p1 p2 n1 n2).mono ?_; rw [← HL.out]; rintro e w1 ⟨A', c', rfl, ho, hb⟩; have hcc := ho.2.1; have hcm := ho.2.2.1; unfold maxLen at hcm; have HO := Lib.hid ho; have HB := Lib.hid hb; clear ho hb))
        go_ret2
        first | exact ⟨A', c', by rw [HE.out]; rfl, by rw [HE.out]; exact HO.out, HB.out⟩ | exact ⟨none, 0, by rw [HE.out]; rfl, by rw [HE.out]; exact OwnI.nil _ _, HB.out⟩
    · have HC : Hid ((2 : Int) = implcnt p n 0 1000000000) := Lib.hid (by unfold implcnt; rw [if_pos hp, if_neg hn])
      have HE : Hid (pwR p n = ([], 2)) := Lib.hid (by unfold pwR; rw [if_pos hp, if_neg hn])
      clear hp hn
      go_enter Try.func16, Try.ntmps16
      go_wp2_with (first | (go_at_call 59; refine (implCode_at _ _ _ _ 2 HC.out _).mono ?_; rintro e w' ⟨rfl, rfl⟩))
      go_ret2
      exact ⟨none, 0, by rw [HE.out]; rfl, by rw [HE.out]; exact OwnI.nil _ _, Below.refl _ _⟩
  · have HC : Hid ((1 : Int) = implcnt p n 0 1000000000) := Lib.hid (by unfold implcnt; rw [if_neg hp])
    have HE : Hid (pwR p n = ([], 1)) := Lib.hid (by unfold pwR; rw [if_neg hp])
    clear hp
    go_enter Try.func16, Try.ntmps16
    go_wp2_with (first | (go_at_call 59; refine (implCode_at _ _ _ _ 1 HC.out _).mono ?_; rintro e w' ⟨rfl, rfl⟩))
    go_ret2
    exact ⟨none, 0, by rw [HE.out]; rfl, by rw [HE.out]; exact OwnI.nil _ _, Below.refl _ _⟩

theorem walkExactPolynomialWith (a0 : Int) (a1 : Int) (w : World) (_ : (Lit.int .i64 a0).wf = true) (_ : (Lit.int .i64 a1).wf = true) :
    Calls Try.prog 3 #[.int .i64 a0, .int .i64 a1] w fun e w' => e = .returned (.bool true) ∧ Below w.heap.size w w' := by
  exact lawExactPolynomialWith a0 a1 (pwR a0 a1).1 (pwR a0 a1).2 w  (pwR_len _ _)
    (fun _ => specPolynomialWith_any _ _ _)
    (fun _ => implPolynomialWith_any _ _ _)

end Go.Proofs.Ytjipalcceflkfaa