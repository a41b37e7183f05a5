/- The walks of RootsModular, and of the law over it. -/
import Derived.Test.YtjipalcceflkfaaGiv
import Derived.Test.YtjipalcceflkfaaMod
import Derived.Test.YtjipalcceflkfaaModu
import Derived.Test.YtjipalcceflkfaaModI
import Derived.Test.YtjipalcceflkfaaAbsRootsModular
namespace Go.Proofs.Ytjipalcceflkfaa
open Go.RowKit

/-- the value by p at x -/
def hm (p x : Int) : List Int → Int
  | [] => 0
  | c :: cs => (hm p x cs * x + c) % p
theorem hm_bd {p : Int} (hp : 2 ≤ p) (x : Int) (l : List Int) : 0 ≤ hm p x l ∧ hm p x l ≤ p - 1 := by
  cases l with
  | nil => unfold hm; omega
  | cons c cs =>
    unfold hm
    have := Int.emod_nonneg (hm p x cs * x + c) (show p ≠ 0 by omega)
    have := Int.emod_lt_of_pos (hm p x cs * x + c) (show 0 < p by omega)
    omega
theorem drop_at {xs : List Int} {k : Nat} (h : k < xs.length) : xs.drop k = xs.getD k 0 :: xs.drop (k + 1) := by
  rw [List.drop_eq_getElem_cons h]
  simp [List.getD, h]
theorem hm_step {p x : Int} {xs : List Int} {k : Nat} (h : k < xs.length) : hm p x (xs.drop k) = (hm p x (xs.drop (k + 1)) * x + xs.getD k 0) % p := by
  rw [drop_at h]; rfl
theorem mul97 {z x : Int} (z1 : 0 ≤ z) (z2 : z ≤ 96) (x1 : 0 ≤ x) (x2 : x ≤ 96) : 0 ≤ z * x ∧ z * x ≤ 9216 := by
  have h1 : 0 ≤ z * x := Int.mul_nonneg z1 x1
  have h2 : z * x ≤ 96 * 96 := Int.mul_le_mul z2 x2 x1 (by omega)
  omega

set_option maxHeartbeats 800000 in
theorem l08Value_any (p : Int) (A : Option Addr) (n c : Nat) (xs : List Int) (x : Int) (w : World) (hr : Rd .i64 w A n c xs) (h : MOk p xs) (x1 : 0 ≤ x) (x2 : x ≤ p - 1) :
    Calls Try.prog 119 #[.int .i64 p, .slice A n c, .int .i64 x] w fun e w' => e = .returned (.int .i64 (hm p x xs)) ∧ w = w' := by
  have HR := Lib.hid hr
  have HL := Lib.hid hr.1
  have H := Lib.hid h
  have hn : n ≤ 9 := by have := h.2.1; have := hr.1; omega
  have p1 := h.1.2.1
  have p2 := h.1.1
  clear hr h
  go_enter Try.func119, Try.ntmps119
  go_wp2
  go_loop [7, 8] (fun s i => ∃ (k : Nat) (z : Int), k ≤ n ∧ i = .int .i64 (k - 1) ∧ s = .int .i64 z ∧ 0 ≤ z ∧ z ≤ p - 1 ∧ Hid (z = hm p x (xs.drop k))) (fun _ i => (intOf i + 1).toNat)
  case atStart => exact ⟨n, 0, Nat.le_refl _, by go_num, rfl, by omega, by omega, Lib.hid (by rw [List.drop_of_length_le (by have := HL.out; omega)]; rfl)⟩
  case round =>
    obtain ⟨k, z, hk, rfl, rfl, z1, z2, HZ⟩ := hrel
    rcases Nat.eq_zero_or_pos k with h0 | h0
    · subst h0
      have HZ2 : Hid (z = hm p x xs) := HZ
      go_wp2
      go_ret
      exact ⟨by rw [HZ2.out]; rfl, rfl⟩
    · obtain ⟨j, hj⟩ : ∃ j, j = k - 1 := ⟨_, rfl⟩
      have hkj : (k : Int) - 1 = (j : Int) := by omega
      have hjn : j < n := by omega
      obtain ⟨b, off, rfl, hb, hcell⟩ := HR.out.2.2.2 (by omega)
      have hy := hcell j hjn
      have hy0 := H.out.2.2.1 j (by have := HL.out; omega)
      obtain ⟨y, hye⟩ : ∃ y, y = xs.getD j 0 := ⟨_, rfl⟩
      rw [← hye] at hy hy0
      obtain ⟨y1, y2⟩ := hy0
      have ⟨m1, m2⟩ := mul97 z1 (by omega) x1 (by omega)
      have HN : Hid ((z * x + y) % p = hm p x (xs.drop j)) := Lib.hid (by rw [hm_step (by have := HL.out; omega), ← hye, ← show k = j + 1 by omega, ← HZ.out])
      have e1 := Int.emod_nonneg (z * x + y) (show p ≠ 0 by omega)
      have e2 := Int.emod_lt_of_pos (z * x + y) (show 0 < p by omega)
      clear hye hcell hj
      rw [hkj]
      clear hkj
      generalize hq : z * x = q at *
      go_wp2
      go_round
      case rel => exact ⟨j, (q + y) % p, by omega, by go_num, rfl, e1, by omega, HN⟩
      case measure => simp only [intOf]; omega

set_option maxHeartbeats 800000 in
theorem valueBy_any (p : Int) (A : Option Addr) (n c : Nat) (xs : List Int) (x : Int) (w : World) (hr : Rd .i64 w A n c xs) (h : MOk p xs) (x1 : 0 ≤ x) (x2 : x ≤ p - 1) :
    Calls Try.prog 120 #[.int .i64 p, .slice A n c, .int .i64 x] w fun e w' => e = .returned (.int .i64 (hm p x xs)) ∧ w = w' := by
  have HR := Lib.hid hr
  have HL := Lib.hid hr.1
  have H := Lib.hid h
  have hn : n ≤ 9 := by have := h.2.1; have := hr.1; omega
  have p1 := h.1.2.1
  have p2 := h.1.1
  clear hr h
  go_enter Try.func120, Try.ntmps120
  go_wp2
  go_loop [7, 8] (fun s i => ∃ (k : Nat) (z : Int), k ≤ n ∧ i = .int .i64 (k - 1) ∧ s = .int .i64 z ∧ 0 ≤ z ∧ z ≤ p - 1 ∧ Hid (z = hm p x (xs.drop k))) (fun _ i => (intOf i + 1).toNat)
  case atStart => exact ⟨n, 0, Nat.le_refl _, by go_num, rfl, by omega, by omega, Lib.hid (by rw [List.drop_of_length_le (by have := HL.out; omega)]; rfl)⟩
  case round =>
    obtain ⟨k, z, hk, rfl, rfl, z1, z2, HZ⟩ := hrel
    rcases Nat.eq_zero_or_pos k with h0 | h0
    · subst h0
      have HZ2 : Hid (z = hm p x xs) := HZ
      go_wp2
      go_ret
      exact ⟨by rw [HZ2.out]; rfl, rfl⟩
    · obtain ⟨j, hj⟩ : ∃ j, j = k - 1 := ⟨_, rfl⟩
      have hkj : (k : Int) - 1 = (j : Int) := by omega
      have hjn : j < n := by omega
      obtain ⟨b, off, rfl, hb, hcell⟩ := HR.out.2.2.2 (by omega)
      have hy := hcell j hjn
      have hy0 := H.out.2.2.1 j (by have := HL.out; omega)
      obtain ⟨y, hye⟩ : ∃ y, y = xs.getD j 0 := ⟨_, rfl⟩
      rw [← hye] at hy hy0
      obtain ⟨y1, y2⟩ := hy0
      have ⟨m1, m2⟩ := mul97 z1 (by omega) x1 (by omega)
      have HN : Hid ((z * x + y) % p = hm p x (xs.drop j)) := Lib.hid (by rw [hm_step (by have := HL.out; omega), ← hye, ← show k = j + 1 by omega, ← HZ.out])
      have e1 := Int.emod_nonneg (z * x + y) (show p ≠ 0 by omega)
      have e2 := Int.emod_lt_of_pos (z * x + y) (show 0 < p by omega)
      have HY : Hid (y % p = y) := Lib.hid (Int.emod_eq_of_lt y1 (by omega))
      clear hye hcell hj
      rw [hkj]
      clear hkj
      generalize hq : z * x = q at *
      go_wp2_with (go_at_call 117; refine (mod_any _ _ (by omega) (by omega) _).mono ?_; rintro e w' ⟨rfl, rfl⟩; try rw [HY.out])
      go_round
      case rel => exact ⟨j, (q + y) % p, by omega, by go_num, rfl, e1, by omega, HN⟩
      case measure => simp only [intOf]; omega

/-- the roots below k -/
def rtP (p : Int) (xs : List Int) (k : Nat) : List Int := ((List.range k).map fun (i : Nat) => (i : Int)).filter fun x => hm p x xs == 0
theorem rtP_succ (p : Int) (xs : List Int) (k : Nat) : rtP p xs (k + 1) = rtP p xs k ++ (if hm p (k : Int) xs = 0 then [(k : Int)] else []) := by
  unfold rtP
  rw [List.range_succ, List.map_append, List.filter_append]
  by_cases h : hm p (k : Int) xs = 0 <;> simp [h]
theorem rtP_len (p : Int) (xs : List Int) (k : Nat) : (rtP p xs k).length ≤ k := by
  unfold rtP
  exact Nat.le_trans (List.length_filter_le _ _) (by simp)
/-- what RootsModular gives -/
def rmR (p : Int) (xs : List Int) : List Int × Int := if MOk p xs then (if 0 < xs.length then (rtP p xs p.toNat, 0) else ([], 4)) else ([], 1)
theorem rmR_len (p : Int) (xs : List Int) : (rmR p xs).1.length ≤ 1048576 := by
  unfold rmR
  split
  · rename_i h
    split
    · have h1 := rtP_len p xs p.toNat; have := h.1.1; show (rtP p xs p.toNat).length ≤ _; omega
    · simp
  · simp

set_option maxRecDepth 100000 in
set_option maxHeartbeats 800000 in
theorem l08Roots_any (p : Int) (A : Option Addr) (n c : Nat) (xs : List Int) (w : World) (hr : Rd .i64 w A n c xs) (h : MOk p xs) :
    Calls Try.prog 81 #[.int .i64 p, .slice A n c] w fun e w' => ∃ A' c', e = .returned (.slice A' (rtP p xs p.toNat).length c') ∧ OwnI w' w.heap.size A' (rtP p xs p.toNat).length c' (rtP p xs p.toNat) ∧ Below w.heap.size w w' := by
  obtain ⟨i0, hi, hz0, hz1, hz2⟩ := info_parts infoI64
  have HI := Lib.hid hi
  have HZ0 := Lib.hid hz0
  have HZ1 := Lib.hid hz1
  have HZ2 := Lib.hid hz2
  clear hi hz0 hz1 hz2
  have HR := Lib.hid hr
  have H := Lib.hid h
  have p1 := h.1.2.1
  have p2 := h.1.1
  obtain ⟨m, hm⟩ : ∃ m : Nat, m = p.toNat := ⟨_, rfl⟩
  have hpm : p = (m : Int) := by omega
  rw [← hm]
  subst hpm
  clear hr h hm
  go_enter Try.func81, Try.ntmps81
  go_wp2
  go_loopw [5, 6] (fun v i wr => ∃ (k : Nat) (L : List Int), k ≤ m ∧ i = .int .i64 k ∧ L.length ≤ k ∧ Hid (L = rtP (m : Int) xs k) ∧ Hid (wr.ownsRow w.heap.size 2 1 v L.length (L.map (Value.int .i64))) ∧ Hid (Below w.heap.size w wr)) (fun _ i _ => m - (intOf i).toNat)
  case atStart => exact ⟨0, [], by omega, rfl, by simp, Lib.hid rfl, Lib.hid (own_made w), Lib.hid (bl_alloc (Below.refl _ _) _)⟩
  case round =>
    obtain ⟨k, L, hk, rfl, hkl, HE, HO, HB⟩ := hrel
    by_cases hlt : k < m
    · have HR2 := Lib.hid (HR.out.below HB.out)
      obtain ⟨z, hz⟩ : ∃ z, z = hm (m : Int) (k : Int) xs := ⟨_, rfl⟩
      have hsucc := rtP_succ (m : Int) xs k
      rw [← hz, ← HE.out] at hsucc
      by_cases hz0 : z = 0
      · rw [if_pos hz0] at hsucc
        subst hz0
        have HZ := Lib.hid hz
        have HS := Lib.hid hsucc
        have HK := Lib.hid hkl
        have hl1 : L.length + 1 ≤ maxLen := by unfold maxLen; omega
        have hl2 : (L.length + 1) * 8 ≤ 140737488355328 := by omega
        clear hz hsucc hkl HE
        go_wp2_with (first | (go_at_call 119; refine (l08Value_any _ _ _ _ _ _ _ HR2.out H.out (by omega) (by omega)).mono ?_; rintro e w' ⟨rfl, rfl⟩; rw [← HZ.out]) | (at_builtin; refine wpList_append_own _ rfl _ _ _ rfl w.heap.size 2 i0 (.int .i64 0) 1 8 Try.underlying22 HI.out HZ0.out HZ1.out HZ2.out rfl (by decide) _ L.length (L.map (Value.int .i64)) rfl (HO.out.alloc _) ⟨wr.heap.size, 0, none⟩ 1 1 [.int .i64 (k : Int)] rfl rfl (cell_one_new _ _ _) (ints_one [(k : Int)]) hl1 hl2 (base_alloc2 HB.out _) ?_; intro v' w1 hown' hgrow _))
        have HO2 := Lib.hid (own_snoc hown')
        have HB2 : Hid (Below w.heap.size w w1) := Lib.hid ((bl_alloc HB.out _).grown hgrow (base_alloc2 HB.out _) (fun k hk => (HO.out.lt k hk).1))
        clear hown' hgrow HO HB hl1 hl2
        go_wp2
        go_roundw
        case rel => exact ⟨k + 1, L ++ [(k : Int)], by omega, by go_num, by have := HK.out; rw [List.length_append]; simp; omega, Lib.hid HS.out.symm, HO2, HB2⟩
        case measure => simp [intOf]; omega
      · rw [if_neg hz0, List.append_nil] at hsucc
        have hz1 : (z == 0) = false := by simpa using hz0
        have HZ := Lib.hid hz
        have HS := Lib.hid hsucc
        clear hz hsucc HE hz0
        go_wp2_with (first | (go_at_call 119; refine (l08Value_any _ _ _ _ _ _ _ HR2.out H.out (by omega) (by omega)).mono ?_; rintro e w' ⟨rfl, rfl⟩; rw [← HZ.out]))
        go_roundw
        case rel => exact ⟨k + 1, L, by omega, by go_num, by omega, Lib.hid HS.out.symm, HO, HB⟩
        case measure => simp [intOf]; omega
    · obtain ⟨A', c', rfl, _⟩ := own_cells HO.out
      have HF : Hid (L = rtP (m : Int) xs m) := Lib.hid (by rw [HE.out]; congr 1; omega)
      clear hkl
      go_wp2
      go_ret
      exact ⟨A', c', by rw [← HF.out]; rfl, by rw [← HF.out]; exact OwnI.of_row HO.out, HB.out⟩

set_option maxRecDepth 100000 in
set_option maxHeartbeats 800000 in
theorem rootsBy_any (p : Int) (A : Option Addr) (n c : Nat) (xs : List Int) (w : World) (hr : Rd .i64 w A n c xs) (h : MOk p xs) :
    Calls Try.prog 82 #[.int .i64 p, .slice A n c] w fun e w' => ∃ A' c', e = .returned (.slice A' (rtP p xs p.toNat).length c') ∧ OwnI w' w.heap.size A' (rtP p xs p.toNat).length c' (rtP p xs p.toNat) ∧ Below w.heap.size w w' := by
  obtain ⟨i0, hi, hz0, hz1, hz2⟩ := info_parts infoI64
  have HI := Lib.hid hi
  have HZ0 := Lib.hid hz0
  have HZ1 := Lib.hid hz1
  have HZ2 := Lib.hid hz2
  clear hi hz0 hz1 hz2
  have HR := Lib.hid hr
  have H := Lib.hid h
  have p1 := h.1.2.1
  have p2 := h.1.1
  obtain ⟨m, hm⟩ : ∃ m : Nat, m = p.toNat := ⟨_, rfl⟩
  have hpm : p = (m : Int) := by omega
  rw [← hm]
  subst hpm
  clear hr h hm
  go_enter Try.func82, Try.ntmps82
  go_wp2
  go_loopw [5, 6, 8] (fun v _ i wr => ∃ (k : Nat) (L : List Int), k ≤ m ∧ i = .int .i64 k ∧ L.length ≤ k ∧ Hid (L = rtP (m : Int) xs k) ∧ Hid (wr.ownsRow w.heap.size 2 1 v L.length (L.map (Value.int .i64))) ∧ Hid (Below w.heap.size w wr)) (fun _ _ i _ => m - (intOf i).toNat)
  case atStart => exact ⟨0, [], by omega, rfl, by simp, Lib.hid rfl, Lib.hid (World.ownsRow_nil _ _ _ _), Lib.hid (Below.refl _ _)⟩
  case round =>
    obtain ⟨k, L, hk, rfl, hkl, HE, HO, HB⟩ := hrel
    by_cases hlt : k < m
    · have HR2 := Lib.hid (HR.out.below HB.out)
      obtain ⟨z, hz⟩ : ∃ z, z = hm (m : Int) (k : Int) xs := ⟨_, rfl⟩
      have hsucc := rtP_succ (m : Int) xs k
      rw [← hz, ← HE.out] at hsucc
      by_cases hz0 : z = 0
      · rw [if_pos hz0] at hsucc
        subst hz0
        have HZ := Lib.hid hz
        have HS := Lib.hid hsucc
        have HK := Lib.hid hkl
        have hl1 : L.length + 1 ≤ maxLen := by unfold maxLen; omega
        have hl2 : (L.length + 1) * 8 ≤ 140737488355328 := by omega
        clear hz hsucc hkl HE
        go_wp2_with (first | (go_at_call 120; refine (valueBy_any _ _ _ _ _ _ _ HR2.out H.out (by omega) (by omega)).mono ?_; rintro e w' ⟨rfl, rfl⟩; rw [← HZ.out]) | (at_builtin; refine wpList_append_own _ rfl _ _ _ rfl w.heap.size 2 i0 (.int .i64 0) 1 8 Try.underlying22 HI.out HZ0.out HZ1.out HZ2.out rfl (by decide) _ L.length (L.map (Value.int .i64)) rfl (HO.out.alloc _) ⟨wr.heap.size, 0, none⟩ 1 1 [.int .i64 (k : Int)] rfl rfl (cell_one_new _ _ _) (ints_one [(k : Int)]) hl1 hl2 (base_alloc2 HB.out _) ?_; intro v' w1 hown' hgrow _))
        have HO2 := Lib.hid (own_snoc hown')
        have HB2 : Hid (Below w.heap.size w w1) := Lib.hid ((bl_alloc HB.out _).grown hgrow (base_alloc2 HB.out _) (fun k hk => (HO.out.lt k hk).1))
        clear hown' hgrow HO HB hl1 hl2
        go_wp2
        go_roundw
        case rel => exact ⟨k + 1, L ++ [(k : Int)], by omega, by go_num, by have := HK.out; rw [List.length_append]; simp; omega, Lib.hid HS.out.symm, HO2, HB2⟩
        case measure => simp [intOf]; omega
      · rw [if_neg hz0, List.append_nil] at hsucc
        have hz1 : (z == 0) = false := by simpa using hz0
        have HZ := Lib.hid hz
        have HS := Lib.hid hsucc
        clear hz hsucc HE hz0
        go_wp2_with (first | (go_at_call 120; refine (valueBy_any _ _ _ _ _ _ _ HR2.out H.out (by omega) (by omega)).mono ?_; rintro e w' ⟨rfl, rfl⟩; rw [← HZ.out]))
        go_roundw
        case rel => exact ⟨k + 1, L, by omega, by go_num, by omega, Lib.hid HS.out.symm, HO, HB⟩
        case measure => simp [intOf]; omega
    · obtain ⟨A', c', rfl, _⟩ := own_cells HO.out
      have HF : Hid (L = rtP (m : Int) xs m) := Lib.hid (by rw [HE.out]; congr 1; omega)
      clear hkl
      go_wp2
      go_ret
      exact ⟨A', c', by rw [← HF.out]; rfl, by rw [← HF.out]; exact OwnI.of_row HO.out, HB.out⟩

set_option maxHeartbeats 800000 in
theorem specRootsModular_any (p : Int) (A : Option Addr) (n c : Nat) (xs : List Int) (w : World) (hr : Rd .i64 w A n c xs) :
    Calls Try.prog 31 #[.int .i64 p, .slice A n c] w (Gives (rmR p xs) w) := by
  have HR := Lib.hid hr
  have HL := Lib.hid hr.1
  have hc0 := hr.2.1
  have hc1 := hr.2.2.1
  unfold maxLen at hc1
  clear hr
  by_cases h0 : MOk p xs
  · by_cases h1 : 0 < xs.length
    · have HE : Hid (rmR p xs = (rtP p xs p.toNat, 0)) := Lib.hid (by unfold rmR; rw [if_pos h0, if_pos h1])
      have H0 := Lib.hid h0
      have H1 := Lib.hid h1
      have hn0 : 0 < n := by have := HL.out; omega
      clear h0 h1
      go_enter Try.func31, Try.ntmps31
      go_wp2_with (first | (go_at_call 61; refine (specIsModular_yes _ _ _ _ _ _ HR.out H0.out).mono ?_; rintro e w' ⟨rfl, rfl⟩) | (go_at_call 81; refine (l08Roots_any _ _ _ _ _ _ HR.out H0.out).mono ?_; rintro e w1 ⟨A1, c1, rfl, ho, hb⟩; have HO := Lib.hid ho; have HB := Lib.hid hb; clear ho hb))
      go_ret2
      exact ⟨A1, c1, by rw [HE.out]; rfl, by rw [HE.out]; exact HO.out, HB.out⟩
    · have HE : Hid (rmR p xs = ([], 4)) := Lib.hid (by unfold rmR; rw [if_pos h0, if_neg h1])
      have H0 := Lib.hid h0
      have H1 := Lib.hid h1
      have hn0 : n = 0 := by have := HL.out; omega
      subst hn0
      clear h0 h1
      go_enter Try.func31, Try.ntmps31
      go_wp2_with (first | (go_at_call 61; refine (specIsModular_yes _ _ _ _ _ _ HR.out H0.out).mono ?_; rintro e w' ⟨rfl, rfl⟩) | fail)
      go_ret2
      exact ⟨none, 0, by rw [HE.out]; rfl, by rw [HE.out]; exact OwnI.nil _ _, by first | exact Below.refl _ _ | exact HB0.out⟩
  · have HE : Hid (rmR p xs = ([], 1)) := Lib.hid (by unfold rmR; rw [if_neg h0])
    have H0 := Lib.hid h0
    clear h0
    go_enter Try.func31, Try.ntmps31
    go_wp2_with (first | (go_at_call 61; refine (specIsModular_no _ _ _ _ _ _ HR.out H0.out).mono ?_; rintro e w' ⟨rfl, rfl⟩))
    go_ret2
    exact ⟨none, 0, by rw [HE.out]; rfl, by rw [HE.out]; exact OwnI.nil _ _, by first | exact Below.refl _ _ | exact HB0.out⟩

set_option maxHeartbeats 800000 in
theorem implRootsModular_any (p : Int) (A : Option Addr) (n c : Nat) (xs : List Int) (w : World) (hr : Rd .i64 w A n c xs) :
    Calls Try.prog 32 #[.int .i64 p, .slice A n c] w (Gives (rmR p xs) w) := by
  have HR := Lib.hid hr
  have HL := Lib.hid hr.1
  have hc0 := hr.2.1
  have hc1 := hr.2.2.1
  unfold maxLen at hc1
  clear hr
  by_cases h0 : MOk p xs
  · by_cases h1 : 0 < xs.length
    · have HE : Hid (rmR p xs = (rtP p xs p.toNat, 0)) := Lib.hid (by unfold rmR; rw [if_pos h0, if_pos h1])
      have H0 := Lib.hid h0
      have H1 := Lib.hid h1
      have hn0 : 0 < n := by have := HL.out; omega
      clear h0 h1
      go_enter Try.func32, Try.ntmps32
      go_wp2_with (first | (go_at_call 63; refine (implIsModular_yes _ _ _ _ _ _ HR.out H0.out).mono ?_; rintro e w0 ⟨rfl, hb0⟩; have HB0 := Lib.hid hb0; have HR0 := Lib.hid (HR.out.below hb0); clear hb0) | (go_at_call 82; refine (rootsBy_any _ _ _ _ _ _ HR0.out H0.out).mono ?_; rintro e w1 ⟨A1, c1, rfl, ho, hb⟩; have HO := Lib.hid ho; have HB := Lib.hid hb; clear ho hb))
      go_ret2
      exact ⟨A1, c1, by rw [HE.out]; rfl, by rw [HE.out]; exact own_lo HO.out HB0.out.size, bl_trans HB0.out HB.out⟩
    · have HE : Hid (rmR p xs = ([], 4)) := Lib.hid (by unfold rmR; rw [if_pos h0, if_neg h1])
      have H0 := Lib.hid h0
      have H1 := Lib.hid h1
      have hn0 : n = 0 := by have := HL.out; omega
      subst hn0
      clear h0 h1
      go_enter Try.func32, Try.ntmps32
      go_wp2_with (first | (go_at_call 63; refine (implIsModular_yes _ _ _ _ _ _ HR.out H0.out).mono ?_; rintro e w0 ⟨rfl, hb0⟩; have HB0 := Lib.hid hb0; have HR0 := Lib.hid (HR.out.below hb0); clear hb0) | fail)
      go_ret2
      exact ⟨none, 0, by rw [HE.out]; rfl, by rw [HE.out]; exact OwnI.nil _ _, by first | exact Below.refl _ _ | exact HB0.out⟩
  · have HE : Hid (rmR p xs = ([], 1)) := Lib.hid (by unfold rmR; rw [if_neg h0])
    have H0 := Lib.hid h0
    clear h0
    go_enter Try.func32, Try.ntmps32
    go_wp2_with (first | (go_at_call 63; refine (implIsModular_no _ _ _ _ _ _ HR.out H0.out).mono ?_; rintro e w0 ⟨rfl, hb0⟩; have HB0 := Lib.hid hb0; have HR0 := Lib.hid (HR.out.below hb0); clear hb0))
    go_ret2
    exact ⟨none, 0, by rw [HE.out]; rfl, by rw [HE.out]; exact OwnI.nil _ _, by first | exact Below.refl _ _ | exact HB0.out⟩

theorem walkExactRootsModular (a0 : Int) (A1 : Option Addr) (n1 c1 : Nat) (xs1 : List Int) (w : World) (_ : (Lit.int .i64 a0).wf = true) (hr1 : IsRow .i64 w A1 n1 c1 xs1) :
    Calls Try.prog 9 #[.int .i64 a0, .slice A1 n1 c1] w fun e w' => e = .returned (.bool true) ∧ Below w.heap.size w w' := by
  have hm1 := hr1.2.1
  have hc1 := hr1.1
  unfold maxLen at hm1
  have R1 := Lib.hid hr1.rd
  clear hr1
  by_cases hn1 : n1 ≤ 1048576
  · exact lawExactRootsModular a0 A1 n1 c1 xs1 (rmR a0 xs1).1 (rmR a0 xs1).2 w R1.out hn1 (rmR_len _ _)
      (fun _ _ _ h => specRootsModular_any _ _ _ _ _ _ h)
      (fun _ _ _ h => implRootsModular_any _ _ _ _ _ _ h)
  · go_enter Try.func9, Try.ntmps9
    go_wp2
    go_ret
    exact ⟨rfl, Below.refl _ _⟩

end Go.Proofs.Ytjipalcceflkfaa