
/- The walks of the laws' helpers on []Splitting. -/
import Derived.Test.YtgajgonepcikbaaDoorFlat
namespace Go.Proofs.YtgajgonepcikbaaDoor
open Go.RowKit

theorem eqSplitting_any (x y z : Int) (w : World) :
    Calls Tryd.prog 78 #[.agg #[.int .i64 x, .int .i64 y, .int .i64 z], .agg #[.int .i64 x, .int .i64 y, .int .i64 z]] w fun e w' => e = .returned (.bool true) ∧ Below w.heap.size w w' := by
  go_enter Tryd.func78, Tryd.ntmps78
  go_wp2
  go_ret
  exact ⟨rfl, bl_alloc (bl_alloc (Below.refl _ _) _) _⟩

set_option maxHeartbeats 1600000 in
theorem eqSplittingS_any (A : Option Addr) (n c : Nat) (A' : Option Addr) (c' : Nat) (zs : List Int) (w : World) (hr : RdC 3 w A n c (zs.map (Value.int .i64))) (hr' : RdC 3 w A' n c' (zs.map (Value.int .i64))) :
    Calls Tryd.prog 31 #[.slice A n c, .slice A' n c'] w fun e w' => e = .returned (.bool true) ∧ Below w.heap.size w w' := by
  have hm := hr.2.2.1
  have hc := hr.2.1
  unfold maxLen at hm
  have HR := Lib.hid hr
  have HR' := Lib.hid hr'
  clear hr hr'
  have hself : ((n : Int) != (n : Int)) = false := by simp
  go_enter Tryd.func31, Tryd.ntmps31
  go_wp2
  go_loopw [5] (fun j wr => ∃ k : Nat, k ≤ n ∧ j = .int .i64 k ∧ Hid (Below w.heap.size w wr)) (fun j _ => n - (intOf j).toNat)
  case atStart => exact ⟨0, Nat.zero_le _, rfl, Lib.hid (Below.refl _ _)⟩
  case round =>
    obtain ⟨k, hk, rfl, HB⟩ := hrel
    by_cases hlt : k < n
    · obtain ⟨b, off, rfl, hcell⟩ := (HR.out.below HB.out).atF (by omega)
      obtain ⟨b', off', rfl, hcell'⟩ := (HR'.out.below HB.out).atF (by omega)
      have h0 := hcell (k * 3 + 0) (fl_lt hlt (by omega))
      rw [Nat.add_zero] at h0
      have h1 := hcell (k * 3 + 1) (fl_lt hlt (by omega))
      rw [← Nat.add_assoc] at h1
      have h2 := hcell (k * 3 + 2) (fl_lt hlt (by omega))
      rw [← Nat.add_assoc] at h2
      have h0' := hcell' (k * 3 + 0) (fl_lt hlt (by omega))
      rw [Nat.add_zero] at h0'
      have h1' := hcell' (k * 3 + 1) (fl_lt hlt (by omega))
      rw [← Nat.add_assoc] at h1'
      have h2' := hcell' (k * 3 + 2) (fl_lt hlt (by omega))
      rw [← Nat.add_assoc] at h2'
      obtain ⟨x, xe⟩ : ∃ x, x = zs.getD (k * 3) 0 := ⟨_, rfl⟩
      rw [← xe] at h0 h0'
      obtain ⟨y, ye⟩ : ∃ y, y = zs.getD (k * 3 + 1) 0 := ⟨_, rfl⟩
      rw [← ye] at h1 h1'
      obtain ⟨z, ze⟩ : ∃ z, z = zs.getD (k * 3 + 2) 0 := ⟨_, rfl⟩
      rw [← ze] at h2 h2'
      clear hcell hcell' xe ye ze
      go_wp2
      go_region_with (go_at_call 78; refine (eqSplitting_any _ _ _ _).mono ?_; rintro e w1 ⟨rfl, hb1⟩)
      all_goals
        go_wp2
        go_roundw
        case rel => exact ⟨k + 1, by omega, by go_num, Lib.hid (bl_trans (below_drewN HB.out 1) hb1)⟩
        case measure => simp [intOf]; omega
    · go_wp2
      go_ret
      exact ⟨rfl, HB.out⟩

theorem mixedN_Splitting {xs : List Int} {k K : Int} {j : Nat} (h : j * 3 + 2 < xs.length) (hK : K = k + ((j * 3 : Nat) : Int)) : (((mixed xs k (j * 3)).set (j * 3) (K)).set (j * 3 + 1) (K + 1)).set (j * 3 + 2) (K + 1 + 1) = mixed xs k (j * 3 + 3) := by
  subst hK
  rw [mixed_set (by omega)]
  rw [show k + ((j * 3 : Nat) : Int) + 1 = k + ((j * 3 + 1 : Nat) : Int) by omega, mixed_set (by omega)]
  rw [show k + ((j * 3 + 1 : Nat) : Int) + 1 = k + ((j * 3 + 2 : Nat) : Int) by omega, mixed_set (by omega)]

set_option maxHeartbeats 1600000 in
theorem markSplittingS_any (lo : Nat) (A : Option Addr) (n c : Nat) (zs : List Int) (k : Int) (w : World) (h : OwnC 81 3 w lo A n c (zs.map (Value.int .i64))) (hn : n ≤ 1048576) (hk : 0 ≤ k) (hk2 : k ≤ 1073741824) :
    Calls Tryd.prog 41 #[.slice A n c, .int .i64 k] w fun e w' => e = .returned (.int .i64 (k + ((n * 3 : Nat) : Int))) ∧ OwnC 81 3 w' lo A n c ((mk k (n * 3)).map (Value.int .i64)) ∧ w.grownBy w' (rowOf A n) := by
  have HO := Lib.hid h
  have hl := Lib.hid h.flat
  clear h
  rcases Nat.eq_zero_or_pos n with h0 | h0
  · subst h0
    go_enter Tryd.func41, Tryd.ntmps41
    go_wp2
    refine wp_loop_rounds 1 ?_
    rw [rounds_succ]
    go_wp2
    go_ret
    exact ⟨ret_int (by simp), by rw [Nat.zero_mul]; exact (OwnC.nil HO.out.2.2.1 : OwnC _ _ _ _ _ 0 _ []), grown_refl _ _⟩
  obtain ⟨g, rfl, hg1, hg2⟩ := OwnC.form HO.out h0
  have HR : Hid (rowOf (some ⟨g, 0, none⟩) n = some g) := Lib.hid (by unfold rowOf; rw [if_neg (by omega)]; rfl)
  go_enter Tryd.func41, Tryd.ntmps41
  go_wp2
  go_loopw [1, 5] (fun kk i wr => ∃ (j : Nat) (K : Int), j ≤ n ∧ 0 ≤ K ∧ K ≤ 1073741824 + 3 * j ∧ Hid (K = k + ((j * 3 : Nat) : Int)) ∧ kk = .int .i64 K ∧ i = .int .i64 j ∧ Hid (OwnC 81 3 wr lo (some ⟨g, 0, none⟩) n c ((mixed zs k (j * 3)).map (Value.int .i64))) ∧ Hid (w.grownBy wr (some g))) (fun _ i _ => n - (intOf i).toNat)
  case atStart => exact ⟨0, k, Nat.zero_le _, hk, by omega, Lib.hid (by simp), rfl, rfl, Lib.hid (by rw [Nat.zero_mul, mixed_zero]; exact HO.out), Lib.hid (grown_refl _ _)⟩
  case round =>
    obtain ⟨j, K, hj, K1, K2, HK, rfl, rfl, HW, HG⟩ := hrel
    by_cases hlt : j < n
    · have hj0 := fl_lt (m := 3) hlt (show 0 < 3 by omega)
      have ⟨o0, f0⟩ := HW.out.atF (fl_lt (j := 0) hlt (show 0 < 3 by omega))
      have ⟨o1, f1⟩ := HW.out.atF (fl_lt (j := 1) hlt (show 1 < 3 by omega))
      have ⟨o2, f2⟩ := HW.out.atF (fl_lt (j := 2) hlt (show 2 < 3 by omega))
      obtain ⟨v0, e0⟩ : ∃ v, v = (mixed zs k (j * 3)).getD (j * 3 + 0) 0 := ⟨_, rfl⟩
      rw [← e0] at o0
      obtain ⟨v1, e1⟩ : ∃ v, v = (mixed zs k (j * 3)).getD (j * 3 + 1) 0 := ⟨_, rfl⟩
      rw [← e1] at o1
      obtain ⟨v2, e2⟩ : ∃ v, v = (mixed zs k (j * 3)).getD (j * 3 + 2) 0 := ⟨_, rfl⟩
      rw [← e2] at o2
      rw [Nat.add_zero] at o0 f0
      clear hj0 e0 e1 e2
      have HS := Lib.hid (((HW.out.setF h0 (j * 3) K).1.setF h0 (j * 3 + 1) (K + 1)).1.setF h0 (j * 3 + 2) (K + 1 + 1))
      have HG2 := Lib.hid (grown_trans (grown_trans (grown_trans (HG.out) ((HW.out.setF h0 (j * 3) K)).2) (((HW.out.setF h0 (j * 3) K).1.setF h0 (j * 3 + 1) (K + 1))).2) ((((HW.out.setF h0 (j * 3) K).1.setF h0 (j * 3 + 1) (K + 1)).1.setF h0 (j * 3 + 2) (K + 1 + 1))).2)
      go_wp2
      go_roundw
      case rel => exact ⟨j + 1, K + 1 + 1 + 1, by omega, by omega, by omega, Lib.hid (by have := HK.out; omega), rfl, by go_num, Lib.hid (by
          have := HS.out.1
          rw [mixedN_Splitting (by have := hl.out; have := fl_lt (j := 2) hlt (show 2 < 3 by omega); omega) HK.out] at this
          rw [Nat.succ_mul]; exact this), HG2⟩
      case measure => simp [intOf]; omega
    · have hjn : j = n := by omega
      subst hjn
      go_wp2
      go_ret
      exact ⟨ret_int HK.out, by have := HW.out; rw [mixed_all hl.out] at this; exact this, by rw [HR.out]; exact HG.out⟩

set_option maxHeartbeats 1600000 in
theorem heldSplittingS_any (A : Option Addr) (n c : Nat) (k : Int) (w : World) (h : RdC 3 w A n c ((mk k (n * 3)).map (Value.int .i64))) (hn : n ≤ 1048576) (hk : 0 ≤ k) (hk2 : k ≤ 1073741824) :
    Calls Tryd.prog 42 #[.slice A n c, .int .i64 k] w fun e w' => e = .returned (.int .i64 (k + ((n * 3 : Nat) : Int))) ∧ ∃ m, w' = w.drewN m := by
  have HR := Lib.hid h
  clear h
  rcases Nat.eq_zero_or_pos n with h0 | h0
  · subst h0
    go_enter Tryd.func42, Tryd.ntmps42
    go_wp2
    refine wp_loop_rounds 1 ?_
    rw [rounds_succ]
    go_wp2
    go_ret
    exact ⟨ret_int (by simp), 0, rfl⟩
  go_enter Tryd.func42, Tryd.ntmps42
  go_wp2
  go_loopw [1, 5] (fun kk i wr => ∃ (j : Nat) (K : Int) (q : Nat), j ≤ n ∧ 0 ≤ K ∧ K ≤ 1073741824 + 3 * j ∧ Hid (K = k + ((j * 3 : Nat) : Int)) ∧ kk = .int .i64 K ∧ i = .int .i64 j ∧ wr = w.drewN q) (fun _ i _ => n - (intOf i).toNat)
  case atStart => exact ⟨0, k, 0, Nat.zero_le _, hk, by omega, Lib.hid (by simp), rfl, rfl, rfl⟩
  case round =>
    obtain ⟨j, K, q, hj, K1, K2, HK, rfl, rfl, rfl⟩ := hrel
    by_cases hlt : j < n
    · obtain ⟨b, off, rfl, hcell⟩ := HR.out.atF h0
      have o0 := hcell (j * 3 + 0) (fl_lt hlt (by omega))
      rw [mk_at (fl_lt hlt (by omega)), show k + ((j * 3 + 0 : Nat) : Int) = K by have := HK.out; omega, Nat.add_zero] at o0
      have o1 := hcell (j * 3 + 1) (fl_lt hlt (by omega))
      rw [mk_at (fl_lt hlt (by omega)), show k + ((j * 3 + 1 : Nat) : Int) = K + 1 by have := HK.out; omega, ← Nat.add_assoc] at o1
      have o2 := hcell (j * 3 + 2) (fl_lt hlt (by omega))
      rw [mk_at (fl_lt hlt (by omega)), show k + ((j * 3 + 2 : Nat) : Int) = K + 1 + 1 by have := HK.out; omega, ← Nat.add_assoc] at o2
      clear hcell
      have n0 : ((K) != (K)) = false := by simp
      have n1 : ((K + 1) != (K + 1)) = false := by simp
      have n2 : ((K + 1 + 1) != (K + 1 + 1)) = false := by simp
      go_wp2
      go_roundw
      case rel => exact ⟨j + 1, K + 1 + 1 + 1, q, by omega, by omega, by omega, Lib.hid (by have := HK.out; omega), rfl, by go_num, rfl⟩
      case measure => simp [intOf]; omega
    · have hjn : j = n := by omega
      subst hjn
      go_wp2
      go_ret
      exact ⟨ret_int HK.out, q, rfl⟩

end Go.Proofs.YtgajgonepcikbaaDoor