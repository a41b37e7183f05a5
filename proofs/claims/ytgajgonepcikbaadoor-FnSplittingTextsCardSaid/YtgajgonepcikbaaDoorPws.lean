
/- The walks of the tests of prime powers. -/
import Derived.Test.YtgajgonepcikbaaDoorPrime
import Derived.Test.YtgajgonepcikbaaDoorPrimeSpec
import Derived.Test.YtgajgonepcikbaaDoorGcd
import Derived.Test.YtgajgonepcikbaaDoorFlat
import Derived.Deep.QuietTactic
import Derived.BigQuiet
import Derived.IntWalk
namespace Go.Proofs.YtgajgonepcikbaaDoor
open Go.RowKit

def pP (zs : List Int) (k : Nat) : Int := zs.getD (k * 2) 0
def pE (zs : List Int) (k : Nat) : Int := zs.getD (k * 2 + 1) 0
/-- the k-th prime power is one, and behind the one ahead of it -/
def PwK (zs : List Int) (k : Nat) : Prop := (Pr (pP zs k) ∧ pP zs k ≤ 1000000) ∧ (1 ≤ pE zs k ∧ pE zs k ≤ 40) ∧ (0 < k → pP zs (k - 1) < pP zs k)
def PwOk (zs : List Int) (n : Nat) : Prop := (∀ k, k < n → PwK zs k) ∧ n ≤ 60
noncomputable def pwB (zs : List Int) (n : Nat) : Bool := @decide (PwOk zs n) (Classical.propDecidable _)
theorem pwB_no {zs : List Int} {n k : Nat} (hk : k < n) (h : ¬ PwK zs k) : pwB zs n = false := by
  unfold pwB
  exact @decide_eq_false _ (Classical.propDecidable _) fun hs => h (hs.1 k hk)
theorem pwB_end {zs : List Int} {n : Nat} (h : ∀ k, k < n → PwK zs k) : pwB zs n = decide ((n : Int) ≤ 60) := by
  unfold pwB
  by_cases h60 : n ≤ 60
  · rw [decide_eq_true (show (n : Int) ≤ 60 by omega)]; exact @decide_eq_true _ (Classical.propDecidable _) ⟨h, h60⟩
  · rw [decide_eq_false (show ¬ (n : Int) ≤ 60 by omega)]; exact @decide_eq_false _ (Classical.propDecidable _) fun hs => h60 hs.2
theorem quietL {P : Program} {f : FuncId} {vs : Array Value} {w : World} {v : Value} (h : Calls P f vs w fun e w' => e = .returned v ∧ w = w') : Calls P f vs w fun e w' => e = .returned v ∧ w' = w := h.mono fun _ _ h => ⟨h.1, h.2.symm⟩
theorem ret_bool2 {a : Bool} (h : a = false) : Ending.returned (.bool false) = .returned (.bool a) := by rw [h]

set_option maxRecDepth 100000 in
set_option maxHeartbeats 4000000 in
theorem arePowers_any (A : Option Addr) (n c : Nat) (zs : List Int) (w : World) (hr : RdC 2 w A n c (zs.map (Value.int .i64))) :
    Calls Tryd.prog 70 #[.slice A n c] w fun e w' => e = .returned (.bool (pwB zs n)) ∧ Below w.heap.size w w' := by
  have HR := Lib.hid hr
  have hc := hr.2.1
  have hm := hr.2.2.1
  unfold maxLen at hm
  clear hr
  go_enter Tryd.func70, Tryd.ntmps70
  go_wp2
  go_loopw [3, 4, 7] (fun _ _ i wr => ∃ k : Nat, k ≤ n ∧ i = .int .i64 k ∧ Hid (∀ i, i < k → PwK zs i) ∧ Hid (Below w.heap.size w wr)) (fun _ _ i _ => n - (intOf i).toNat)
  case atStart => exact ⟨0, Nat.zero_le _, rfl, Lib.hid (fun i hi => absurd hi (Nat.not_lt_zero _)), Lib.hid (Below.refl _ _)⟩
  case round =>
    obtain ⟨k, hk, rfl, HN, HB⟩ := hrel
    by_cases hlt : k < n
    · obtain ⟨b, off, rfl, hcell⟩ := (HR.out.below HB.out).atF (by omega)
      have h0 := hcell (k * 2 + 0) (fl_lt hlt (by omega))
      rw [Nat.add_zero] at h0
      have h1 := hcell (k * 2 + 1) (fl_lt hlt (by omega))
      rw [← Nat.add_assoc] at h1
      obtain ⟨p, pe⟩ : ∃ x, x = pP zs k := ⟨_, rfl⟩
      obtain ⟨q, qe⟩ : ∃ x, x = pE zs k := ⟨_, rfl⟩
      change _ = some (Value.int .i64 (pP zs k)) at h0
      change _ = some (Value.int .i64 (pE zs k)) at h1
      rw [← pe] at h0
      rw [← qe] at h1
      have hbk := block_lt_of_cell h0
      have hbk2 : b < wr.heap.size + 1 := by omega
      by_cases c1 : Pr p ∧ p ≤ 1000000
      · have HP := Lib.hid c1
        by_cases c2 : 1 ≤ q ∧ q ≤ 40
        · have hq : (decide (1 ≤ q) && decide (q ≤ 40)) = true := by simp; omega
          have hq1 : decide (1 ≤ q) = true := by simp; omega
          have hq2 : decide (q ≤ 40) = true := by simp; omega
          by_cases k0 : k = 0
          · have HN2 : Hid (∀ i, i < k + 1 → PwK zs i) := Lib.hid (fun i hi => by
              by_cases e : i = k
              · subst e; exact ⟨by rw [← pe]; exact c1, by rw [← qe]; exact c2, fun h => absurd h (by omega)⟩
              · exact HN.out i (by omega))
            have hd0 : decide (0 < k) = false := by simp; omega
            clear pe qe hcell c1 c2 k0
            go_wp2_with fail
            go_quiet (first | ((go_at_call 115; exact Calls.quiet_of_same (quietL (implIsPrime_yes p HP.out.1 HP.out.2 _)))) | ((go_at_call 90; exact Calls.quiet_of_same (quietL (within_any _ _ _ _)))))
            go_wp2
            go_roundw
            case rel => exact ⟨k + 1, by omega, by go_num, HN2, Lib.hid (by repeat (first | exact HB.out | apply Below.drew | apply below_drewN | refine bl_alloc ?_ _))⟩
            case measure => simp [intOf]; omega
          · have p1 := hcell ((k - 1) * 2 + 0) (fl_lt (show k - 1 < n by omega) (by omega))
            rw [Nat.add_zero] at p1
            obtain ⟨p', pe'⟩ : ∃ x, x = pP zs (k - 1) := ⟨_, rfl⟩
            change _ = some (Value.int .i64 (pP zs (k - 1))) at p1
            rw [← pe'] at p1
            have i1 : (0 : Int) ≤ (k : Int) - 1 := by omega
            have i2 : (k : Int) - 1 < (n : Int) := by omega
            have i4 : (1 : Int) ≤ (k : Int) := by omega
            have i5 : 0 < k := by omega
            have i3 : decide (0 < k) = true := by simp; omega
            by_cases c3 : p' < p
            · have HN2 : Hid (∀ i, i < k + 1 → PwK zs i) := Lib.hid (fun i hi => by
                by_cases e : i = k
                · subst e; exact ⟨by rw [← pe]; exact c1, by rw [← qe]; exact c2, fun _ => by rw [← pe, ← pe']; exact c3⟩
                · exact HN.out i (by omega))
              have hd : decide (p ≤ p') = false := by simp; omega
              clear pe qe pe' hcell c1 c2 c3
              have e3 : IntKind.i64.wrap ((k : Int) - 1) = (k : Int) - 1 := IntWalk.i64_in _ (by omega)
              go_wp2_with fail
              go_quiet (first | ((go_at_call 115; exact Calls.quiet_of_same (quietL (implIsPrime_yes p HP.out.1 HP.out.2 _)))) | ((go_at_call 90; exact Calls.quiet_of_same (quietL (within_any _ _ _ _)))))
              clear e3
              go_wp2
              go_roundw
              case rel => exact ⟨k + 1, by omega, by go_num, HN2, Lib.hid (by repeat (first | exact HB.out | apply Below.drew | apply below_drewN | refine bl_alloc ?_ _))⟩
              case measure => simp [intOf]; omega
            · have HF : Hid (pwB zs n = false) := Lib.hid (pwB_no hlt (fun h => c3 (by rw [pe, pe']; exact h.2.2 i5)))
              have hd : decide (p ≤ p') = true := by simp; omega
              clear pe qe pe' hcell c1 c2 c3
              have e3 : IntKind.i64.wrap ((k : Int) - 1) = (k : Int) - 1 := IntWalk.i64_in _ (by omega)
              go_wp2_with fail
              go_quiet (first | ((go_at_call 115; exact Calls.quiet_of_same (quietL (implIsPrime_yes p HP.out.1 HP.out.2 _)))) | ((go_at_call 90; exact Calls.quiet_of_same (quietL (within_any _ _ _ _)))))
              clear e3
              go_wp2
              go_ret
              exact ⟨ret_bool2 HF.out, (by repeat (first | exact HB.out | apply Below.drew | apply below_drewN | refine bl_alloc ?_ _))⟩
        · have HF : Hid (pwB zs n = false) := Lib.hid (pwB_no hlt (fun h => c2 (by rw [qe]; exact h.2.1)))
          have hq : (decide (1 ≤ q) && decide (q ≤ 40)) = false := by simp; omega
          clear pe qe hcell c1 c2
          go_wp2_with fail
          go_quiet (first | ((go_at_call 115; exact Calls.quiet_of_same (quietL (implIsPrime_yes p HP.out.1 HP.out.2 _)))) | ((go_at_call 90; exact Calls.quiet_of_same (quietL (within_any _ _ _ _)))))
          go_wp2
          go_ret
          exact ⟨ret_bool2 HF.out, (by repeat (first | exact HB.out | apply Below.drew | apply below_drewN | refine bl_alloc ?_ _))⟩
      · have HP := Lib.hid c1
        have HF : Hid (pwB zs n = false) := Lib.hid (pwB_no hlt (fun h => c1 (by rw [pe]; exact h.1)))
        clear pe qe hcell c1
        go_wp2_with fail
        go_quiet (first | ((go_at_call 115; exact Calls.quiet_of_same (quietL (implIsPrime_no p HP.out _)))) | ((go_at_call 90; exact Calls.quiet_of_same (quietL (within_any _ _ _ _)))))
        go_wp2
        go_ret
        exact ⟨ret_bool2 HF.out, (by repeat (first | exact HB.out | apply Below.drew | apply below_drewN | refine bl_alloc ?_ _))⟩
    · have HF : Hid (pwB zs n = decide ((n : Int) ≤ 60)) := Lib.hid (pwB_end (fun i hi => HN.out i (by omega)))
      go_wp2
      go_ret
      exact ⟨by rw [HF.out]; rfl, HB.out⟩

set_option maxRecDepth 100000 in
set_option maxHeartbeats 4000000 in
theorem l01Powers_any (A : Option Addr) (n c : Nat) (zs : List Int) (w : World) (hr : RdC 2 w A n c (zs.map (Value.int .i64))) :
    Calls Tryd.prog 67 #[.slice A n c] w fun e w' => e = .returned (.bool (pwB zs n)) ∧ Below w.heap.size w w' := by
  have HR := Lib.hid hr
  have hc := hr.2.1
  have hm := hr.2.2.1
  unfold maxLen at hm
  clear hr
  go_enter Tryd.func67, Tryd.ntmps67
  go_wp2
  go_loopw [3] (fun i wr => ∃ k : Nat, k ≤ n ∧ i = .int .i64 k ∧ Hid (∀ i, i < k → PwK zs i) ∧ Hid (Below w.heap.size w wr)) (fun i _ => n - (intOf i).toNat)
  case atStart => exact ⟨0, Nat.zero_le _, rfl, Lib.hid (fun i hi => absurd hi (Nat.not_lt_zero _)), Lib.hid (Below.refl _ _)⟩
  case round =>
    obtain ⟨k, hk, rfl, HN, HB⟩ := hrel
    by_cases hlt : k < n
    · obtain ⟨b, off, rfl, hcell⟩ := (HR.out.below HB.out).atF (by omega)
      have h0 := hcell (k * 2 + 0) (fl_lt hlt (by omega))
      rw [Nat.add_zero] at h0
      have h1 := hcell (k * 2 + 1) (fl_lt hlt (by omega))
      rw [← Nat.add_assoc] at h1
      obtain ⟨p, pe⟩ : ∃ x, x = pP zs k := ⟨_, rfl⟩
      obtain ⟨q, qe⟩ : ∃ x, x = pE zs k := ⟨_, rfl⟩
      change _ = some (Value.int .i64 (pP zs k)) at h0
      change _ = some (Value.int .i64 (pE zs k)) at h1
      rw [← pe] at h0
      rw [← qe] at h1
      have hbk := block_lt_of_cell h0
      have hbk2 : b < wr.heap.size + 1 := by omega
      by_cases c1 : Pr p ∧ p ≤ 1000000
      · have HP := Lib.hid c1
        by_cases c2 : 1 ≤ q ∧ q ≤ 40
        · have hq : (decide (1 ≤ q) && decide (q ≤ 40)) = true := by simp; omega
          have hq1 : decide (1 ≤ q) = true := by simp; omega
          have hq2 : decide (q ≤ 40) = true := by simp; omega
          by_cases k0 : k = 0
          · have HN2 : Hid (∀ i, i < k + 1 → PwK zs i) := Lib.hid (fun i hi => by
              by_cases e : i = k
              · subst e; exact ⟨by rw [← pe]; exact c1, by rw [← qe]; exact c2, fun h => absurd h (by omega)⟩
              · exact HN.out i (by omega))
            have hd0 : decide (0 < k) = false := by simp; omega
            clear pe qe hcell c1 c2 k0
            go_wp2_with fail
            go_quiet (first | ((go_at_call 114; exact Calls.quiet_of_same (quietL (specIsPrime_yes p HP.out.1 HP.out.2 _)))) | ((go_at_call 103; exact Calls.quiet_of_same (quietL (l01In_any _ _ _ _)))))
            go_wp2
            go_roundw
            case rel => exact ⟨k + 1, by omega, by go_num, HN2, Lib.hid (by repeat (first | exact HB.out | apply Below.drew | apply below_drewN | refine bl_alloc ?_ _))⟩
            case measure => simp [intOf]; omega
          · have p1 := hcell ((k - 1) * 2 + 0) (fl_lt (show k - 1 < n by omega) (by omega))
            rw [Nat.add_zero] at p1
            obtain ⟨p', pe'⟩ : ∃ x, x = pP zs (k - 1) := ⟨_, rfl⟩
            change _ = some (Value.int .i64 (pP zs (k - 1))) at p1
            rw [← pe'] at p1
            have i1 : (0 : Int) ≤ (k : Int) - 1 := by omega
            have i2 : (k : Int) - 1 < (n : Int) := by omega
            have i4 : (1 : Int) ≤ (k : Int) := by omega
            have i5 : 0 < k := by omega
            have i3 : decide (0 < k) = true := by simp; omega
            by_cases c3 : p' < p
            · have HN2 : Hid (∀ i, i < k + 1 → PwK zs i) := Lib.hid (fun i hi => by
                by_cases e : i = k
                · subst e; exact ⟨by rw [← pe]; exact c1, by rw [← qe]; exact c2, fun _ => by rw [← pe, ← pe']; exact c3⟩
                · exact HN.out i (by omega))
              have hd : decide (p ≤ p') = false := by simp; omega
              clear pe qe pe' hcell c1 c2 c3
              have e3 : IntKind.i64.wrap ((k : Int) - 1) = (k : Int) - 1 := IntWalk.i64_in _ (by omega)
              go_wp2_with fail
              go_quiet (first | ((go_at_call 114; exact Calls.quiet_of_same (quietL (specIsPrime_yes p HP.out.1 HP.out.2 _)))) | ((go_at_call 103; exact Calls.quiet_of_same (quietL (l01In_any _ _ _ _)))))
              clear e3
              go_wp2
              go_roundw
              case rel => exact ⟨k + 1, by omega, by go_num, HN2, Lib.hid (by repeat (first | exact HB.out | apply Below.drew | apply below_drewN | refine bl_alloc ?_ _))⟩
              case measure => simp [intOf]; omega
            · have HF : Hid (pwB zs n = false) := Lib.hid (pwB_no hlt (fun h => c3 (by rw [pe, pe']; exact h.2.2 i5)))
              have hd : decide (p ≤ p') = true := by simp; omega
              clear pe qe pe' hcell c1 c2 c3
              have e3 : IntKind.i64.wrap ((k : Int) - 1) = (k : Int) - 1 := IntWalk.i64_in _ (by omega)
              go_wp2_with fail
              go_quiet (first | ((go_at_call 114; exact Calls.quiet_of_same (quietL (specIsPrime_yes p HP.out.1 HP.out.2 _)))) | ((go_at_call 103; exact Calls.quiet_of_same (quietL (l01In_any _ _ _ _)))))
              clear e3
              go_wp2
              go_ret
              exact ⟨ret_bool2 HF.out, (by repeat (first | exact HB.out | apply Below.drew | apply below_drewN | refine bl_alloc ?_ _))⟩
        · have HF : Hid (pwB zs n = false) := Lib.hid (pwB_no hlt (fun h => c2 (by rw [qe]; exact h.2.1)))
          have hq : (decide (1 ≤ q) && decide (q ≤ 40)) = false := by simp; omega
          by_cases k0 : k = 0
          · have hd0 : decide (0 < k) = false := by simp; omega
            clear pe qe hcell c1 c2 k0
            go_wp2_with fail
            go_quiet (first | ((go_at_call 114; exact Calls.quiet_of_same (quietL (specIsPrime_yes p HP.out.1 HP.out.2 _)))) | ((go_at_call 103; exact Calls.quiet_of_same (quietL (l01In_any _ _ _ _)))))
            go_wp2
            go_ret
            exact ⟨ret_bool2 HF.out, (by repeat (first | exact HB.out | apply Below.drew | apply below_drewN | refine bl_alloc ?_ _))⟩
          · have p1 := hcell ((k - 1) * 2 + 0) (fl_lt (show k - 1 < n by omega) (by omega))
            rw [Nat.add_zero] at p1
            obtain ⟨p', pe'⟩ : ∃ x, x = pP zs (k - 1) := ⟨_, rfl⟩
            change _ = some (Value.int .i64 (pP zs (k - 1))) at p1
            rw [← pe'] at p1
            have i1 : (0 : Int) ≤ (k : Int) - 1 := by omega
            have i2 : (k : Int) - 1 < (n : Int) := by omega
            have i4 : (1 : Int) ≤ (k : Int) := by omega
            have i5 : 0 < k := by omega
            have i3 : decide (0 < k) = true := by simp; omega
            by_cases c3 : p' < p
            · have hd : decide (p ≤ p') = false := by simp; omega
              clear pe qe pe' hcell c1 c2 c3
              have e3 : IntKind.i64.wrap ((k : Int) - 1) = (k : Int) - 1 := IntWalk.i64_in _ (by omega)
              go_wp2_with fail
              go_quiet (first | ((go_at_call 114; exact Calls.quiet_of_same (quietL (specIsPrime_yes p HP.out.1 HP.out.2 _)))) | ((go_at_call 103; exact Calls.quiet_of_same (quietL (l01In_any _ _ _ _)))))
              clear e3
              go_wp2
              go_ret
              exact ⟨ret_bool2 HF.out, (by repeat (first | exact HB.out | apply Below.drew | apply below_drewN | refine bl_alloc ?_ _))⟩
            · have hd : decide (p ≤ p') = true := by simp; omega
              clear pe qe pe' hcell c1 c2 c3
              have e3 : IntKind.i64.wrap ((k : Int) - 1) = (k : Int) - 1 := IntWalk.i64_in _ (by omega)
              go_wp2_with fail
              go_quiet (first | ((go_at_call 114; exact Calls.quiet_of_same (quietL (specIsPrime_yes p HP.out.1 HP.out.2 _)))) | ((go_at_call 103; exact Calls.quiet_of_same (quietL (l01In_any _ _ _ _)))))
              clear e3
              go_wp2
              go_ret
              exact ⟨ret_bool2 HF.out, (by repeat (first | exact HB.out | apply Below.drew | apply below_drewN | refine bl_alloc ?_ _))⟩
      · have HP := Lib.hid c1
        have HF : Hid (pwB zs n = false) := Lib.hid (pwB_no hlt (fun h => c1 (by rw [pe]; exact h.1)))
        clear pe qe hcell c1
        go_wp2_with fail
        go_quiet (first | ((go_at_call 114; exact Calls.quiet_of_same (quietL (specIsPrime_no p HP.out _)))) | ((go_at_call 103; exact Calls.quiet_of_same (quietL (l01In_any _ _ _ _)))))
        go_wp2
        go_ret
        exact ⟨ret_bool2 HF.out, (by repeat (first | exact HB.out | apply Below.drew | apply below_drewN | refine bl_alloc ?_ _))⟩
    · have HF : Hid (pwB zs n = decide ((n : Int) ≤ 60)) := Lib.hid (pwB_end (fun i hi => HN.out i (by omega)))
      go_wp2
      go_ret
      exact ⟨by rw [HF.out]; rfl, HB.out⟩
end Go.Proofs.YtgajgonepcikbaaDoor
