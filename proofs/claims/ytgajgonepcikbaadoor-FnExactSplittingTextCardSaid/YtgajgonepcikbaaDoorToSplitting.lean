
/- The walks of the laws' copies of []Splitting, and of their size. -/
import Derived.Test.YtgajgonepcikbaaDoorSSplitting
import Derived.Test.YtgajgonepcikbaaDoorRowC
namespace Go.Proofs.YtgajgonepcikbaaDoor
open Go.RowKit

theorem infoSt : (Tryd.prog.info? 81).map (fun i => (i.zero, i.size, i.bytes)) = some (some (.agg #[.int .i64 0, .int .i64 0, .int .i64 0]), 3, 24) := by kernel_rfl
theorem szSplittingS_yes (A : Option Addr) (n c : Nat) (l : Int) (w : World) (h : (n : Int) ≤ l) (h2 : l ≤ 1048576) :
    Calls Tryd.prog 27 #[.slice A n c, .int .i64 l] w fun e w' => e = .returned (.int .i64 (l - (n : Int))) ∧ w = w' := by
  go_enter Tryd.func27, Tryd.ntmps27
  go_wp2
  go_ret
  exact ⟨rfl, rfl⟩
theorem szSplittingS_no (A : Option Addr) (n c : Nat) (l : Int) (w : World) (h : l < (n : Int)) (h0 : 0 ≤ l) (h2 : n ≤ 9223372036854775807) :
    Calls Tryd.prog 27 #[.slice A n c, .int .i64 l] w fun e w' => e = .returned (.int .i64 (-1)) ∧ w = w' := by
  go_enter Tryd.func27, Tryd.ntmps27
  go_wp2
  go_ret
  exact ⟨rfl, rfl⟩
theorem toSplitting_any (x y z : Int) (w : World) :
    Calls Tryd.prog 75 #[.agg #[.int .i64 x, .int .i64 y, .int .i64 z]] w fun e w' => e = .returned (.agg #[.int .i64 x, .int .i64 y, .int .i64 z]) ∧ Below w.heap.size w w' := by
  go_enter Tryd.func75, Tryd.ntmps75
  go_wp2
  exact bodyPost_ret (v := .agg #[.int .i64 x, .int .i64 y, .int .i64 z]) (by simp [results, Tryd.results75, go_sem]) rfl ⟨rfl, (by repeat (first | exact Below.refl _ _ | refine bl_alloc ?_ _))⟩

theorem made_Splitting (n : Nat) : (madeCells (Value.agg #[.int .i64 0, .int .i64 0, .int .i64 0]).cells (n * 3)).toList = List.replicate (n * 3) (.int .i64 0) := by
  apply List.ext_getElem
  · simp [madeCells]
  · intro i h1 h2
    have h3 : i % 3 = 0 ∨ i % 3 = 1 ∨ i % 3 = 2 := by omega
    simp [madeCells, Value.cells]
    rcases h3 with h3 | h3 | h3 <;> simp [h3]

theorem halfS_Splitting {xs : List Int} {k : Nat} {x y z : Int} (h : k * 3 + 2 < xs.length) (hx : x = xs.getD (k * 3) 0) (hy : y = xs.getD (k * 3 + 1) 0) (hz : z = xs.getD (k * 3 + 2) 0) : (((half xs (k * 3)).set (k * 3) (.int .i64 x)).set (k * 3 + 1) (.int .i64 y)).set (k * 3 + 2) (.int .i64 z) = half xs (k * 3 + 3) := by
  subst hx hy hz
  rw [half_set (by omega)]
  rw [half_set (by omega)]
  rw [half_set (by omega)]


theorem halfE_Splitting {xs : List Int} {k j : Nat} (h : k * 3 + 2 < xs.length) (hj : j < 3) : (half xs (k * 3))[k * 3 + j]? = some (.int .i64 0) := by
  unfold half
  rw [List.getElem?_map, List.getElem?_append_right (by rw [List.length_take]; omega), List.getElem?_replicate, if_pos (by rw [List.length_take]; omega)]
  rfl

set_option maxHeartbeats 1600000 in
theorem toSplittingS_any (A : Option Addr) (n c : Nat) (xs : List Int) (w : World) (hr : RdC 3 w A n c (xs.map (Value.int .i64))) (hn : n ≤ 1048576) :
    Calls Tryd.prog 29 #[.slice A n c] w fun e w' => e = .returned (.slice (some ⟨w.heap.size, 0, none⟩) n n) ∧ OwnC 81 3 w' w.heap.size (some ⟨w.heap.size, 0, none⟩) n n (xs.map (Value.int .i64)) ∧ Below w.heap.size w w' := by
  have hl0 := hr.flat
  have HR := Lib.hid hr
  have HL := Lib.hid hl0
  obtain ⟨i0, hi, hz0, hz1, hz2⟩ := info_parts infoSt
  clear hr hl0
  go_enter Tryd.func29, Tryd.ntmps29
  go_wp2_with (at_make; refine wpList_make_full _ rfl _ _ _ rfl w.heap.size 81 i0 (.agg #[.int .i64 0, .int .i64 0, .int .i64 0]) 3 Tryd.underlying44 hi hz0 hz1 .i64 .i64 n n n rfl rfl rfl rfl ?c1 ?c2 ?c3 ?_)
  case c1 => rw [hz2]; omega
  case c2 => unfold maxLen; omega
  case c3 => exact Nat.le_refl _
  intro w1 hown hg
  have hnx : Below w.heap.size w w1 := (Below.refl _ _).grown hg (Nat.le_refl _) (by simp)
  have HO : Hid (w1.ownsRow w.heap.size 81 3 (.slice (some ⟨w.heap.size, 0, none⟩) n n) n (half xs (0 * 3))) := Lib.hid (by
    rw [Nat.zero_mul, half_zero, HL.out, ← made_Splitting]
    exact hown)
  clear hown hg hi hz0 hz1 hz2
  have HX := Lib.hid hnx
  clear hnx
  go_wp2
  go_loopw [4] (fun j wr => ∃ k : Nat, k ≤ n ∧ j = .int .i64 k ∧ Hid (wr.ownsRow w.heap.size 81 3 (.slice (some ⟨w.heap.size, 0, none⟩) n n) n (half xs (k * 3))) ∧ Hid (Below w.heap.size w wr)) (fun j _ => n - (intOf j).toNat)
  case atStart => exact ⟨0, Nat.zero_le _, rfl, HO, HX⟩
  case round =>
    obtain ⟨k, hk, rfl, HW, HB⟩ := hrel
    by_cases hlt : k < n
    · obtain ⟨b, off, rfl, hcell⟩ := (HR.out.below HB.out).atF (by omega)
      have hfl := fl_lt (j := 2) hlt (show 2 < 3 by omega)
      have h0 := hcell (k * 3 + 0) (fl_lt hlt (by omega))
      rw [Nat.add_zero] at h0
      have h1 := hcell (k * 3 + 1) (fl_lt hlt (by omega))
      rw [← Nat.add_assoc] at h1
      have h2 := hcell (k * 3 + 2) (fl_lt hlt (by omega))
      rw [← Nat.add_assoc] at h2
      obtain ⟨x, xe⟩ : ∃ v, v = xs.getD (k * 3) 0 := ⟨_, rfl⟩
      rw [← xe] at h0
      obtain ⟨y, ye⟩ : ∃ v, v = xs.getD (k * 3 + 1) 0 := ⟨_, rfl⟩
      rw [← ye] at h1
      obtain ⟨z, ze⟩ : ∃ v, v = xs.getD (k * 3 + 2) 0 := ⟨_, rfl⟩
      rw [← ze] at h2
      have HLx : Hid (k * 3 + 2 < xs.length) := Lib.hid (by rw [HL.out]; exact hfl)
      have HEx : Hid (x = xs.getD (k * 3) 0) := Lib.hid xe
      have HEy : Hid (y = xs.getD (k * 3 + 1) 0) := Lib.hid ye
      have HEz : Hid (z = xs.getD (k * 3 + 2) 0) := Lib.hid ze
      clear hcell HO HX xe ye ze
      go_wp2_with (go_at_call 75; refine (toSplitting_any _ _ _ _).mono ?_; rintro e wt ⟨rfl, hbt⟩; have HWt := Lib.hid (HW.out.kept (row := none) ⟨hbt.os, hbt.tape, hbt.output, hbt.size, fun k hk _ => hbt.block k hk⟩ (by simp [Value.ownBlock])); have HBt := Lib.hid (bl_trans HB.out hbt); clear hbt; have ho0 := (HWt.out.cellAt (k * 3 + 0) (fl_lt hlt (by omega))).trans (halfE_Splitting HLx.out (by omega)); have hf0 := HWt.out.frozenAt (k * 3 + 0); have ho1 := (HWt.out.cellAt (k * 3 + 1) (fl_lt hlt (by omega))).trans (halfE_Splitting HLx.out (by omega)); have hf1 := HWt.out.frozenAt (k * 3 + 1); have ho2 := (HWt.out.cellAt (k * 3 + 2) (fl_lt hlt (by omega))).trans (halfE_Splitting HLx.out (by omega)); have hf2 := HWt.out.frozenAt (k * 3 + 2); rw [Nat.add_zero] at ho0 hf0; have HS := Lib.hid (((((HWt.out).stored (k * 3) (.int .i64 x)).1.stored (k * 3 + 1) (.int .i64 y)).1.stored (k * 3 + 2) (.int .i64 z))))
      go_roundw
      case rel => exact ⟨k + 1, by omega, by go_num, Lib.hid (by rw [Nat.succ_mul, ← halfS_Splitting HLx.out HEx.out HEy.out HEz.out]; exact HS.out.1), Lib.hid (bl_set (bl_set (bl_set HBt.out _ _ (Nat.le_refl _) _) _ _ (Nat.le_refl _) _) _ _ (Nat.le_refl _) _)⟩
      case measure => simp [intOf]; omega
    · have hkn : k = n := by omega
      go_wp2
      go_ret
      exact ⟨rfl, by have h := HW.out; rw [half_done (by rw [HL.out, hkn]; exact Nat.le_refl _)] at h; exact OwnC.of_row h, HB.out⟩

end Go.Proofs.YtgajgonepcikbaaDoor