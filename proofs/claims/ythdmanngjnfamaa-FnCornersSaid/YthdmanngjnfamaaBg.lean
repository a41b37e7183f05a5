
/- What the drawn laws share: the size of a code, its bytes, the comparisons of lists. -/
import Derived.Test.YthdmanngjnfamaaDrB
import Derived.Test.YthdmanngjnfamaaCopy
import Derived.Test.YthdmanngjnfamaaFlat
import Derived.Deep.QuietTactic
import Derived.BigQuiet
namespace Go.Proofs.Ythdmanngjnfamaa
open Go.RowKit Go.Joins

/-- a boxed pair -/
def Bx (w : World) (g : Nat) (u v : Int) : Prop := w.cell? ⟨g, 0, none⟩ = some (.int .i64 u) ∧ w.cell? ⟨g, 1, none⟩ = some (.int .i64 v)
theorem Bx.below {w w' : World} {g : Nat} {u v : Int} (h : Bx w g u v) (hb : Below w.heap.size w w') : Bx w' g u v := ⟨keep_cell hb h.1, keep_cell hb h.2⟩
theorem Bx.lt {w : World} {g : Nat} {u v : Int} (h : Bx w g u v) : g < w.heap.size := block_lt_of_cell h.1
theorem Bx.mk {w : World} {T : TypeId} {u v : Int} : Bx (w.alloc (.cells #[.int .i64 u, .int .i64 v] T)) w.heap.size u v := ⟨by simp [go_sem], by simp [go_sem]⟩
theorem Bx.new {w w' : World} {T : TypeId} {u v : Int} (hb : Below (w.alloc (.cells #[.int .i64 u, .int .i64 v] T)).heap.size (w.alloc (.cells #[.int .i64 u, .int .i64 v] T)) w') : Bx w' w.heap.size u v := Bx.below Bx.mk hb
theorem al_bel {w w' : World} {o : Obj} (hb : Below (w.alloc o).heap.size (w.alloc o) w') : Below w.heap.size w w' := bl_trans (bl_alloc (Below.refl _ _) _) hb
theorem bys_of {w : World} {A : Option Addr} {n c : Nat} {bs : List Int} (h : IsRow .u8 w A n c bs) : Bys bs := by
  intro i hi
  have h1 := h.2.2.2.1 (bs.getD i 0) (by simp [List.getD, List.getElem?_eq_getElem hi])
  exact bounds_u8 h1
theorem big_any (A : Option Addr) (n c : Nat) (w : World) :
    Calls Try.prog 16 #[.slice A n c] w fun e w' => e = .returned (.bool (decide (4096 < (n : Int)))) ∧ w = w' := by
  go_enter Try.func16, Try.ntmps16
  go_wp2
  go_ret
  exact ⟨rfl, rfl⟩
set_option maxHeartbeats 1600000 in
theorem likeInts_any (B : Option Addr) (N d : Nat) (B' : Option Addr) (d' : Nat) (zs : List Int) (w : World) (hr : Rd .i64 w B N d zs) (hr' : Rd .i64 w B' N d' zs) :
    Calls Try.prog 39 #[.slice B N d, .slice B' N d'] w fun e w' => e = .returned (.bool true) ∧ Below w.heap.size w w' := by
  have hm := hr.2.2.1
  have hc := hr.2.1
  unfold maxLen at hm
  have HR := Lib.hid hr
  have HR' := Lib.hid hr'
  clear hr hr'
  have hself : ((N : Int) != (N : Int)) = false := by simp
  go_enter Try.func39, Try.ntmps39
  go_wp2
  go_loopw [5] (fun j wr => ∃ k : Nat, k ≤ N ∧ j = .int .i64 k ∧ Hid (Below w.heap.size w wr)) (fun j _ => N - (intOf j).toNat)
  case atStart => exact ⟨0, Nat.zero_le _, rfl, Lib.hid (Below.refl _ _)⟩
  case round =>
    obtain ⟨k, hk, rfl, HB⟩ := hrel
    by_cases hlt : k < N
    · obtain ⟨b, off, rfl, _, hcell⟩ := HR.out.2.2.2 (by omega)
      obtain ⟨b', off', rfl, _, hcell'⟩ := HR'.out.2.2.2 (by omega)
      have h0 := keep_cell HB.out (hcell k hlt)
      have h0' := keep_cell HB.out (hcell' k hlt)
      generalize zs.getD k 0 = x at h0 h0'
      have f1 : (x != x) = false := by simp
      clear hcell hcell'
      go_wp2_with fail
      go_quiet (fail)
      go_wp2
      go_roundw
      case rel => exact ⟨k + 1, by omega, by go_num, Lib.hid (by repeat (first | exact HB.out | apply Below.drew | apply below_drewN))⟩
      case measure => simp [intOf]; omega
    · go_wp2
      go_ret
      exact ⟨rfl, HB.out⟩
set_option maxHeartbeats 1600000 in
theorem likeSlopes_any (B : Option Addr) (N d : Nat) (B' : Option Addr) (d' : Nat) (zs : List Int) (w : World) (hr : RdC 3 w B N d (zs.map (Value.int .i64))) (hr' : RdC 3 w B' N d' (zs.map (Value.int .i64))) :
    Calls Try.prog 50 #[.slice B N d, .slice B' N d'] w fun e w' => e = .returned (.bool true) ∧ Below w.heap.size w w' := by
  have hm := hr.2.2.1
  have hc := hr.2.1
  unfold maxLen at hm
  have HR := Lib.hid hr
  have HR' := Lib.hid hr'
  clear hr hr'
  have hself : ((N : Int) != (N : Int)) = false := by simp
  go_enter Try.func50, Try.ntmps50
  go_wp2
  go_loopw [5] (fun j wr => ∃ k : Nat, k ≤ N ∧ j = .int .i64 k ∧ Hid (Below w.heap.size w wr)) (fun j _ => N - (intOf j).toNat)
  case atStart => exact ⟨0, Nat.zero_le _, rfl, Lib.hid (Below.refl _ _)⟩
  case round =>
    obtain ⟨k, hk, rfl, HB⟩ := hrel
    by_cases hlt : k < N
    · obtain ⟨b, off, rfl, hcell⟩ := (HR.out.below HB.out).atF (by omega)
      obtain ⟨b', off', rfl, hcell'⟩ := (HR'.out.below HB.out).atF (by omega)
      have h0 := hcell (k * 3 + 0) (fl_lt hlt (by omega))
      rw [Nat.add_zero] at h0
      have h1 := hcell (k * 3 + 1) (fl_lt hlt (by omega))
      rw [← Nat.add_assoc] at h1
      have h2 := hcell (k * 3 + 2) (fl_lt hlt (by omega))
      rw [← Nat.add_assoc] at h2
      have h0' := hcell' (k * 3 + 0) (fl_lt hlt (by omega))
      rw [Nat.add_zero] at h0'
      have h1' := hcell' (k * 3 + 1) (fl_lt hlt (by omega))
      rw [← Nat.add_assoc] at h1'
      have h2' := hcell' (k * 3 + 2) (fl_lt hlt (by omega))
      rw [← Nat.add_assoc] at h2'
      generalize zs.getD (k * 3) 0 = x0 at h0 h0'
      generalize zs.getD (k * 3 + 1) 0 = x1 at h1 h1'
      generalize zs.getD (k * 3 + 2) 0 = x2 at h2 h2'
      have f0 : (x0 != x0) = false := by simp
      have f1 : (x1 != x1) = false := by simp
      have f2 : (x2 != x2) = false := by simp
      clear hcell hcell'
      go_wp2_with fail
      go_quiet (fail)
      go_wp2
      go_roundw
      case rel => exact ⟨k + 1, by omega, by go_num, Lib.hid (by repeat (first | exact HB.out | apply Below.drew | apply below_drewN))⟩
      case measure => simp [intOf]; omega
    · go_wp2
      go_ret
      exact ⟨rfl, HB.out⟩
set_option maxHeartbeats 1600000 in
theorem likeCorners_any (B : Option Addr) (N d : Nat) (B' : Option Addr) (d' : Nat) (zs : List Int) (w : World) (hr : RdC 2 w B N d (zs.map (Value.int .i64))) (hr' : RdC 2 w B' N d' (zs.map (Value.int .i64))) :
    Calls Try.prog 68 #[.slice B N d, .slice B' N d'] w fun e w' => e = .returned (.bool true) ∧ Below w.heap.size w w' := by
  have hm := hr.2.2.1
  have hc := hr.2.1
  unfold maxLen at hm
  have HR := Lib.hid hr
  have HR' := Lib.hid hr'
  clear hr hr'
  have hself : ((N : Int) != (N : Int)) = false := by simp
  go_enter Try.func68, Try.ntmps68
  go_wp2
  go_loopw [5] (fun j wr => ∃ k : Nat, k ≤ N ∧ j = .int .i64 k ∧ Hid (Below w.heap.size w wr)) (fun j _ => N - (intOf j).toNat)
  case atStart => exact ⟨0, Nat.zero_le _, rfl, Lib.hid (Below.refl _ _)⟩
  case round =>
    obtain ⟨k, hk, rfl, HB⟩ := hrel
    by_cases hlt : k < N
    · obtain ⟨b, off, rfl, hcell⟩ := (HR.out.below HB.out).atF (by omega)
      obtain ⟨b', off', rfl, hcell'⟩ := (HR'.out.below HB.out).atF (by omega)
      have h0 := hcell (k * 2 + 0) (fl_lt hlt (by omega))
      rw [Nat.add_zero] at h0
      have h1 := hcell (k * 2 + 1) (fl_lt hlt (by omega))
      rw [← Nat.add_assoc] at h1
      have h0' := hcell' (k * 2 + 0) (fl_lt hlt (by omega))
      rw [Nat.add_zero] at h0'
      have h1' := hcell' (k * 2 + 1) (fl_lt hlt (by omega))
      rw [← Nat.add_assoc] at h1'
      generalize zs.getD (k * 2) 0 = x0 at h0 h0'
      generalize zs.getD (k * 2 + 1) 0 = x1 at h1 h1'
      have f0 : (x0 != x0) = false := by simp
      have f1 : (x1 != x1) = false := by simp
      clear hcell hcell'
      go_wp2_with fail
      go_quiet (fail)
      go_wp2
      go_roundw
      case rel => exact ⟨k + 1, by omega, by go_num, Lib.hid (by repeat (first | exact HB.out | apply Below.drew | apply below_drewN))⟩
      case measure => simp [intOf]; omega
    · go_wp2
      go_ret
      exact ⟨rfl, HB.out⟩
end Go.Proofs.Ythdmanngjnfamaa
