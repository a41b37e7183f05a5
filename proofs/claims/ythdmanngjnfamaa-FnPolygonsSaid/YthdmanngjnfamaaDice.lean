
/- The dice of the laws: some number from 0 to n - 1. -/
import Derived.Test.YthdmanngjnfamaaSrc2
namespace Go.Proofs.Ythdmanngjnfamaa
open Go.RowKit

theorem and24 (x : Int) : 0 ≤ bits .and .u64 x 16777215 ∧ bits .and .u64 x 16777215 ≤ 16777215 := by
  have h : (BitVec.ofInt 64 x &&& BitVec.ofInt 64 16777215).toNat ≤ 16777215 := by
    rw [BitVec.toNat_and]
    exact Nat.le_trans Nat.and_le_right (by decide)
  have e : bits .and .u64 x 16777215 = ((BitVec.ofInt 64 x &&& BitVec.ofInt 64 16777215).toNat : Int) := by
    show IntKind.u64.wrap ((BitVec.ofInt 64 x &&& BitVec.ofInt 64 16777215).toNat : Int) = _
    rw [IntKind.wrap_u64]
    omega
  rw [e]
  omega
/-- dice over the code '.slice A n c' of the world W lie in block b -/
structure Di (W : World) (A : Option Addr) (n c : Nat) (bs : List Int) (b : Nat) (w : World) : Prop where
  rd : Rd .u8 W A n c bs
  by_ : Bys bs
  bel : Below W.heap.size W w
  lo : W.heap.size ≤ b
  c0 : w.cell? ⟨b, 0, none⟩ = some (.slice A n c)
  at_ : ∃ p : Nat, p ≤ n ∧ w.cell? ⟨b, 1, none⟩ = some (.int .i64 p)
  sd : ∃ s : Int, w.cell? ⟨b, 2, none⟩ = some (.int .u64 s)
  f1 : w.frozen? ⟨b, 1, none⟩ = false
  f2 : w.frozen? ⟨b, 2, none⟩ = false

set_option maxRecDepth 100000 in
set_option maxHeartbeats 1600000 in
theorem roll_any (A : Option Addr) (n c : Nat) (bs : List Int) (sd : Int) (w : World) (hr : Rd .u8 w A n c bs) (hb : Bys bs) :
    Calls Try.prog 42 #[.slice A n c, .int .u64 sd] w fun e w' => ∃ b, e = .returned (.pointer (some ⟨b, 0, none⟩)) ∧ Di w A n c bs b w' := by
  have HR := Lib.hid hr
  have HBy := Lib.hid hb
  have HL := Lib.hid hr.1
  have hc0 := hr.2.1
  have hc1 := hr.2.2.1
  unfold maxLen at hc1
  clear hr hb
  go_enter Try.func42, Try.ntmps42
  go_wp2
  go_loopw [6] (fun i wr => ∃ (k : Nat) (s : Int), k ≤ n ∧ i = .int .i64 k ∧ Hid (Below w.heap.size w wr) ∧ wr.cell? ⟨w.heap.size, 0, none⟩ = some (.slice A n c) ∧ wr.cell? ⟨w.heap.size, 1, none⟩ = some (.int .i64 0) ∧ wr.cell? ⟨w.heap.size, 2, none⟩ = some (.int .u64 s) ∧ wr.frozen? ⟨w.heap.size, 1, none⟩ = false ∧ wr.frozen? ⟨w.heap.size, 2, none⟩ = false) (fun i _ => n - (intOf i).toNat)
  case atStart => exact ⟨0, IntKind.u64.wrap (IntKind.u64.wrap (sd * 7919) + n), by omega, rfl, Lib.hid (by repeat (first | exact Below.refl _ _ | apply bl_alloc | apply Below.drew)), by simp [go_sem], by simp [go_sem], by simp [go_sem], by simp [go_sem], by simp [go_sem]⟩
  case round =>
    obtain ⟨k, s, hk, rfl, HB, c0, c1, c2, f1, f2⟩ := hrel
    by_cases hlt : k < n
    · obtain ⟨b, off, rfl, hb, hcell⟩ := HR.out.2.2.2 (by omega)
      have hx := keep_cell HB.out (hcell k hlt)
      have hx0 := HBy.out k (by have := HL.out; omega)
      have hne : ¬ b = w.heap.size := by omega
      obtain ⟨x, hxe⟩ : ∃ x, x = bs.getD k 0 := ⟨_, rfl⟩
      rw [← hxe] at hx hx0
      obtain ⟨x1, x2⟩ := hx0
      clear hcell hxe
      go_wp2
      go_region
      go_wp2
      go_roundw
      case rel => exact ⟨k + 1, IntKind.u64.wrap (IntKind.u64.wrap (IntKind.u64.wrap (s * 1099511628211) + x) + 3), by omega, by go_num, Lib.hid (bl_set (Below.drew HB.out) _ _ (Nat.le_refl _) _), by simp [go_sem, c0], by simp [go_sem, c1], by simp [go_sem, c2], by simp [go_sem, f1], by simp [go_sem, f2]⟩
      case measure => simp [intOf]; omega
    · go_wp2
      go_ret
      exact ⟨_, rfl, HR.out, HBy.out, HB.out, Nat.le_refl _, c0, ⟨0, by omega, c1⟩, ⟨s, c2⟩, f1, f2⟩
/-- what a throw leaves -/
def Dio (W : World) (A : Option Addr) (n c : Nat) (bs : List Int) (b : Nat) (w w' : World) : Prop := Di W A n c bs b w' ∧ w.grownBy w' (some b)
set_option maxRecDepth 100000 in
set_option maxHeartbeats 3200000 in
theorem below_any (W : World) (A : Option Addr) (n c : Nat) (bs : List Int) (b : Nat) (m : Int) (w : World) (h : Di W A n c bs b w) (hm : 1 ≤ m) (hm2 : m ≤ 1000) :
    Calls Try.prog 43 #[.pointer (some ⟨b, 0, none⟩), .int .i64 m] w fun e w' => ∃ x, e = .returned (.int .i64 x) ∧ (0 ≤ x ∧ x < m) ∧ Dio W A n c bs b w w' := by
  obtain ⟨hr, hby, hbel, hlo, c0, ⟨p, hp, c1⟩, ⟨s, c2⟩, f1, f2⟩ := h
  have HR := Lib.hid hr
  have HBy := Lib.hid hby
  have HL := Lib.hid hr.1
  have HB := Lib.hid hbel
  have hc0 := hr.2.1
  have hc1 := hr.2.2.1
  unfold maxLen at hc1
  clear hr hby hbel
  obtain ⟨h, hh⟩ : ∃ h, IntKind.u64.wrap (IntKind.u64.wrap (s * 6364136223846793005) + 1442695040888963407) = h := ⟨_, rfl⟩
  obtain ⟨y, hy⟩ : ∃ y, wrap64 (bits .and .u64 (h / 8589934592) 16777215) = y := ⟨_, rfl⟩
  have ⟨y1, y2⟩ : 0 ≤ y ∧ y ≤ 16777215 := by
    have ⟨a, b⟩ := and24 (h / 8589934592)
    rw [← hy]
    generalize bits .and .u64 (h / 8589934592) 16777215 = z at *
    unfold wrap64; omega
  by_cases hlt : p < n
  · obtain ⟨ab, off, rfl, hb, hcell⟩ := HR.out.2.2.2 (by omega)
    have hx := keep_cell HB.out (hcell p hlt)
    have hx0 := HBy.out p (by have := HL.out; omega)
    have hne : ¬ ab = b := by omega
    obtain ⟨x, hxe⟩ : ∃ x, x = bs.getD p 0 := ⟨_, rfl⟩
    rw [← hxe] at hx hx0
    obtain ⟨x1, x2⟩ := hx0
    clear hcell hxe
    have hp0 : (0 : Int) ≤ (p : Int) := by omega
    have hpn : (p : Int) < (n : Int) := by omega
    have r1 := Int.emod_nonneg (y + x) (show m ≠ 0 by omega)
    have r2 := Int.emod_lt_of_pos (y + x) (show 0 < m by omega)
    go_enter Try.func43, Try.ntmps43
    go_wp2
    go_region
    go_wp2
    go_region
    go_wp2
    go_ret
    exact ⟨_, rfl, ⟨r1, r2⟩, ⟨HR.out, HBy.out, by repeat (first | exact HB.out | apply Below.drew | refine Below.setCell ?_ hlo _), hlo, by simp [go_sem, c0], ⟨p + 1, by omega, by simp [go_sem, c1]⟩, ⟨h, by simp [go_sem, c2]⟩, by simp [go_sem, f1], by simp [go_sem, f2]⟩, by repeat (first | exact grown_refl _ _ | apply grown_drew | apply grown_set)⟩
  · have hpn : (n : Int) ≤ (p : Int) := by omega
    have r1 := Int.emod_nonneg y (show m ≠ 0 by omega)
    have r2 := Int.emod_lt_of_pos y (show 0 < m by omega)
    go_enter Try.func43, Try.ntmps43
    go_wp2
    go_region
    go_wp2
    go_ret
    exact ⟨_, rfl, ⟨r1, r2⟩, ⟨HR.out, HBy.out, by repeat (first | exact HB.out | apply Below.drew | refine Below.setCell ?_ hlo _), hlo, by simp [go_sem, c0], ⟨p, by omega, by simp [go_sem, c1]⟩, ⟨h, by simp [go_sem, c2]⟩, by simp [go_sem, f1], by simp [go_sem, f2]⟩, by repeat (first | exact grown_refl _ _ | apply grown_drew | apply grown_set)⟩
end Go.Proofs.Ythdmanngjnfamaa
