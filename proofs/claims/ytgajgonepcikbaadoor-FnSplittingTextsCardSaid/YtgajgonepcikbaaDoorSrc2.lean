
/- The draws of numbers off the source. -/
import Derived.Test.YtgajgonepcikbaaDoorSrc
namespace Go.Proofs.YtgajgonepcikbaaDoor
open Go.RowKit

theorem grown_block {w w' : World} {b g : Nat} (h : w.grownBy w' (some b)) (hg : g < w.heap.size) (hne : g ≠ b) : w'.heap[g]? = w.heap[g]? := h.block g hg (fun e => hne (by cases e; rfl))
theorem grown_cell {w w' : World} {b g : Nat} (h : w.grownBy w' (some b)) (hg : g < w.heap.size) (hne : g ≠ b) (j : Nat) : w'.cell? ⟨g, j, none⟩ = w.cell? ⟨g, j, none⟩ := by
  simp only [World.cell?]; rw [grown_block h hg hne]
theorem Drew.trans {W : World} {A : Option Addr} {n c : Nat} {bs : List Int} {b : Nat} {w w1 w2 : World} (h : Drew W A n c bs b w w1) (h2 : Drew W A n c bs b w1 w2) : Drew W A n c bs b w w2 := ⟨h2.1, grown_trans h.2 h2.2⟩
theorem Sr.alloc {W : World} {A : Option Addr} {n c : Nat} {bs : List Int} {b : Nat} {w : World} (h : Sr W A n c bs b w) (o : Obj) : Sr W A n c bs b (w.alloc o) := by
  have hb : b < w.heap.size := block_lt_of_cell' h.c0
  have kc : ∀ (j : Nat) (v : Value), w.cell? ⟨b, j, none⟩ = some v → (w.alloc o).cell? ⟨b, j, none⟩ = some v := fun j v e => keep_cell (bl_alloc (Below.refl _ _) o) e
  obtain ⟨p, hp, c1⟩ := h.at_
  obtain ⟨s, s1, s2, c2⟩ := h.sd
  exact ⟨h.rd, h.by_, h.bel.alloc h.bel.size o, h.lo, kc 0 _ h.c0, ⟨p, hp, kc 1 _ c1⟩, ⟨s, s1, s2, kc 2 _ c2⟩, keep_fr (bl_alloc (Below.refl _ _) o) c1 h.f1, keep_fr (bl_alloc (Below.refl _ _) o) c2 h.f2⟩

set_option maxHeartbeats 800000 in
theorem l01Pick_any (W : World) (A : Option Addr) (n c : Nat) (bs : List Int) (b g k : Nat) (ys : List Int) (w : World) (h : Sr W A n c bs b w) (hk : 0 < k) (hk2 : k ≤ 1000) (hg : g < w.heap.size) (hne : g ≠ b)
    (hcell : ∀ j, j < k → w.cell? ⟨g, j, none⟩ = some (.int .i64 (ys.getD j 0))) :
    Calls Tryd.prog 98 #[.pointer (some ⟨b, 0, none⟩), .slice (some ⟨g, 0, none⟩) k k] w fun e w' => ∃ i, i < k ∧ e = .returned (.int .i64 (ys.getD i 0)) ∧ Drew W A n c bs b w w' := by
  have H := Lib.hid h
  have HC := Lib.hid hcell
  clear h hcell
  go_enter Tryd.func98, Tryd.ntmps98
  go_wp2_with fail
  refine (l01Next_any _ A n c bs b (k : Int) w H.out).mono ?_
  rintro e w1 ⟨x, rfl, hx1, hx2, hd⟩
  have HD := Lib.hid hd
  obtain ⟨i, rfl, hi⟩ : ∃ i : Nat, x = (i : Int) ∧ i < k := by
    by_cases h1 : 1 < k
    · have := hx2 (by omega); exact ⟨x.toNat, by omega, by omega⟩
    · have := hx1 (by omega); exact ⟨0, by omega, hk⟩
  have hc := (grown_cell hd.2 hg hne i).trans (HC.out i hi)
  obtain ⟨y, hy⟩ : ∃ y, y = ys.getD i 0 := ⟨_, rfl⟩
  rw [← hy] at hc
  have HY := Lib.hid hy
  clear hx1 hx2 hd hy
  go_wp2
  go_ret
  exact ⟨i, hi, by rw [← HY.out]; rfl, HD.out⟩

theorem grown_alloc {w w' : World} {r : Option Nat} (h : w.grownBy w' r) (o : Obj) : w.grownBy (w'.alloc o) r := grown_trans h ⟨rfl, rfl, rfl, by simp, fun k hk _ => Below.heap_alloc _ _ _ hk⟩
theorem Drew.alloc {W : World} {A : Option Addr} {n c : Nat} {bs : List Int} {b : Nat} {w w1 : World} (h : Drew W A n c bs b w w1) (o : Obj) : Drew W A n c bs b w (w1.alloc o) := ⟨h.1.alloc o, grown_alloc h.2 o⟩
theorem Sr.lt {W : World} {A : Option Addr} {n c : Nat} {bs : List Int} {b : Nat} {w : World} (h : Sr W A n c bs b w) : b < w.heap.size := block_lt_of_cell' h.c0

theorem kmul {k y : Int} (k1 : 0 ≤ k) (k2 : k ≤ 40) (y1 : -100 ≤ y) (y2 : y ≤ 100) : -4000 ≤ k * y ∧ k * y ≤ 4000 := by
  have h : (k * y).natAbs ≤ 40 * 100 := by
    rw [Int.natAbs_mul]
    exact Nat.mul_le_mul (by omega) (by omega)
  generalize k * y = z at *
  omega

end Go.Proofs.YtgajgonepcikbaaDoor