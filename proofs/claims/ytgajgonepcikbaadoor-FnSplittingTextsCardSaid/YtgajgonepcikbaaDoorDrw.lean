
/- The draws of texts and of rational numbers off the source. -/
import Derived.Test.YtgajgonepcikbaaDoorSrc2
import Derived.Test.YtgajgonepcikbaaDoorRatT
import Derived.Test.YtgajgonepcikbaaDoorRatMake
import Derived.Deep.CutBlock
import Derived.Deep.DeepCutAuto
import Derived.Deep.RegionWith
import Derived.Deep.AppendLies
namespace Go.Proofs.YtgajgonepcikbaaDoor
open Go.RowKit Go.Joins

section
variable {W : World} {A : Option Addr} {n c : Nat} {ys : List Int} {b : Nat} {w w' : World}
theorem Sr.drew0 (h : Sr W A n c ys b w) : Drew W A n c ys b w w := ⟨h, grown_refl _ _⟩
theorem Sr.below (h : Sr W A n c ys b w) (hb : Below w.heap.size w w') : Sr W A n c ys b w' := by
  obtain ⟨p, hp, c1⟩ := h.at_
  obtain ⟨s, s1, s2, c2⟩ := h.sd
  exact ⟨h.rd, h.by_, bl_trans h.bel hb, h.lo, keep_cell hb h.c0, ⟨p, hp, keep_cell hb c1⟩, ⟨s, s1, s2, keep_cell hb c2⟩, keep_fr hb c1 h.f1, keep_fr hb c2 h.f2⟩
theorem grown_of_below {r : Option Nat} (hb : Below w.heap.size w w') : w.grownBy w' r := ⟨hb.os, hb.tape, hb.output, hb.size, fun k hk _ => hb.block k hk⟩
theorem Drew.below {w0 : World} (h : Drew W A n c ys b w0 w) (hb : Below w.heap.size w w') : Drew W A n c ys b w0 w' := ⟨h.1.below hb, grown_trans h.2 (grown_of_below hb)⟩
theorem set_cell_far {g o o2 : Nat} {v : Value} (hne : g ≠ b) : (w.setCell ⟨g, o, none⟩ v).cell? ⟨b, o2, none⟩ = w.cell? ⟨b, o2, none⟩ :=
  World.cell?_setCell_other _ _ _ _ (fun e => hne (by injection e))
theorem set_fr_far {g o o2 : Nat} {v : Value} (hne : g ≠ b) : (w.setCell ⟨g, o, none⟩ v).frozen? ⟨b, o2, none⟩ = w.frozen? ⟨b, o2, none⟩ :=
  World.frozen?_of_block (Below.heap_setCell _ _ _ _ (fun e => hne e.symm))
theorem Sr.set {g o : Nat} {v : Value} (h : Sr W A n c ys b w) (hne : g ≠ b) (hg : W.heap.size ≤ g) : Sr W A n c ys b (w.setCell ⟨g, o, none⟩ v) := by
  obtain ⟨p, hp, c1⟩ := h.at_
  obtain ⟨s, s1, s2, c2⟩ := h.sd
  exact ⟨h.rd, h.by_, bl_set h.bel _ _ hg _, h.lo, (set_cell_far hne).trans h.c0, ⟨p, hp, (set_cell_far hne).trans c1⟩, ⟨s, s1, s2, (set_cell_far hne).trans c2⟩, (set_fr_far hne).trans h.f1, (set_fr_far hne).trans h.f2⟩
theorem Drew.set {w0 : World} {g o : Nat} {v : Value} (h : Drew W A n c ys b w0 w) (hne : g ≠ b) (hg : w0.heap.size ≤ g) (hW : W.heap.size ≤ g) : Drew W A n c ys b w0 (w.setCell ⟨g, o, none⟩ v) :=
  ⟨h.1.set hne hW, ⟨h.2.os, h.2.tape, h.2.output, by rw [show (w.setCell ⟨g, o, none⟩ v).heap.size = w.heap.size by simp [World.setCell]]; exact h.2.size, fun k hk hr => (Below.heap_setCell _ _ _ _ (by simp; omega)).trans (h.2.block k hk hr)⟩⟩
theorem Drew.start {w0 : World} (h : Drew W A n c ys b w0 w') (hb : Below w.heap.size w w0) : Drew W A n c ys b w w' := ⟨h.1, grown_trans (grown_of_below hb) h.2⟩
end


set_option maxRecDepth 100000 in
set_option maxHeartbeats 3200000 in
theorem l05Valid_any (W : World) (A : Option Addr) (n c : Nat) (ys : List Int) (b : Nat) (w : World) (h : Sr W A n c ys b w) :
    Calls Tryd.prog 94 #[.pointer (some ⟨b, 0, none⟩)] w fun e w' => ∃ x y, e = .returned (.agg #[.int .i64 x, .int .i64 y]) ∧ QOk x y ∧ Drew W A n c ys b w w' := by
  have hlt := h.lt
  have hW := h.bel.size
  obtain ⟨w0, hw0⟩ : ∃ x, x = w.alloc (.cells #[.int .i64 0, .int .i64 0] 26) := ⟨_, rfl⟩
  have HD0 : Hid (Drew W A n c ys b w0 w0) := Lib.hid (by rw [hw0]; exact (h.alloc _).drew0)
  have HB0 : Hid (Below w.heap.size w w0) := Lib.hid (by rw [hw0]; exact bl_alloc (Below.refl _ _) _)
  have hl0 : w.heap.size < w0.heap.size := by rw [hw0]; simp
  have HR0 : Hid ((w0.cell? ⟨w.heap.size, 0, none⟩ = some (.int .i64 0) ∧ w0.cell? ⟨w.heap.size, 1, none⟩ = some (.int .i64 0)) ∧ w0.frozen? ⟨w.heap.size, 0, none⟩ = false ∧ w0.frozen? ⟨w.heap.size, 1, none⟩ = false) := Lib.hid (by rw [hw0]; simp [go_sem])
  clear h
  go_enter Tryd.func94, Tryd.ntmps94
  go_upto_region 1 with fail
  rw [← hw0]
  clear hw0
  go_wp2_with fail
  refine (l01Next_any _ A n c ys b 41 _ HD0.out.1).mono ?_
  rintro e w1 ⟨x1, rfl, hx1, hx2, hd1⟩
  have ⟨a1, b1⟩ := hx2 (by omega)
  have HD1 := Lib.hid (Drew.trans HD0.out hd1)
  clear hx1 hx2 hd1
  go_wp2_with fail
  refine (l01Next_any _ A n c ys b 2001 _ HD1.out.1).mono ?_
  rintro e w2 ⟨x2, rfl, hx1, hx2, hd2⟩
  have ⟨a2, b2⟩ := hx2 (by omega)
  have HD2 := Lib.hid (Drew.trans HD1.out hd2)
  clear hx1 hx2 hd2
  go_wp2_with fail
  refine (l01Next_any _ A n c ys b 21 _ HD2.out.1).mono ?_
  rintro e w3 ⟨x3, rfl, hx1, hx2, hd3⟩
  have ⟨a3, b3⟩ := hx2 (by omega)
  have HD3 := Lib.hid (Drew.trans HD2.out hd3)
  clear hx1 hx2 hd3
  go_wp2_with fail
  refine (l01Pick_any _ A n c ys b w3.heap.size 4 [x1 - 20, x2 - 1000, 0, 27 * (x3 - 10)] _ (HD3.out.alloc _).1 (by omega) (by omega) (by simp) (by have := HD3.out.1.lt; omega) (fun j hj => by rcases j with _ | _ | _ | _ | j <;> first | (simp; done) | omega)).mono ?_
  rintro e w4 ⟨j4, hj, rfl, hd4⟩
  have HD4 := Lib.hid (Drew.trans (HD3.out.alloc _) hd4)
  obtain ⟨u, hy⟩ : ∃ y, y = ([x1 - 20, x2 - 1000, 0, 27 * (x3 - 10)] : List Int).getD j4 0 := ⟨_, rfl⟩
  have ⟨u1, u2⟩ : -1000 ≤ u ∧ u ≤ 1000 := by
    rw [hy]; rcases j4 with _ | _ | _ | _ | j <;> first | (simp; omega) | (simp; done) | omega
  rw [← hy]
  clear hd4 hy hj
  go_wp2_with fail
  refine (l01Next_any _ A n c ys b 20 _ HD4.out.1).mono ?_
  rintro e w5 ⟨x5, rfl, hx1, hx2, hd5⟩
  have ⟨a5, b5⟩ := hx2 (by omega)
  have HD5 := Lib.hid (Drew.trans HD4.out hd5)
  clear hx1 hx2 hd5
  go_wp2_with fail
  refine (l01Next_any _ A n c ys b 500 _ HD5.out.1).mono ?_
  rintro e w6 ⟨x6, rfl, hx1, hx2, hd6⟩
  have ⟨a6, b6⟩ := hx2 (by omega)
  have HD6 := Lib.hid (Drew.trans HD5.out hd6)
  clear hx1 hx2 hd6
  go_wp2_with fail
  refine (l01Pick_any _ A n c ys b w6.heap.size 6 [1, 1 + x5, 1 + x6, 8, 9, 25] _ (HD6.out.alloc _).1 (by omega) (by omega) (by simp) (by have := HD6.out.1.lt; omega) (fun j hj => by rcases j with _ | _ | _ | _ | _ | _ | j <;> first | (simp; done) | omega)).mono ?_
  rintro e w7 ⟨j7, hj, rfl, hd7⟩
  have HD7 := Lib.hid (Drew.trans (HD6.out.alloc _) hd7)
  obtain ⟨v, hy⟩ : ∃ y, y = ([1, 1 + x5, 1 + x6, 8, 9, 25] : List Int).getD j7 0 := ⟨_, rfl⟩
  have ⟨v1, v2⟩ : 1 ≤ v ∧ v ≤ 500 := by
    rw [hy]; rcases j7 with _ | _ | _ | _ | _ | _ | j <;> first | (simp; omega) | (simp; done) | omega
  rw [← hy]
  clear hd7 hy hj
  have HN : Hid (V u) := Lib.hid (by unfold V; omega)
  have HV : Hid (V v) := Lib.hid (by unfold V; omega)
  have hv0 : ¬ v = 0 := by omega
  have HQ := Lib.hid (rd_ok HN.out HV.out hv0)
  go_wp2_with fail
  refine (l05Make_yes _ _ HN.out.wd HV.out.wd hv0 HQ.out _).mono ?_
  rintro e w8 ⟨rfl, hb8⟩
  have HD8 := Lib.hid (HD7.out.below hb8)
  clear hb8
  generalize rdN u v = x at HQ ⊢
  generalize rdD u v = y at HQ ⊢
  have hbne : w.heap.size ≠ b := by omega
  have hg := HD8.out.2
  have hs8 := hg.size
  have r0 := (hg.cell_far ⟨w.heap.size, 0, none⟩ hl0 (fun e => hbne (by injection e))).trans HR0.out.1.1
  have r1 := (hg.cell_far ⟨w.heap.size, 1, none⟩ hl0 (fun e => hbne (by injection e))).trans HR0.out.1.2
  have rf0 := (hg.frozen_far ⟨w.heap.size, 0, none⟩ hl0 (fun e => hbne (by injection e))).trans HR0.out.2.1
  have rf1 := (hg.frozen_far ⟨w.heap.size, 1, none⟩ hl0 (fun e => hbne (by injection e))).trans HR0.out.2.2
  have hlt8 : w.heap.size < w8.heap.size := by omega
  have hne8 : ¬ w8.heap.size = w.heap.size := by omega
  clear hg HR0
  have HF : Hid (Drew W A n c ys b w (((w8.setCell ⟨w.heap.size, 0, none⟩ (.int .i64 x)).setCell ⟨w.heap.size, 1, none⟩ (.int .i64 y)).alloc (.cells #[.int .i64 x, .int .i64 y] 26))) := Lib.hid ((((HD8.out.start HB0.out).set hbne (Nat.le_refl _) hW).set hbne (Nat.le_refl _) hW).alloc _)
  go_wp2
  exact bodyPost_ret (v := .agg #[.int .i64 x, .int .i64 y]) (by simp [results, Tryd.results94, go_sem, r0, r1, hlt8]) rfl ⟨x, y, rfl, HQ.out, HF.out⟩

set_option maxRecDepth 100000 in
set_option maxHeartbeats 3200000 in
theorem l05Draw_any (W : World) (A : Option Addr) (n c : Nat) (ys : List Int) (b : Nat) (w : World) (h : Sr W A n c ys b w) :
    Calls Tryd.prog 92 #[.pointer (some ⟨b, 0, none⟩)] w fun e w' => ∃ x y, e = .returned (.agg #[.int .i64 x, .int .i64 y]) ∧ Drew W A n c ys b w w' := by
  have hlt := h.lt
  have hW := h.bel.size
  obtain ⟨w0, hw0⟩ : ∃ x, x = w.alloc (.cells #[.int .i64 0, .int .i64 0] 26) := ⟨_, rfl⟩
  have HD0 : Hid (Drew W A n c ys b w0 w0) := Lib.hid (by rw [hw0]; exact (h.alloc _).drew0)
  have HB0 : Hid (Below w.heap.size w w0) := Lib.hid (by rw [hw0]; exact bl_alloc (Below.refl _ _) _)
  have hl0 : w.heap.size < w0.heap.size := by rw [hw0]; simp
  have HR0 : Hid ((w0.cell? ⟨w.heap.size, 0, none⟩ = some (.int .i64 0) ∧ w0.cell? ⟨w.heap.size, 1, none⟩ = some (.int .i64 0)) ∧ w0.frozen? ⟨w.heap.size, 0, none⟩ = false ∧ w0.frozen? ⟨w.heap.size, 1, none⟩ = false) := Lib.hid (by rw [hw0]; simp [go_sem])
  clear h
  go_enter Tryd.func92, Tryd.ntmps92
  go_upto_region 1 with fail
  rw [← hw0]
  clear hw0
  go_wp2_with fail
  refine (l05Valid_any _ A n c ys b _ HD0.out.1).mono ?_
  rintro e w1 ⟨x, y, rfl, hq, hd1⟩
  have ⟨⟨u1, u2⟩, ⟨v1, v2⟩, v3⟩ : B13 x ∧ B13 y ∧ 0 ≤ y := hq.b13
  have HD1 := Lib.hid (Drew.trans HD0.out hd1)
  have hs1 := HD1.out.2.size
  have hbq : w1.heap.size ≠ b := by omega
  have hlb : b < w1.heap.size := by omega
  have hbne : w.heap.size ≠ b := by omega
  clear hd1 hq
  obtain ⟨w2, hw2⟩ : ∃ z, z = w1.alloc (.cells #[.int .i64 x, .int .i64 y] 26) := ⟨_, rfl⟩
  have HD2 : Hid (Drew W A n c ys b w0 w2) := Lib.hid (by rw [hw2]; exact HD1.out.alloc _)
  have HQ2 : Hid ((w2.cell? ⟨w1.heap.size, 0, none⟩ = some (.int .i64 x) ∧ w2.cell? ⟨w1.heap.size, 1, none⟩ = some (.int .i64 y)) ∧ w2.frozen? ⟨w1.heap.size, 0, none⟩ = false ∧ w2.frozen? ⟨w1.heap.size, 1, none⟩ = false) := Lib.hid (by rw [hw2]; simp [go_sem])
  have hl2 : w1.heap.size < w2.heap.size := by rw [hw2]; simp
  go_upto_region 2 with fail
  rw [← hw2]
  clear hw2
  go_wp2_with fail
  refine (l01Next_any _ A n c ys b 24 _ HD2.out.1).mono ?_
  rintro e w3 ⟨z, rfl, hx1, hx2, hd3⟩
  have ⟨z1, z2⟩ := hx2 (by omega)
  have HD3 := Lib.hid (Drew.trans HD2.out hd3)
  have hg3 := hd3.2
  have hs3 := hg3.size
  have q0 := (hg3.cell_far ⟨w1.heap.size, 0, none⟩ hl2 (fun e => hbq (by injection e))).trans HQ2.out.1.1
  have q1 := (hg3.cell_far ⟨w1.heap.size, 1, none⟩ hl2 (fun e => hbq (by injection e))).trans HQ2.out.1.2
  have qf0 := (hg3.frozen_far ⟨w1.heap.size, 0, none⟩ hl2 (fun e => hbq (by injection e))).trans HQ2.out.2.1
  have qf1 := (hg3.frozen_far ⟨w1.heap.size, 1, none⟩ hl2 (fun e => hbq (by injection e))).trans HQ2.out.2.2
  have hl3 : w1.heap.size < w3.heap.size := by omega
  clear hx1 hx2 hd3 hg3 HQ2
  have hg := HD3.out.2
  have r0 := (hg.cell_far ⟨w.heap.size, 0, none⟩ hl0 (fun e => hbne (by injection e))).trans HR0.out.1.1
  have r1 := (hg.cell_far ⟨w.heap.size, 1, none⟩ hl0 (fun e => hbne (by injection e))).trans HR0.out.1.2
  have rf0 := (hg.frozen_far ⟨w.heap.size, 0, none⟩ hl0 (fun e => hbne (by injection e))).trans HR0.out.2.1
  have rf1 := (hg.frozen_far ⟨w.heap.size, 1, none⟩ hl0 (fun e => hbne (by injection e))).trans HR0.out.2.2
  have hne1 : ¬ w1.heap.size = w.heap.size := by omega
  have hne2 : ¬ w.heap.size = w1.heap.size := by omega
  have hl3r : w.heap.size < w3.heap.size := by omega
  have hww : w.heap.size ≤ w1.heap.size := by omega
  have hWw : W.heap.size ≤ w1.heap.size := by omega
  clear hg HR0
  by_cases hz0 : z = 0
  · have hzb : (z == 0) = true := by simpa using hz0
    clear hz0
    go_wp2_with fail
    refine (l01Pick_any _ A n c ys b w3.heap.size 5 [0, -1, 1000001, 1000000000000, 1000000000001] _ (HD3.out.alloc _).1 (by omega) (by omega) (by simp) (by omega) (fun j hj => by rcases j with _ | _ | _ | _ | _ | j <;> first | (simp; done) | omega)).mono ?_
    rintro e w4 ⟨j4, hj, rfl, hd4⟩
    have HD4 := Lib.hid (Drew.trans (HD3.out.alloc _) hd4)
    generalize ([0, -1, 1000001, 1000000000000, 1000000000001] : List Int).getD j4 0 = y'
    have hg4 := hd4.2
    have Q0 := (hg4.cell_far ⟨w1.heap.size, 0, none⟩ (by simp; omega) (fun e => hbq (by injection e))).trans (keep_cell (bl_alloc (Below.refl _ _) _) q0)
    have Q1 := (hg4.cell_far ⟨w1.heap.size, 1, none⟩ (by simp; omega) (fun e => hbq (by injection e))).trans (keep_cell (bl_alloc (Below.refl _ _) _) q1)
    have QF0 := (hg4.frozen_far ⟨w1.heap.size, 0, none⟩ (by simp; omega) (fun e => hbq (by injection e))).trans (keep_fr (bl_alloc (Below.refl _ _) _) q0 qf0)
    have QF1 := (hg4.frozen_far ⟨w1.heap.size, 1, none⟩ (by simp; omega) (fun e => hbq (by injection e))).trans (keep_fr (bl_alloc (Below.refl _ _) _) q1 qf1)
    have hg5 := hg4
    clear hd4 hg4 hj q0 q1 qf0 qf1
    have R0 := (hg5.cell_far ⟨w.heap.size, 0, none⟩ (by simp; omega) (fun e => hbne (by injection e))).trans (keep_cell (bl_alloc (Below.refl _ _) _) r0)
    have R1 := (hg5.cell_far ⟨w.heap.size, 1, none⟩ (by simp; omega) (fun e => hbne (by injection e))).trans (keep_cell (bl_alloc (Below.refl _ _) _) r1)
    have RF0 := (hg5.frozen_far ⟨w.heap.size, 0, none⟩ (by simp; omega) (fun e => hbne (by injection e))).trans (keep_fr (bl_alloc (Below.refl _ _) _) r0 rf0)
    have RF1 := (hg5.frozen_far ⟨w.heap.size, 1, none⟩ (by simp; omega) (fun e => hbne (by injection e))).trans (keep_fr (bl_alloc (Below.refl _ _) _) r1 rf1)
    clear hg5 r0 r1 rf0 rf1
    have HF : Hid (Drew W A n c ys b w (((w4.setCell ⟨w1.heap.size, 1, none⟩ (.int .i64 y')).setCell ⟨w.heap.size, 0, none⟩ (.int .i64 x)).setCell ⟨w.heap.size, 1, none⟩ (.int .i64 y'))) := Lib.hid ((((HD4.out.start HB0.out).set hbq hww hWw).set hbne (Nat.le_refl _) hW).set hbne (Nat.le_refl _) hW)
    go_wp2
    exact bodyPost_ret (v := .agg #[.int .i64 x, .int .i64 y']) (by simp [results, Tryd.results92, go_sem, R0, R1]) rfl ⟨_, _, rfl, HF.out⟩
  · have hzb : (z == 0) = false := by simpa using hz0
    clear hz0
    by_cases hz1 : z = 1
    · have hzc : (z == 1) = true := by simpa using hz1
      clear hz1
      go_wp2_with fail
      refine (l01Pick_any _ A n c ys b w3.heap.size 4 [2 * y, 1000000000000, 1000000000001, 999999] _ (HD3.out.alloc _).1 (by omega) (by omega) (by simp) (by omega) (fun j hj => by rcases j with _ | _ | _ | _ | j <;> first | (simp; done) | omega)).mono ?_
      rintro e w4 ⟨j4, hj, rfl, hd4⟩
      have HD4 := Lib.hid (Drew.trans (HD3.out.alloc _) hd4)
      generalize ([2 * y, 1000000000000, 1000000000001, 999999] : List Int).getD j4 0 = y'
      have hg4 := hd4.2
      have Q0 := (hg4.cell_far ⟨w1.heap.size, 0, none⟩ (by simp; omega) (fun e => hbq (by injection e))).trans (keep_cell (bl_alloc (Below.refl _ _) _) q0)
      have Q1 := (hg4.cell_far ⟨w1.heap.size, 1, none⟩ (by simp; omega) (fun e => hbq (by injection e))).trans (keep_cell (bl_alloc (Below.refl _ _) _) q1)
      have QF0 := (hg4.frozen_far ⟨w1.heap.size, 0, none⟩ (by simp; omega) (fun e => hbq (by injection e))).trans (keep_fr (bl_alloc (Below.refl _ _) _) q0 qf0)
      have QF1 := (hg4.frozen_far ⟨w1.heap.size, 1, none⟩ (by simp; omega) (fun e => hbq (by injection e))).trans (keep_fr (bl_alloc (Below.refl _ _) _) q1 qf1)
      have hg5 := hg4
      clear hd4 hg4 hj q0 q1 qf0 qf1
      have R0 := (hg5.cell_far ⟨w.heap.size, 0, none⟩ (by simp; omega) (fun e => hbne (by injection e))).trans (keep_cell (bl_alloc (Below.refl _ _) _) r0)
      have R1 := (hg5.cell_far ⟨w.heap.size, 1, none⟩ (by simp; omega) (fun e => hbne (by injection e))).trans (keep_cell (bl_alloc (Below.refl _ _) _) r1)
      have RF0 := (hg5.frozen_far ⟨w.heap.size, 0, none⟩ (by simp; omega) (fun e => hbne (by injection e))).trans (keep_fr (bl_alloc (Below.refl _ _) _) r0 rf0)
      have RF1 := (hg5.frozen_far ⟨w.heap.size, 1, none⟩ (by simp; omega) (fun e => hbne (by injection e))).trans (keep_fr (bl_alloc (Below.refl _ _) _) r1 rf1)
      clear hg5 r0 r1 rf0 rf1
      have HF : Hid (Drew W A n c ys b w (((w4.setCell ⟨w1.heap.size, 0, none⟩ (.int .i64 y')).setCell ⟨w.heap.size, 0, none⟩ (.int .i64 y')).setCell ⟨w.heap.size, 1, none⟩ (.int .i64 y))) := Lib.hid ((((HD4.out.start HB0.out).set hbq hww hWw).set hbne (Nat.le_refl _) hW).set hbne (Nat.le_refl _) hW)
      go_wp2
      exact bodyPost_ret (v := .agg #[.int .i64 y', .int .i64 y]) (by simp [results, Tryd.results92, go_sem, R0, R1]) rfl ⟨_, _, rfl, HF.out⟩
    · have hzc : (z == 1) = false := by simpa using hz1
      clear hz1
      have HF : Hid (Drew W A n c ys b w ((w3.setCell ⟨w.heap.size, 0, none⟩ (.int .i64 x)).setCell ⟨w.heap.size, 1, none⟩ (.int .i64 y))) := Lib.hid (((HD3.out.start HB0.out).set hbne (Nat.le_refl _) hW).set hbne (Nat.le_refl _) hW)
      go_wp2
      exact bodyPost_ret (v := .agg #[.int .i64 x, .int .i64 y]) (by simp [results, Tryd.results92, go_sem, r0, r1]) rfl ⟨x, y, rfl, HF.out⟩
end Go.Proofs.YtgajgonepcikbaaDoor
