
/- Draws of rational numbers for the law. -/
import Derived.Test.YthdmanngjnfamaaDr5
import Derived.Test.YthdmanngjnfamaaDrPr
import Derived.Deep.RegionHeld3
namespace Go.Proofs.Ythdmanngjnfamaa
open Go.RowKit Go.Joins

set_option maxRecDepth 100000 in
set_option maxHeartbeats 1600000 in
theorem drawTwoQ_any (A : Option Addr) (n c : Nat) (ys : List Int) (w : World) (hr : Rd .u8 w A n c ys) (hb : Bys ys) :
    Calls Try.prog 74 #[.slice A n c] w fun e w' => ∃ x y z t, e = .returned (.tuple #[.agg #[.int .i64 x, .int .i64 y], .agg #[.int .i64 z, .int .i64 t]]) ∧ Below w.heap.size w w' := by
  obtain ⟨W0, hW0⟩ : ∃ x, x = ((w.alloc (.cells #[.int .i64 0, .int .i64 0] 34)).alloc (.cells #[.int .i64 0, .int .i64 0] 34)) := ⟨_, rfl⟩
  have hr0 := hr
  have HR : Hid (Rd .u8 W0 A n c ys) := Lib.hid (by rw [hW0]; exact hr0.below (by repeat (first | exact Below.refl _ _ | apply bl_alloc)))
  have HB0 : Hid (Below w.heap.size w W0) := Lib.hid (by rw [hW0]; repeat (first | exact Below.refl _ _ | apply bl_alloc))
  have hl0 : w.heap.size + 2 ≤ W0.heap.size := by rw [hW0]; simp
  have HR0 : Hid ((W0.cell? ⟨w.heap.size, 0, none⟩ = some (.int .i64 0) ∧ W0.cell? ⟨w.heap.size, 1, none⟩ = some (.int .i64 0)) ∧ W0.frozen? ⟨w.heap.size, 0, none⟩ = false ∧ W0.frozen? ⟨w.heap.size, 1, none⟩ = false) := Lib.hid (by rw [hW0]; simp [go_sem])
  have HR1 : Hid ((W0.cell? ⟨w.heap.size + 1, 0, none⟩ = some (.int .i64 0) ∧ W0.cell? ⟨w.heap.size + 1, 1, none⟩ = some (.int .i64 0)) ∧ W0.frozen? ⟨w.heap.size + 1, 0, none⟩ = false ∧ W0.frozen? ⟨w.heap.size + 1, 1, none⟩ = false) := Lib.hid (by rw [hW0]; simp [go_sem])
  have HBy := Lib.hid hb
  clear hr hb hr0
  go_enter Try.func74, Try.ntmps74
  go_upto_region 1 with fail
  rw [← hW0]
  clear hW0
  go_wp2_with fail
  refine (l01From_any A n c ys W0 HR.out HBy.out).mono ?_
  rintro e wd0 ⟨b, rfl, hs⟩
  have HS := Lib.hid hs
  clear hs
  have hlo := HS.out.lo
  have hlb := HS.out.lt
  go_wp2_with fail
  refine (l05Draw_any _ A n c ys b _ HS.out).mono ?_
  rintro e wd1 ⟨x, y, rfl, hd1⟩
  have hs1 := hd1.2.size
  obtain ⟨w2, hw2⟩ : ∃ z, z = wd1.alloc (.cells #[.int .i64 x, .int .i64 y] 34) := ⟨_, rfl⟩
  have HD2 : Hid (Drew W0 A n c ys b wd0 w2) := Lib.hid (by rw [hw2]; exact hd1.alloc _)
  have HQ2 : Hid (w2.cell? ⟨wd1.heap.size, 0, none⟩ = some (.int .i64 x) ∧ w2.cell? ⟨wd1.heap.size, 1, none⟩ = some (.int .i64 y)) := Lib.hid (by rw [hw2]; simp [go_sem])
  have hl2 : wd1.heap.size < w2.heap.size := by rw [hw2]; simp
  have hbq : wd1.heap.size ≠ b := by omega
  have hgl : W0.heap.size ≤ wd1.heap.size := by omega
  clear hd1
  go_upto_region 3 with fail
  rw [← hw2]
  clear hw2
  obtain ⟨g5, hg5⟩ : ∃ z, z = wd1.heap.size := ⟨_, rfl⟩
  rw [← hg5] at HQ2 hl2 hbq hgl ⊢
  clear hg5
  have ⟨q0, q1⟩ := HQ2.out
  have ⟨⟨a0, b0⟩, c0, d0⟩ := HR0.out
  have ⟨⟨a1, b1⟩, c1, d1⟩ := HR1.out
  have r00 := keep_cell HD2.out.1.bel a0
  have r01 := keep_cell HD2.out.1.bel b0
  have f00 := keep_fr HD2.out.1.bel a0 c0
  have f01 := keep_fr HD2.out.1.bel b0 d0
  have r10 := keep_cell HD2.out.1.bel a1
  have r11 := keep_cell HD2.out.1.bel b1
  have f10 := keep_fr HD2.out.1.bel a1 c1
  have f11 := keep_fr HD2.out.1.bel b1 d1
  clear a0 b0 c0 d0 a1 b1 c1 d1
  have hs2 := HD2.out.1.bel.size
  have hlr0 : w.heap.size < w2.heap.size := by omega
  have hlr1 : w.heap.size + 1 < w2.heap.size := by omega
  go_region_held3 (fun w' => w'.cell? ⟨g5, 0, none⟩ = some (.int .i64 x) ∧ w'.cell? ⟨g5, 1, none⟩ = some (.int .i64 y)) (first | go_keep | exact ⟨by (repeat (first | exact Q0 | refine (set_cell_far (by omega)).trans ?_)), by (repeat (first | exact Q1 | refine (set_cell_far (by omega)).trans ?_))⟩) (first | (go_at_call 86; refine (l05Draw_any _ A n c ys b _ (HD2.out.1.below (by repeat (first | exact Below.refl _ _ | apply Below.drew)))).mono ?_; rintro e w3 ⟨z, t, rfl, hd3⟩; have HD3 := Lib.hid hd3; have hs3 := hd3.2.size; have Q0 := (hd3.2.cell_far ⟨g5, 0, none⟩ hl2 (fun e => hbq (by injection e))).trans q0; have Q1 := (hd3.2.cell_far ⟨g5, 1, none⟩ hl2 (fun e => hbq (by injection e))).trans q1; clear hd3; have R00 := keep_cell HD3.out.1.bel HR0.out.1.1; have R01 := keep_cell HD3.out.1.bel HR0.out.1.2; have F00 := keep_fr HD3.out.1.bel HR0.out.1.1 HR0.out.2.1; have F01 := keep_fr HD3.out.1.bel HR0.out.1.2 HR0.out.2.2; have R10 := keep_cell HD3.out.1.bel HR1.out.1.1; have R11 := keep_cell HD3.out.1.bel HR1.out.1.2; have F10 := keep_fr HD3.out.1.bel HR1.out.1.1 HR1.out.2.1; have F11 := keep_fr HD3.out.1.bel HR1.out.1.2 HR1.out.2.2))
  all_goals
    have HBf := Lib.hid (bl_trans HB0.out HD3.out.1.bel)
    go_wp2
    exact bodyPost_ret (v := .tuple #[.agg #[.int .i64 x, .int .i64 y], .agg #[.int .i64 z, .int .i64 t]]) (by simp [results, Try.results74, go_sem, R00, R01, R10, R11]) rfl ⟨x, y, z, t, rfl, by (repeat (first | exact HBf.out | refine bl_set ?_ _ _ (by omega) _))⟩
set_option maxRecDepth 100000 in
set_option maxHeartbeats 1600000 in
theorem drawAddQ_any (A : Option Addr) (n c : Nat) (ys : List Int) (w : World) (hr : Rd .u8 w A n c ys) (hb : Bys ys) :
    Calls Try.prog 20 #[.slice A n c] w fun e w' => ∃ x y z t, e = .returned (.tuple #[.agg #[.int .i64 x, .int .i64 y], .agg #[.int .i64 z, .int .i64 t]]) ∧ Below w.heap.size w w' := by
  obtain ⟨W0, hW0⟩ : ∃ x, x = ((w.alloc (.cells #[.int .i64 0, .int .i64 0] 34)).alloc (.cells #[.int .i64 0, .int .i64 0] 34)) := ⟨_, rfl⟩
  have hr0 := hr
  have HR : Hid (Rd .u8 W0 A n c ys) := Lib.hid (by rw [hW0]; exact hr0.below (by repeat (first | exact Below.refl _ _ | apply bl_alloc)))
  have HB0 : Hid (Below w.heap.size w W0) := Lib.hid (by rw [hW0]; repeat (first | exact Below.refl _ _ | apply bl_alloc))
  have hl0 : w.heap.size + 2 ≤ W0.heap.size := by rw [hW0]; simp
  have HR0 : Hid ((W0.cell? ⟨w.heap.size, 0, none⟩ = some (.int .i64 0) ∧ W0.cell? ⟨w.heap.size, 1, none⟩ = some (.int .i64 0)) ∧ W0.frozen? ⟨w.heap.size, 0, none⟩ = false ∧ W0.frozen? ⟨w.heap.size, 1, none⟩ = false) := Lib.hid (by rw [hW0]; simp [go_sem])
  have HR1 : Hid ((W0.cell? ⟨w.heap.size + 1, 0, none⟩ = some (.int .i64 0) ∧ W0.cell? ⟨w.heap.size + 1, 1, none⟩ = some (.int .i64 0)) ∧ W0.frozen? ⟨w.heap.size + 1, 0, none⟩ = false ∧ W0.frozen? ⟨w.heap.size + 1, 1, none⟩ = false) := Lib.hid (by rw [hW0]; simp [go_sem])
  have HBy := Lib.hid hb
  clear hr hb hr0
  go_enter Try.func20, Try.ntmps20
  go_upto_region 1 with fail
  rw [← hW0]
  clear hW0
  go_wp2_with fail
  refine (drawTwoQ_any A n c ys _ HR.out HBy.out).mono ?_
  rintro e w1 ⟨x, y, z, t, rfl, hb⟩
  have ⟨⟨a0, b0⟩, c0, d0⟩ := HR0.out
  have ⟨⟨a1, b1⟩, c1, d1⟩ := HR1.out
  have r00 := keep_cell hb a0
  have r01 := keep_cell hb b0
  have f00 := keep_fr hb a0 c0
  have f01 := keep_fr hb b0 d0
  have r10 := keep_cell hb a1
  have r11 := keep_cell hb b1
  have f10 := keep_fr hb a1 c1
  have f11 := keep_fr hb b1 d1
  clear a0 b0 c0 d0 a1 b1 c1 d1
  have hs1 := hb.size
  have hl1 : w.heap.size + 1 < w1.heap.size := by omega
  have hl2 : w.heap.size < w1.heap.size := by omega
  have HBf : Hid (Below w.heap.size w ((((w1.setCell ⟨w.heap.size, 0, none⟩ (.int .i64 x)).setCell ⟨w.heap.size, 1, none⟩ (.int .i64 y)).setCell ⟨w.heap.size + 1, 0, none⟩ (.int .i64 z)).setCell ⟨w.heap.size + 1, 1, none⟩ (.int .i64 t))) := Lib.hid (bl_set (bl_set (bl_set (bl_set (bl_trans HB0.out hb) _ _ (by omega) _) _ _ (by omega) _) _ _ (by omega) _) _ _ (by omega) _)
  clear hb
  go_wp2
  exact bodyPost_ret (v := .tuple #[.agg #[.int .i64 x, .int .i64 y], .agg #[.int .i64 z, .int .i64 t]]) (by simp [results, Try.results20, go_sem, r00, r01, r10, r11]) rfl ⟨x, y, z, t, rfl, HBf.out⟩
set_option maxRecDepth 100000 in
set_option maxHeartbeats 1600000 in
theorem drawMulQ_any (A : Option Addr) (n c : Nat) (ys : List Int) (w : World) (hr : Rd .u8 w A n c ys) (hb : Bys ys) :
    Calls Try.prog 17 #[.slice A n c] w fun e w' => ∃ x y z t, e = .returned (.tuple #[.agg #[.int .i64 x, .int .i64 y], .agg #[.int .i64 z, .int .i64 t]]) ∧ Below w.heap.size w w' := by
  obtain ⟨W0, hW0⟩ : ∃ x, x = ((w.alloc (.cells #[.int .i64 0, .int .i64 0] 34)).alloc (.cells #[.int .i64 0, .int .i64 0] 34)) := ⟨_, rfl⟩
  have hr0 := hr
  have HR : Hid (Rd .u8 W0 A n c ys) := Lib.hid (by rw [hW0]; exact hr0.below (by repeat (first | exact Below.refl _ _ | apply bl_alloc)))
  have HB0 : Hid (Below w.heap.size w W0) := Lib.hid (by rw [hW0]; repeat (first | exact Below.refl _ _ | apply bl_alloc))
  have hl0 : w.heap.size + 2 ≤ W0.heap.size := by rw [hW0]; simp
  have HR0 : Hid ((W0.cell? ⟨w.heap.size, 0, none⟩ = some (.int .i64 0) ∧ W0.cell? ⟨w.heap.size, 1, none⟩ = some (.int .i64 0)) ∧ W0.frozen? ⟨w.heap.size, 0, none⟩ = false ∧ W0.frozen? ⟨w.heap.size, 1, none⟩ = false) := Lib.hid (by rw [hW0]; simp [go_sem])
  have HR1 : Hid ((W0.cell? ⟨w.heap.size + 1, 0, none⟩ = some (.int .i64 0) ∧ W0.cell? ⟨w.heap.size + 1, 1, none⟩ = some (.int .i64 0)) ∧ W0.frozen? ⟨w.heap.size + 1, 0, none⟩ = false ∧ W0.frozen? ⟨w.heap.size + 1, 1, none⟩ = false) := Lib.hid (by rw [hW0]; simp [go_sem])
  have HBy := Lib.hid hb
  clear hr hb hr0
  go_enter Try.func17, Try.ntmps17
  go_upto_region 1 with fail
  rw [← hW0]
  clear hW0
  go_wp2_with fail
  refine (drawTwoQ_any A n c ys _ HR.out HBy.out).mono ?_
  rintro e w1 ⟨x, y, z, t, rfl, hb⟩
  have ⟨⟨a0, b0⟩, c0, d0⟩ := HR0.out
  have ⟨⟨a1, b1⟩, c1, d1⟩ := HR1.out
  have r00 := keep_cell hb a0
  have r01 := keep_cell hb b0
  have f00 := keep_fr hb a0 c0
  have f01 := keep_fr hb b0 d0
  have r10 := keep_cell hb a1
  have r11 := keep_cell hb b1
  have f10 := keep_fr hb a1 c1
  have f11 := keep_fr hb b1 d1
  clear a0 b0 c0 d0 a1 b1 c1 d1
  have hs1 := hb.size
  have hl1 : w.heap.size + 1 < w1.heap.size := by omega
  have hl2 : w.heap.size < w1.heap.size := by omega
  have HBf : Hid (Below w.heap.size w ((((w1.setCell ⟨w.heap.size, 0, none⟩ (.int .i64 x)).setCell ⟨w.heap.size, 1, none⟩ (.int .i64 y)).setCell ⟨w.heap.size + 1, 0, none⟩ (.int .i64 z)).setCell ⟨w.heap.size + 1, 1, none⟩ (.int .i64 t))) := Lib.hid (bl_set (bl_set (bl_set (bl_set (bl_trans HB0.out hb) _ _ (by omega) _) _ _ (by omega) _) _ _ (by omega) _) _ _ (by omega) _)
  clear hb
  go_wp2
  exact bodyPost_ret (v := .tuple #[.agg #[.int .i64 x, .int .i64 y], .agg #[.int .i64 z, .int .i64 t]]) (by simp [results, Try.results17, go_sem, r00, r01, r10, r11]) rfl ⟨x, y, z, t, rfl, HBf.out⟩
set_option maxHeartbeats 1600000 in
theorem drawMakeQ_any (A : Option Addr) (n c : Nat) (ys : List Int) (w : World) (hr : Rd .u8 w A n c ys) (hb : Bys ys) :
    Calls Try.prog 23 #[.slice A n c] w fun e w' => ∃ x y, e = .returned (.tuple #[.int .i64 x, .int .i64 y]) ∧ -1000000000001 ≤ x ∧ x ≤ 1000000000001 ∧ -1000000000001 ≤ y ∧ y ≤ 1000000000001 ∧ Below w.heap.size w w' := by
  have HR := Lib.hid hr
  have HBy := Lib.hid hb
  clear hr hb
  go_enter Try.func23, Try.ntmps23
  go_wp2_with fail
  refine (l01From_any A n c ys w HR.out HBy.out).mono ?_
  rintro e wd0 ⟨b, rfl, hs⟩
  have HS := Lib.hid hs
  clear hs
  go_wp2_with fail
  refine (l01Next_any _ A n c ys b 201 _ HS.out).mono ?_
  rintro e wd1 ⟨a, rfl, hx1, hx2, hd1⟩
  have ⟨al, au⟩ := hx2 (by omega)
  have HD1 := Lib.hid hd1
  clear hx1 hx2 hd1
  go_wp2_with fail
  refine (l01DrawValue_any _ A n c ys b _ HD1.out.1).mono ?_
  rintro e wd2 ⟨v, rfl, vl, vu, hd2⟩
  have HD2 := Lib.hid (Drew.trans (HD1.out) hd2)
  clear hd2
  go_wp2_with fail
  refine (l01Pick_any _ A n c ys b wd2.heap.size 3 [a - 100, v, 0] _ (HD2.out.alloc _).1 (by omega) (by omega) (by simp) (by have := HD2.out.1.lt; omega) (fun j hj => by rcases j with _ | _ | _ | j <;> first | (simp; done) | omega)).mono ?_
  rintro e wd3 ⟨i3, hi3, rfl, hd3⟩
  have HD3 := Lib.hid (Drew.trans (HD2.out.alloc _) hd3)
  obtain ⟨x, hy3⟩ : ∃ y, y = ([a - 100, v, 0] : List Int).getD i3 0 := ⟨_, rfl⟩
  have ⟨xl, xu⟩ : -1000000000001 ≤ x ∧ x ≤ 1000000000001 := by
    rw [hy3]; rcases i3 with _ | _ | _ | j <;> first | (simp; omega) | (simp; done) | omega
  rw [← hy3]
  clear hy3 hi3 hd3
  go_wp2_with fail
  refine (l01Next_any _ A n c ys b 41 _ HD3.out.1).mono ?_
  rintro e wd4 ⟨a2, rfl, hx1, hx2, hd4⟩
  have ⟨a2l, a2u⟩ := hx2 (by omega)
  have HD4 := Lib.hid (Drew.trans (HD3.out) hd4)
  clear hx1 hx2 hd4
  go_wp2_with fail
  refine (l01DrawValue_any _ A n c ys b _ HD4.out.1).mono ?_
  rintro e wd5 ⟨v2, rfl, v2l, v2u, hd5⟩
  have HD5 := Lib.hid (Drew.trans (HD4.out) hd5)
  clear hd5
  go_wp2_with fail
  refine (l01Pick_any _ A n c ys b wd5.heap.size 4 [a2 - 20, v2, 0, -6] _ (HD5.out.alloc _).1 (by omega) (by omega) (by simp) (by have := HD5.out.1.lt; omega) (fun j hj => by rcases j with _ | _ | _ | _ | j <;> first | (simp; done) | omega)).mono ?_
  rintro e wd6 ⟨i6, hi6, rfl, hd6⟩
  have HD6 := Lib.hid (Drew.trans (HD5.out.alloc _) hd6)
  obtain ⟨y, hy6⟩ : ∃ y, y = ([a2 - 20, v2, 0, -6] : List Int).getD i6 0 := ⟨_, rfl⟩
  have ⟨yl, yu⟩ : -1000000000001 ≤ y ∧ y ≤ 1000000000001 := by
    rw [hy6]; rcases i6 with _ | _ | _ | _ | j <;> first | (simp; omega) | (simp; done) | omega
  rw [← hy6]
  clear hy6 hi6 hd6
  go_wp2
  go_ret2
  exact ⟨x, y, rfl, xl, xu, yl, yu, HD6.out.1.bel⟩
set_option maxRecDepth 100000 in
set_option maxHeartbeats 1600000 in
theorem drawValQ_any (A : Option Addr) (n c : Nat) (ys : List Int) (w : World) (hr : Rd .u8 w A n c ys) (hb : Bys ys) :
    Calls Try.prog 26 #[.slice A n c] w fun e w' => ∃ x y p, e = .returned (.tuple #[.agg #[.int .i64 x, .int .i64 y], .int .i64 p]) ∧ Below w.heap.size w w' := by
  obtain ⟨W0, hW0⟩ : ∃ x, x = (w.alloc (.cells #[.int .i64 0, .int .i64 0] 34)) := ⟨_, rfl⟩
  have hr0 := hr
  have HR : Hid (Rd .u8 W0 A n c ys) := Lib.hid (by rw [hW0]; exact hr0.below (by repeat (first | exact Below.refl _ _ | apply bl_alloc)))
  have HB0 : Hid (Below w.heap.size w W0) := Lib.hid (by rw [hW0]; repeat (first | exact Below.refl _ _ | apply bl_alloc))
  have hl0 : w.heap.size + 1 ≤ W0.heap.size := by rw [hW0]; simp
  have HR0 : Hid ((W0.cell? ⟨w.heap.size, 0, none⟩ = some (.int .i64 0) ∧ W0.cell? ⟨w.heap.size, 1, none⟩ = some (.int .i64 0)) ∧ W0.frozen? ⟨w.heap.size, 0, none⟩ = false ∧ W0.frozen? ⟨w.heap.size, 1, none⟩ = false) := Lib.hid (by rw [hW0]; simp [go_sem])
  have HBy := Lib.hid hb
  clear hr hb hr0
  go_enter Try.func26, Try.ntmps26
  go_upto_region 1 with fail
  rw [← hW0]
  clear hW0
  go_wp2_with fail
  refine (l01From_any A n c ys W0 HR.out HBy.out).mono ?_
  rintro e wd0 ⟨b, rfl, hs⟩
  have HS := Lib.hid hs
  clear hs
  have hlo := HS.out.lo
  have hlb := HS.out.lt
  go_wp2_with fail
  refine (l05Draw_any _ A n c ys b _ HS.out).mono ?_
  rintro e wd1 ⟨x, y, rfl, hd1⟩
  have hs1 := hd1.2.size
  obtain ⟨w2, hw2⟩ : ∃ z, z = wd1.alloc (.cells #[.int .i64 x, .int .i64 y] 34) := ⟨_, rfl⟩
  have HD2 : Hid (Drew W0 A n c ys b wd0 w2) := Lib.hid (by rw [hw2]; exact hd1.alloc _)
  have HQ2 : Hid (w2.cell? ⟨wd1.heap.size, 0, none⟩ = some (.int .i64 x) ∧ w2.cell? ⟨wd1.heap.size, 1, none⟩ = some (.int .i64 y)) := Lib.hid (by rw [hw2]; simp [go_sem])
  have hl2 : wd1.heap.size < w2.heap.size := by rw [hw2]; simp
  have hbq : wd1.heap.size ≠ b := by omega
  have hgl : W0.heap.size ≤ wd1.heap.size := by omega
  clear hd1
  go_upto_region 3 with fail
  rw [← hw2]
  clear hw2
  obtain ⟨g5, hg5⟩ : ∃ z, z = wd1.heap.size := ⟨_, rfl⟩
  rw [← hg5] at HQ2 hl2 hbq hgl ⊢
  clear hg5
  have ⟨q0, q1⟩ := HQ2.out
  have ⟨⟨a0, b0⟩, c0, d0⟩ := HR0.out
  have r00 := keep_cell HD2.out.1.bel a0
  have r01 := keep_cell HD2.out.1.bel b0
  have f00 := keep_fr HD2.out.1.bel a0 c0
  have f01 := keep_fr HD2.out.1.bel b0 d0
  clear a0 b0 c0 d0
  have hs2 := HD2.out.1.bel.size
  have hlr0 : w.heap.size < w2.heap.size := by omega
  go_region_held3 (fun w' => w'.cell? ⟨g5, 0, none⟩ = some (.int .i64 x) ∧ w'.cell? ⟨g5, 1, none⟩ = some (.int .i64 y)) (first | go_keep | exact ⟨by (repeat (first | exact Q0 | refine (set_cell_far (by omega)).trans ?_)), by (repeat (first | exact Q1 | refine (set_cell_far (by omega)).trans ?_))⟩) (first | (go_at_call 87; refine (l01DrawPrime_any _ A n c ys b _ (HD2.out.1.below (by repeat (first | exact Below.refl _ _ | apply Below.drew)))).mono ?_; rintro e w3 ⟨p, rfl, p1, p2, hd3⟩; have HD3 := Lib.hid hd3; have hs3 := hd3.2.size; have Q0 := (hd3.2.cell_far ⟨g5, 0, none⟩ hl2 (fun e => hbq (by injection e))).trans q0; have Q1 := (hd3.2.cell_far ⟨g5, 1, none⟩ hl2 (fun e => hbq (by injection e))).trans q1; clear hd3; have R00 := keep_cell HD3.out.1.bel HR0.out.1.1; have R01 := keep_cell HD3.out.1.bel HR0.out.1.2; have F00 := keep_fr HD3.out.1.bel HR0.out.1.1 HR0.out.2.1; have F01 := keep_fr HD3.out.1.bel HR0.out.1.2 HR0.out.2.2))
  all_goals
    have HBf := Lib.hid (bl_trans HB0.out HD3.out.1.bel)
    go_wp2
    exact bodyPost_ret (v := .tuple #[.agg #[.int .i64 x, .int .i64 y], .int .i64 p]) (by simp [results, Try.results26, go_sem, R00, R01]) rfl ⟨x, y, p, rfl, by (repeat (first | exact HBf.out | refine bl_set ?_ _ _ (by omega) _))⟩
end Go.Proofs.Ythdmanngjnfamaa
