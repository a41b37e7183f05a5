/- The walks of the laws over sums and products of rational numbers. -/
import Derived.Test.YthnnihjiojhbiaaRatOps
import Derived.Deep.RegionHeld3
import Derived.Deep.DeepCutAuto
namespace Go.Proofs.Ythnnihjiojhbiaa
open Go.RowKit

/-- the cells of two boxed rational numbers -/
theorem held4 {W x : World} {p q r s : Nat} {i j k l : Nat} {a b c d : Value} (hb : Below W.heap.size W x)
    (h : Hid (W.cell? ⟨p, i, none⟩ = some a ∧ W.cell? ⟨q, j, none⟩ = some b ∧ W.cell? ⟨r, k, none⟩ = some c ∧ W.cell? ⟨s, l, none⟩ = some d)) :
    x.cell? ⟨p, i, none⟩ = some a ∧ x.cell? ⟨q, j, none⟩ = some b ∧ x.cell? ⟨r, k, none⟩ = some c ∧ x.cell? ⟨s, l, none⟩ = some d :=
  ⟨keep_cell hb h.out.1, keep_cell hb h.out.2.1, keep_cell hb h.out.2.2.1, keep_cell hb h.out.2.2.2⟩
/-- two cells that may be written -/
def Two (x : World) (b : Nat) (u v : Value) : Prop := x.cell? ⟨b, 0, none⟩ = some u ∧ x.cell? ⟨b, 1, none⟩ = some v ∧ x.frozen? ⟨b, 0, none⟩ = false ∧ x.frozen? ⟨b, 1, none⟩ = false
theorem two_new {X w1 : World} {T : TypeId} {u v : Value} (hb : Below (X.alloc (.cells #[u, v] T)).heap.size (X.alloc (.cells #[u, v] T)) w1) : Two w1 X.heap.size u v := by
  have hs : X.heap.size < (X.alloc (.cells #[u, v] T)).heap.size := by simp
  exact ⟨(hb.cell (p := ⟨X.heap.size, 0, none⟩) hs).trans (by simp), (hb.cell (p := ⟨X.heap.size, 1, none⟩) hs).trans (by simp), (hb.frozen (p := ⟨X.heap.size, 0, none⟩) hs).trans (by simp), (hb.frozen (p := ⟨X.heap.size, 1, none⟩) hs).trans (by simp)⟩
theorem two_new' {X w1 : World} {T : TypeId} {u v : Value} (hb : Below (X.drew.alloc (.cells #[u, v] T)).heap.size (X.drew.alloc (.cells #[u, v] T)) w1) : Two w1 X.heap.size u v := two_new (X := X.drew) hb
theorem two_keep {X w1 : World} {b : Nat} {u v : Value} (hb : Below X.heap.size X w1) (h : Two X b u v) : Two w1 b u v :=
  ⟨keep_cell hb h.1, keep_cell hb h.2.1, keep_fr hb h.1 h.2.2.1, keep_fr hb h.2.1 h.2.2.2⟩

set_option maxHeartbeats 4000000 in
theorem walkExactAddRationals (a b c d : Int) (w : World) (_ : (Lit.int .i64 a).wf = true) (_ : (Lit.int .i64 b).wf = true) (_ : (Lit.int .i64 c).wf = true) (_ : (Lit.int .i64 d).wf = true) :
    Calls Try.prog 9 #[.agg #[.int .i64 a, .int .i64 b], .agg #[.int .i64 c, .int .i64 d]] w fun e w' => e = .returned (.bool true) ∧ Below w.heap.size w w' := by
  have Hspec : Hid (∀ w, Calls Try.prog 35 #[.agg #[.int .i64 a, .int .i64 b], .agg #[.int .i64 c, .int .i64 d]] w fun e w' => e = .returned (.tuple #[.agg #[.int .i64 (ratR (twoR a b c d) (a * d + c * b) (b * d)).1.1, .int .i64 (ratR (twoR a b c d) (a * d + c * b) (b * d)).1.2], .int .i64 (ratR (twoR a b c d) (a * d + c * b) (b * d)).2]) ∧ Below w.heap.size w w') := Lib.hid (specAdd_any a b c d)
  have Himpl : Hid (∀ w, Calls Try.prog 36 #[.agg #[.int .i64 a, .int .i64 b], .agg #[.int .i64 c, .int .i64 d]] w fun e w' => e = .returned (.tuple #[.agg #[.int .i64 (ratR (twoR a b c d) (a * d + c * b) (b * d)).1.1, .int .i64 (ratR (twoR a b c d) (a * d + c * b) (b * d)).1.2], .int .i64 (ratR (twoR a b c d) (a * d + c * b) (b * d)).2]) ∧ Below w.heap.size w w') := Lib.hid (implAdd_any a b c d)
  generalize (ratR (twoR a b c d) (a * d + c * b) (b * d)) = r at Hspec Himpl
  obtain ⟨⟨x, y⟩, z⟩ := r
  go_enter Try.func9, Try.ntmps9
  go_upto_region 1 with fail
  obtain ⟨W0, hW0⟩ : ∃ W0, W0 = (w.alloc (.cells #[.int .i64 a, .int .i64 b] 36)).alloc (.cells #[.int .i64 c, .int .i64 d] 36) := ⟨_, rfl⟩
  have HW : Hid (W0.cell? ⟨w.heap.size, 0, none⟩ = some (.int .i64 a) ∧ W0.cell? ⟨w.heap.size, 1, none⟩ = some (.int .i64 b) ∧ W0.cell? ⟨w.heap.size + 1, 0, none⟩ = some (.int .i64 c) ∧ W0.cell? ⟨w.heap.size + 1, 1, none⟩ = some (.int .i64 d)) := Lib.hid (by subst hW0; simp [go_sem])
  have HB0 : Hid (Below w.heap.size w W0) := Lib.hid (by subst hW0; exact bl_alloc (bl_alloc (Below.refl _ _) _) _)
  rw [← hW0]
  clear hW0
  go_cut [5, 6] (fun s5 s6 wx => ∃ (wv : World) (g : Nat), wv = wx ∧ s5 = .pointer (some ⟨g, 0, none⟩) ∧ s6 = .int .i64 z ∧ Hid (Below W0.heap.size W0 wv) ∧ Hid (wv.cell? ⟨g, 0, none⟩ = some (.int .i64 x) ∧ wv.cell? ⟨g, 1, none⟩ = some (.int .i64 y)))
  case first =>
    go_region_held3 (fun w' => w'.cell? ⟨w.heap.size, 0, none⟩ = some (.int .i64 a) ∧ w'.cell? ⟨w.heap.size, 1, none⟩ = some (.int .i64 b) ∧ w'.cell? ⟨w.heap.size + 1, 0, none⟩ = some (.int .i64 c) ∧ w'.cell? ⟨w.heap.size + 1, 1, none⟩ = some (.int .i64 d)) (exact held4 (by repeat (first | exact Below.refl _ _ | exact HB1.out | exact HB2.out | exact HB3.out | exact HBc.out | apply Below.drew | apply bl_alloc | (refine bl_set ?_ _ _ (by first | exact Nat.le_refl _ | exact HB1.out.size | exact HB2.out.size | exact HB3.out.size | exact HBc.out.size) _))) HW) (first | (go_at_call_of 28 (Value.agg #[.int .i64 a, .int .i64 b]); refine (toRational_any _ _ _).mono ?_; rintro e w1 ⟨rfl, hb1⟩; have HB1 : Hid (Below W0.heap.size W0 w1) := Lib.hid (bl_trans (by repeat (first | exact Below.refl _ _ | exact HB1.out | exact HB2.out | exact HB3.out | exact HBc.out | apply Below.drew | apply bl_alloc | (refine bl_set ?_ _ _ (by first | exact Nat.le_refl _ | exact HB1.out.size | exact HB2.out.size | exact HB3.out.size | exact HBc.out.size) _))) hb1); (first | have hk := two_new' hb1; have k0 := hk.1; have k1 := hk.2.1; have k2 := hk.2.2.1; have k3 := hk.2.2.2 | have hk := two_new hb1; have k0 := hk.1; have k1 := hk.2.1; have k2 := hk.2.2.1; have k3 := hk.2.2.2 | have hk := two_keep hb1 (by assumption); have k0 := hk.1; have k1 := hk.2.1; have k2 := hk.2.2.1; have k3 := hk.2.2.2 | skip)) | (go_at_call_of 28 (Value.agg #[.int .i64 c, .int .i64 d]); refine (toRational_any _ _ _).mono ?_; rintro e w2 ⟨rfl, hb2⟩; have HB2 : Hid (Below W0.heap.size W0 w2) := Lib.hid (bl_trans (by repeat (first | exact Below.refl _ _ | exact HB1.out | exact HB2.out | exact HB3.out | exact HBc.out | apply Below.drew | apply bl_alloc | (refine bl_set ?_ _ _ (by first | exact Nat.le_refl _ | exact HB1.out.size | exact HB2.out.size | exact HB3.out.size | exact HBc.out.size) _))) hb2); (first | have hk := two_new' hb2; have k0 := hk.1; have k1 := hk.2.1; have k2 := hk.2.2.1; have k3 := hk.2.2.2 | have hk := two_new hb2; have k0 := hk.1; have k1 := hk.2.1; have k2 := hk.2.2.1; have k3 := hk.2.2.2 | have hk := two_keep hb2 (by assumption); have k0 := hk.1; have k1 := hk.2.1; have k2 := hk.2.2.1; have k3 := hk.2.2.2 | skip)) | (go_at_call 35; refine (Hspec.out _).mono ?_; rintro e w3 ⟨rfl, hb3⟩; have HB3 : Hid (Below W0.heap.size W0 w3) := Lib.hid (bl_trans (by repeat (first | exact Below.refl _ _ | exact HB1.out | exact HB2.out | exact HB3.out | exact HBc.out | apply Below.drew | apply bl_alloc | (refine bl_set ?_ _ _ (by first | exact Nat.le_refl _ | exact HB1.out.size | exact HB2.out.size | exact HB3.out.size | exact HBc.out.size) _))) hb3); (first | have hk := two_new' hb3; have k0 := hk.1; have k1 := hk.2.1; have k2 := hk.2.2.1; have k3 := hk.2.2.2 | have hk := two_new hb3; have k0 := hk.1; have k1 := hk.2.1; have k2 := hk.2.2.1; have k3 := hk.2.2.2 | have hk := two_keep hb3 (by assumption); have k0 := hk.1; have k1 := hk.2.1; have k2 := hk.2.2.1; have k3 := hk.2.2.2 | skip)))
    all_goals
      go_wp2_with fail
      go_meet
      exact ⟨_, _, rfl, rfl, rfl, Lib.hid (by repeat (first | exact Below.refl _ _ | exact HB1.out | exact HB2.out | exact HB3.out | exact HBc.out | apply Below.drew | apply bl_alloc | (refine bl_set ?_ _ _ (by first | exact Nat.le_refl _ | exact HB1.out.size | exact HB2.out.size | exact HB3.out.size | exact HBc.out.size) _))), Lib.hid (by simp [go_sem, *])⟩
  case rest =>
    obtain ⟨wv, g, rfl, rfl, rfl, HBc, HC⟩ := hcut
    have HWv := Lib.hid (held4 HBc.out HW)
    have HBv := Lib.hid (bl_trans HB0.out HBc.out)
    clear HB0 HBc HW Hspec
    go_upto_region 2 with fail
    go_cut [7, 8] (fun s7 s8 wy => ∃ (wz : World) (h : Nat), wz = wy ∧ s7 = .pointer (some ⟨h, 0, none⟩) ∧ s8 = .int .i64 z ∧ Hid (Below wv.heap.size wv wz) ∧ Hid (wz.cell? ⟨h, 0, none⟩ = some (.int .i64 x) ∧ wz.cell? ⟨h, 1, none⟩ = some (.int .i64 y)))
    case first =>
      go_region_held3 (fun w' => w'.cell? ⟨w.heap.size, 0, none⟩ = some (.int .i64 a) ∧ w'.cell? ⟨w.heap.size, 1, none⟩ = some (.int .i64 b) ∧ w'.cell? ⟨w.heap.size + 1, 0, none⟩ = some (.int .i64 c) ∧ w'.cell? ⟨w.heap.size + 1, 1, none⟩ = some (.int .i64 d)) (exact held4 (by repeat (first | exact Below.refl _ _ | exact HB1.out | exact HB2.out | exact HB3.out | exact HBc.out | apply Below.drew | apply bl_alloc | (refine bl_set ?_ _ _ (by first | exact Nat.le_refl _ | exact HB1.out.size | exact HB2.out.size | exact HB3.out.size | exact HBc.out.size) _))) HWv) (first | (go_at_call_of 28 (Value.agg #[.int .i64 a, .int .i64 b]); refine (toRational_any _ _ _).mono ?_; rintro e w1 ⟨rfl, hb1⟩; have HB1 : Hid (Below wv.heap.size wv w1) := Lib.hid (bl_trans (by repeat (first | exact Below.refl _ _ | exact HB1.out | exact HB2.out | exact HB3.out | exact HBc.out | apply Below.drew | apply bl_alloc | (refine bl_set ?_ _ _ (by first | exact Nat.le_refl _ | exact HB1.out.size | exact HB2.out.size | exact HB3.out.size | exact HBc.out.size) _))) hb1); (first | have hk := two_new' hb1; have k0 := hk.1; have k1 := hk.2.1; have k2 := hk.2.2.1; have k3 := hk.2.2.2 | have hk := two_new hb1; have k0 := hk.1; have k1 := hk.2.1; have k2 := hk.2.2.1; have k3 := hk.2.2.2 | have hk := two_keep hb1 (by assumption); have k0 := hk.1; have k1 := hk.2.1; have k2 := hk.2.2.1; have k3 := hk.2.2.2 | skip)) | (go_at_call_of 28 (Value.agg #[.int .i64 c, .int .i64 d]); refine (toRational_any _ _ _).mono ?_; rintro e w2 ⟨rfl, hb2⟩; have HB2 : Hid (Below wv.heap.size wv w2) := Lib.hid (bl_trans (by repeat (first | exact Below.refl _ _ | exact HB1.out | exact HB2.out | exact HB3.out | exact HBc.out | apply Below.drew | apply bl_alloc | (refine bl_set ?_ _ _ (by first | exact Nat.le_refl _ | exact HB1.out.size | exact HB2.out.size | exact HB3.out.size | exact HBc.out.size) _))) hb2); (first | have hk := two_new' hb2; have k0 := hk.1; have k1 := hk.2.1; have k2 := hk.2.2.1; have k3 := hk.2.2.2 | have hk := two_new hb2; have k0 := hk.1; have k1 := hk.2.1; have k2 := hk.2.2.1; have k3 := hk.2.2.2 | have hk := two_keep hb2 (by assumption); have k0 := hk.1; have k1 := hk.2.1; have k2 := hk.2.2.1; have k3 := hk.2.2.2 | skip)) | (go_at_call 36; refine (Himpl.out _).mono ?_; rintro e w3 ⟨rfl, hb3⟩; have HB3 : Hid (Below wv.heap.size wv w3) := Lib.hid (bl_trans (by repeat (first | exact Below.refl _ _ | exact HB1.out | exact HB2.out | exact HB3.out | exact HBc.out | apply Below.drew | apply bl_alloc | (refine bl_set ?_ _ _ (by first | exact Nat.le_refl _ | exact HB1.out.size | exact HB2.out.size | exact HB3.out.size | exact HBc.out.size) _))) hb3); (first | have hk := two_new' hb3; have k0 := hk.1; have k1 := hk.2.1; have k2 := hk.2.2.1; have k3 := hk.2.2.2 | have hk := two_new hb3; have k0 := hk.1; have k1 := hk.2.1; have k2 := hk.2.2.1; have k3 := hk.2.2.2 | have hk := two_keep hb3 (by assumption); have k0 := hk.1; have k1 := hk.2.1; have k2 := hk.2.2.1; have k3 := hk.2.2.2 | skip)))
      all_goals
        go_wp2_with fail
        go_meet
        exact ⟨_, _, rfl, rfl, rfl, Lib.hid (by repeat (first | exact Below.refl _ _ | exact HB1.out | exact HB2.out | exact HB3.out | exact HBc.out | apply Below.drew | apply bl_alloc | (refine bl_set ?_ _ _ (by first | exact Nat.le_refl _ | exact HB1.out.size | exact HB2.out.size | exact HB3.out.size | exact HBc.out.size) _))), Lib.hid (by simp [go_sem, *])⟩
    case rest =>
      obtain ⟨wz, h, rfl, rfl, rfl, HBd, HC2⟩ := hcut
      have c0 := keep_cell HBd.out HC.out.1
      have c1 := keep_cell HBd.out HC.out.2
      have ⟨d0, d1⟩ := HC2.out
      have HBz := Lib.hid (bl_trans HBv.out HBd.out)
      clear HBv HBd HC HC2 HWv Himpl
      go_wp2_with fail
      refine (eqRational_any _ _ _).mono ?_
      rintro e w4 ⟨rfl, hb4⟩
      have HB4 := Lib.hid (bl_trans HBz.out hb4)
      clear hb4
      go_wp2
      go_ret
      exact ⟨rfl, HB4.out⟩

set_option maxHeartbeats 4000000 in
theorem walkExactMultiplyRationals (a b c d : Int) (w : World) (_ : (Lit.int .i64 a).wf = true) (_ : (Lit.int .i64 b).wf = true) (_ : (Lit.int .i64 c).wf = true) (_ : (Lit.int .i64 d).wf = true) :
    Calls Try.prog 10 #[.agg #[.int .i64 a, .int .i64 b], .agg #[.int .i64 c, .int .i64 d]] w fun e w' => e = .returned (.bool true) ∧ Below w.heap.size w w' := by
  have Hspec : Hid (∀ w, Calls Try.prog 38 #[.agg #[.int .i64 a, .int .i64 b], .agg #[.int .i64 c, .int .i64 d]] w fun e w' => e = .returned (.tuple #[.agg #[.int .i64 (ratR (twoR a b c d) (a * c) (b * d)).1.1, .int .i64 (ratR (twoR a b c d) (a * c) (b * d)).1.2], .int .i64 (ratR (twoR a b c d) (a * c) (b * d)).2]) ∧ Below w.heap.size w w') := Lib.hid (specMultiply_any a b c d)
  have Himpl : Hid (∀ w, Calls Try.prog 39 #[.agg #[.int .i64 a, .int .i64 b], .agg #[.int .i64 c, .int .i64 d]] w fun e w' => e = .returned (.tuple #[.agg #[.int .i64 (ratR (twoR a b c d) (a * c) (b * d)).1.1, .int .i64 (ratR (twoR a b c d) (a * c) (b * d)).1.2], .int .i64 (ratR (twoR a b c d) (a * c) (b * d)).2]) ∧ Below w.heap.size w w') := Lib.hid (implMultiply_any a b c d)
  generalize (ratR (twoR a b c d) (a * c) (b * d)) = r at Hspec Himpl
  obtain ⟨⟨x, y⟩, z⟩ := r
  go_enter Try.func10, Try.ntmps10
  go_upto_region 1 with fail
  obtain ⟨W0, hW0⟩ : ∃ W0, W0 = (w.alloc (.cells #[.int .i64 a, .int .i64 b] 36)).alloc (.cells #[.int .i64 c, .int .i64 d] 36) := ⟨_, rfl⟩
  have HW : Hid (W0.cell? ⟨w.heap.size, 0, none⟩ = some (.int .i64 a) ∧ W0.cell? ⟨w.heap.size, 1, none⟩ = some (.int .i64 b) ∧ W0.cell? ⟨w.heap.size + 1, 0, none⟩ = some (.int .i64 c) ∧ W0.cell? ⟨w.heap.size + 1, 1, none⟩ = some (.int .i64 d)) := Lib.hid (by subst hW0; simp [go_sem])
  have HB0 : Hid (Below w.heap.size w W0) := Lib.hid (by subst hW0; exact bl_alloc (bl_alloc (Below.refl _ _) _) _)
  rw [← hW0]
  clear hW0
  go_cut [5, 6] (fun s5 s6 wx => ∃ (wv : World) (g : Nat), wv = wx ∧ s5 = .pointer (some ⟨g, 0, none⟩) ∧ s6 = .int .i64 z ∧ Hid (Below W0.heap.size W0 wv) ∧ Hid (wv.cell? ⟨g, 0, none⟩ = some (.int .i64 x) ∧ wv.cell? ⟨g, 1, none⟩ = some (.int .i64 y)))
  case first =>
    go_region_held3 (fun w' => w'.cell? ⟨w.heap.size, 0, none⟩ = some (.int .i64 a) ∧ w'.cell? ⟨w.heap.size, 1, none⟩ = some (.int .i64 b) ∧ w'.cell? ⟨w.heap.size + 1, 0, none⟩ = some (.int .i64 c) ∧ w'.cell? ⟨w.heap.size + 1, 1, none⟩ = some (.int .i64 d)) (exact held4 (by repeat (first | exact Below.refl _ _ | exact HB1.out | exact HB2.out | exact HB3.out | exact HBc.out | apply Below.drew | apply bl_alloc | (refine bl_set ?_ _ _ (by first | exact Nat.le_refl _ | exact HB1.out.size | exact HB2.out.size | exact HB3.out.size | exact HBc.out.size) _))) HW) (first | (go_at_call_of 28 (Value.agg #[.int .i64 a, .int .i64 b]); refine (toRational_any _ _ _).mono ?_; rintro e w1 ⟨rfl, hb1⟩; have HB1 : Hid (Below W0.heap.size W0 w1) := Lib.hid (bl_trans (by repeat (first | exact Below.refl _ _ | exact HB1.out | exact HB2.out | exact HB3.out | exact HBc.out | apply Below.drew | apply bl_alloc | (refine bl_set ?_ _ _ (by first | exact Nat.le_refl _ | exact HB1.out.size | exact HB2.out.size | exact HB3.out.size | exact HBc.out.size) _))) hb1); (first | have hk := two_new' hb1; have k0 := hk.1; have k1 := hk.2.1; have k2 := hk.2.2.1; have k3 := hk.2.2.2 | have hk := two_new hb1; have k0 := hk.1; have k1 := hk.2.1; have k2 := hk.2.2.1; have k3 := hk.2.2.2 | have hk := two_keep hb1 (by assumption); have k0 := hk.1; have k1 := hk.2.1; have k2 := hk.2.2.1; have k3 := hk.2.2.2 | skip)) | (go_at_call_of 28 (Value.agg #[.int .i64 c, .int .i64 d]); refine (toRational_any _ _ _).mono ?_; rintro e w2 ⟨rfl, hb2⟩; have HB2 : Hid (Below W0.heap.size W0 w2) := Lib.hid (bl_trans (by repeat (first | exact Below.refl _ _ | exact HB1.out | exact HB2.out | exact HB3.out | exact HBc.out | apply Below.drew | apply bl_alloc | (refine bl_set ?_ _ _ (by first | exact Nat.le_refl _ | exact HB1.out.size | exact HB2.out.size | exact HB3.out.size | exact HBc.out.size) _))) hb2); (first | have hk := two_new' hb2; have k0 := hk.1; have k1 := hk.2.1; have k2 := hk.2.2.1; have k3 := hk.2.2.2 | have hk := two_new hb2; have k0 := hk.1; have k1 := hk.2.1; have k2 := hk.2.2.1; have k3 := hk.2.2.2 | have hk := two_keep hb2 (by assumption); have k0 := hk.1; have k1 := hk.2.1; have k2 := hk.2.2.1; have k3 := hk.2.2.2 | skip)) | (go_at_call 38; refine (Hspec.out _).mono ?_; rintro e w3 ⟨rfl, hb3⟩; have HB3 : Hid (Below W0.heap.size W0 w3) := Lib.hid (bl_trans (by repeat (first | exact Below.refl _ _ | exact HB1.out | exact HB2.out | exact HB3.out | exact HBc.out | apply Below.drew | apply bl_alloc | (refine bl_set ?_ _ _ (by first | exact Nat.le_refl _ | exact HB1.out.size | exact HB2.out.size | exact HB3.out.size | exact HBc.out.size) _))) hb3); (first | have hk := two_new' hb3; have k0 := hk.1; have k1 := hk.2.1; have k2 := hk.2.2.1; have k3 := hk.2.2.2 | have hk := two_new hb3; have k0 := hk.1; have k1 := hk.2.1; have k2 := hk.2.2.1; have k3 := hk.2.2.2 | have hk := two_keep hb3 (by assumption); have k0 := hk.1; have k1 := hk.2.1; have k2 := hk.2.2.1; have k3 := hk.2.2.2 | skip)))
    all_goals
      go_wp2_with fail
      go_meet
      exact ⟨_, _, rfl, rfl, rfl, Lib.hid (by repeat (first | exact Below.refl _ _ | exact HB1.out | exact HB2.out | exact HB3.out | exact HBc.out | apply Below.drew | apply bl_alloc | (refine bl_set ?_ _ _ (by first | exact Nat.le_refl _ | exact HB1.out.size | exact HB2.out.size | exact HB3.out.size | exact HBc.out.size) _))), Lib.hid (by simp [go_sem, *])⟩
  case rest =>
    obtain ⟨wv, g, rfl, rfl, rfl, HBc, HC⟩ := hcut
    have HWv := Lib.hid (held4 HBc.out HW)
    have HBv := Lib.hid (bl_trans HB0.out HBc.out)
    clear HB0 HBc HW Hspec
    go_upto_region 2 with fail
    go_cut [7, 8] (fun s7 s8 wy => ∃ (wz : World) (h : Nat), wz = wy ∧ s7 = .pointer (some ⟨h, 0, none⟩) ∧ s8 = .int .i64 z ∧ Hid (Below wv.heap.size wv wz) ∧ Hid (wz.cell? ⟨h, 0, none⟩ = some (.int .i64 x) ∧ wz.cell? ⟨h, 1, none⟩ = some (.int .i64 y)))
    case first =>
      go_region_held3 (fun w' => w'.cell? ⟨w.heap.size, 0, none⟩ = some (.int .i64 a) ∧ w'.cell? ⟨w.heap.size, 1, none⟩ = some (.int .i64 b) ∧ w'.cell? ⟨w.heap.size + 1, 0, none⟩ = some (.int .i64 c) ∧ w'.cell? ⟨w.heap.size + 1, 1, none⟩ = some (.int .i64 d)) (exact held4 (by repeat (first | exact Below.refl _ _ | exact HB1.out | exact HB2.out | exact HB3.out | exact HBc.out | apply Below.drew | apply bl_alloc | (refine bl_set ?_ _ _ (by first | exact Nat.le_refl _ | exact HB1.out.size | exact HB2.out.size | exact HB3.out.size | exact HBc.out.size) _))) HWv) (first | (go_at_call_of 28 (Value.agg #[.int .i64 a, .int .i64 b]); refine (toRational_any _ _ _).mono ?_; rintro e w1 ⟨rfl, hb1⟩; have HB1 : Hid (Below wv.heap.size wv w1) := Lib.hid (bl_trans (by repeat (first | exact Below.refl _ _ | exact HB1.out | exact HB2.out | exact HB3.out | exact HBc.out | apply Below.drew | apply bl_alloc | (refine bl_set ?_ _ _ (by first | exact Nat.le_refl _ | exact HB1.out.size | exact HB2.out.size | exact HB3.out.size | exact HBc.out.size) _))) hb1); (first | have hk := two_new' hb1; have k0 := hk.1; have k1 := hk.2.1; have k2 := hk.2.2.1; have k3 := hk.2.2.2 | have hk := two_new hb1; have k0 := hk.1; have k1 := hk.2.1; have k2 := hk.2.2.1; have k3 := hk.2.2.2 | have hk := two_keep hb1 (by assumption); have k0 := hk.1; have k1 := hk.2.1; have k2 := hk.2.2.1; have k3 := hk.2.2.2 | skip)) | (go_at_call_of 28 (Value.agg #[.int .i64 c, .int .i64 d]); refine (toRational_any _ _ _).mono ?_; rintro e w2 ⟨rfl, hb2⟩; have HB2 : Hid (Below wv.heap.size wv w2) := Lib.hid (bl_trans (by repeat (first | exact Below.refl _ _ | exact HB1.out | exact HB2.out | exact HB3.out | exact HBc.out | apply Below.drew | apply bl_alloc | (refine bl_set ?_ _ _ (by first | exact Nat.le_refl _ | exact HB1.out.size | exact HB2.out.size | exact HB3.out.size | exact HBc.out.size) _))) hb2); (first | have hk := two_new' hb2; have k0 := hk.1; have k1 := hk.2.1; have k2 := hk.2.2.1; have k3 := hk.2.2.2 | have hk := two_new hb2; have k0 := hk.1; have k1 := hk.2.1; have k2 := hk.2.2.1; have k3 := hk.2.2.2 | have hk := two_keep hb2 (by assumption); have k0 := hk.1; have k1 := hk.2.1; have k2 := hk.2.2.1; have k3 := hk.2.2.2 | skip)) | (go_at_call 39; refine (Himpl.out _).mono ?_; rintro e w3 ⟨rfl, hb3⟩; have HB3 : Hid (Below wv.heap.size wv w3) := Lib.hid (bl_trans (by repeat (first | exact Below.refl _ _ | exact HB1.out | exact HB2.out | exact HB3.out | exact HBc.out | apply Below.drew | apply bl_alloc | (refine bl_set ?_ _ _ (by first | exact Nat.le_refl _ | exact HB1.out.size | exact HB2.out.size | exact HB3.out.size | exact HBc.out.size) _))) hb3); (first | have hk := two_new' hb3; have k0 := hk.1; have k1 := hk.2.1; have k2 := hk.2.2.1; have k3 := hk.2.2.2 | have hk := two_new hb3; have k0 := hk.1; have k1 := hk.2.1; have k2 := hk.2.2.1; have k3 := hk.2.2.2 | have hk := two_keep hb3 (by assumption); have k0 := hk.1; have k1 := hk.2.1; have k2 := hk.2.2.1; have k3 := hk.2.2.2 | skip)))
      all_goals
        go_wp2_with fail
        go_meet
        exact ⟨_, _, rfl, rfl, rfl, Lib.hid (by repeat (first | exact Below.refl _ _ | exact HB1.out | exact HB2.out | exact HB3.out | exact HBc.out | apply Below.drew | apply bl_alloc | (refine bl_set ?_ _ _ (by first | exact Nat.le_refl _ | exact HB1.out.size | exact HB2.out.size | exact HB3.out.size | exact HBc.out.size) _))), Lib.hid (by simp [go_sem, *])⟩
    case rest =>
      obtain ⟨wz, h, rfl, rfl, rfl, HBd, HC2⟩ := hcut
      have c0 := keep_cell HBd.out HC.out.1
      have c1 := keep_cell HBd.out HC.out.2
      have ⟨d0, d1⟩ := HC2.out
      have HBz := Lib.hid (bl_trans HBv.out HBd.out)
      clear HBv HBd HC HC2 HWv Himpl
      go_wp2_with fail
      refine (eqRational_any _ _ _).mono ?_
      rintro e w4 ⟨rfl, hb4⟩
      have HB4 := Lib.hid (bl_trans HBz.out hb4)
      clear hb4
      go_wp2
      go_ret
      exact ⟨rfl, HB4.out⟩

end Go.Proofs.Ythnnihjiojhbiaa