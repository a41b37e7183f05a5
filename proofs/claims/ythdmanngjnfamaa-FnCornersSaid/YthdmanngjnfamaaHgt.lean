
/- The walks of a polygon's height. -/
import Derived.Test.YthdmanngjnfamaaPure
import Derived.Test.YthdmanngjnfamaaRatMake
namespace Go.Proofs.Ythdmanngjnfamaa
open Go.RowKit

theorem hA_bd {x u v : Int} (h1 : 0 ≤ x) (h2 : x ≤ 39) (h5 : 0 ≤ u) (h6 : u ≤ 8) (h7 : 0 ≤ v) (h8 : v ≤ 8) : -312 ≤ x * (u - v) ∧ x * (u - v) ≤ 312 := by
  have h : (x * (u - v)).natAbs ≤ 39 * 8 := by
    rw [Int.natAbs_mul]
    exact Nat.mul_le_mul (by omega) (by omega)
  generalize x * (u - v) = z at *
  omega
theorem ht_yes {C : List (Int × Int)} {k : Nat} {x ax ay bx by_ : Int} (hk : 1 ≤ k) (hl : k < C.length) (h1 : ax = pX C (k - 1)) (h2 : ay = pY C (k - 1)) (h3 : bx = pX C k) (h4 : by_ = pY C k)
    (h : htF ((C.getD 0 (0, 0)).2, 1) (C.drop (k - 1)) x = htL C x) (hx : x ≤ bx) : htL C x = (ay * (bx - ax) + (by_ - ay) * (x - ax), bx - ax) := by
  have e : k - 1 + 1 = k := by omega
  rw [← h, htF_yes (by omega) (by rw [e]; rw [h3] at hx; exact hx), e, h1, h2, h3, h4]
  rfl
theorem ht_no {C : List (Int × Int)} {k : Nat} {x bx : Int} (hk : 1 ≤ k) (hl : k < C.length) (h3 : bx = pX C k)
    (h : htF ((C.getD 0 (0, 0)).2, 1) (C.drop (k - 1)) x = htL C x) (hx : ¬ x ≤ bx) : htF ((C.getD 0 (0, 0)).2, 1) (C.drop (k + 1 - 1)) x = htL C x := by
  have e : k - 1 + 1 = k := by omega
  rw [← h, htF_no (k := k - 1) (by omega) (by rw [e]; rw [h3] at hx; exact hx), e]
  rfl

set_option maxRecDepth 100000 in
set_option maxHeartbeats 4000000 in
theorem l13Height_any (A : Option Addr) (M c : Nat) (C : List (Int × Int)) (x : Int) (w : World) (hr : RdC 2 w A M c (V2 C)) (hM : M = C.length) (h0 : 0 < M) (h9 : M ≤ 9) (hb : Bd C) (x1 : pX C 0 ≤ x) (x2 : x ≤ 8) :
    Calls Try.prog 121 #[.slice A M c, .int .i64 x] w fun e w' => e = .returned (.tuple #[.int .i64 (htL C x).1, .int .i64 (htL C x).2]) ∧ Below w.heap.size w w' := by
  have HR := Lib.hid hr
  have HM := Lib.hid hM
  have HBd := Lib.hid hb
  have HX1 := Lib.hid x1
  have hcs := hr.2.1
  have hcs2 := hr.2.2.1
  unfold maxLen at hcs2
  have hx0 : 0 ≤ x := by
    have := (bd_at hb (show 0 < C.length by omega)).1.1
    omega
  obtain ⟨b1, off1, rfl, hcell⟩ := RdC.atF (zs := flatI C) hr h0
  clear hr hM hb x1 hcell
  go_enter Try.func121, Try.ntmps121
  go_wp2
  obtain ⟨w0, hw0⟩ : ∃ w0, w0 = w := ⟨_, rfl⟩
  rw [← hw0]
  have HB0 : Hid (Below w.heap.size w w0) := Lib.hid (by rw [hw0]; exact Below.refl _ _)
  clear hw0
  have HR0 := Lib.hid (HR.out.below HB0.out)
  go_loopw [6, 7, 8] (fun i _ _ wr => ∃ k : Nat, 1 ≤ k ∧ k ≤ M ∧ i = .int .i64 k ∧ Hid (htF ((C.getD 0 (0, 0)).2, 1) (C.drop (k - 1)) x = htL C x) ∧ Hid (pX C (k - 1) ≤ x) ∧ Hid (Below w0.heap.size w0 wr)) (fun i _ _ _ => M - (intOf i).toNat)
  case atStart => exact ⟨1, by omega, by omega, rfl, Lib.hid rfl, Lib.hid HX1.out, Lib.hid (Below.refl _ _)⟩
  case round =>
    obtain ⟨k, k1, k2, rfl, HH, HXk, HB⟩ := hrel
    obtain ⟨b3, off3, e3, hcell⟩ := RdC.atF (zs := flatI C) (HR0.out.below HB.out) h0
    simp at e3
    obtain ⟨rfl, rfl⟩ := e3
    by_cases hlt : k < M
    · have bx0 := hcell (k * 2 + 0) (fl_lt (show k < M by omega) (by omega))
      rw [Nat.add_zero, (flatI_at C (k) (by have := HM.out; omega)).1] at bx0
      have by_0 := hcell (k * 2 + 1) (fl_lt (show k < M by omega) (by omega))
      rw [← Nat.add_assoc, (flatI_at C (k) (by have := HM.out; omega)).2] at by_0
      change _ = some (Value.int .i64 (pX C (k))) at bx0
      change _ = some (Value.int .i64 (pY C (k))) at by_0
      have bbx := bd_at HBd.out (show k < C.length by have := HM.out; omega)
      obtain ⟨bx, hbx⟩ : ∃ x, x = pX C (k) := ⟨_, rfl⟩
      obtain ⟨by_, hby_⟩ : ∃ x, x = pY C (k) := ⟨_, rfl⟩
      rw [← hbx] at bx0 bbx
      rw [← hby_] at by_0 bbx
      have ⟨⟨bx1, bx2⟩, ⟨by_1, by_2⟩⟩ := bbx
      clear bbx
      have ax0 := hcell ((k - 1) * 2 + 0) (fl_lt (show (k - 1) < M by omega) (by omega))
      rw [Nat.add_zero, (flatI_at C ((k - 1)) (by have := HM.out; omega)).1] at ax0
      have ay0 := hcell ((k - 1) * 2 + 1) (fl_lt (show (k - 1) < M by omega) (by omega))
      rw [← Nat.add_assoc, (flatI_at C ((k - 1)) (by have := HM.out; omega)).2] at ay0
      change _ = some (Value.int .i64 (pX C ((k - 1)))) at ax0
      change _ = some (Value.int .i64 (pY C ((k - 1)))) at ay0
      have bax := bd_at HBd.out (show (k - 1) < C.length by have := HM.out; omega)
      obtain ⟨ax, hax⟩ : ∃ x, x = pX C ((k - 1)) := ⟨_, rfl⟩
      obtain ⟨ay, hay⟩ : ∃ x, x = pY C ((k - 1)) := ⟨_, rfl⟩
      rw [← hax] at ax0 bax
      rw [← hay] at ay0 bax
      have ⟨⟨ax1, ax2⟩, ⟨ay1, ay2⟩⟩ := bax
      clear bax
      have hbl := block_lt_of_cell bx0
      have hbl2 : b1 < wr.heap.size + 1 := by omega
      have hxa : ax ≤ x := by rw [hax]; exact HXk.out
      have ⟨u1, u2⟩ := hA_bd ay1 ay2 bx1 bx2 ax1 ax2
      have ⟨u3, u4⟩ := diff_bd by_1 by_2 ay1 ay2 hx0 x2 ax1 ax2
      by_cases hc : x ≤ bx
      · have HF := Lib.hid (ht_yes (x := x) k1 (by have := HM.out; omega) hax hay hbx hby_ HH.out hc)
        clear hcell hax hay hbx hby_
        go_wp2
        go_region
        all_goals
          go_wp2
          have e1 : IntKind.i64.wrap (bx - ax) = bx - ax := IntWalk.i64_in _ (by omega)
          have e2 : IntKind.i64.wrap (ay * (bx - ax)) = ay * (bx - ax) := IntWalk.i64_in _ (by omega)
          have e3 : IntKind.i64.wrap (by_ - ay) = by_ - ay := IntWalk.i64_in _ (by omega)
          have e4 : IntKind.i64.wrap (x - ax) = x - ax := IntWalk.i64_in _ (by omega)
          have e5 : IntKind.i64.wrap ((by_ - ay) * (x - ax)) = (by_ - ay) * (x - ax) := IntWalk.i64_in _ (by omega)
          have e6 : IntKind.i64.wrap (ay * (bx - ax) + (by_ - ay) * (x - ax)) = ay * (bx - ax) + (by_ - ay) * (x - ax) := IntWalk.i64_in _ (by omega)
          go_quiet (fail)
          clear e1 e2 e3 e4 e5 e6
          go_wp2
          go_ret2
          exact ⟨by rw [HF.out]; rfl, bl_trans HB0.out (by repeat (first | exact HB.out | apply Below.drew | apply below_drewN | refine bl_alloc ?_ _))⟩
      · have HH2 := Lib.hid (ht_no (x := x) k1 (by have := HM.out; omega) hbx HH.out hc)
        have HX2 : Hid (pX C (k + 1 - 1) ≤ x) := Lib.hid (by rw [show k + 1 - 1 = k by omega, ← hbx]; omega)
        clear hcell hax hay hbx hby_
        go_wp2
        go_region
        all_goals
          go_wp2
          go_roundw
          case rel => exact ⟨k + 1, by omega, by omega, by go_num, HH2, HX2, Lib.hid (by repeat (first | exact HB.out | apply Below.drew | apply below_drewN | refine bl_alloc ?_ _))⟩
          case measure => simp [intOf]; omega
    · have zx0 := hcell (0 * 2 + 0) (fl_lt (show 0 < M by omega) (by omega))
      rw [Nat.add_zero, (flatI_at C (0) (by have := HM.out; omega)).1] at zx0
      have zy0 := hcell (0 * 2 + 1) (fl_lt (show 0 < M by omega) (by omega))
      rw [← Nat.add_assoc, (flatI_at C (0) (by have := HM.out; omega)).2] at zy0
      change _ = some (Value.int .i64 (pX C (0))) at zx0
      change _ = some (Value.int .i64 (pY C (0))) at zy0
      have bzx := bd_at HBd.out (show 0 < C.length by have := HM.out; omega)
      obtain ⟨zx, hzx⟩ : ∃ x, x = pX C (0) := ⟨_, rfl⟩
      obtain ⟨zy, hzy⟩ : ∃ x, x = pY C (0) := ⟨_, rfl⟩
      rw [← hzx] at zx0 bzx
      rw [← hzy] at zy0 bzx
      have ⟨⟨zx1, zx2⟩, ⟨zy1, zy2⟩⟩ := bzx
      clear bzx
      simp only [Nat.zero_mul, Nat.add_zero] at zx0 zy0
      have HF : Hid (htL C x = (zy, 1)) := Lib.hid (by rw [← HH.out, htF_end (by have := HM.out; omega), hzy]; rfl)
      clear hcell hzx hzy
      go_wp2
      go_ret2
      exact ⟨by rw [HF.out]; rfl, bl_trans HB0.out HB.out⟩

set_option maxRecDepth 100000 in
set_option maxHeartbeats 4000000 in
theorem height_any (A : Option Addr) (M c : Nat) (C : List (Int × Int)) (x : Int) (w : World) (hr : RdC 2 w A M c (V2 C)) (hM : M = C.length) (h0 : 0 < M) (h9 : M ≤ 9) (hb : Bd C) (hin : Inc (pX C) C.length) (x1 : pX C 0 ≤ x) (x2 : x ≤ 8) :
    Calls Try.prog 120 #[.slice A M c, .int .i64 x] w fun e w' => e = .returned (.agg #[.int .i64 (rdN (htL C x).1 (htL C x).2), .int .i64 (rdD (htL C x).1 (htL C x).2)]) ∧ Below w.heap.size w w' := by
  have HR := Lib.hid hr
  have HM := Lib.hid hM
  have HBd := Lib.hid hb
  have HIn := Lib.hid hin
  have HX1 := Lib.hid x1
  have hcs := hr.2.1
  have hcs2 := hr.2.2.1
  unfold maxLen at hcs2
  have hx0 : 0 ≤ x := by
    have := (bd_at hb (show 0 < C.length by omega)).1.1
    omega
  obtain ⟨b1, off1, rfl, hcell⟩ := RdC.atF (zs := flatI C) hr h0
  clear hr hM hb x1 hcell hin
  go_enter Try.func120, Try.ntmps120
  go_wp2
  obtain ⟨w0, hw0⟩ : ∃ w0, w0 = w.alloc (.cells #[.int .i64 0, .int .i64 0] 34) := ⟨_, rfl⟩
  rw [← hw0]
  have q0 : w0.cell? ⟨w.heap.size, 0, none⟩ = some (.int .i64 0) := by rw [hw0]; simp [go_sem]
  have q1 : w0.cell? ⟨w.heap.size, 1, none⟩ = some (.int .i64 0) := by rw [hw0]; simp [go_sem]
  have f0 : w0.frozen? ⟨w.heap.size, 0, none⟩ = false := by rw [hw0]; simp [go_sem]
  have f1 : w0.frozen? ⟨w.heap.size, 1, none⟩ = false := by rw [hw0]; simp [go_sem]
  have HB0 : Hid (Below w.heap.size w w0) := Lib.hid (by rw [hw0]; exact bl_alloc (Below.refl _ _) _)
  have Q := Lib.hid (And.intro q0 (And.intro q1 (And.intro f0 f1)))
  clear hw0 q0 q1 f0 f1
  have HR0 := Lib.hid (HR.out.below HB0.out)
  go_loopw [5, 6, 7] (fun i _ _ wr => ∃ k : Nat, 1 ≤ k ∧ k ≤ M ∧ i = .int .i64 k ∧ Hid (htF ((C.getD 0 (0, 0)).2, 1) (C.drop (k - 1)) x = htL C x) ∧ Hid (pX C (k - 1) ≤ x) ∧ Hid (Below w0.heap.size w0 wr)) (fun i _ _ _ => M - (intOf i).toNat)
  case atStart => exact ⟨1, by omega, by omega, rfl, Lib.hid rfl, Lib.hid HX1.out, Lib.hid (Below.refl _ _)⟩
  case round =>
    obtain ⟨k, k1, k2, rfl, HH, HXk, HB⟩ := hrel
    obtain ⟨b3, off3, e3, hcell⟩ := RdC.atF (zs := flatI C) (HR0.out.below HB.out) h0
    simp at e3
    obtain ⟨rfl, rfl⟩ := e3
    by_cases hlt : k < M
    · have bx0 := hcell (k * 2 + 0) (fl_lt (show k < M by omega) (by omega))
      rw [Nat.add_zero, (flatI_at C (k) (by have := HM.out; omega)).1] at bx0
      have by_0 := hcell (k * 2 + 1) (fl_lt (show k < M by omega) (by omega))
      rw [← Nat.add_assoc, (flatI_at C (k) (by have := HM.out; omega)).2] at by_0
      change _ = some (Value.int .i64 (pX C (k))) at bx0
      change _ = some (Value.int .i64 (pY C (k))) at by_0
      have bbx := bd_at HBd.out (show k < C.length by have := HM.out; omega)
      obtain ⟨bx, hbx⟩ : ∃ x, x = pX C (k) := ⟨_, rfl⟩
      obtain ⟨by_, hby_⟩ : ∃ x, x = pY C (k) := ⟨_, rfl⟩
      rw [← hbx] at bx0 bbx
      rw [← hby_] at by_0 bbx
      have ⟨⟨bx1, bx2⟩, ⟨by_1, by_2⟩⟩ := bbx
      clear bbx
      have ax0 := hcell ((k - 1) * 2 + 0) (fl_lt (show (k - 1) < M by omega) (by omega))
      rw [Nat.add_zero, (flatI_at C ((k - 1)) (by have := HM.out; omega)).1] at ax0
      have ay0 := hcell ((k - 1) * 2 + 1) (fl_lt (show (k - 1) < M by omega) (by omega))
      rw [← Nat.add_assoc, (flatI_at C ((k - 1)) (by have := HM.out; omega)).2] at ay0
      change _ = some (Value.int .i64 (pX C ((k - 1)))) at ax0
      change _ = some (Value.int .i64 (pY C ((k - 1)))) at ay0
      have bax := bd_at HBd.out (show (k - 1) < C.length by have := HM.out; omega)
      obtain ⟨ax, hax⟩ : ∃ x, x = pX C ((k - 1)) := ⟨_, rfl⟩
      obtain ⟨ay, hay⟩ : ∃ x, x = pY C ((k - 1)) := ⟨_, rfl⟩
      rw [← hax] at ax0 bax
      rw [← hay] at ay0 bax
      have ⟨⟨ax1, ax2⟩, ⟨ay1, ay2⟩⟩ := bax
      clear bax
      have hbl := block_lt_of_cell bx0
      have hbl2 : b1 < wr.heap.size + 1 := by omega
      have hxa : ax ≤ x := by rw [hax]; exact HXk.out
      have ⟨u1, u2⟩ := hA_bd ay1 ay2 bx1 bx2 ax1 ax2
      have ⟨u3, u4⟩ := diff_bd by_1 by_2 ay1 ay2 hx0 x2 ax1 ax2
      by_cases hc : x ≤ bx
      · have HF := Lib.hid (ht_yes (x := x) k1 (by have := HM.out; omega) hax hay hbx hby_ HH.out hc)
        have hinc : ¬ bx - ax = 0 := by
          have := HIn.out (k - 1) k (by omega) (by have := HM.out; omega)
          rw [← hax, ← hbx] at this
          omega
        clear hcell hax hay hbx hby_
        go_wp2
        go_region
        all_goals
          go_wp2_with fail
          refine (reduced_any (ay * (bx - ax) + (by_ - ay) * (x - ax)) (bx - ax) (by unfold Wd; omega) (by unfold Wd; omega) (by omega) _).mono ?_
          rintro e w2 ⟨rfl, hb2⟩
          have hb3 := bl_trans (show Below w0.heap.size w0 _ from (by repeat (first | exact HB.out | apply Below.drew | apply below_drewN | refine bl_alloc ?_ _))) hb2
          have q0 := keep_cell hb3 Q.out.1
          have q1 := keep_cell hb3 Q.out.2.1
          have f0 := keep_fr hb3 Q.out.1 Q.out.2.2.1
          have f1 := keep_fr hb3 Q.out.2.1 Q.out.2.2.2
          have HB3 := Lib.hid hb3
          clear hb2 hb3
          go_wp2
          rw [HF.out]
          exact bodyPost_ret (v := .agg #[.int .i64 (rdN (ay * (bx - ax) + (by_ - ay) * (x - ax)) (bx - ax)), .int .i64 (rdD (ay * (bx - ax) + (by_ - ay) * (x - ax)) (bx - ax))]) (by simp [results, Try.results120, go_sem, q0, q1]) rfl ⟨rfl, bl_set (bl_set (bl_trans HB0.out HB3.out) _ _ (Nat.le_refl _) _) _ _ (Nat.le_refl _) _⟩
      · have HH2 := Lib.hid (ht_no (x := x) k1 (by have := HM.out; omega) hbx HH.out hc)
        have HX2 : Hid (pX C (k + 1 - 1) ≤ x) := Lib.hid (by rw [show k + 1 - 1 = k by omega, ← hbx]; omega)
        clear hcell hax hay hbx hby_
        go_wp2
        go_region
        all_goals
          go_wp2
          go_roundw
          case rel => exact ⟨k + 1, by omega, by omega, by go_num, HH2, HX2, Lib.hid (by repeat (first | exact HB.out | apply Below.drew | apply below_drewN | refine bl_alloc ?_ _))⟩
          case measure => simp [intOf]; omega
    · have zx0 := hcell (0 * 2 + 0) (fl_lt (show 0 < M by omega) (by omega))
      rw [Nat.add_zero, (flatI_at C (0) (by have := HM.out; omega)).1] at zx0
      have zy0 := hcell (0 * 2 + 1) (fl_lt (show 0 < M by omega) (by omega))
      rw [← Nat.add_assoc, (flatI_at C (0) (by have := HM.out; omega)).2] at zy0
      change _ = some (Value.int .i64 (pX C (0))) at zx0
      change _ = some (Value.int .i64 (pY C (0))) at zy0
      have bzx := bd_at HBd.out (show 0 < C.length by have := HM.out; omega)
      obtain ⟨zx, hzx⟩ : ∃ x, x = pX C (0) := ⟨_, rfl⟩
      obtain ⟨zy, hzy⟩ : ∃ x, x = pY C (0) := ⟨_, rfl⟩
      rw [← hzx] at zx0 bzx
      rw [← hzy] at zy0 bzx
      have ⟨⟨zx1, zx2⟩, ⟨zy1, zy2⟩⟩ := bzx
      clear bzx
      simp only [Nat.zero_mul, Nat.add_zero] at zx0 zy0
      have HF : Hid (htL C x = (zy, 1)) := Lib.hid (by rw [← HH.out, htF_end (by have := HM.out; omega), hzy]; rfl)
      clear hcell hzx hzy
      have q0 := keep_cell HB.out Q.out.1
      have q1 := keep_cell HB.out Q.out.2.1
      have f0 := keep_fr HB.out Q.out.1 Q.out.2.2.1
      have f1 := keep_fr HB.out Q.out.2.1 Q.out.2.2.2
      have HRD : Hid (rdN zy 1 = zy ∧ rdD zy 1 = 1) := Lib.hid (by unfold rdN rdD; simp)
      go_wp2
      rw [HF.out]
      simp only [HRD.out.1, HRD.out.2]
      exact bodyPost_ret (v := .agg #[.int .i64 zy, .int .i64 1]) (by simp [results, Try.results120, go_sem, q0, q1]) rfl ⟨rfl, bl_set (bl_set (bl_trans HB0.out HB.out) _ _ (Nat.le_refl _) _) _ _ (Nat.le_refl _) _⟩

end Go.Proofs.Ythdmanngjnfamaa