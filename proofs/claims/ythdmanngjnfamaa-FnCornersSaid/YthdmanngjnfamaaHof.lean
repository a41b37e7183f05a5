
/- The walks of HeightOf, and of the law over it. -/
import Derived.Test.YthdmanngjnfamaaHgt
import Derived.Test.YthdmanngjnfamaaRatEq
import Derived.Deep.DeepCutAuto
import Derived.Deep.QuietTactic
import Derived.BigQuiet
namespace Go.Proofs.Ythdmanngjnfamaa
open Go.RowKit

theorem ht_ok {C : List (Int × Int)} (hb : Bd C) (hi : Inc (pX C) C.length) (h0 : 0 < C.length) {x : Int} : ∀ (f k : Nat), C.length - k ≤ f → pX C k ≤ x →
    (0 ≤ (htF ((C.getD 0 (0, 0)).2, 1) (C.drop k) x).1 ∧ (htF ((C.getD 0 (0, 0)).2, 1) (C.drop k) x).1 ≤ 624) ∧ (1 ≤ (htF ((C.getD 0 (0, 0)).2, 1) (C.drop k) x).2 ∧ (htF ((C.getD 0 (0, 0)).2, 1) (C.drop k) x).2 ≤ 8) := by
  have z := bd_at hb h0
  have zend : (0 ≤ (C.getD 0 (0, 0)).2 ∧ (C.getD 0 (0, 0)).2 ≤ 624) ∧ (1 ≤ (1 : Int) ∧ (1 : Int) ≤ 8) := by
    have := z.2
    unfold pY at this
    omega
  intro f
  induction f with
  | zero =>
    intro k hk hxk
    rw [htF_end (by omega)]
    exact zend
  | succ f ih =>
    intro k hk hxk
    by_cases hl : k + 1 < C.length
    · have ⟨⟨a1, a2⟩, ⟨a3, a4⟩⟩ := bd_at hb (i := k) (by omega)
      have ⟨⟨b1, b2⟩, ⟨b3, b4⟩⟩ := bd_at hb hl
      have hlt := hi k (k + 1) (by omega) hl
      by_cases hc : x ≤ (C.getD (k + 1) (0, 0)).1
      · rw [htF_yes hl hc]
        have h1 := ht_bd (a := C.getD k (0, 0)) (b := C.getD (k + 1) (0, 0)) (x := x) a1 b2 hlt hxk hc a3 a4 b3 b4
        unfold pX at *
        exact ⟨h1, by omega⟩
      · rw [htF_no hl hc]
        exact ih (k + 1) (by omega) (by unfold pX; omega)
    · rw [htF_end (by omega)]
      exact zend
theorem quiet_left {P : Program} {f : FuncId} {args : Array Value} {w : World} {n : Nat} {v : Value}
    (h : Calls P f args (w.drewN n) fun e w' => e = .returned v ∧ w.drewN n = w') : Calls P f args (w.drewN n) fun e w'' => e = .returned v ∧ ∃ m, w'' = w.drewN m :=
  h.mono fun _ _ ⟨he, hm⟩ => ⟨he, n, hm.symm⟩
/-- is x over the polygon -/
def hIn (C : List (Int × Int)) (x : Int) : Prop := pX C 0 ≤ x ∧ x ≤ pX C (C.length - 1)
instance (C : List (Int × Int)) (x : Int) : Decidable (hIn C x) := by unfold hIn; infer_instance
noncomputable def hoC (p : Int) (xs : List Int) (x : Int) : Int := if pgC p xs = 0 then (if hIn (plL p xs) x then 0 else 2) else pgC p xs
noncomputable def hoN (p : Int) (xs : List Int) (x : Int) : Int := if hoC p xs x = 0 then rdN (htL (plL p xs) x).1 (htL (plL p xs) x).2 else 0
noncomputable def hoD (p : Int) (xs : List Int) (x : Int) : Int := if hoC p xs x = 0 then rdD (htL (plL p xs) x).1 (htL (plL p xs) x).2 else 0
theorem decC_out {x lo hi : Int} (h : ¬ (lo ≤ x ∧ x ≤ hi)) : (decide (lo ≤ x) && decide (x ≤ hi)) = false := by
  simp only [Bool.and_eq_false_iff, decide_eq_false_iff_not]; omega
theorem two_zero0 {w w1 : World} {T : TypeId} (hb : Below (w.alloc (.cells #[.int .i64 0, .int .i64 0] T)).heap.size (w.alloc (.cells #[.int .i64 0, .int .i64 0] T)) w1) :
    w1.cell? ⟨w.heap.size, 0, none⟩ = some (.int .i64 0) ∧ w1.cell? ⟨w.heap.size, 1, none⟩ = some (.int .i64 0) ∧ w1.frozen? ⟨w.heap.size, 0, none⟩ = false ∧ w1.frozen? ⟨w.heap.size, 1, none⟩ = false :=
  ⟨keep_cell hb (by simp [go_sem]), keep_cell hb (by simp [go_sem]), keep_fr hb (v := .int .i64 0) (by simp [go_sem]) (by simp [go_sem]), keep_fr hb (v := .int .i64 0) (by simp [go_sem]) (by simp [go_sem])⟩

set_option maxRecDepth 100000 in
set_option maxHeartbeats 1600000 in
theorem specHeightOf_any (p : Int) (A : Option Addr) (n c : Nat) (xs : List Int) (x : Int) (w : World) (hr : Rd .i64 w A n c xs) :
    Calls Try.prog 58 #[.int .i64 p, .slice A n c, .int .i64 x] w fun e w' => e = .returned (.tuple #[.agg #[.int .i64 (hoN p xs x), .int .i64 (hoD p xs x)], .int .i64 (hoC p xs x)]) ∧ Below w.heap.size w w' := by
  have HR := Lib.hid hr
  clear hr
  obtain ⟨k, hk⟩ : ∃ k, k = pgC p xs := ⟨_, rfl⟩
  have HK := Lib.hid hk
  by_cases hz : k = 0
  · subst hz
    have ⟨hp, hx, h0⟩ := pgC_zero hk.symm
    obtain ⟨C, hC⟩ : ∃ C, C = plL p xs := ⟨_, rfl⟩
    obtain ⟨M, hM⟩ : ∃ M, M = (plL p xs).length := ⟨_, rfl⟩
    have hbd : Bd C := by rw [hC]; exact plL_bd hp hx h0
    have hin : Inc (pX C) C.length := by rw [hC]; exact pw_inc (plL_inc hx h0)
    have ⟨hM0, hM9⟩ := plL_len (p := p) hx h0
    rw [← hM] at hM0 hM9
    have HM : Hid (M = C.length) := Lib.hid (by rw [hM, hC])
    have z1 := bd_at hbd (i := 0) (by have := HM.out; omega)
    have z2 := bd_at hbd (i := C.length - 1) (by have := HM.out; omega)
    have HP := Lib.hid hp
    have HX := Lib.hid hx
    have H0 := Lib.hid h0
    have HMp := Lib.hid hM
    have HC := Lib.hid hC
    have HBd := Lib.hid hbd
    have HIn := Lib.hid hin
    obtain ⟨lo, hlo⟩ : ∃ y, y = pX C 0 := ⟨_, rfl⟩
    obtain ⟨hi, hhi⟩ : ∃ y, y = pX C (C.length - 1) := ⟨_, rfl⟩
    have hiff : hIn C x ↔ lo ≤ x ∧ x ≤ hi := by unfold hIn; rw [← hlo, ← hhi]
    have HLO := Lib.hid hlo
    have HHI := Lib.hid hhi
    rw [← hlo] at z1
    rw [← hhi] at z2
    have ⟨⟨lo1, lo2⟩, _⟩ := z1
    have ⟨⟨hi1, hi2⟩, _⟩ := z2
    by_cases hc : lo ≤ x ∧ x ≤ hi
    · have ⟨c1, c2⟩ := hc
      have HIn2 : Hid (pX C 0 ≤ x ∧ x ≤ pX C (C.length - 1)) := Lib.hid (by rw [← hlo, ← hhi]; exact hc)
      have hok := ht_ok hbd hin (by have := HM.out; omega) (x := x) C.length 0 (by omega) HIn2.out.1
      have HVn : Hid (V (htL C x).1) := Lib.hid (by have := hok.1; unfold V; exact ⟨by have h : 0 ≤ (htL C x).1 := this.1; omega, by have h : (htL C x).1 ≤ 624 := this.2; omega⟩)
      have HVd : Hid (V (htL C x).2) := Lib.hid (by have := hok.2; unfold V; exact ⟨by have h : 1 ≤ (htL C x).2 := this.1; omega, by have h : (htL C x).2 ≤ 8 := this.2; omega⟩)
      have HD0 : Hid (¬ (htL C x).2 = 0) := Lib.hid (by have h : 1 ≤ (htL C x).2 := hok.2.1; omega)
      have HE : Hid (hoC p xs x = 0 ∧ hoN p xs x = rdN (htL C x).1 (htL C x).2 ∧ hoD p xs x = rdD (htL C x).1 (htL C x).2) := Lib.hid (by
        have e : hoC p xs x = 0 := by unfold hoC; rw [← hk, if_pos rfl, ← hC, if_pos (hiff.2 hc)]
        exact ⟨e, by unfold hoN; rw [e, if_pos rfl, hC], by unfold hoD; rw [e, if_pos rfl, hC]⟩)
      clear hk hp hx h0 hC hM hbd hin hlo hhi z1 z2 hiff hok hc
      go_enter Try.func58, Try.ntmps58
      go_upto_region 1 with fail
      obtain ⟨w0, hw0⟩ : ∃ w0, w0 = w.alloc (.cells #[.int .i64 0, .int .i64 0] 34) := ⟨_, rfl⟩
      rw [← hw0]
      have HB0 : Hid (Below w.heap.size w w0) := Lib.hid (by rw [hw0]; exact bl_alloc (Below.refl _ _) _)
      have HW0 := Lib.hid hw0
      clear hw0
      go_wp2_with (go_at_call 110; refine (l13Code_at _ (HR.out.below HB0.out) HK.out).mono ?_; rintro e w' ⟨rfl, rfl⟩)
      refine (l13Polygon_at _ HMp.out (HR.out.below HB0.out) HP.out HX.out H0.out).mono ?_
      rintro e w1 ⟨A1, c3, rfl, ho, hb⟩
      rw [← HC.out] at ho
      have HB1 := Lib.hid hb
      have hcs := ho.2.1
      have hcs2 := ho.2.2.1
      unfold maxLen at hcs2
      have HRd := Lib.hid ho.rd
      obtain ⟨b1, off1, rfl, hcell⟩ := RdC.atF (zs := flatI C) ho.rd (by omega)
      have p0 := hcell (0 * 2 + 0) (fl_lt (show 0 < M by omega) (by omega))
      rw [Nat.add_zero, (flatI_at C 0 (by have := HM.out; omega)).1] at p0
      have p1 := hcell ((M - 1) * 2 + 0) (fl_lt (show M - 1 < M by omega) (by omega))
      rw [Nat.add_zero, (flatI_at C (M - 1) (by have := HM.out; omega)).1] at p1
      try simp only [Nat.zero_mul, Nat.add_zero] at p0
      change _ = some (Value.int .i64 (pX C 0)) at p0
      change _ = some (Value.int .i64 (pX C (M - 1))) at p1
      rw [← HLO.out] at p0
      rw [HM.out, ← HHI.out, ← HM.out] at p1
      clear ho hb hcell
      have i1 : (0 : Int) < (M : Int) := by omega
      have i2 : (0 : Int) ≤ (M : Int) - 1 := by omega
      have i3 : (M : Int) - 1 < (M : Int) := by omega
      have i4 : (1 : Int) ≤ (M : Int) := by omega
      go_wp2
      have e1 : IntKind.i64.wrap ((M : Int) - 1) = (M : Int) - 1 := IntWalk.i64_in _ (by omega)
      go_quiet ((go_at_call 94; exact quiet_left (l01In_any _ _ _ _)))
      clear e1
      go_wp2_with fail
      refine (l13Height_any _ _ _ C x _ (RdC.below HRd.out (by repeat (first | exact Below.refl _ _ | apply Below.drew | apply below_drewN))) HM.out (by omega) hM9 HBd.out HIn2.out.1 (by omega)).mono ?_
      rintro e w2 ⟨rfl, hb2⟩
      have HB2 : Hid (Below w0.heap.size w0 w2) := Lib.hid (bl_trans (bl_trans HB1.out (by repeat (first | exact Below.refl _ _ | apply Below.drew | apply below_drewN))) hb2)
      clear hb2
      go_wp2_with fail
      refine (l05Make_yes _ _ HVn.out.wd HVd.out.wd HD0.out (rd_ok HVn.out HVd.out HD0.out) _).mono ?_
      rintro e w3 ⟨rfl, hb3⟩
      have HB3 : Hid (Below w0.heap.size w0 w3) := Lib.hid (bl_trans HB2.out hb3)
      have q := two_zero0 (by rw [← HW0.out]; exact HB3.out)
      obtain ⟨q0, q1, f0, f1⟩ := q
      clear hb3
      go_wp2
      rw [HE.out.1, HE.out.2.1, HE.out.2.2]
      exact bodyPost_ret (v := .tuple #[.agg #[.int .i64 (rdN (htL C x).1 (htL C x).2), .int .i64 (rdD (htL C x).1 (htL C x).2)], .int .i64 0]) (by simp [results, Try.results58, go_sem, q0, q1]) rfl ⟨rfl, bl_set (bl_set (bl_trans HB0.out HB3.out) _ _ (Nat.le_refl _) _) _ _ (Nat.le_refl _) _⟩
    · have hd := decC_out hc
      have HE : Hid (hoC p xs x = 2 ∧ hoN p xs x = 0 ∧ hoD p xs x = 0) := Lib.hid (by
        have e : hoC p xs x = 2 := by unfold hoC; rw [← hk, if_pos rfl, ← hC, if_neg (fun h => hc (hiff.1 h))]
        exact ⟨e, by unfold hoN; rw [e, if_neg (by omega)], by unfold hoD; rw [e, if_neg (by omega)]⟩)
      clear hk hp hx h0 hC hM hbd hin hlo hhi z1 z2 hiff hc
      go_enter Try.func58, Try.ntmps58
      go_upto_region 1 with fail
      obtain ⟨w0, hw0⟩ : ∃ w0, w0 = w.alloc (.cells #[.int .i64 0, .int .i64 0] 34) := ⟨_, rfl⟩
      rw [← hw0]
      have HB0 : Hid (Below w.heap.size w w0) := Lib.hid (by rw [hw0]; exact bl_alloc (Below.refl _ _) _)
      have HW0 := Lib.hid hw0
      clear hw0
      go_wp2_with (go_at_call 110; refine (l13Code_at _ (HR.out.below HB0.out) HK.out).mono ?_; rintro e w' ⟨rfl, rfl⟩)
      refine (l13Polygon_at _ HMp.out (HR.out.below HB0.out) HP.out HX.out H0.out).mono ?_
      rintro e w1 ⟨A1, c3, rfl, ho, hb⟩
      rw [← HC.out] at ho
      have HB1 := Lib.hid hb
      have hcs := ho.2.1
      have hcs2 := ho.2.2.1
      unfold maxLen at hcs2
      obtain ⟨b1, off1, rfl, hcell⟩ := RdC.atF (zs := flatI C) ho.rd (by omega)
      have p0 := hcell (0 * 2 + 0) (fl_lt (show 0 < M by omega) (by omega))
      rw [Nat.add_zero, (flatI_at C 0 (by have := HM.out; omega)).1] at p0
      have p1 := hcell ((M - 1) * 2 + 0) (fl_lt (show M - 1 < M by omega) (by omega))
      rw [Nat.add_zero, (flatI_at C (M - 1) (by have := HM.out; omega)).1] at p1
      try simp only [Nat.zero_mul, Nat.add_zero] at p0
      change _ = some (Value.int .i64 (pX C 0)) at p0
      change _ = some (Value.int .i64 (pX C (M - 1))) at p1
      rw [← HLO.out] at p0
      rw [HM.out, ← HHI.out, ← HM.out] at p1
      have q := two_zero0 (by rw [← HW0.out]; exact HB1.out)
      obtain ⟨q0, q1, f0, f1⟩ := q
      clear ho hb hcell
      have i1 : (0 : Int) < (M : Int) := by omega
      have i2 : (0 : Int) ≤ (M : Int) - 1 := by omega
      have i3 : (M : Int) - 1 < (M : Int) := by omega
      have i4 : (1 : Int) ≤ (M : Int) := by omega
      go_wp2
      have e1 : IntKind.i64.wrap ((M : Int) - 1) = (M : Int) - 1 := IntWalk.i64_in _ (by omega)
      go_quiet ((go_at_call 94; exact quiet_left (l01In_any _ _ _ _)))
      clear e1
      go_wp2
      rw [HE.out.1, HE.out.2.1, HE.out.2.2]
      exact bodyPost_ret (v := .tuple #[.agg #[.int .i64 0, .int .i64 0], .int .i64 2]) (by simp [results, Try.results58, go_sem, q0, q1]) rfl ⟨rfl, bl_set (bl_set (bl_trans HB0.out (below_drewN HB1.out _)) _ _ (Nat.le_refl _) _) _ _ (Nat.le_refl _) _⟩
  · have hk2 : (k != 0) = true := by simpa using hz
    have HE : Hid (hoC p xs x = k ∧ hoN p xs x = 0 ∧ hoD p xs x = 0) := Lib.hid (by
      have e : hoC p xs x = k := by unfold hoC; rw [← hk, if_neg hz]
      exact ⟨e, by unfold hoN; rw [e, if_neg hz], by unfold hoD; rw [e, if_neg hz]⟩)
    clear hk hz
    go_enter Try.func58, Try.ntmps58
    go_upto_region 1 with fail
    obtain ⟨w0, hw0⟩ : ∃ w0, w0 = w.alloc (.cells #[.int .i64 0, .int .i64 0] 34) := ⟨_, rfl⟩
    rw [← hw0]
    have HB0 : Hid (Below w.heap.size w w0) := Lib.hid (by rw [hw0]; exact bl_alloc (Below.refl _ _) _)
    have HW0 := Lib.hid hw0
    clear hw0
    have q := two_zero0 (by rw [← HW0.out]; exact Below.refl _ _)
    obtain ⟨q0, q1, f0, f1⟩ := q
    go_wp2_with (go_at_call 110; refine (l13Code_at _ (HR.out.below HB0.out) HK.out).mono ?_; rintro e w' ⟨rfl, rfl⟩)
    rw [HE.out.1, HE.out.2.1, HE.out.2.2]
    exact bodyPost_ret (v := .tuple #[.agg #[.int .i64 0, .int .i64 0], .int .i64 k]) (by simp [results, Try.results58, go_sem, q0, q1]) rfl ⟨rfl, bl_set (bl_set HB0.out _ _ (Nat.le_refl _) _) _ _ (Nat.le_refl _) _⟩

set_option maxRecDepth 100000 in
set_option maxHeartbeats 1600000 in
theorem implHeightOf_any (p : Int) (A : Option Addr) (n c : Nat) (xs : List Int) (x : Int) (w : World) (hr : Rd .i64 w A n c xs) :
    Calls Try.prog 57 #[.int .i64 p, .slice A n c, .int .i64 x] w fun e w' => e = .returned (.tuple #[.agg #[.int .i64 (hoN p xs x), .int .i64 (hoD p xs x)], .int .i64 (hoC p xs x)]) ∧ Below w.heap.size w w' := by
  have HR := Lib.hid hr
  clear hr
  obtain ⟨k, hk⟩ : ∃ k, k = pgC p xs := ⟨_, rfl⟩
  have HK := Lib.hid hk
  by_cases hz : k = 0
  · subst hz
    have ⟨hp, hx, h0⟩ := pgC_zero hk.symm
    obtain ⟨C, hC⟩ : ∃ C, C = plL p xs := ⟨_, rfl⟩
    obtain ⟨M, hM⟩ : ∃ M, M = (plL p xs).length := ⟨_, rfl⟩
    have hbd : Bd C := by rw [hC]; exact plL_bd hp hx h0
    have hin : Inc (pX C) C.length := by rw [hC]; exact pw_inc (plL_inc hx h0)
    have ⟨hM0, hM9⟩ := plL_len (p := p) hx h0
    rw [← hM] at hM0 hM9
    have HM : Hid (M = C.length) := Lib.hid (by rw [hM, hC])
    have z1 := bd_at hbd (i := 0) (by have := HM.out; omega)
    have z2 := bd_at hbd (i := C.length - 1) (by have := HM.out; omega)
    have HP := Lib.hid hp
    have HX := Lib.hid hx
    have H0 := Lib.hid h0
    have HMp := Lib.hid hM
    have HC := Lib.hid hC
    have HBd := Lib.hid hbd
    have HIn := Lib.hid hin
    obtain ⟨lo, hlo⟩ : ∃ y, y = pX C 0 := ⟨_, rfl⟩
    obtain ⟨hi, hhi⟩ : ∃ y, y = pX C (C.length - 1) := ⟨_, rfl⟩
    have hiff : hIn C x ↔ lo ≤ x ∧ x ≤ hi := by unfold hIn; rw [← hlo, ← hhi]
    have HLO := Lib.hid hlo
    have HHI := Lib.hid hhi
    rw [← hlo] at z1
    rw [← hhi] at z2
    have ⟨⟨lo1, lo2⟩, _⟩ := z1
    have ⟨⟨hi1, hi2⟩, _⟩ := z2
    by_cases hc : lo ≤ x ∧ x ≤ hi
    · have ⟨c1, c2⟩ := hc
      have HIn2 : Hid (pX C 0 ≤ x ∧ x ≤ pX C (C.length - 1)) := Lib.hid (by rw [← hlo, ← hhi]; exact hc)
      have hok := ht_ok hbd hin (by have := HM.out; omega) (x := x) C.length 0 (by omega) HIn2.out.1
      have HVn : Hid (V (htL C x).1) := Lib.hid (by have := hok.1; unfold V; exact ⟨by have h : 0 ≤ (htL C x).1 := this.1; omega, by have h : (htL C x).1 ≤ 624 := this.2; omega⟩)
      have HVd : Hid (V (htL C x).2) := Lib.hid (by have := hok.2; unfold V; exact ⟨by have h : 1 ≤ (htL C x).2 := this.1; omega, by have h : (htL C x).2 ≤ 8 := this.2; omega⟩)
      have HD0 : Hid (¬ (htL C x).2 = 0) := Lib.hid (by have h : 1 ≤ (htL C x).2 := hok.2.1; omega)
      have HE : Hid (hoC p xs x = 0 ∧ hoN p xs x = rdN (htL C x).1 (htL C x).2 ∧ hoD p xs x = rdD (htL C x).1 (htL C x).2) := Lib.hid (by
        have e : hoC p xs x = 0 := by unfold hoC; rw [← hk, if_pos rfl, ← hC, if_pos (hiff.2 hc)]
        exact ⟨e, by unfold hoN; rw [e, if_pos rfl, hC], by unfold hoD; rw [e, if_pos rfl, hC]⟩)
      clear hk hp hx h0 hC hM hbd hin hlo hhi z1 z2 hiff hok hc
      go_enter Try.func57, Try.ntmps57
      go_upto_region 1 with fail
      obtain ⟨w0, hw0⟩ : ∃ w0, w0 = w.alloc (.cells #[.int .i64 0, .int .i64 0] 34) := ⟨_, rfl⟩
      rw [← hw0]
      have HB0 : Hid (Below w.heap.size w w0) := Lib.hid (by rw [hw0]; exact bl_alloc (Below.refl _ _) _)
      have HW0 := Lib.hid hw0
      clear hw0
      go_wp2_with (go_at_call 108; refine (polygonal_at _ (HR.out.below HB0.out) HK.out).mono ?_; rintro e w' ⟨rfl, rfl⟩)
      refine (polygon_at _ HMp.out (HR.out.below HB0.out) HP.out HX.out H0.out).mono ?_
      rintro e w1 ⟨A1, c3, rfl, ho, hb⟩
      rw [← HC.out] at ho
      have HB1 := Lib.hid hb
      have hcs := ho.2.1
      have hcs2 := ho.2.2.1
      unfold maxLen at hcs2
      have HRd := Lib.hid ho.rd
      obtain ⟨b1, off1, rfl, hcell⟩ := RdC.atF (zs := flatI C) ho.rd (by omega)
      have p0 := hcell (0 * 2 + 0) (fl_lt (show 0 < M by omega) (by omega))
      rw [Nat.add_zero, (flatI_at C 0 (by have := HM.out; omega)).1] at p0
      have p1 := hcell ((M - 1) * 2 + 0) (fl_lt (show M - 1 < M by omega) (by omega))
      rw [Nat.add_zero, (flatI_at C (M - 1) (by have := HM.out; omega)).1] at p1
      try simp only [Nat.zero_mul, Nat.add_zero] at p0
      change _ = some (Value.int .i64 (pX C 0)) at p0
      change _ = some (Value.int .i64 (pX C (M - 1))) at p1
      rw [← HLO.out] at p0
      rw [HM.out, ← HHI.out, ← HM.out] at p1
      clear ho hb hcell
      have i1 : (0 : Int) < (M : Int) := by omega
      have i2 : (0 : Int) ≤ (M : Int) - 1 := by omega
      have i3 : (M : Int) - 1 < (M : Int) := by omega
      have i4 : (1 : Int) ≤ (M : Int) := by omega
      go_wp2
      have e1 : IntKind.i64.wrap ((M : Int) - 1) = (M : Int) - 1 := IntWalk.i64_in _ (by omega)
      go_quiet ((go_at_call 92; exact quiet_left (within_any _ _ _ _)))
      clear e1
      go_wp2_with fail
      refine (height_any _ _ _ C x _ (RdC.below HRd.out (by repeat (first | exact Below.refl _ _ | apply Below.drew | apply below_drewN))) HM.out (by omega) hM9 HBd.out HIn.out HIn2.out.1 (by omega)).mono ?_
      rintro e w2 ⟨rfl, hb2⟩
      have HB2 : Hid (Below w0.heap.size w0 w2) := Lib.hid (bl_trans (bl_trans HB1.out (by repeat (first | exact Below.refl _ _ | apply Below.drew | apply below_drewN))) hb2)
      have q := two_zero0 (by rw [← HW0.out]; exact HB2.out)
      obtain ⟨q0, q1, f0, f1⟩ := q
      clear hb2
      go_wp2
      rw [HE.out.1, HE.out.2.1, HE.out.2.2]
      exact bodyPost_ret (v := .tuple #[.agg #[.int .i64 (rdN (htL C x).1 (htL C x).2), .int .i64 (rdD (htL C x).1 (htL C x).2)], .int .i64 0]) (by simp [results, Try.results57, go_sem, q0, q1]) rfl ⟨rfl, bl_set (bl_set (bl_trans HB0.out HB2.out) _ _ (Nat.le_refl _) _) _ _ (Nat.le_refl _) _⟩
    · have hd := decC_out hc
      have HE : Hid (hoC p xs x = 2 ∧ hoN p xs x = 0 ∧ hoD p xs x = 0) := Lib.hid (by
        have e : hoC p xs x = 2 := by unfold hoC; rw [← hk, if_pos rfl, ← hC, if_neg (fun h => hc (hiff.1 h))]
        exact ⟨e, by unfold hoN; rw [e, if_neg (by omega)], by unfold hoD; rw [e, if_neg (by omega)]⟩)
      clear hk hp hx h0 hC hM hbd hin hlo hhi z1 z2 hiff hc
      go_enter Try.func57, Try.ntmps57
      go_upto_region 1 with fail
      obtain ⟨w0, hw0⟩ : ∃ w0, w0 = w.alloc (.cells #[.int .i64 0, .int .i64 0] 34) := ⟨_, rfl⟩
      rw [← hw0]
      have HB0 : Hid (Below w.heap.size w w0) := Lib.hid (by rw [hw0]; exact bl_alloc (Below.refl _ _) _)
      have HW0 := Lib.hid hw0
      clear hw0
      go_wp2_with (go_at_call 108; refine (polygonal_at _ (HR.out.below HB0.out) HK.out).mono ?_; rintro e w' ⟨rfl, rfl⟩)
      refine (polygon_at _ HMp.out (HR.out.below HB0.out) HP.out HX.out H0.out).mono ?_
      rintro e w1 ⟨A1, c3, rfl, ho, hb⟩
      rw [← HC.out] at ho
      have HB1 := Lib.hid hb
      have hcs := ho.2.1
      have hcs2 := ho.2.2.1
      unfold maxLen at hcs2
      obtain ⟨b1, off1, rfl, hcell⟩ := RdC.atF (zs := flatI C) ho.rd (by omega)
      have p0 := hcell (0 * 2 + 0) (fl_lt (show 0 < M by omega) (by omega))
      rw [Nat.add_zero, (flatI_at C 0 (by have := HM.out; omega)).1] at p0
      have p1 := hcell ((M - 1) * 2 + 0) (fl_lt (show M - 1 < M by omega) (by omega))
      rw [Nat.add_zero, (flatI_at C (M - 1) (by have := HM.out; omega)).1] at p1
      try simp only [Nat.zero_mul, Nat.add_zero] at p0
      change _ = some (Value.int .i64 (pX C 0)) at p0
      change _ = some (Value.int .i64 (pX C (M - 1))) at p1
      rw [← HLO.out] at p0
      rw [HM.out, ← HHI.out, ← HM.out] at p1
      have q := two_zero0 (by rw [← HW0.out]; exact HB1.out)
      obtain ⟨q0, q1, f0, f1⟩ := q
      clear ho hb hcell
      have i1 : (0 : Int) < (M : Int) := by omega
      have i2 : (0 : Int) ≤ (M : Int) - 1 := by omega
      have i3 : (M : Int) - 1 < (M : Int) := by omega
      have i4 : (1 : Int) ≤ (M : Int) := by omega
      go_wp2
      have e1 : IntKind.i64.wrap ((M : Int) - 1) = (M : Int) - 1 := IntWalk.i64_in _ (by omega)
      go_quiet ((go_at_call 92; exact quiet_left (within_any _ _ _ _)))
      clear e1
      go_wp2
      rw [HE.out.1, HE.out.2.1, HE.out.2.2]
      exact bodyPost_ret (v := .tuple #[.agg #[.int .i64 0, .int .i64 0], .int .i64 2]) (by simp [results, Try.results57, go_sem, q0, q1]) rfl ⟨rfl, bl_set (bl_set (bl_trans HB0.out (below_drewN HB1.out _)) _ _ (Nat.le_refl _) _) _ _ (Nat.le_refl _) _⟩
  · have hk2 : (k != 0) = true := by simpa using hz
    have HE : Hid (hoC p xs x = k ∧ hoN p xs x = 0 ∧ hoD p xs x = 0) := Lib.hid (by
      have e : hoC p xs x = k := by unfold hoC; rw [← hk, if_neg hz]
      exact ⟨e, by unfold hoN; rw [e, if_neg hz], by unfold hoD; rw [e, if_neg hz]⟩)
    clear hk hz
    go_enter Try.func57, Try.ntmps57
    go_upto_region 1 with fail
    obtain ⟨w0, hw0⟩ : ∃ w0, w0 = w.alloc (.cells #[.int .i64 0, .int .i64 0] 34) := ⟨_, rfl⟩
    rw [← hw0]
    have HB0 : Hid (Below w.heap.size w w0) := Lib.hid (by rw [hw0]; exact bl_alloc (Below.refl _ _) _)
    have HW0 := Lib.hid hw0
    clear hw0
    have q := two_zero0 (by rw [← HW0.out]; exact Below.refl _ _)
    obtain ⟨q0, q1, f0, f1⟩ := q
    go_wp2_with (go_at_call 108; refine (polygonal_at _ (HR.out.below HB0.out) HK.out).mono ?_; rintro e w' ⟨rfl, rfl⟩)
    rw [HE.out.1, HE.out.2.1, HE.out.2.2]
    exact bodyPost_ret (v := .tuple #[.agg #[.int .i64 0, .int .i64 0], .int .i64 k]) (by simp [results, Try.results57, go_sem, q0, q1]) rfl ⟨rfl, bl_set (bl_set HB0.out _ _ (Nat.le_refl _) _) _ _ (Nat.le_refl _) _⟩

end Go.Proofs.Ythdmanngjnfamaa