
/- The walk of the law that the polygon lies below all points and touches them at its corners. -/
import Derived.Test.YthdmanngjnfamaaBg
import Derived.Test.YthdmanngjnfamaaDrC
import Derived.Test.YthdmanngjnfamaaPointsOf
import Derived.Test.YthdmanngjnfamaaPolygonOf
import Derived.Test.YthdmanngjnfamaaHof
import Derived.Test.YthdmanngjnfamaaCws
import Derived.Test.YthdmanngjnfamaaLat
import Derived.Test.YthdmanngjnfamaaPure
import Derived.Test.YthdmanngjnfamaaCnl
import Derived.Deep.QuietTactic
import Derived.BigQuiet
namespace Go.Proofs.Ythdmanngjnfamaa
open Go.RowKit Go.Joins

theorem iPy_at {p : Int} {xs zs : List Int} {N : Nat} {k : Int} (h : (N, zs, k) = pyR p xs) {A : Option Addr} {n c : Nat} (w : World) (hr : Rd .i64 w A n c xs) :
    Calls Try.prog 52 #[.int .i64 p, .slice A n c] w fun e w' => ∃ A' c', e = .returned (.tuple #[.slice A' N c', .int .i64 k]) ∧ RdC 2 w' A' N c' (zs.map (Value.int .i64)) ∧ Below w.heap.size w w' := by
  have := implPolygonOf_any p A n c xs w hr
  rw [← h] at this
  refine this.mono ?_
  rintro e w' ⟨A', c', rfl, ho, hb⟩
  exact ⟨A', c', rfl, OwnC.rd ho, hb⟩
theorem iPo_at {p : Int} {xs zs : List Int} {N : Nat} {k : Int} (h : (N, zs, k) = poR p xs) {A : Option Addr} {n c : Nat} (w : World) (hr : Rd .i64 w A n c xs) :
    Calls Try.prog 54 #[.int .i64 p, .slice A n c] w fun e w' => ∃ A' c', e = .returned (.tuple #[.slice A' N c', .int .i64 k]) ∧ RdC 2 w' A' N c' (zs.map (Value.int .i64)) ∧ Below w.heap.size w w' := by
  have := implPointsOf_any p A n c xs w hr
  rw [← h] at this
  refine this.mono ?_
  rintro e w' ⟨A', c', rfl, ho, hb⟩
  exact ⟨A', c', rfl, OwnC.rd ho, hb⟩
theorem iHo_at {p x u v k : Int} {xs : List Int} (hu : u = hoN p xs x) (hv : v = hoD p xs x) (hk : k = hoC p xs x) {A : Option Addr} {n c : Nat} (w : World) (hr : Rd .i64 w A n c xs) :
    Calls Try.prog 57 #[.int .i64 p, .slice A n c, .int .i64 x] w fun e w' => e = .returned (.tuple #[.agg #[.int .i64 u, .int .i64 v], .int .i64 k]) ∧ Below w.heap.size w w' := by
  subst hu; subst hv; subst hk; exact implHeightOf_any p A n c xs x w hr
theorem iCs_at {p a b v k : Int} {xs : List Int} (hv : v = csV p xs a b) (hk : k = csC p xs a b) {A : Option Addr} {n c : Nat} (w : World) (hr : Rd .i64 w A n c xs) :
    Calls Try.prog 60 #[.int .i64 p, .slice A n c, .int .i64 a, .int .i64 b] w fun e w' => e = .returned (.tuple #[.int .i64 v, .int .i64 k]) ∧ Below w.heap.size w w' := by
  subst hv; subst hk; exact implCountWithSlope_any p A n c xs a b w hr
theorem iLb_at {p v k : Int} {xs : List Int} (hv : v = lbV p xs) (hk : k = pgC p xs) {A : Option Addr} {n c : Nat} (w : World) (hr : Rd .i64 w A n c xs) :
    Calls Try.prog 63 #[.int .i64 p, .slice A n c] w fun e w' => e = .returned (.tuple #[.int .i64 v, .int .i64 k]) ∧ Below w.heap.size w w' := by
  subst hv; subst hk; exact implLatticeBelow_any p A n c xs w hr
theorem iIp_at {p k : Int} {v : Bool} {xs : List Int} (hv : v = ipV p xs) (hk : k = pgC p xs) {A : Option Addr} {n c : Nat} (w : World) (hr : Rd .i64 w A n c xs) :
    Calls Try.prog 66 #[.int .i64 p, .slice A n c] w fun e w' => e = .returned (.tuple #[.bool v, .int .i64 k]) ∧ Below w.heap.size w w' := by
  subst hv; subst hk; exact implIsPure_any p A n c xs w hr
theorem sPy_at {p : Int} {xs zs : List Int} {N : Nat} {k : Int} (h : (N, zs, k) = pyR p xs) {A : Option Addr} {n c : Nat} (w : World) (hr : Rd .i64 w A n c xs) :
    Calls Try.prog 53 #[.int .i64 p, .slice A n c] w fun e w' => ∃ A' c', e = .returned (.tuple #[.slice A' N c', .int .i64 k]) ∧ RdC 2 w' A' N c' (zs.map (Value.int .i64)) ∧ Below w.heap.size w w' := by
  have := specPolygonOf_any p A n c xs w hr
  rw [← h] at this
  refine this.mono ?_
  rintro e w' ⟨A', c', rfl, ho, hb⟩
  exact ⟨A', c', rfl, OwnC.rd ho, hb⟩
theorem sPo_at {p : Int} {xs zs : List Int} {N : Nat} {k : Int} (h : (N, zs, k) = poR p xs) {A : Option Addr} {n c : Nat} (w : World) (hr : Rd .i64 w A n c xs) :
    Calls Try.prog 55 #[.int .i64 p, .slice A n c] w fun e w' => ∃ A' c', e = .returned (.tuple #[.slice A' N c', .int .i64 k]) ∧ RdC 2 w' A' N c' (zs.map (Value.int .i64)) ∧ Below w.heap.size w w' := by
  have := specPointsOf_any p A n c xs w hr
  rw [← h] at this
  refine this.mono ?_
  rintro e w' ⟨A', c', rfl, ho, hb⟩
  exact ⟨A', c', rfl, OwnC.rd ho, hb⟩
theorem sHo_at {p x u v k : Int} {xs : List Int} (hu : u = hoN p xs x) (hv : v = hoD p xs x) (hk : k = hoC p xs x) {A : Option Addr} {n c : Nat} (w : World) (hr : Rd .i64 w A n c xs) :
    Calls Try.prog 58 #[.int .i64 p, .slice A n c, .int .i64 x] w fun e w' => e = .returned (.tuple #[.agg #[.int .i64 u, .int .i64 v], .int .i64 k]) ∧ Below w.heap.size w w' := by
  subst hu; subst hv; subst hk; exact specHeightOf_any p A n c xs x w hr
theorem sCs_at {p a b v k : Int} {xs : List Int} (hv : v = csV p xs a b) (hk : k = csC p xs a b) {A : Option Addr} {n c : Nat} (w : World) (hr : Rd .i64 w A n c xs) :
    Calls Try.prog 61 #[.int .i64 p, .slice A n c, .int .i64 a, .int .i64 b] w fun e w' => e = .returned (.tuple #[.int .i64 v, .int .i64 k]) ∧ Below w.heap.size w w' := by
  subst hv; subst hk; exact specCountWithSlope_any p A n c xs a b w hr
theorem sLb_at {p v k : Int} {xs : List Int} (hv : v = lbV p xs) (hk : k = pgC p xs) {A : Option Addr} {n c : Nat} (w : World) (hr : Rd .i64 w A n c xs) :
    Calls Try.prog 64 #[.int .i64 p, .slice A n c] w fun e w' => e = .returned (.tuple #[.int .i64 v, .int .i64 k]) ∧ Below w.heap.size w w' := by
  subst hv; subst hk; exact specLatticeBelow_any p A n c xs w hr
theorem sIp_at {p k : Int} {v : Bool} {xs : List Int} (hv : v = ipV p xs) (hk : k = pgC p xs) {A : Option Addr} {n c : Nat} (w : World) (hr : Rd .i64 w A n c xs) :
    Calls Try.prog 67 #[.int .i64 p, .slice A n c] w fun e w' => e = .returned (.tuple #[.bool v, .int .i64 k]) ∧ Below w.heap.size w w' := by
  subst hv; subst hk; exact specIsPure_any p A n c xs w hr
theorem py_code {p : Int} {xs zs : List Int} {N : Nat} {k : Int} (h : (N, zs, k) = pyR p xs) : k = pgC p xs ∧ (k = 0 → N = (plL p xs).length ∧ zs = flatI (plL p xs)) := by
  unfold pyR at h
  by_cases hz : pgC p xs = 0
  · rw [if_pos hz] at h
    simp only [Prod.mk.injEq] at h
    exact ⟨by rw [h.2.2, hz], fun _ => ⟨h.1, h.2.1⟩⟩
  · rw [if_neg hz] at h
    simp only [Prod.mk.injEq] at h
    exact ⟨h.2.2, fun e => absurd (h.2.2.symm.trans e) hz⟩
theorem po_code {p : Int} {xs zs : List Int} {N : Nat} {k : Int} (h : (N, zs, k) = poR p xs) : k = pgC p xs ∧ (k = 0 → N = (ptL p xs).length ∧ zs = flatI (ptL p xs)) := by
  unfold poR at h
  by_cases hz : pgC p xs = 0
  · rw [if_pos hz] at h
    simp only [Prod.mk.injEq] at h
    exact ⟨by rw [h.2.2, hz], fun _ => ⟨h.1, h.2.1⟩⟩
  · rw [if_neg hz] at h
    simp only [Prod.mk.injEq] at h
    exact ⟨h.2.2, fun e => absurd (h.2.2.symm.trans e) hz⟩
theorem yv_bd {y v : Int} (y1 : 0 ≤ y) (y2 : y ≤ 39) (v1 : 1 ≤ v) (v2 : v ≤ 8) : 0 ≤ y * v ∧ y * v ≤ 312 := by
  have h : (y * v).natAbs ≤ 39 * 8 := by
    rw [Int.natAbs_mul]
    exact Nat.mul_le_mul (by omega) (by omega)
  have := Int.mul_nonneg y1 (show (0 : Int) ≤ v by omega)
  generalize y * v = z at *
  omega
set_option maxRecDepth 100000 in
set_option maxHeartbeats 4000000 in
theorem walkCorners (A0 : Option Addr) (n0 c0 : Nat) (ys0 : List Int) (w : World) (hr0 : IsRow .u8 w A0 n0 c0 ys0) :
    Calls Try.prog 7 #[.slice A0 n0 c0] w fun e w' => e = .returned (.bool true) ∧ Below w.heap.size w w' := by
  have HBy := Lib.hid (bys_of hr0)
  have hm := hr0.2.1
  have hc := hr0.1
  unfold maxLen at hm
  have XC_0 := Lib.hid hr0.rd
  clear hr0
  by_cases hbig : 4096 < n0
  · have hbd : decide (4096 < (n0 : Int)) = true := by simp; omega
    go_enter Try.func7, Try.ntmps7
    go_wp2_with fail
    refine (big_any _ _ _ _).mono ?_
    rintro e w' ⟨rfl, rfl⟩
    rw [hbd]
    go_wp2
    go_ret
    exact ⟨rfl, Below.refl _ _⟩
  have hbd : decide (4096 < (n0 : Int)) = false := by simp; omega
  go_enter Try.func7, Try.ntmps7
  go_wp2_with fail
  refine (big_any _ _ _ _).mono ?_
  rintro e w' ⟨rfl, rfl⟩
  rw [hbd]
  clear hbd hbig
  go_wp2_with fail
  refine (drawPolygon_any _ _ _ _ _ XC_0.out HBy.out).mono ?_
  rintro e w1 ⟨p, Bf, Nf, df, f, rfl, hf, hb1⟩
  have HB1 := Lib.hid hb1
  have XC_1 := Lib.hid (XC_0.out.below hb1)
  have XF_1 := Lib.hid hf
  clear hb1 XC_0 hf
  obtain ⟨N, zs, k, hP⟩ : ∃ N zs k, (N, zs, k) = pyR p f := ⟨_, _, _, rfl⟩
  have HP := Lib.hid hP
  clear hP
  go_wp2_with fail
  refine (iPy_at HP.out _ XF_1.out).mono ?_
  rintro e w2 ⟨Ac, cc, rfl, hs, hb2⟩
  have HB2 := Lib.hid (bl_trans HB1.out hb2)
  have XC_2 := Lib.hid (XC_1.out.below hb2)
  have XF_2 := Lib.hid (XF_1.out.below hb2)
  have XP_2 := Lib.hid hs
  clear hb2 HB1 XC_1 XF_1 hs
  go_wp2_with fail
  refine (sPy_at HP.out _ XF_2.out).mono ?_
  rintro e w3 ⟨Am, cm, rfl, hs, hb3⟩
  have HB3 := Lib.hid (bl_trans HB2.out hb3)
  have XC_3 := Lib.hid (XC_2.out.below hb3)
  have XF_3 := Lib.hid (XF_2.out.below hb3)
  have XP_3 := Lib.hid (XP_2.out.below hb3)
  have XM_3 := Lib.hid hs
  clear hb3 HB2 XC_2 XF_2 XP_2 hs
  obtain ⟨L, vs, k2, hL⟩ : ∃ N zs k, (N, zs, k) = poR p f := ⟨_, _, _, rfl⟩
  have HL := Lib.hid hL
  obtain rfl : k2 = k := by rw [(po_code HL.out).1, (py_code HP.out).1]
  clear hL
  go_wp2_with fail
  refine (iPo_at HL.out _ XF_3.out).mono ?_
  rintro e w4 ⟨Al, cl, rfl, hs, hb4⟩
  have HB4 := Lib.hid (bl_trans HB3.out hb4)
  have XC_4 := Lib.hid (XC_3.out.below hb4)
  have XF_4 := Lib.hid (XF_3.out.below hb4)
  have XP_4 := Lib.hid (XP_3.out.below hb4)
  have XM_4 := Lib.hid (XM_3.out.below hb4)
  have XL_4 := Lib.hid hs
  clear hb4 HB3 XC_3 XF_3 XP_3 XM_3 hs
  go_wp2_with fail
  refine (sPo_at HL.out _ XF_4.out).mono ?_
  rintro e w5 ⟨Ap, cp, rfl, hs, hb5⟩
  have HB5 := Lib.hid (bl_trans HB4.out hb5)
  have XC_5 := Lib.hid (XC_4.out.below hb5)
  have XF_5 := Lib.hid (XF_4.out.below hb5)
  have XP_5 := Lib.hid (XP_4.out.below hb5)
  have XM_5 := Lib.hid (XM_4.out.below hb5)
  have XL_5 := Lib.hid (XL_4.out.below hb5)
  have XQ_5 := Lib.hid hs
  clear hb5 HB4 XC_4 XF_4 XP_4 XM_4 XL_4 hs
  go_wp2_with fail
  refine (drawHeight_any _ _ _ _ _ XC_5.out HBy.out).mono ?_
  rintro e w6 ⟨q, Bg, Ng, dg, g, x, rfl, hg, hb6⟩
  have HB6 := Lib.hid (bl_trans HB5.out hb6)
  have XC_6 := Lib.hid (XC_5.out.below hb6)
  have XF_6 := Lib.hid (XF_5.out.below hb6)
  have XP_6 := Lib.hid (XP_5.out.below hb6)
  have XM_6 := Lib.hid (XM_5.out.below hb6)
  have XL_6 := Lib.hid (XL_5.out.below hb6)
  have XQ_6 := Lib.hid (XQ_5.out.below hb6)
  have XG_6 := Lib.hid hg
  clear hb6 HB5 XC_5 XF_5 XP_5 XM_5 XL_5 XQ_5 hg
  obtain ⟨hu, hhu⟩ : ∃ z, z = hoN q g x := ⟨_, rfl⟩
  have Hhu := Lib.hid hhu
  clear hhu
  obtain ⟨hv, hhv⟩ : ∃ z, z = hoD q g x := ⟨_, rfl⟩
  have Hhv := Lib.hid hhv
  clear hhv
  obtain ⟨k3, hk3⟩ : ∃ z, z = hoC q g x := ⟨_, rfl⟩
  have Hk3 := Lib.hid hk3
  clear hk3
  go_wp2_with fail
  refine (iHo_at Hhu.out Hhv.out Hk3.out _ XG_6.out).mono ?_
  rintro e w7 ⟨rfl, hb7⟩
  have HB7 := Lib.hid (bl_trans HB6.out hb7)
  have XC_7 := Lib.hid (XC_6.out.below hb7)
  have XF_7 := Lib.hid (XF_6.out.below hb7)
  have XP_7 := Lib.hid (XP_6.out.below hb7)
  have XM_7 := Lib.hid (XM_6.out.below hb7)
  have XL_7 := Lib.hid (XL_6.out.below hb7)
  have XQ_7 := Lib.hid (XQ_6.out.below hb7)
  have XG_7 := Lib.hid (XG_6.out.below hb7)
  clear hb7 HB6 XC_6 XF_6 XP_6 XM_6 XL_6 XQ_6 XG_6
  go_wp2_with fail
  refine (sHo_at Hhu.out Hhv.out Hk3.out _ (XG_7.out.below (bl_alloc (Below.refl _ _) _))).mono ?_
  rintro e w8 ⟨rfl, hb8⟩
  have hq8 := hb8
  replace hb8 := al_bel hb8
  have HB8 := Lib.hid (bl_trans HB7.out hb8)
  have XC_8 := Lib.hid (XC_7.out.below hb8)
  have XF_8 := Lib.hid (XF_7.out.below hb8)
  have XP_8 := Lib.hid (XP_7.out.below hb8)
  have XM_8 := Lib.hid (XM_7.out.below hb8)
  have XL_8 := Lib.hid (XL_7.out.below hb8)
  have XQ_8 := Lib.hid (XQ_7.out.below hb8)
  have XH_8 := Lib.hid (Bx.new hq8)
  obtain ⟨gH, hg⟩ : ∃ g, g = w7.heap.size := ⟨_, rfl⟩
  rw [← hg] at XH_8 ⊢
  clear hg
  clear hb8 HB7 XC_7 XF_7 XP_7 XM_7 XL_7 XQ_7 XG_7 hq8
  go_wp2_with fail
  refine (drawCount_any _ _ _ _ _ (XC_8.out.below (bl_alloc (Below.refl _ _) _)) HBy.out).mono ?_
  rintro e w9 ⟨u, Bk, Nk, dk, kk, rise, run, rfl, hg, hb9⟩
  have hq9 := hb9
  replace hb9 := al_bel hb9
  have HB9 := Lib.hid (bl_trans HB8.out hb9)
  have XC_9 := Lib.hid (XC_8.out.below hb9)
  have XF_9 := Lib.hid (XF_8.out.below hb9)
  have XP_9 := Lib.hid (XP_8.out.below hb9)
  have XM_9 := Lib.hid (XM_8.out.below hb9)
  have XL_9 := Lib.hid (XL_8.out.below hb9)
  have XQ_9 := Lib.hid (XQ_8.out.below hb9)
  have XH_9 := Lib.hid (XH_8.out.below hb9)
  have XHH_9 := Lib.hid (Bx.new hq9)
  obtain ⟨gHH, hg⟩ : ∃ g, g = w8.heap.size := ⟨_, rfl⟩
  rw [← hg] at XHH_9 ⊢
  clear hg
  have XK_9 := Lib.hid hg
  clear hb9 HB8 XC_8 XF_8 XP_8 XM_8 XL_8 XQ_8 XH_8 hq9 hg
  obtain ⟨n5, hn5⟩ : ∃ z, z = csV u kk rise run := ⟨_, rfl⟩
  have Hn5 := Lib.hid hn5
  clear hn5
  obtain ⟨k5, hk5⟩ : ∃ z, z = csC u kk rise run := ⟨_, rfl⟩
  have Hk5 := Lib.hid hk5
  clear hk5
  go_wp2_with fail
  refine (iCs_at Hn5.out Hk5.out _ XK_9.out).mono ?_
  rintro e w10 ⟨rfl, hb10⟩
  have HB10 := Lib.hid (bl_trans HB9.out hb10)
  have XC_10 := Lib.hid (XC_9.out.below hb10)
  have XF_10 := Lib.hid (XF_9.out.below hb10)
  have XP_10 := Lib.hid (XP_9.out.below hb10)
  have XM_10 := Lib.hid (XM_9.out.below hb10)
  have XL_10 := Lib.hid (XL_9.out.below hb10)
  have XQ_10 := Lib.hid (XQ_9.out.below hb10)
  have XH_10 := Lib.hid (XH_9.out.below hb10)
  have XHH_10 := Lib.hid (XHH_9.out.below hb10)
  have XK_10 := Lib.hid (XK_9.out.below hb10)
  clear hb10 HB9 XC_9 XF_9 XP_9 XM_9 XL_9 XQ_9 XH_9 XHH_9 XK_9
  go_wp2_with fail
  refine (sCs_at Hn5.out Hk5.out _ XK_10.out).mono ?_
  rintro e w11 ⟨rfl, hb11⟩
  have HB11 := Lib.hid (bl_trans HB10.out hb11)
  have XC_11 := Lib.hid (XC_10.out.below hb11)
  have XF_11 := Lib.hid (XF_10.out.below hb11)
  have XP_11 := Lib.hid (XP_10.out.below hb11)
  have XM_11 := Lib.hid (XM_10.out.below hb11)
  have XL_11 := Lib.hid (XL_10.out.below hb11)
  have XQ_11 := Lib.hid (XQ_10.out.below hb11)
  have XH_11 := Lib.hid (XH_10.out.below hb11)
  have XHH_11 := Lib.hid (XHH_10.out.below hb11)
  clear hb11 HB10 XC_10 XF_10 XP_10 XM_10 XL_10 XQ_10 XH_10 XHH_10 XK_10
  go_wp2_with fail
  refine (drawLattice_any _ _ _ _ _ XC_11.out HBy.out).mono ?_
  rintro e w12 ⟨v7, Bk7, Nk7, dk7, f7, rfl, hg, hb12⟩
  have HB12 := Lib.hid (bl_trans HB11.out hb12)
  have XC_12 := Lib.hid (XC_11.out.below hb12)
  have XF_12 := Lib.hid (XF_11.out.below hb12)
  have XP_12 := Lib.hid (XP_11.out.below hb12)
  have XM_12 := Lib.hid (XM_11.out.below hb12)
  have XL_12 := Lib.hid (XL_11.out.below hb12)
  have XQ_12 := Lib.hid (XQ_11.out.below hb12)
  have XH_12 := Lib.hid (XH_11.out.below hb12)
  have XHH_12 := Lib.hid (XHH_11.out.below hb12)
  have XK_12 := Lib.hid hg
  clear hb12 HB11 XC_11 XF_11 XP_11 XM_11 XL_11 XQ_11 XH_11 XHH_11 hg
  obtain ⟨n7, hn7⟩ : ∃ z, z = lbV v7 f7 := ⟨_, rfl⟩
  have Hn7 := Lib.hid hn7
  clear hn7
  obtain ⟨k7, hk7⟩ : ∃ z, z = pgC v7 f7 := ⟨_, rfl⟩
  have Hk7 := Lib.hid hk7
  clear hk7
  go_wp2_with fail
  refine (iLb_at Hn7.out Hk7.out _ XK_12.out).mono ?_
  rintro e w13 ⟨rfl, hb13⟩
  have HB13 := Lib.hid (bl_trans HB12.out hb13)
  have XC_13 := Lib.hid (XC_12.out.below hb13)
  have XF_13 := Lib.hid (XF_12.out.below hb13)
  have XP_13 := Lib.hid (XP_12.out.below hb13)
  have XM_13 := Lib.hid (XM_12.out.below hb13)
  have XL_13 := Lib.hid (XL_12.out.below hb13)
  have XQ_13 := Lib.hid (XQ_12.out.below hb13)
  have XH_13 := Lib.hid (XH_12.out.below hb13)
  have XHH_13 := Lib.hid (XHH_12.out.below hb13)
  have XK_13 := Lib.hid (XK_12.out.below hb13)
  clear hb13 HB12 XC_12 XF_12 XP_12 XM_12 XL_12 XQ_12 XH_12 XHH_12 XK_12
  go_wp2_with fail
  refine (sLb_at Hn7.out Hk7.out _ XK_13.out).mono ?_
  rintro e w14 ⟨rfl, hb14⟩
  have HB14 := Lib.hid (bl_trans HB13.out hb14)
  have XC_14 := Lib.hid (XC_13.out.below hb14)
  have XF_14 := Lib.hid (XF_13.out.below hb14)
  have XP_14 := Lib.hid (XP_13.out.below hb14)
  have XM_14 := Lib.hid (XM_13.out.below hb14)
  have XL_14 := Lib.hid (XL_13.out.below hb14)
  have XQ_14 := Lib.hid (XQ_13.out.below hb14)
  have XH_14 := Lib.hid (XH_13.out.below hb14)
  have XHH_14 := Lib.hid (XHH_13.out.below hb14)
  clear hb14 HB13 XC_13 XF_13 XP_13 XM_13 XL_13 XQ_13 XH_13 XHH_13 XK_13
  go_wp2_with fail
  refine (drawPure_any _ _ _ _ _ XC_14.out HBy.out).mono ?_
  rintro e w15 ⟨v9, Bk9, Nk9, dk9, f9, rfl, hg, hb15⟩
  have HB15 := Lib.hid (bl_trans HB14.out hb15)
  have XF_15 := Lib.hid (XF_14.out.below hb15)
  have XP_15 := Lib.hid (XP_14.out.below hb15)
  have XM_15 := Lib.hid (XM_14.out.below hb15)
  have XL_15 := Lib.hid (XL_14.out.below hb15)
  have XQ_15 := Lib.hid (XQ_14.out.below hb15)
  have XH_15 := Lib.hid (XH_14.out.below hb15)
  have XHH_15 := Lib.hid (XHH_14.out.below hb15)
  have XK_15 := Lib.hid hg
  clear hb15 HB14 XC_14 XF_14 XP_14 XM_14 XL_14 XQ_14 XH_14 XHH_14 hg
  obtain ⟨b9, hb9⟩ : ∃ z, z = ipV v9 f9 := ⟨_, rfl⟩
  have Hb9 := Lib.hid hb9
  clear hb9
  obtain ⟨k9, hk9⟩ : ∃ z, z = pgC v9 f9 := ⟨_, rfl⟩
  have Hk9 := Lib.hid hk9
  clear hk9
  go_wp2_with fail
  refine (iIp_at Hb9.out Hk9.out _ XK_15.out).mono ?_
  rintro e w16 ⟨rfl, hb16⟩
  have HB16 := Lib.hid (bl_trans HB15.out hb16)
  have XF_16 := Lib.hid (XF_15.out.below hb16)
  have XP_16 := Lib.hid (XP_15.out.below hb16)
  have XM_16 := Lib.hid (XM_15.out.below hb16)
  have XL_16 := Lib.hid (XL_15.out.below hb16)
  have XQ_16 := Lib.hid (XQ_15.out.below hb16)
  have XH_16 := Lib.hid (XH_15.out.below hb16)
  have XHH_16 := Lib.hid (XHH_15.out.below hb16)
  have XK_16 := Lib.hid (XK_15.out.below hb16)
  clear hb16 HB15 XF_15 XP_15 XM_15 XL_15 XQ_15 XH_15 XHH_15 XK_15
  go_wp2_with fail
  refine (sIp_at Hb9.out Hk9.out _ XK_16.out).mono ?_
  rintro e w17 ⟨rfl, hb17⟩
  have HB17 := Lib.hid (bl_trans HB16.out hb17)
  have XF_17 := Lib.hid (XF_16.out.below hb17)
  have XP_17 := Lib.hid (XP_16.out.below hb17)
  have XM_17 := Lib.hid (XM_16.out.below hb17)
  have XL_17 := Lib.hid (XL_16.out.below hb17)
  have XQ_17 := Lib.hid (XQ_16.out.below hb17)
  have XH_17 := Lib.hid (XH_16.out.below hb17)
  have XHH_17 := Lib.hid (XHH_16.out.below hb17)
  clear hb17 HB16 XF_16 XP_16 XM_16 XL_16 XQ_16 XH_16 XHH_16 XK_16
  have f1 : (k2 != k2) = false := by simp
  have f3 : (k3 != k3) = false := by simp
  have f4 : (hu != hu) = false := by simp
  have f5 : (hv != hv) = false := by simp
  have f6 : (n5 != n5) = false := by simp
  have f7 : (k5 != k5) = false := by simp
  have f8 : (n7 != n7) = false := by simp
  have f9' : (k7 != k7) = false := by simp
  have f10 : (b9 != b9) = false := by simp
  have f11 : (k9 != k9) = false := by simp
  go_wp2_with fail
  refine (likeCorners_any _ _ _ _ _ _ _ XP_17.out XM_17.out).mono ?_
  rintro e w18 ⟨rfl, hb18⟩
  have HB18 := Lib.hid (bl_trans HB17.out hb18)
  have XF_18 := Lib.hid (XF_17.out.below hb18)
  have XP_18 := Lib.hid (XP_17.out.below hb18)
  have XL_18 := Lib.hid (XL_17.out.below hb18)
  have XQ_18 := Lib.hid (XQ_17.out.below hb18)
  have XH_18 := Lib.hid (XH_17.out.below hb18)
  have XHH_18 := Lib.hid (XHH_17.out.below hb18)
  clear hb18 HB17 XF_17 XP_17 XM_17 XL_17 XQ_17 XH_17 XHH_17
  go_wp2_with fail
  refine (likeCorners_any _ _ _ _ _ _ _ XL_18.out XQ_18.out).mono ?_
  rintro e w19 ⟨rfl, hb19⟩
  have HB19 := Lib.hid (bl_trans HB18.out hb19)
  have XF_19 := Lib.hid (XF_18.out.below hb19)
  have XP_19 := Lib.hid (XP_18.out.below hb19)
  have XL_19 := Lib.hid (XL_18.out.below hb19)
  have XH_19 := Lib.hid (XH_18.out.below hb19)
  have XHH_19 := Lib.hid (XHH_18.out.below hb19)
  clear hb19 HB18 XF_18 XP_18 XL_18 XQ_18 XH_18 XHH_18
  have ⟨cH0, cH1⟩ := XH_19.out
  have hlH := XH_19.out.lt
  have hmH := Nat.lt_succ_of_lt XH_19.out.lt
  have ⟨cHH0, cHH1⟩ := XHH_19.out
  have hlHH := XHH_19.out.lt
  have hmHH := Nat.lt_succ_of_lt XHH_19.out.lt
  go_upto_region 22 with fail
  clear f1 f3 f4 f5 f6 f7 f8 f9' f10 f11 cH0 cH1 hlH hmH cHH0 cHH1 hlHH hmHH XH_19 XHH_19 Hhu Hhv Hk3 Hn5 Hk5 Hn7 Hk7 Hb9 Hk9
  by_cases hk : k2 = 0
  · have hkb : (k2 == 0) = true := by simpa using hk
    have ⟨hpg, hpz⟩ := py_code HP.out
    have hlz := (po_code HL.out).2
    obtain ⟨hN, hzs⟩ := hpz hk
    obtain ⟨hL, hvs⟩ := hlz hk
    have hpg0 : pgC p f = 0 := by rw [← hpg]; exact hk
    have ⟨hp, hx, h0⟩ := pgC_zero hpg0
    have HG0 := Lib.hid hpg0
    have HBd1 := Lib.hid (ptL_bd hp hx)
    have HN := Lib.hid (And.intro hN hzs)
    have HLz := Lib.hid (And.intro hL hvs)
    clear hpg hpz hlz hN hzs hL hvs hpg0 hp hx h0 hk
    have hLm : (L : Int) ≤ 9223372036854775807 := by have h1 := XL_19.out.2.1; have h2 := XL_19.out.2.2.1; unfold maxLen at h2; omega
    have hNm : (N : Int) ≤ 9223372036854775807 := by have h1 := XP_19.out.2.1; have h2 := XP_19.out.2.2.1; unfold maxLen at h2; omega
    go_wp2_with fail
    go_loopw [40] (fun j wr => ∃ i : Nat, i ≤ L ∧ j = .int .i64 i ∧ Hid (Below w19.heap.size w19 wr)) (fun j _ => L - (intOf j).toNat)
    case atStart => exact ⟨0, Nat.zero_le _, rfl, Lib.hid (Below.refl _ _)⟩
    case round =>
      obtain ⟨i, hi, rfl, HB⟩ := hrel
      by_cases hlt : i < L
      · obtain ⟨b, off, rfl, hcell⟩ := (XL_19.out.below HB.out).atF (by omega)
        have h0 := hcell (i * 2 + 0) (fl_lt hlt (by omega))
        rw [Nat.add_zero] at h0
        have h1 := hcell (i * 2 + 1) (fl_lt hlt (by omega))
        rw [← Nat.add_assoc] at h1
        have hii : (i : Int) < (L : Int) := by omega
        have hi2 : i < (ptL p f).length := by rw [← HLz.out.1]; exact hlt
        have ⟨fx, fy⟩ := flatI_at (ptL p f) i hi2
        rw [← HLz.out.2] at fx fy
        have ⟨hc0, hle⟩ := ho_point HG0.out hi2
        have ⟨_, y1, y2⟩ := bd_at HBd1.out hi2
        have ⟨v1, v2⟩ := ho_den HG0.out hc0
        have fx2 : vs.getD (i * 2) 0 = pX (ptL p f) i := fx
        have fy2 : vs.getD (i * 2 + 1) 0 = pY (ptL p f) i := fy
        rw [fx2] at h0
        rw [fy2] at h1
        generalize pX (ptL p f) i = x at *
        generalize pY (ptL p f) i = y at *
        obtain ⟨u, hu⟩ : ∃ z, z = hoN p f x := ⟨_, rfl⟩
        obtain ⟨v, hv⟩ : ∃ z, z = hoD p f x := ⟨_, rfl⟩
        rw [← hu, ← hv] at hle
        rw [← hv] at v1 v2
        have HU := Lib.hid hu
        have HV := Lib.hid hv
        have HC0 := Lib.hid hc0.symm
        have ⟨t1, t2⟩ := yv_bd y1 y2 v1 v2
        obtain ⟨t, ht⟩ : ∃ t, t = y * v := ⟨_, rfl⟩
        rw [← ht] at hle t1 t2
        have hd : decide (t < u) = false := by simp; omega
        have hw : IntKind.i64.wrap (y * v) = t := by rw [← ht]; exact IntWalk.i64_in _ (by omega)
        clear fx fy fx2 fy2 hu hv hc0 hcell ht hle y1 y2 v1 v2
        go_wp2_with fail
        refine (iHo_at HU.out HV.out HC0.out _ (XF_19.out.below HB.out)).mono ?_
        rintro e wh ⟨rfl, hb⟩
        have h0' := keep_cell hb h0
        have h1' := keep_cell hb h1
        have hbl := block_lt_of_cell h1'
        have HBh := Lib.hid (bl_trans HB.out hb)
        clear hb h0 h1
        go_wp2_with fail
        go_quiet (fail)
        go_wp2
        go_roundw
        case rel => exact ⟨i + 1, by omega, by go_num, Lib.hid (by repeat (first | exact HBh.out | apply Below.drew | apply below_drewN | apply bl_alloc))⟩
        case measure => simp [intOf]; omega
      · have HB2 := Lib.hid HB.out
        clear HB
        go_wp2_with fail
        go_loopw [43] (fun j wr => ∃ i : Nat, i ≤ N ∧ j = .int .i64 i ∧ Hid (Below w19.heap.size w19 wr)) (fun j _ => N - (intOf j).toNat)
        case atStart => exact ⟨0, Nat.zero_le _, rfl, HB2⟩
        case round =>
          clear HB2 hlt hi
          obtain ⟨i, hi, rfl, HB⟩ := hrel
          by_cases hlt : i < N
          · obtain ⟨b, off, rfl, hcell⟩ := (XP_19.out.below HB.out).atF (by omega)
            have h0 := hcell (i * 2 + 0) (fl_lt hlt (by omega))
            rw [Nat.add_zero] at h0
            have h1 := hcell (i * 2 + 1) (fl_lt hlt (by omega))
            rw [← Nat.add_assoc] at h1
            have hii : (i : Int) < (N : Int) := by omega
            have hi2 : i < (plL p f).length := by rw [← HN.out.1]; exact hlt
            have ⟨fx, fy⟩ := flatI_at (plL p f) i hi2
            rw [← HN.out.2] at fx fy
            have ⟨hc0, hd1, hn1⟩ := ho_corner HG0.out hi2
            have fx2 : zs.getD (i * 2) 0 = pX (plL p f) i := fx
            have fy2 : zs.getD (i * 2 + 1) 0 = pY (plL p f) i := fy
            rw [fx2] at h0
            rw [fy2] at h1
            generalize pX (plL p f) i = x at *
            generalize pY (plL p f) i = y at *
            have HU := Lib.hid hn1.symm
            have HV := Lib.hid hd1.symm
            have HC0 := Lib.hid hc0.symm
            have hyy : (y != y) = false := by simp
            clear fx fy fx2 fy2 hc0 hcell hd1 hn1
            go_wp2_with fail
            refine (iHo_at HU.out HV.out HC0.out _ (XF_19.out.below HB.out)).mono ?_
            rintro e wh ⟨rfl, hb⟩
            have h0' := keep_cell hb h0
            have h1' := keep_cell hb h1
            have hbl := block_lt_of_cell h1'
            have HBh := Lib.hid (bl_trans HB.out hb)
            clear hb h0 h1
            go_wp2_with fail
            go_quiet (fail)
            go_wp2
            go_roundw
            case rel => exact ⟨i + 1, by omega, by go_num, Lib.hid (by repeat (first | exact HBh.out | apply Below.drew | apply below_drewN | apply bl_alloc))⟩
            case measure => simp [intOf]; omega
          · go_wp2
            go_ret
            exact ⟨rfl, bl_trans HB19.out HB.out⟩
  · have hkb : (k2 == 0) = false := by simpa using hk
    clear hk
    go_wp2_with fail
    refine wp_loop_rounds 1 ?_
    rw [rounds_succ]
    go_wp2_with fail
    refine wp_loop_rounds 1 ?_
    rw [rounds_succ]
    go_wp2
    go_ret
    exact ⟨rfl, HB19.out⟩
end Go.Proofs.Ythdmanngjnfamaa
