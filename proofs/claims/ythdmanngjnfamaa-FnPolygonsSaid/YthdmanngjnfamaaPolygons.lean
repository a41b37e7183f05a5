
/- The walk of the law that the polygon of a product has the slopes of both factors, joined. -/
import Derived.Test.YthdmanngjnfamaaBg
import Derived.Test.YthdmanngjnfamaaDice
import Derived.Test.YthdmanngjnfamaaDrJ
import Derived.Test.YthdmanngjnfamaaPgl
import Derived.Test.YthdmanngjnfamaaJn1
import Derived.Test.YthdmanngjnfamaaJn2
namespace Go.Proofs.Ythdmanngjnfamaa
open Go.RowKit Go.Joins

theorem iSlo_at {p : Int} {xs zs : List Int} {N : Nat} {k : Int} (h : (N, zs, k) = soR p xs) {A : Option Addr} {n c : Nat} (w : World) (hr : Rd .i64 w A n c xs) :
    Calls Try.prog 45 #[.int .i64 p, .slice A n c] w fun e w' => ∃ A' c', e = .returned (.tuple #[.slice A' N c', .int .i64 k]) ∧ RdC 3 w' A' N c' (zs.map (Value.int .i64)) ∧ Below w.heap.size w w' := by
  have := implSlopesOf_any p A n c xs w hr
  rw [← h] at this
  refine this.mono ?_
  rintro e w' ⟨A', c', rfl, ho, hb⟩
  exact ⟨A', c', rfl, OwnC.rd ho, hb⟩
theorem iJoin_at {zs ys xs : List Int} {n m N : Nat} {k : Int} (h : (N, xs, k) = joR zs n ys m) {A B : Option Addr} {c d : Nat} (w : World) (hr : RdC 3 w A n c (zs.map (Value.int .i64))) (hs : RdC 3 w B m d (ys.map (Value.int .i64))) :
    Calls Try.prog 48 #[.slice A n c, .slice B m d] w fun e w' => ∃ A' c', e = .returned (.tuple #[.slice A' N c', .int .i64 k]) ∧ RdC 3 w' A' N c' (xs.map (Value.int .i64)) ∧ Below w.heap.size w w' := by
  have := implJoin_any A n c zs B m d ys w hr hs
  rw [← h] at this
  refine this.mono ?_
  rintro e w' ⟨A', c', rfl, ho, hb⟩
  exact ⟨A', c', rfl, OwnC.rd ho, hb⟩
theorem sSlo_at {p : Int} {xs zs : List Int} {N : Nat} {k : Int} (h : (N, zs, k) = soR p xs) {A : Option Addr} {n c : Nat} (w : World) (hr : Rd .i64 w A n c xs) :
    Calls Try.prog 46 #[.int .i64 p, .slice A n c] w fun e w' => ∃ A' c', e = .returned (.tuple #[.slice A' N c', .int .i64 k]) ∧ RdC 3 w' A' N c' (zs.map (Value.int .i64)) ∧ Below w.heap.size w w' := by
  have := specSlopesOf_any p A n c xs w hr
  rw [← h] at this
  refine this.mono ?_
  rintro e w' ⟨A', c', rfl, ho, hb⟩
  exact ⟨A', c', rfl, OwnC.rd ho, hb⟩
theorem sJoin_at {zs ys xs : List Int} {n m N : Nat} {k : Int} (h : (N, xs, k) = joR zs n ys m) {A B : Option Addr} {c d : Nat} (w : World) (hr : RdC 3 w A n c (zs.map (Value.int .i64))) (hs : RdC 3 w B m d (ys.map (Value.int .i64))) :
    Calls Try.prog 49 #[.slice A n c, .slice B m d] w fun e w' => ∃ A' c', e = .returned (.tuple #[.slice A' N c', .int .i64 k]) ∧ RdC 3 w' A' N c' (xs.map (Value.int .i64)) ∧ Below w.heap.size w w' := by
  have := specJoin_any A n c zs B m d ys w hr hs
  rw [← h] at this
  refine this.mono ?_
  rintro e w' ⟨A', c', rfl, ho, hb⟩
  exact ⟨A', c', rfl, OwnC.rd ho, hb⟩
theorem iMul_at {f g M : List Int} {k : Int} (h : (M, k) = mulR f g) {A : Option Addr} {n c : Nat} {B : Option Addr} {m d : Nat} (w : World) (hf : Rd .i64 w A n c f) (hg : Rd .i64 w B m d g) :
    Calls Try.prog 32 #[.slice A n c, .slice B m d] w fun e w' => ∃ A' c', e = .returned (.tuple #[.slice A' M.length c', .int .i64 k]) ∧ Rd .i64 w' A' M.length c' M ∧ Below w.heap.size w w' := by
  have := implMultiplyPolynomials_any A n c f B m d g w hf hg
  rw [← h] at this
  refine this.mono ?_
  rintro e w' ⟨A', c', rfl, ho, hb⟩
  exact ⟨A', c', rfl, OwnI.rd ho, hb⟩
theorem soR_zero {p : Int} {xs zs : List Int} {N : Nat} {k : Int} (h : (N, zs, k) = soR p xs) (hk : k = 0) : pgC p xs = 0 ∧ N = (plL p xs).length - 1 ∧ zs = soL p xs := by
  unfold soR at h
  by_cases hz : pgC p xs = 0
  · rw [if_pos hz] at h
    simp only [Prod.mk.injEq] at h
    exact ⟨hz, h.1, h.2.1⟩
  · rw [if_neg hz] at h
    simp only [Prod.mk.injEq] at h
    omega
theorem mulR_code {f g M : List Int} {k : Int} (h : (M, k) = mulR f g) (hf : POk f) (hg : POk g) : k = 0 ∨ k = 3 := by
  unfold mulR at h
  rw [if_pos ⟨hf, hg⟩] at h
  unfold resOf at h
  by_cases hp : POk (trimL (mulL f g))
  · rw [if_pos hp] at h; exact .inl (by simpa using congrArg Prod.snd h)
  · rw [if_neg hp] at h; exact .inr (by simpa using congrArg Prod.snd h)
theorem pok3 {a b : Int} (a1 : -1000000 ≤ a) (a2 : a ≤ 1000000) (b1 : -1000000 ≤ b) (b2 : b ≤ 1000000) : POk [a, b, 1] := by
  refine ⟨by simp, fun i hi => ?_, by simp⟩
  rcases i with _ | _ | _ | i <;> simp at hi ⊢ <;> omega
theorem pd_bd {p d : Int} (p1 : 2 ≤ p) (p2 : p ≤ 97) (d1 : -2 ≤ d) (d2 : d ≤ 2) : -1000000 ≤ p * d ∧ p * d ≤ 1000000 := by
  have h : (p * d).natAbs ≤ 97 * 2 := by
    rw [Int.natAbs_mul]
    exact Nat.mul_le_mul (by omega) (by omega)
  generalize p * d = z at *
  omega
theorem row3 {w : World} {T : TypeId} {a b c : Int} : Rd .i64 (w.alloc (.cells #[.int .i64 a, .int .i64 b, .int .i64 c] T)) (some ⟨w.heap.size, 0, none⟩) 3 3 [a, b, c] := by
  refine ⟨rfl, Nat.le_refl _, by unfold maxLen; omega, fun _ => ⟨_, 0, rfl, by simp, fun i hi => ?_⟩⟩
  rcases i with _ | _ | _ | i <;> first | (simp [go_sem]; done) | omega

set_option maxRecDepth 100000 in
set_option maxHeartbeats 4000000 in
theorem walkPolygons (A0 : Option Addr) (n0 c0 : Nat) (ys0 : List Int) (w : World) (hr0 : IsRow .u8 w A0 n0 c0 ys0) :
    Calls Try.prog 6 #[.slice A0 n0 c0] w fun e w' => e = .returned (.bool true) ∧ Below w.heap.size w w' := by
  have HBy := Lib.hid (bys_of hr0)
  have hm := hr0.2.1
  have hc := hr0.1
  unfold maxLen at hm
  have XC_0 := Lib.hid hr0.rd
  clear hr0
  by_cases hbig : 4096 < n0
  · have hbd : decide (4096 < (n0 : Int)) = true := by simp; omega
    go_enter Try.func6, Try.ntmps6
    go_wp2_with fail
    refine (big_any _ _ _ _).mono ?_
    rintro e w' ⟨rfl, rfl⟩
    rw [hbd]
    go_wp2
    go_ret
    exact ⟨rfl, Below.refl _ _⟩
  have hbd : decide (4096 < (n0 : Int)) = false := by simp; omega
  go_enter Try.func6, Try.ntmps6
  go_wp2_with fail
  refine (big_any _ _ _ _).mono ?_
  rintro e w' ⟨rfl, rfl⟩
  rw [hbd]
  clear hbd hbig
  go_wp2_with fail
  refine (drawSlopes_any _ _ _ _ _ XC_0.out HBy.out).mono ?_
  rintro e w1 ⟨p, Bf, Nf, df, f, rfl, hf, hb1⟩
  have HB1 := Lib.hid hb1
  have XC_1 := Lib.hid (XC_0.out.below hb1)
  have XF_1 := Lib.hid hf
  clear hb1 XC_0 hf
  obtain ⟨N, zs, k, hS⟩ : ∃ N zs k, (N, zs, k) = soR p f := ⟨_, _, _, rfl⟩
  have HS := Lib.hid hS
  clear hS
  go_wp2_with fail
  refine (iSlo_at HS.out _ XF_1.out).mono ?_
  rintro e w2 ⟨As, cs, rfl, hs, hb2⟩
  have HB2 := Lib.hid (bl_trans HB1.out hb2)
  have XC_2 := Lib.hid (XC_1.out.below hb2)
  have XF_2 := Lib.hid (XF_1.out.below hb2)
  have XS_2 := Lib.hid hs
  clear hb2 HB1 XC_1 XF_1 hs
  go_wp2_with fail
  refine (sSlo_at HS.out _ XF_2.out).mono ?_
  rintro e w3 ⟨Am, cm, rfl, hs, hb3⟩
  have HB3 := Lib.hid (bl_trans HB2.out hb3)
  have XC_3 := Lib.hid (XC_2.out.below hb3)
  have XF_3 := Lib.hid (XF_2.out.below hb3)
  have XS_3 := Lib.hid (XS_2.out.below hb3)
  have XM_3 := Lib.hid hs
  clear hb3 HB2 XC_2 XF_2 XS_2 hs
  go_wp2_with fail
  refine (drawJoin_any _ _ _ _ _ XC_3.out HBy.out).mono ?_
  rintro e w4 ⟨Aa, Na, ca, za, Ab, Nb, cb, zb, rfl, ha, hq, hb4⟩
  have HB4 := Lib.hid (bl_trans HB3.out hb4)
  have XC_4 := Lib.hid (XC_3.out.below hb4)
  have XF_4 := Lib.hid (XF_3.out.below hb4)
  have XS_4 := Lib.hid (XS_3.out.below hb4)
  have XM_4 := Lib.hid (XM_3.out.below hb4)
  have XA_4 := Lib.hid ha
  have XB_4 := Lib.hid hq
  clear hb4 HB3 XC_3 XF_3 XS_3 XM_3 ha hq
  obtain ⟨J, js, k2, hJ⟩ : ∃ N zs k, (N, zs, k) = joR za Na zb Nb := ⟨_, _, _, rfl⟩
  have HJ := Lib.hid hJ
  have HJ2 : Hid ((J, js, k2) = joR zb Nb za Na) := Lib.hid (by rw [joR_swap zb Nb za Na]; exact hJ)
  clear hJ
  go_wp2_with fail
  refine (iJoin_at HJ.out _ XA_4.out XB_4.out).mono ?_
  rintro e w5 ⟨Aj, cj, rfl, hj, hb5⟩
  have HB5 := Lib.hid (bl_trans HB4.out hb5)
  have XC_5 := Lib.hid (XC_4.out.below hb5)
  have XF_5 := Lib.hid (XF_4.out.below hb5)
  have XS_5 := Lib.hid (XS_4.out.below hb5)
  have XM_5 := Lib.hid (XM_4.out.below hb5)
  have XA_5 := Lib.hid (XA_4.out.below hb5)
  have XB_5 := Lib.hid (XB_4.out.below hb5)
  have XJ_5 := Lib.hid hj
  clear hb5 HB4 XC_4 XF_4 XS_4 XM_4 XA_4 XB_4 hj
  go_wp2_with fail
  refine (sJoin_at HJ.out _ XA_5.out XB_5.out).mono ?_
  rintro e w6 ⟨Ai, ci, rfl, hj, hb6⟩
  have HB6 := Lib.hid (bl_trans HB5.out hb6)
  have XC_6 := Lib.hid (XC_5.out.below hb6)
  have XF_6 := Lib.hid (XF_5.out.below hb6)
  have XS_6 := Lib.hid (XS_5.out.below hb6)
  have XM_6 := Lib.hid (XM_5.out.below hb6)
  have XA_6 := Lib.hid (XA_5.out.below hb6)
  have XB_6 := Lib.hid (XB_5.out.below hb6)
  have XJ_6 := Lib.hid (XJ_5.out.below hb6)
  have XI_6 := Lib.hid hj
  clear hb6 HB5 XC_5 XF_5 XS_5 XM_5 XA_5 XB_5 XJ_5 hj
  have e1 : (k != k) = false := by simp
  have e2 : (k2 != k2) = false := by simp
  go_wp2_with fail
  refine (likeSlopes_any _ _ _ _ _ _ _ XS_6.out XM_6.out).mono ?_
  rintro e w7 ⟨rfl, hb7⟩
  have HB7 := Lib.hid (bl_trans HB6.out hb7)
  have XC_7 := Lib.hid (XC_6.out.below hb7)
  have XF_7 := Lib.hid (XF_6.out.below hb7)
  have XS_7 := Lib.hid (XS_6.out.below hb7)
  have XA_7 := Lib.hid (XA_6.out.below hb7)
  have XB_7 := Lib.hid (XB_6.out.below hb7)
  have XJ_7 := Lib.hid (XJ_6.out.below hb7)
  have XI_7 := Lib.hid (XI_6.out.below hb7)
  clear hb7 HB6 XC_6 XF_6 XS_6 XM_6 XA_6 XB_6 XJ_6 XI_6
  go_wp2_with fail
  refine (likeSlopes_any _ _ _ _ _ _ _ XJ_7.out XI_7.out).mono ?_
  rintro e w8 ⟨rfl, hb8⟩
  have HB8 := Lib.hid (bl_trans HB7.out hb8)
  have XC_8 := Lib.hid (XC_7.out.below hb8)
  have XF_8 := Lib.hid (XF_7.out.below hb8)
  have XS_8 := Lib.hid (XS_7.out.below hb8)
  have XA_8 := Lib.hid (XA_7.out.below hb8)
  have XB_8 := Lib.hid (XB_7.out.below hb8)
  have XJ_8 := Lib.hid (XJ_7.out.below hb8)
  clear hb8 HB7 XC_7 XF_7 XS_7 XA_7 XB_7 XJ_7 XI_7
  clear e1 e2
  by_cases hk2 : k2 = 0
  · obtain rfl := hk2
    go_wp2_with fail
    refine (iJoin_at HJ2.out _ XB_8.out XA_8.out).mono ?_
    rintro e w9 ⟨Ak, ck, rfl, hj, hb9⟩
    have HB9 := Lib.hid (bl_trans HB8.out hb9)
    have XC_9 := Lib.hid (XC_8.out.below hb9)
    have XF_9 := Lib.hid (XF_8.out.below hb9)
    have XS_9 := Lib.hid (XS_8.out.below hb9)
    have XJ_9 := Lib.hid (XJ_8.out.below hb9)
    have XK_9 := Lib.hid hj
    clear hb9 HB8 XC_8 XF_8 XS_8 XA_8 XB_8 XJ_8 hj
    go_wp2_with fail
    refine (likeSlopes_any _ _ _ _ _ _ _ XK_9.out XJ_9.out).mono ?_
    rintro e w10 ⟨rfl, hb10⟩
    have HB10 := Lib.hid (bl_trans HB9.out hb10)
    have XC_10 := Lib.hid (XC_9.out.below hb10)
    have XF_10 := Lib.hid (XF_9.out.below hb10)
    have XS_10 := Lib.hid (XS_9.out.below hb10)
    clear hb10 HB9 XC_9 XF_9 XS_9 XJ_9 XK_9
    by_cases hk : k = 0
    · have hkb : (k != 0) = false := by simpa using hk
      have ⟨hpg, hN, hzs⟩ := soR_zero HS.out hk
      have ⟨hp, hx, h0⟩ := pgC_zero hpg
      have hp1 : 2 ≤ p := hp.2.1
      have hp2 : p ≤ 97 := hp.1
      have HP := Lib.hid hp
      have HX := Lib.hid hx
      have H0 := Lib.hid h0
      have HN := Lib.hid hN
      have HZ := Lib.hid hzs
      clear hpg hN hzs hp hx h0 hk
      go_wp2_with fail
      refine (roll_any _ _ _ _ 1301 _ XC_10.out HBy.out).mono ?_
      rintro e wd0 ⟨dc, rfl, hdi⟩
      have HD0 := Lib.hid hdi
      clear hdi
      go_wp2_with fail
      refine (below_any _ _ _ _ _ _ 5 _ HD0.out (by omega) (by omega)).mono ?_
      rintro e wd1 ⟨d1, rfl, ⟨d11, d12⟩, hd⟩
      have HD1 := Lib.hid hd.1
      have ⟨t1, t2⟩ := pd_bd hp1 hp2 (d := d1 - 2) (by omega) (by omega)
      obtain ⟨t, ht⟩ : ∃ t, p * (d1 - 2) = t := ⟨_, rfl⟩
      rw [ht] at t1 t2
      clear hd HD0
      go_wp2_with fail
      refine (below_any _ _ _ _ _ _ 5 _ HD1.out (by omega) (by omega)).mono ?_
      rintro e wd2 ⟨d2, rfl, ⟨d21, d22⟩, hd⟩
      have hb := hd.1.bel
      clear hd HD1
      have HBa := Lib.hid (bl_trans HB10.out hb)
      have XFa := Lib.hid (XF_10.out.below hb)
      have XSa := Lib.hid (XS_10.out.below hb)
      obtain ⟨u, hu⟩ : ∃ u, d2 - 2 = u := ⟨_, rfl⟩
      have HG := Lib.hid (pok3 t1 t2 (show -1000000 ≤ u by omega) (show u ≤ 1000000 by omega))
      obtain ⟨M, k4, hM⟩ : ∃ M k, (M, k) = mulR f [t, u, 1] := ⟨_, _, rfl⟩
      have HM := Lib.hid hM
      clear hb hM HB10 XC_10 XF_10 XS_10
      go_wp2_with fail
      refine (iMul_at HM.out _ (XFa.out.below (bl_alloc (Below.refl _ _) _)) row3).mono ?_
      rintro e w20 ⟨Am, cm, rfl, hm, hb⟩
      have XG := Lib.hid ((row3 (w := wd2) (T := 2) (a := t) (b := u) (c := 1)).below hb)
      replace hb := al_bel hb
      obtain ⟨gg, hgg⟩ : ∃ g, g = wd2.heap.size := ⟨_, rfl⟩
      rw [← hgg] at XG ⊢
      clear hgg
      have HBb := Lib.hid (bl_trans HBa.out hb)
      have XSb := Lib.hid (XSa.out.below hb)
      have XMb := Lib.hid hm
      clear hb hm HBa XSa XFa
      by_cases hk4 : k4 = 0
      · have hk4b : (k4 != 0) = false := by simpa using hk4
        have hpm := pl_mul HP.out HX.out HG.out H0.out (by simp) (by rw [← HM.out]; exact hk4)
        rw [← HM.out] at hpm
        obtain ⟨⟨hpg, hpM⟩, hjo⟩ := hpm
        rw [← HZ.out, ← HN.out] at hjo
        obtain ⟨Ng, hNg⟩ : ∃ z, z = (plL p [t, u, 1]).length - 1 := ⟨_, rfl⟩
        obtain ⟨zg, hzg⟩ : ∃ z, z = soL p [t, u, 1] := ⟨_, rfl⟩
        obtain ⟨NM, hNM⟩ : ∃ z, z = (plL p M).length - 1 := ⟨_, rfl⟩
        obtain ⟨zM, hzM⟩ : ∃ z, z = soL p M := ⟨_, rfl⟩
        rw [← hNg, ← hzg, ← hNM, ← hzM] at hjo
        have HJo := Lib.hid hjo.symm
        have HSg : Hid ((Ng, zg, (0 : Int)) = soR p [t, u, 1]) := Lib.hid (by unfold soR; rw [if_pos hpg, hNg, hzg])
        have HSM : Hid ((NM, zM, (0 : Int)) = soR p M) := Lib.hid (by unfold soR; rw [if_pos hpM, hNM, hzM])
        clear hpg hpM hjo hNg hzg hNM hzM hk4
        go_wp2_with fail
        refine (iSlo_at HSg.out _ XG.out).mono ?_
        rintro e w21 ⟨Ax, cx, rfl, hx, hb⟩
        have HBc := Lib.hid (bl_trans HBb.out hb)
        have XSc := Lib.hid (XSb.out.below hb)
        have XMc := Lib.hid (XMb.out.below hb)
        have XXc := Lib.hid hx
        clear hb hx HBb XSb XMb XG
        go_wp2_with fail
        refine (iSlo_at HSM.out _ XMc.out).mono ?_
        rintro e w22 ⟨Ay, cy, rfl, hy, hb⟩
        have HBd := Lib.hid (bl_trans HBc.out hb)
        have XSd := Lib.hid (XSc.out.below hb)
        have XXd := Lib.hid (XXc.out.below hb)
        have XYd := Lib.hid hy
        clear hb hy HBc XSc XMc XXc
        go_wp2_with fail
        refine (iJoin_at HJo.out _ XSd.out XXd.out).mono ?_
        rintro e w23 ⟨Az, cz, rfl, hz, hb⟩
        have HBe := Lib.hid (bl_trans HBd.out hb)
        have XYe := Lib.hid (XYd.out.below hb)
        have XZe := Lib.hid hz
        clear hb hz HBd XSd XXd XYd
        go_wp2_with fail
        refine (likeSlopes_any _ _ _ _ _ _ _ XYe.out XZe.out).mono ?_
        rintro e w24 ⟨rfl, hb⟩
        have HBf := Lib.hid (bl_trans HBe.out hb)
        clear hb
        go_wp2
        go_ret
        exact ⟨rfl, HBf.out⟩
      · obtain rfl : k4 = 3 := by have := mulR_code HM.out HX.out HG.out; omega
        go_wp2
        go_ret
        exact ⟨rfl, HBb.out⟩
    · have hkb : (k != 0) = true := by simpa using hk
      go_wp2
      go_ret
      exact ⟨rfl, HB10.out⟩
  · have hkc : (k2 == 0) = false := by simpa using hk2
    by_cases hk : k = 0
    · have hkb : (k != 0) = false := by simpa using hk
      have ⟨hpg, hN, hzs⟩ := soR_zero HS.out hk
      have ⟨hp, hx, h0⟩ := pgC_zero hpg
      have hp1 : 2 ≤ p := hp.2.1
      have hp2 : p ≤ 97 := hp.1
      have HP := Lib.hid hp
      have HX := Lib.hid hx
      have H0 := Lib.hid h0
      have HN := Lib.hid hN
      have HZ := Lib.hid hzs
      clear hpg hN hzs hp hx h0 hk
      go_wp2_with fail
      refine (roll_any _ _ _ _ 1301 _ XC_8.out HBy.out).mono ?_
      rintro e wd0 ⟨dc, rfl, hdi⟩
      have HD0 := Lib.hid hdi
      clear hdi
      go_wp2_with fail
      refine (below_any _ _ _ _ _ _ 5 _ HD0.out (by omega) (by omega)).mono ?_
      rintro e wd1 ⟨d1, rfl, ⟨d11, d12⟩, hd⟩
      have HD1 := Lib.hid hd.1
      have ⟨t1, t2⟩ := pd_bd hp1 hp2 (d := d1 - 2) (by omega) (by omega)
      obtain ⟨t, ht⟩ : ∃ t, p * (d1 - 2) = t := ⟨_, rfl⟩
      rw [ht] at t1 t2
      clear hd HD0
      go_wp2_with fail
      refine (below_any _ _ _ _ _ _ 5 _ HD1.out (by omega) (by omega)).mono ?_
      rintro e wd2 ⟨d2, rfl, ⟨d21, d22⟩, hd⟩
      have hb := hd.1.bel
      clear hd HD1
      have HBa := Lib.hid (bl_trans HB8.out hb)
      have XFa := Lib.hid (XF_8.out.below hb)
      have XSa := Lib.hid (XS_8.out.below hb)
      obtain ⟨u, hu⟩ : ∃ u, d2 - 2 = u := ⟨_, rfl⟩
      have HG := Lib.hid (pok3 t1 t2 (show -1000000 ≤ u by omega) (show u ≤ 1000000 by omega))
      obtain ⟨M, k4, hM⟩ : ∃ M k, (M, k) = mulR f [t, u, 1] := ⟨_, _, rfl⟩
      have HM := Lib.hid hM
      clear hb hM HB8 XC_8 XF_8 XS_8
      go_wp2_with fail
      refine (iMul_at HM.out _ (XFa.out.below (bl_alloc (Below.refl _ _) _)) row3).mono ?_
      rintro e w20 ⟨Am, cm, rfl, hm, hb⟩
      have XG := Lib.hid ((row3 (w := wd2) (T := 2) (a := t) (b := u) (c := 1)).below hb)
      replace hb := al_bel hb
      obtain ⟨gg, hgg⟩ : ∃ g, g = wd2.heap.size := ⟨_, rfl⟩
      rw [← hgg] at XG ⊢
      clear hgg
      have HBb := Lib.hid (bl_trans HBa.out hb)
      have XSb := Lib.hid (XSa.out.below hb)
      have XMb := Lib.hid hm
      clear hb hm HBa XSa XFa
      by_cases hk4 : k4 = 0
      · have hk4b : (k4 != 0) = false := by simpa using hk4
        have hpm := pl_mul HP.out HX.out HG.out H0.out (by simp) (by rw [← HM.out]; exact hk4)
        rw [← HM.out] at hpm
        obtain ⟨⟨hpg, hpM⟩, hjo⟩ := hpm
        rw [← HZ.out, ← HN.out] at hjo
        obtain ⟨Ng, hNg⟩ : ∃ z, z = (plL p [t, u, 1]).length - 1 := ⟨_, rfl⟩
        obtain ⟨zg, hzg⟩ : ∃ z, z = soL p [t, u, 1] := ⟨_, rfl⟩
        obtain ⟨NM, hNM⟩ : ∃ z, z = (plL p M).length - 1 := ⟨_, rfl⟩
        obtain ⟨zM, hzM⟩ : ∃ z, z = soL p M := ⟨_, rfl⟩
        rw [← hNg, ← hzg, ← hNM, ← hzM] at hjo
        have HJo := Lib.hid hjo.symm
        have HSg : Hid ((Ng, zg, (0 : Int)) = soR p [t, u, 1]) := Lib.hid (by unfold soR; rw [if_pos hpg, hNg, hzg])
        have HSM : Hid ((NM, zM, (0 : Int)) = soR p M) := Lib.hid (by unfold soR; rw [if_pos hpM, hNM, hzM])
        clear hpg hpM hjo hNg hzg hNM hzM hk4
        go_wp2_with fail
        refine (iSlo_at HSg.out _ XG.out).mono ?_
        rintro e w21 ⟨Ax, cx, rfl, hx, hb⟩
        have HBc := Lib.hid (bl_trans HBb.out hb)
        have XSc := Lib.hid (XSb.out.below hb)
        have XMc := Lib.hid (XMb.out.below hb)
        have XXc := Lib.hid hx
        clear hb hx HBb XSb XMb XG
        go_wp2_with fail
        refine (iSlo_at HSM.out _ XMc.out).mono ?_
        rintro e w22 ⟨Ay, cy, rfl, hy, hb⟩
        have HBd := Lib.hid (bl_trans HBc.out hb)
        have XSd := Lib.hid (XSc.out.below hb)
        have XXd := Lib.hid (XXc.out.below hb)
        have XYd := Lib.hid hy
        clear hb hy HBc XSc XMc XXc
        go_wp2_with fail
        refine (iJoin_at HJo.out _ XSd.out XXd.out).mono ?_
        rintro e w23 ⟨Az, cz, rfl, hz, hb⟩
        have HBe := Lib.hid (bl_trans HBd.out hb)
        have XYe := Lib.hid (XYd.out.below hb)
        have XZe := Lib.hid hz
        clear hb hz HBd XSd XXd XYd
        go_wp2_with fail
        refine (likeSlopes_any _ _ _ _ _ _ _ XYe.out XZe.out).mono ?_
        rintro e w24 ⟨rfl, hb⟩
        have HBf := Lib.hid (bl_trans HBe.out hb)
        clear hb
        go_wp2
        go_ret
        exact ⟨rfl, HBf.out⟩
      · obtain rfl : k4 = 3 := by have := mulR_code HM.out HX.out HG.out; omega
        go_wp2
        go_ret
        exact ⟨rfl, HBb.out⟩
    · have hkb : (k != 0) = true := by simpa using hk
      go_wp2
      go_ret
      exact ⟨rfl, HB8.out⟩
end Go.Proofs.Ythdmanngjnfamaa
