
/- The walk of the law that values of sums and products are sums and products of values. -/
import Derived.Test.YthdmanngjnfamaaBg
import Derived.Test.YthdmanngjnfamaaDice
import Derived.Test.YthdmanngjnfamaaDrQ
import Derived.Test.YthdmanngjnfamaaPvl
namespace Go.Proofs.Ythdmanngjnfamaa
open Go.RowKit Go.Joins

theorem iMul_at {f g M : List Int} {k : Int} (h : (M, k) = mulR f g) {A : Option Addr} {n c : Nat} {B : Option Addr} {m d : Nat} (w : World) (hf : Rd .i64 w A n c f) (hg : Rd .i64 w B m d g) :
    Calls Try.prog 32 #[.slice A n c, .slice B m d] w fun e w' => ∃ A' c', e = .returned (.tuple #[.slice A' M.length c', .int .i64 k]) ∧ Rd .i64 w' A' M.length c' M ∧ Below w.heap.size w w' := by
  have := implMultiplyPolynomials_any A n c f B m d g w hf hg
  rw [← h] at this
  refine this.mono ?_
  rintro e w' ⟨A', c', rfl, ho, hb⟩
  exact ⟨A', c', rfl, OwnI.rd ho, hb⟩
theorem sMul_at {f g M : List Int} {k : Int} (h : (M, k) = mulR f g) {A : Option Addr} {n c : Nat} {B : Option Addr} {m d : Nat} (w : World) (hf : Rd .i64 w A n c f) (hg : Rd .i64 w B m d g) :
    Calls Try.prog 33 #[.slice A n c, .slice B m d] w fun e w' => ∃ A' c', e = .returned (.tuple #[.slice A' M.length c', .int .i64 k]) ∧ Rd .i64 w' A' M.length c' M ∧ Below w.heap.size w w' := by
  have := specMultiplyPolynomials_any A n c f B m d g w hf hg
  rw [← h] at this
  refine this.mono ?_
  rintro e w' ⟨A', c', rfl, ho, hb⟩
  exact ⟨A', c', rfl, OwnI.rd ho, hb⟩
theorem iAdd_at {f g M : List Int} {k : Int} (h : (M, k) = addR f g) {A : Option Addr} {n c : Nat} {B : Option Addr} {m d : Nat} (w : World) (hf : Rd .i64 w A n c f) (hg : Rd .i64 w B m d g) :
    Calls Try.prog 34 #[.slice A n c, .slice B m d] w fun e w' => ∃ A' c', e = .returned (.tuple #[.slice A' M.length c', .int .i64 k]) ∧ Rd .i64 w' A' M.length c' M ∧ Below w.heap.size w w' := by
  have := implAddPolynomials_any A n c f B m d g w hf hg
  rw [← h] at this
  refine this.mono ?_
  rintro e w' ⟨A', c', rfl, ho, hb⟩
  exact ⟨A', c', rfl, OwnI.rd ho, hb⟩
theorem sAdd_at {f g M : List Int} {k : Int} (h : (M, k) = addR f g) {A : Option Addr} {n c : Nat} {B : Option Addr} {m d : Nat} (w : World) (hf : Rd .i64 w A n c f) (hg : Rd .i64 w B m d g) :
    Calls Try.prog 35 #[.slice A n c, .slice B m d] w fun e w' => ∃ A' c', e = .returned (.tuple #[.slice A' M.length c', .int .i64 k]) ∧ Rd .i64 w' A' M.length c' M ∧ Below w.heap.size w w' := by
  have := specAddPolynomials_any A n c f B m d g w hf hg
  rw [← h] at this
  refine this.mono ?_
  rintro e w' ⟨A', c', rfl, ho, hb⟩
  exact ⟨A', c', rfl, OwnI.rd ho, hb⟩
theorem iEval_at {xs : List Int} {x v k : Int} (hv : v = evV xs x) (hk : k = evC xs x) {A : Option Addr} {n c : Nat} (w : World) (hr : Rd .i64 w A n c xs) :
    Calls Try.prog 37 #[.slice A n c, .int .i64 x] w fun e w' => e = .returned (.tuple #[.int .i64 v, .int .i64 k]) ∧ Below w.heap.size w w' := by
  subst hv; subst hk; exact implEvaluateAt_any A n c xs x w hr
theorem sEval_at {xs : List Int} {x v k : Int} (hv : v = evV xs x) (hk : k = evC xs x) {A : Option Addr} {n c : Nat} (w : World) (hr : Rd .i64 w A n c xs) :
    Calls Try.prog 38 #[.slice A n c, .int .i64 x] w fun e w' => e = .returned (.tuple #[.int .i64 v, .int .i64 k]) ∧ Below w.heap.size w w' := by
  subst hv; subst hk; exact specEvaluateAt_any A n c xs x w hr
theorem isPoly_at {xs : List Int} : ∃ v : Bool, (∀ (A : Option Addr) (n c : Nat) (w : World), Rd .i64 w A n c xs → Calls Try.prog 40 #[.slice A n c] w fun e w' => e = .returned (.bool v) ∧ w = w') ∧
    (∀ (A : Option Addr) (n c : Nat) (w : World), Rd .i64 w A n c xs → Calls Try.prog 41 #[.slice A n c] w fun e w' => e = .returned (.bool v) ∧ w = w') := by
  by_cases h : POk xs
  · exact ⟨true, fun A n c w hr => implIsPolynomial_yes A n c xs w hr h, fun A n c w hr => specIsPolynomial_yes A n c xs w hr h⟩
  · exact ⟨false, fun A n c w hr => implIsPolynomial_no A n c xs w hr h, fun A n c w hr => specIsPolynomial_no A n c xs w hr h⟩
theorem ab_bd {a b : Int} (a1 : -1000000000 ≤ a) (a2 : a ≤ 1000000000) (b1 : -1000000000 ≤ b) (b2 : b ≤ 1000000000) : -1000000000000000000 ≤ a * b ∧ a * b ≤ 1000000000000000000 := by
  have h : (a * b).natAbs ≤ 1000000000 * 1000000000 := by
    rw [Int.natAbs_mul]
    exact Nat.mul_le_mul (by omega) (by omega)
  generalize a * b = z at *
  omega

set_option maxRecDepth 100000 in
set_option maxHeartbeats 4000000 in
theorem walkPolynomialValues (A0 : Option Addr) (n0 c0 : Nat) (ys0 : List Int) (w : World) (hr0 : IsRow .u8 w A0 n0 c0 ys0) :
    Calls Try.prog 5 #[.slice A0 n0 c0] w fun e w' => e = .returned (.bool true) ∧ Below w.heap.size w w' := by
  have HBy := Lib.hid (bys_of hr0)
  have hm := hr0.2.1
  have hc := hr0.1
  unfold maxLen at hm
  have R0 := Lib.hid hr0.rd
  clear hr0
  by_cases hbig : 4096 < n0
  · have hbd : decide (4096 < (n0 : Int)) = true := by simp; omega
    go_enter Try.func5, Try.ntmps5
    go_wp2_with fail
    refine (big_any _ _ _ _).mono ?_
    rintro e w' ⟨rfl, rfl⟩
    rw [hbd]
    go_wp2
    go_ret
    exact ⟨rfl, Below.refl _ _⟩
  have hbd : decide (4096 < (n0 : Int)) = false := by simp; omega
  go_enter Try.func5, Try.ntmps5
  go_wp2_with fail
  refine (big_any _ _ _ _).mono ?_
  rintro e w' ⟨rfl, rfl⟩
  rw [hbd]
  go_wp2_with fail
  refine (drawMulP_any _ _ _ _ _ R0.out HBy.out).mono ?_
  rintro e w1 ⟨Bf, Nf, df, f, Bg, Ng, dg, g, rfl, hf, hg, hb1⟩
  have HF1 := Lib.hid hf
  have HG1 := Lib.hid hg
  have HB1 := Lib.hid hb1
  clear hb1 hf hg
  obtain ⟨M, k, hM⟩ : ∃ M k, (M, k) = mulR f g := ⟨_, _, rfl⟩
  obtain ⟨S, k2, hS⟩ : ∃ M k, (M, k) = addR f g := ⟨_, _, rfl⟩
  have HM := Lib.hid hM
  have HS := Lib.hid hS
  clear hM hS
  go_wp2_with fail
  refine (iMul_at HM.out _ HF1.out HG1.out).mono ?_
  rintro e w2 ⟨Ap, cp, rfl, hp, hb2⟩
  have HB2 := Lib.hid (bl_trans HB1.out hb2)
  have HF2 := Lib.hid (HF1.out.below hb2)
  have HG2 := Lib.hid (HG1.out.below hb2)
  have HP2 := Lib.hid hp
  clear hb2 HF1 HG1 hp
  go_wp2_with fail
  refine (sMul_at HM.out _ HF2.out HG2.out).mono ?_
  rintro e w3 ⟨Aq, cq, rfl, hq, hb3⟩
  have HB3 := Lib.hid (bl_trans HB2.out hb3)
  have HF3 := Lib.hid (HF2.out.below hb3)
  have HG3 := Lib.hid (HG2.out.below hb3)
  have HP3 := Lib.hid (HP2.out.below hb3)
  have HQ3 := Lib.hid hq
  clear hb3 HF2 HG2 HP2 hq
  go_wp2_with fail
  refine (iAdd_at HS.out _ HF3.out HG3.out).mono ?_
  rintro e w4 ⟨As, cs, rfl, hs, hb4⟩
  have HB4 := Lib.hid (bl_trans HB3.out hb4)
  have HF4 := Lib.hid (HF3.out.below hb4)
  have HG4 := Lib.hid (HG3.out.below hb4)
  have HP4 := Lib.hid (HP3.out.below hb4)
  have HQ4 := Lib.hid (HQ3.out.below hb4)
  have HS4 := Lib.hid hs
  clear hb4 HF3 HG3 HP3 HQ3 hs
  go_wp2_with fail
  refine (sAdd_at HS.out _ HF4.out HG4.out).mono ?_
  rintro e w5 ⟨At, ct, rfl, ht, hb5⟩
  have HB5 := Lib.hid (bl_trans HB4.out hb5)
  have HF5 := Lib.hid (HF4.out.below hb5)
  have HG5 := Lib.hid (HG4.out.below hb5)
  have HP5 := Lib.hid (HP4.out.below hb5)
  have HQ5 := Lib.hid (HQ4.out.below hb5)
  have HS5 := Lib.hid (HS4.out.below hb5)
  have HT5 := Lib.hid ht
  clear hb5 HF4 HG4 HP4 HQ4 HS4 ht
  go_wp2_with fail
  refine (drawEval_any _ _ _ _ _ (R0.out.below HB5.out) HBy.out).mono ?_
  rintro e w6 ⟨Bh, Nh, dh, h, x, rfl, hh, x1, x2, hb6⟩
  have HB6 := Lib.hid (bl_trans HB5.out hb6)
  have HF6 := Lib.hid (HF5.out.below hb6)
  have HG6 := Lib.hid (HG5.out.below hb6)
  have HP6 := Lib.hid (HP5.out.below hb6)
  have HQ6 := Lib.hid (HQ5.out.below hb6)
  have HS6 := Lib.hid (HS5.out.below hb6)
  have HT6 := Lib.hid (HT5.out.below hb6)
  have HH6 := Lib.hid hh
  clear hb6 HF5 HG5 HP5 HQ5 HS5 HT5 hh x1 x2
  obtain ⟨v, hv⟩ : ∃ v, v = evV h x := ⟨_, rfl⟩
  obtain ⟨k3, hk3⟩ : ∃ v, v = evC h x := ⟨_, rfl⟩
  have HV := Lib.hid hv
  have HK3 := Lib.hid hk3
  clear hv hk3
  go_wp2_with fail
  refine (iEval_at HV.out HK3.out _ HH6.out).mono ?_
  rintro e w7 ⟨rfl, hb7⟩
  have HB7 := Lib.hid (bl_trans HB6.out hb7)
  have HH7 := Lib.hid (HH6.out.below hb7)
  have HN7 := Lib.hid hb7
  clear hb7 HH6
  go_wp2_with fail
  refine (sEval_at HV.out HK3.out _ HH7.out).mono ?_
  rintro e w8 ⟨rfl, hb8⟩
  have HB8 := Lib.hid (bl_trans HB7.out hb8)
  have hb68 := bl_trans HN7.out hb8
  have HF8 := Lib.hid (HF6.out.below hb68)
  have HG8 := Lib.hid (HG6.out.below hb68)
  have HP8 := Lib.hid (HP6.out.below hb68)
  have HQ8 := Lib.hid (HQ6.out.below hb68)
  have HS8 := Lib.hid (HS6.out.below hb68)
  have HT8 := Lib.hid (HT6.out.below hb68)
  clear hb8 hb68 HF6 HG6 HP6 HQ6 HS6 HT6 HH7 HN7
  have e1 : (k != k) = false := by simp
  have e2 : (k2 != k2) = false := by simp
  have e3 : (k3 != k3) = false := by simp
  have e4 : (v != v) = false := by simp
  obtain ⟨y, hyi, hys⟩ := isPoly_at (xs := f)
  have HYI := Lib.hid hyi
  have HYS := Lib.hid hys
  clear hyi hys
  have e5 : (y != y) = false := by simp
  go_wp2_with fail
  refine (likeInts_any _ _ _ _ _ _ _ HP8.out HQ8.out).mono ?_
  rintro e w9 ⟨rfl, hb9⟩
  have HB9 := Lib.hid (bl_trans HB8.out hb9)
  have HF9 := Lib.hid (HF8.out.below hb9)
  have HG9 := Lib.hid (HG8.out.below hb9)
  have HP9 := Lib.hid (HP8.out.below hb9)
  have HS9 := Lib.hid (HS8.out.below hb9)
  have HT9 := Lib.hid (HT8.out.below hb9)
  clear hb9 HF8 HG8 HP8 HQ8 HS8 HT8
  go_wp2_with fail
  refine (likeInts_any _ _ _ _ _ _ _ HS9.out HT9.out).mono ?_
  rintro e w10 ⟨rfl, hb10⟩
  have HB10 := Lib.hid (bl_trans HB9.out hb10)
  have HF10 := Lib.hid (HF9.out.below hb10)
  have HG10 := Lib.hid (HG9.out.below hb10)
  have HP10 := Lib.hid (HP9.out.below hb10)
  have HS10 := Lib.hid (HS9.out.below hb10)
  clear hb10 HF9 HG9 HP9 HS9 HT9
  go_wp2_with fail
  refine (HYI.out _ _ _ _ HF10.out).mono ?_
  rintro e w' ⟨rfl, rfl⟩
  go_wp2_with fail
  refine (HYS.out _ _ _ _ HF10.out).mono ?_
  rintro e w' ⟨rfl, rfl⟩
  clear e3 e4 HYI HYS
  by_cases hk : k = 0
  · have hkb : (k != 0) = false := by simpa using hk
    by_cases hk2 : k2 = 0
    · have hkc : (k2 != 0) = false := by simpa using hk2
      have HK : Hid (k = 0 ∧ k2 = 0) := Lib.hid ⟨hk, hk2⟩
      clear hk hk2
      go_wp2_with fail
      refine (roll_any _ _ _ _ 601 _ (R0.out.below HB10.out) HBy.out).mono ?_
      rintro e w11 ⟨dc, rfl, hdi⟩
      have HDi := Lib.hid hdi
      have hb10 := hdi.bel
      have HB11 := Lib.hid (bl_trans HB10.out hb10)
      clear hdi
      go_wp2_with fail
      refine (below_any _ _ _ _ _ _ 7 _ HDi.out (by omega) (by omega)).mono ?_
      rintro e w12 ⟨z, rfl, ⟨z1, z2⟩, hdio⟩
      have hb12 := hdio.1.bel
      have HB12 := Lib.hid (bl_trans HB10.out hb12)
      have HF12 := Lib.hid (HF10.out.below hb12)
      have HG12 := Lib.hid (HG10.out.below hb12)
      have HP12 := Lib.hid (HP10.out.below hb12)
      have HS12 := Lib.hid (HS10.out.below hb12)
      clear hdio hb10 hb12 HF10 HG10 HP10 HS10 HDi HB11
      obtain ⟨x0, hx0⟩ : ∃ x0, x0 = z - 3 := ⟨_, rfl⟩
      have hv : evC f x0 = 0 ∧ evC g x0 = 0 ∧ evC M x0 = 0 ∧ evC S x0 = 0 ∧ evV M x0 = evV f x0 * evV g x0 ∧ evV S x0 = evV f x0 + evV g x0 ∧ (-9841000000 ≤ evV f x0 ∧ evV f x0 ≤ 9841000000) ∧ (-9841000000 ≤ evV g x0 ∧ evV g x0 ≤ 9841000000) := by
        have h1 := HM.out
        have h2 := HS.out
        have hk := HK.out
        have := val_both (f := f) (g := g) (x := x0) (by rw [← h1]; exact hk.1) (by rw [← h2]; exact hk.2) (by omega) (by omega)
        rw [← h1, ← h2] at this
        exact this
      have HX := Lib.hid hx0.symm
      obtain ⟨a, ha⟩ : ∃ a, a = evV f x0 := ⟨_, rfl⟩
      obtain ⟨b, hb⟩ : ∃ a, a = evV g x0 := ⟨_, rfl⟩
      rw [← ha, ← hb] at hv
      have HA := Lib.hid (And.intro ha hv.1.symm)
      have HBb := Lib.hid (And.intro hb hv.2.1.symm)
      have HC := Lib.hid (And.intro hv.2.2.2.2.1.symm hv.2.2.1.symm)
      have HD := Lib.hid (And.intro hv.2.2.2.2.2.1.symm hv.2.2.2.1.symm)
      have ⟨⟨a1, a2⟩, b1, b2⟩ := hv.2.2.2.2.2.2
      clear ha hb hv
      have hz3 : z - 3 = x0 := hx0.symm
      have hx1 : -3 ≤ x0 := by omega
      have hx2 : x0 ≤ 3 := by omega
      clear hx0 HX
      go_wp2_with fail
      refine (iEval_at HA.out.1 HA.out.2 _ HF12.out).mono ?_
      rintro e w13 ⟨rfl, hb13⟩
      have HB13 := Lib.hid (bl_trans HB12.out hb13)
      have HG13 := Lib.hid (HG12.out.below hb13)
      have HP13 := Lib.hid (HP12.out.below hb13)
      have HS13 := Lib.hid (HS12.out.below hb13)
      clear hb13 HG12 HP12 HS12 HF12
      go_wp2_with fail
      refine (iEval_at HBb.out.1 HBb.out.2 _ HG13.out).mono ?_
      rintro e w14 ⟨rfl, hb14⟩
      have HB14 := Lib.hid (bl_trans HB13.out hb14)
      have HP14 := Lib.hid (HP13.out.below hb14)
      have HS14 := Lib.hid (HS13.out.below hb14)
      clear hb14 HG13 HP13 HS13
      go_wp2_with fail
      refine (iEval_at HC.out.1 HC.out.2 _ HP14.out).mono ?_
      rintro e w15 ⟨rfl, hb15⟩
      have HB15 := Lib.hid (bl_trans HB14.out hb15)
      have HS15 := Lib.hid (HS14.out.below hb15)
      clear hb15 HP14 HS14
      go_wp2_with fail
      refine (iEval_at HD.out.1 HD.out.2 _ HS15.out).mono ?_
      rintro e w16 ⟨rfl, hb16⟩
      have HB16 := Lib.hid (bl_trans HB15.out hb16)
      clear hb16 HS15 HA HBb HC HD
      by_cases ha1 : 1000000000 < a
      · go_wp2
        go_ret
        exact ⟨ret_bool (by simp), HB16.out⟩
      by_cases ha2 : a < -1000000000
      · go_wp2
        go_ret
        exact ⟨ret_bool (by simp), HB16.out⟩
      by_cases hb1 : 1000000000 < b
      · go_wp2
        go_ret
        exact ⟨ret_bool (by simp), HB16.out⟩
      by_cases hb2 : b < -1000000000
      · go_wp2
        go_ret
        exact ⟨ret_bool (by simp), HB16.out⟩
      have ⟨ab1, ab2⟩ := ab_bd (a := a) (b := b) (by omega) (by omega) (by omega) (by omega)
      obtain ⟨t, ht⟩ : ∃ t, a * b = t := ⟨_, rfl⟩
      rw [ht] at ab1 ab2
      go_wp2
      go_ret
      exact ⟨ret_bool (by simp), HB16.out⟩
    · have hkc : (k2 != 0) = true := by simpa using hk2
      go_wp2
      go_ret
      exact ⟨rfl, HB10.out⟩
  · have hkb : (k != 0) = true := by simpa using hk
    go_wp2
    go_ret
    exact ⟨rfl, HB10.out⟩
end Go.Proofs.Ythdmanngjnfamaa
