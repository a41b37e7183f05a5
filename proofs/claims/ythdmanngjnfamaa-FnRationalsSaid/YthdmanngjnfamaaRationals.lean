
/- The walk of the law on sums, products and valuations of rational numbers. -/
import Derived.Test.YthdmanngjnfamaaBg
import Derived.Test.YthdmanngjnfamaaDrR
import Derived.Test.YthdmanngjnfamaaRatM
import Derived.Deep.RegionHeld3
import Derived.Deep.DeepCutAuto
import Derived.Deep.CutBlock
import Derived.Deep.RegionWith
namespace Go.Proofs.Ythdmanngjnfamaa
open Go.RowKit Go.Joins

theorem takeW {P : Program} {md : Region.Mode} {ops : Array Oper} {Q : Exit → Act → World → Prop} {S : World → Prop} {fuel : Nat} {listed : Array Bool} {a : Act} {w : World} (i : Nat) {oi : Oper} {d : Option Tmp} {v : Value} (hi : ops[i]? = some oi) (hd : oi.dst = d)
    (hs : Region.noSelect ops = true) (hf : Region.free md ops listed i = true) (hr : (Region.ready md ops listed).contains i = true) (hQ : ∀ c a w, Q (.panic c) (a.put d v) w → Q (.panic c) a w)
    (hw : Region.wanted oi (yielded ops a.tmps) = true) (hy : ∀ w, S w → (execOp a.eval oi).run P w = .ok (.value v) w) (hS : S w) (h : wpAnyH P md ops Q S fuel (listed.setIfInBounds i true) (a.put d v) w) : wpAnyH P md ops Q S (fuel + 1) listed a w := by
  subst hd; exact wpAnyH_take hi hs hf hr hQ (.inl ⟨hw, hy⟩) hS h
theorem takeO {P : Program} {md : Region.Mode} {ops : Array Oper} {Q : Exit → Act → World → Prop} {S : World → Prop} {fuel : Nat} {listed : Array Bool} {a : Act} {w : World} (i : Nat) {oi : Oper} {d : Option Tmp} {v : Value} {op : Op} (hi : ops[i]? = some oi) (hd : oi.dst = d) (hop : oi.op = op)
    (hs : Region.noSelect ops = true) (hf : Region.free md ops listed i = true) (hr : (Region.ready md ops listed).contains i = true) (hQ : ∀ c a w, Q (.panic c) (a.put d v) w → Q (.panic c) a w)
    (hw : Region.wanted oi (yielded ops a.tmps) = true) (hy : ∀ o : Oper, o.op = op → ∀ w, S w → (execOp a.eval o).run P w = .ok (.value v) w) (hS : S w) (h : wpAnyH P md ops Q S fuel (listed.setIfInBounds i true) (a.put d v) w) : wpAnyH P md ops Q S (fuel + 1) listed a w :=
  takeW i hi hd hs hf hr hQ hw (hy oi hop) hS h
theorem takeN {P : Program} {md : Region.Mode} {ops : Array Oper} {Q : Exit → Act → World → Prop} {S : World → Prop} {fuel : Nat} {listed : Array Bool} {a : Act} {w : World} (i : Nat) {oi : Oper} {d : Option Tmp} (hi : ops[i]? = some oi) (hd : oi.dst = d)
    (hs : Region.noSelect ops = true) (hf : Region.free md ops listed i = true) (hr : (Region.ready md ops listed).contains i = true) (hQ : ∀ c a w, Q (.panic c) (a.put d undef) w → Q (.panic c) a w)
    (hw : Region.wanted oi (yielded ops a.tmps) = false) (hS : S w) (h : wpAnyH P md ops Q S fuel (listed.setIfInBounds i true) (a.put d undef) w) : wpAnyH P md ops Q S (fuel + 1) listed a w := by
  subst hd; exact wpAnyH_take hi hs hf hr hQ (.inr ⟨hw, rfl⟩) hS h
theorem tdiv_le (y d : Int) : (y.tdiv d).natAbs ≤ y.natAbs := by
  rw [Int.natAbs_tdiv]
  exact Nat.div_le_self _ _
set_option maxRecDepth 100000 in
set_option maxHeartbeats 4000000 in
theorem walkRationals (A0 : Option Addr) (n0 c0 : Nat) (ys0 : List Int) (w : World) (hr0 : IsRow .u8 w A0 n0 c0 ys0) :
    Calls Try.prog 4 #[.slice A0 n0 c0] w fun e w' => e = .returned (.bool true) ∧ Below w.heap.size w w' := by
  have HBy := Lib.hid (bys_of hr0)
  have hm := hr0.2.1
  have hc := hr0.1
  unfold maxLen at hm
  have XC_0 := Lib.hid hr0.rd
  clear hr0
  by_cases hbig : 4096 < n0
  · have hbd : decide (4096 < (n0 : Int)) = true := by simp; omega
    go_enter Try.func4, Try.ntmps4
    go_wp2_with fail
    refine (big_any _ _ _ _).mono ?_
    rintro e w' ⟨rfl, rfl⟩
    rw [hbd]
    go_wp2
    go_ret
    exact ⟨rfl, Below.refl _ _⟩
  have hbd : decide (4096 < (n0 : Int)) = false := by simp; omega
  go_enter Try.func4, Try.ntmps4
  go_wp2_with fail
  refine (big_any _ _ _ _).mono ?_
  rintro e w' ⟨rfl, rfl⟩
  rw [hbd]
  clear hbd hbig
  go_wp2_with fail
  refine (drawMulQ_any _ _ _ _ _ XC_0.out HBy.out).mono ?_
  rintro e w1 ⟨a, b, c, d, rfl, hb1⟩
  have HB1 := Lib.hid hb1
  have XC_1 := Lib.hid (XC_0.out.below hb1)
  clear hb1 XC_0
  obtain ⟨mN, mD, mK, hms, hmi, hmz⟩ := mulQ a b c d
  have HMS := Lib.hid hms
  have HMI := Lib.hid hmi
  have HMZ := Lib.hid hmz
  clear hms hmi hmz
  go_wp2_with fail
  refine (HMI.out _).mono ?_
  rintro e w2 ⟨rfl, hb2⟩
  have hq2 := hb2
  replace hb2 := al_bel hb2
  replace hb2 := al_bel hb2
  have HB2 := Lib.hid (bl_trans HB1.out hb2)
  have XC_2 := Lib.hid (XC_1.out.below hb2)
  have XB_2 := Lib.hid (Bx.new hq2)
  have XA_2 := Lib.hid (Bx.below Bx.mk (al_bel hq2))
  rw [show (w1.alloc (.cells #[.int .i64 a, .int .i64 b] 34)).heap.size = w1.heap.size + 1 by simp] at XB_2
  obtain ⟨gB, hg⟩ : ∃ g, g = w1.heap.size + 1 := ⟨_, rfl⟩
  rw [← hg] at XB_2 ⊢
  clear hg
  obtain ⟨gA, hg⟩ : ∃ g, g = w1.heap.size := ⟨_, rfl⟩
  rw [← hg] at XA_2 ⊢
  clear hg
  clear hb2 HB1 XC_1 hq2
  have ⟨cA0, cA1⟩ := XA_2.out
  have hlA := XA_2.out.lt
  have hmA := Nat.lt_succ_of_lt XA_2.out.lt
  have ⟨cB0, cB1⟩ := XB_2.out
  have hlB := XB_2.out.lt
  have hmB := Nat.lt_succ_of_lt XB_2.out.lt
  go_wp2_with fail
  refine (HMS.out _).mono ?_
  rintro e w3 ⟨rfl, hb3⟩
  have hq3 := hb3
  replace hb3 := al_bel hb3
  have HB3 := Lib.hid (bl_trans HB2.out hb3)
  have XC_3 := Lib.hid (XC_2.out.below hb3)
  have XA_3 := Lib.hid (XA_2.out.below hb3)
  have XB_3 := Lib.hid (XB_2.out.below hb3)
  have XM_3 := Lib.hid (Bx.new hq3)
  obtain ⟨gM, hg⟩ : ∃ g, g = w2.heap.size := ⟨_, rfl⟩
  rw [← hg] at XM_3 ⊢
  clear hg
  clear hb3 cA0 cA1 hlA hmA cB0 cB1 hlB hmB HB2 XC_2 XA_2 XB_2 hq3
  go_wp2_with fail
  refine (drawAddQ_any _ _ _ _ _ (XC_3.out.below (bl_alloc (Below.refl _ _) _)) HBy.out).mono ?_
  rintro e w4 ⟨a2, b2, c2, d2, rfl, hb4⟩
  have hq4 := hb4
  replace hb4 := al_bel hb4
  have HB4 := Lib.hid (bl_trans HB3.out hb4)
  have XC_4 := Lib.hid (XC_3.out.below hb4)
  have XA_4 := Lib.hid (XA_3.out.below hb4)
  have XB_4 := Lib.hid (XB_3.out.below hb4)
  have XM_4 := Lib.hid (XM_3.out.below hb4)
  have XMM_4 := Lib.hid (Bx.new hq4)
  obtain ⟨gMM, hg⟩ : ∃ g, g = w3.heap.size := ⟨_, rfl⟩
  rw [← hg] at XMM_4 ⊢
  clear hg
  clear hb4 HB3 XC_3 XA_3 XB_3 XM_3 hq4
  obtain ⟨sN, sD, sK, hss, hsi⟩ := addQ a2 b2 c2 d2
  have HSS := Lib.hid hss
  have HSI := Lib.hid hsi
  clear hss hsi
  go_wp2_with fail
  refine (HSI.out _).mono ?_
  rintro e w5 ⟨rfl, hb5⟩
  have hq5 := hb5
  replace hb5 := al_bel hb5
  replace hb5 := al_bel hb5
  have HB5 := Lib.hid (bl_trans HB4.out hb5)
  have XC_5 := Lib.hid (XC_4.out.below hb5)
  have XA_5 := Lib.hid (XA_4.out.below hb5)
  have XB_5 := Lib.hid (XB_4.out.below hb5)
  have XM_5 := Lib.hid (XM_4.out.below hb5)
  have XMM_5 := Lib.hid (XMM_4.out.below hb5)
  have XE_5 := Lib.hid (Bx.new hq5)
  have XD_5 := Lib.hid (Bx.below Bx.mk (al_bel hq5))
  rw [show (w4.alloc (.cells #[.int .i64 a2, .int .i64 b2] 34)).heap.size = w4.heap.size + 1 by simp] at XE_5
  obtain ⟨gE, hg⟩ : ∃ g, g = w4.heap.size + 1 := ⟨_, rfl⟩
  rw [← hg] at XE_5 ⊢
  clear hg
  obtain ⟨gD, hg⟩ : ∃ g, g = w4.heap.size := ⟨_, rfl⟩
  rw [← hg] at XD_5 ⊢
  clear hg
  clear hb5 HB4 XC_4 XA_4 XB_4 XM_4 XMM_4 hq5
  have ⟨cD0, cD1⟩ := XD_5.out
  have hlD := XD_5.out.lt
  have hmD := Nat.lt_succ_of_lt XD_5.out.lt
  have ⟨cE0, cE1⟩ := XE_5.out
  have hlE := XE_5.out.lt
  have hmE := Nat.lt_succ_of_lt XE_5.out.lt
  go_wp2_with fail
  refine (HSS.out _).mono ?_
  rintro e w6 ⟨rfl, hb6⟩
  have hq6 := hb6
  replace hb6 := al_bel hb6
  have HB6 := Lib.hid (bl_trans HB5.out hb6)
  have XC_6 := Lib.hid (XC_5.out.below hb6)
  have XA_6 := Lib.hid (XA_5.out.below hb6)
  have XB_6 := Lib.hid (XB_5.out.below hb6)
  have XM_6 := Lib.hid (XM_5.out.below hb6)
  have XMM_6 := Lib.hid (XMM_5.out.below hb6)
  have XS_6 := Lib.hid (Bx.new hq6)
  obtain ⟨gS, hg⟩ : ∃ g, g = w5.heap.size := ⟨_, rfl⟩
  rw [← hg] at XS_6 ⊢
  clear hg
  clear hb6 cD0 cD1 hlD hmD cE0 cE1 hlE hmE HB5 XC_5 XA_5 XB_5 XM_5 XMM_5 XD_5 XE_5 hq6
  go_wp2_with fail
  refine (drawMakeQ_any _ _ _ _ _ (XC_6.out.below (bl_alloc (Below.refl _ _) _)) HBy.out).mono ?_
  rintro e w7 ⟨x, y, rfl, x1, x2, y1, y2, hb7⟩
  have hq7 := hb7
  replace hb7 := al_bel hb7
  have HB7 := Lib.hid (bl_trans HB6.out hb7)
  have XC_7 := Lib.hid (XC_6.out.below hb7)
  have XA_7 := Lib.hid (XA_6.out.below hb7)
  have XB_7 := Lib.hid (XB_6.out.below hb7)
  have XM_7 := Lib.hid (XM_6.out.below hb7)
  have XMM_7 := Lib.hid (XMM_6.out.below hb7)
  have XS_7 := Lib.hid (XS_6.out.below hb7)
  have XSS_7 := Lib.hid (Bx.new hq7)
  obtain ⟨gSS, hg⟩ : ∃ g, g = w6.heap.size := ⟨_, rfl⟩
  rw [← hg] at XSS_7 ⊢
  clear hg
  clear hb7 HB6 XC_6 XA_6 XB_6 XM_6 XMM_6 XS_6 hq7
  obtain ⟨qN, qD, qK, hqs, hqi, hqz⟩ := madeQ x y
  have HQS := Lib.hid hqs
  have HQI := Lib.hid hqi
  have HQZ := Lib.hid hqz
  clear hqs hqi hqz
  go_wp2_with fail
  refine (HQI.out _).mono ?_
  rintro e w8 ⟨rfl, hb8⟩
  have HB8 := Lib.hid (bl_trans HB7.out hb8)
  have XC_8 := Lib.hid (XC_7.out.below hb8)
  have XA_8 := Lib.hid (XA_7.out.below hb8)
  have XB_8 := Lib.hid (XB_7.out.below hb8)
  have XM_8 := Lib.hid (XM_7.out.below hb8)
  have XMM_8 := Lib.hid (XMM_7.out.below hb8)
  have XS_8 := Lib.hid (XS_7.out.below hb8)
  have XSS_8 := Lib.hid (XSS_7.out.below hb8)
  clear hb8 HB7 XC_7 XA_7 XB_7 XM_7 XMM_7 XS_7 XSS_7
  go_wp2_with fail
  refine (HQS.out _).mono ?_
  rintro e w9 ⟨rfl, hb9⟩
  have hq9 := hb9
  replace hb9 := al_bel hb9
  have HB9 := Lib.hid (bl_trans HB8.out hb9)
  have XC_9 := Lib.hid (XC_8.out.below hb9)
  have XA_9 := Lib.hid (XA_8.out.below hb9)
  have XB_9 := Lib.hid (XB_8.out.below hb9)
  have XM_9 := Lib.hid (XM_8.out.below hb9)
  have XMM_9 := Lib.hid (XMM_8.out.below hb9)
  have XS_9 := Lib.hid (XS_8.out.below hb9)
  have XSS_9 := Lib.hid (XSS_8.out.below hb9)
  have XQ_9 := Lib.hid (Bx.new hq9)
  obtain ⟨gQ, hg⟩ : ∃ g, g = w8.heap.size := ⟨_, rfl⟩
  rw [← hg] at XQ_9 ⊢
  clear hg
  clear hb9 HB8 XC_8 XA_8 XB_8 XM_8 XMM_8 XS_8 XSS_8 hq9
  go_wp2_with fail
  refine (drawValQ_any _ _ _ _ _ (XC_9.out.below (bl_alloc (Below.refl _ _) _)) HBy.out).mono ?_
  rintro e w10 ⟨eN, eD, p, rfl, hb10⟩
  have hq10 := hb10
  replace hb10 := al_bel hb10
  have HB10 := Lib.hid (bl_trans HB9.out hb10)
  have XC_10 := Lib.hid (XC_9.out.below hb10)
  have XA_10 := Lib.hid (XA_9.out.below hb10)
  have XB_10 := Lib.hid (XB_9.out.below hb10)
  have XM_10 := Lib.hid (XM_9.out.below hb10)
  have XMM_10 := Lib.hid (XMM_9.out.below hb10)
  have XS_10 := Lib.hid (XS_9.out.below hb10)
  have XSS_10 := Lib.hid (XSS_9.out.below hb10)
  have XQ_10 := Lib.hid (XQ_9.out.below hb10)
  have XQQ_10 := Lib.hid (Bx.new hq10)
  obtain ⟨gQQ, hg⟩ : ∃ g, g = w9.heap.size := ⟨_, rfl⟩
  rw [← hg] at XQQ_10 ⊢
  clear hg
  clear hb10 HB9 XC_9 XA_9 XB_9 XM_9 XMM_9 XS_9 XSS_9 XQ_9 hq10
  obtain ⟨v, vK, hvs, hvi⟩ := valQ eN eD p
  have HVS := Lib.hid hvs
  have HVI := Lib.hid hvi
  clear hvs hvi
  go_wp2_with fail
  refine (HVI.out _).mono ?_
  rintro e w11 ⟨rfl, hb11⟩
  have hq11 := hb11
  replace hb11 := al_bel hb11
  have HB11 := Lib.hid (bl_trans HB10.out hb11)
  have XC_11 := Lib.hid (XC_10.out.below hb11)
  have XA_11 := Lib.hid (XA_10.out.below hb11)
  have XB_11 := Lib.hid (XB_10.out.below hb11)
  have XM_11 := Lib.hid (XM_10.out.below hb11)
  have XMM_11 := Lib.hid (XMM_10.out.below hb11)
  have XS_11 := Lib.hid (XS_10.out.below hb11)
  have XSS_11 := Lib.hid (XSS_10.out.below hb11)
  have XQ_11 := Lib.hid (XQ_10.out.below hb11)
  have XQQ_11 := Lib.hid (XQQ_10.out.below hb11)
  have XE_11 := Lib.hid (Bx.new hq11)
  obtain ⟨gE, hg⟩ : ∃ g, g = w10.heap.size := ⟨_, rfl⟩
  rw [← hg] at XE_11 ⊢
  clear hg
  clear hb11 HB10 XC_10 XA_10 XB_10 XM_10 XMM_10 XS_10 XSS_10 XQ_10 XQQ_10 hq11
  have ⟨cE0, cE1⟩ := XE_11.out
  have hlE := XE_11.out.lt
  have hmE := Nat.lt_succ_of_lt XE_11.out.lt
  go_wp2_with fail
  refine (HVS.out _).mono ?_
  rintro e w12 ⟨rfl, hb12⟩
  have HB12 := Lib.hid (bl_trans HB11.out hb12)
  have XA_12 := Lib.hid (XA_11.out.below hb12)
  have XB_12 := Lib.hid (XB_11.out.below hb12)
  have XM_12 := Lib.hid (XM_11.out.below hb12)
  have XMM_12 := Lib.hid (XMM_11.out.below hb12)
  have XS_12 := Lib.hid (XS_11.out.below hb12)
  have XSS_12 := Lib.hid (XSS_11.out.below hb12)
  have XQ_12 := Lib.hid (XQ_11.out.below hb12)
  have XQQ_12 := Lib.hid (XQQ_11.out.below hb12)
  have XE_12 := Lib.hid (XE_11.out.below hb12)
  clear hb12 cE0 cE1 hlE hmE HB11 XC_11 XA_11 XB_11 XM_11 XMM_11 XS_11 XSS_11 XQ_11 XQQ_11 XE_11
  have f1 : (mK != mK) = false := by simp
  have f2 : (mN != mN) = false := by simp
  have f3 : (mD != mD) = false := by simp
  have f4 : (sK != sK) = false := by simp
  have f5 : (sN != sN) = false := by simp
  have f6 : (sD != sD) = false := by simp
  have f7 : (qK != qK) = false := by simp
  have f8 : (qN != qN) = false := by simp
  have f9 : (qD != qD) = false := by simp
  have f10 : (vK != vK) = false := by simp
  have f11 : (v != v) = false := by simp
  obtain ⟨z, hzs, hzi⟩ := isQ eN eD
  have HZS := Lib.hid hzs
  have HZI := Lib.hid hzi
  clear hzs hzi
  have f12 : (z != z) = false := by simp
  have ⟨cM0, cM1⟩ := XM_12.out
  have hlM := XM_12.out.lt
  have hmM := Nat.lt_succ_of_lt XM_12.out.lt
  have ⟨cMM0, cMM1⟩ := XMM_12.out
  have hlMM := XMM_12.out.lt
  have hmMM := Nat.lt_succ_of_lt XMM_12.out.lt
  have ⟨cS0, cS1⟩ := XS_12.out
  have hlS := XS_12.out.lt
  have hmS := Nat.lt_succ_of_lt XS_12.out.lt
  have ⟨cSS0, cSS1⟩ := XSS_12.out
  have hlSS := XSS_12.out.lt
  have hmSS := Nat.lt_succ_of_lt XSS_12.out.lt
  have ⟨cQ0, cQ1⟩ := XQ_12.out
  have hlQ := XQ_12.out.lt
  have hmQ := Nat.lt_succ_of_lt XQ_12.out.lt
  have ⟨cQQ0, cQQ1⟩ := XQQ_12.out
  have hlQQ := XQQ_12.out.lt
  have hmQQ := Nat.lt_succ_of_lt XQQ_12.out.lt
  have ⟨cE0, cE1⟩ := XE_12.out
  have hlE := XE_12.out.lt
  have hmE := Nat.lt_succ_of_lt XE_12.out.lt
  have HK : Hid (∀ w', Below w12.heap.size w12 w' → w'.cell? ⟨gM, 0, none⟩ = some (.int .i64 mN) ∧ w'.cell? ⟨gM, 1, none⟩ = some (.int .i64 mD) ∧ w'.cell? ⟨gMM, 0, none⟩ = some (.int .i64 mN) ∧ w'.cell? ⟨gMM, 1, none⟩ = some (.int .i64 mD) ∧ w'.cell? ⟨gS, 0, none⟩ = some (.int .i64 sN) ∧ w'.cell? ⟨gS, 1, none⟩ = some (.int .i64 sD) ∧ w'.cell? ⟨gSS, 0, none⟩ = some (.int .i64 sN) ∧ w'.cell? ⟨gSS, 1, none⟩ = some (.int .i64 sD) ∧ w'.cell? ⟨gQ, 0, none⟩ = some (.int .i64 qN) ∧ w'.cell? ⟨gQ, 1, none⟩ = some (.int .i64 qD) ∧ w'.cell? ⟨gQQ, 0, none⟩ = some (.int .i64 qN) ∧ w'.cell? ⟨gQQ, 1, none⟩ = some (.int .i64 qD) ∧ w'.cell? ⟨gE, 0, none⟩ = some (.int .i64 eN) ∧ w'.cell? ⟨gE, 1, none⟩ = some (.int .i64 eD)) := Lib.hid (fun w' hb => ⟨keep_cell hb cM0, keep_cell hb cM1, keep_cell hb cMM0, keep_cell hb cMM1, keep_cell hb cS0, keep_cell hb cS1, keep_cell hb cSS0, keep_cell hb cSS1, keep_cell hb cQ0, keep_cell hb cQ1, keep_cell hb cQQ0, keep_cell hb cQQ1, keep_cell hb cE0, keep_cell hb cE1⟩)
  go_upto_region 15 with fail
  go_cut [147] (fun s147 wx => ∃ wz : World, wz = wx ∧ s147 = .bool false ∧ Hid (Below w12.heap.size w12 wz))
  case first =>
    go_region_held3 (fun w' => w'.cell? ⟨gM, 0, none⟩ = some (.int .i64 mN) ∧ w'.cell? ⟨gM, 1, none⟩ = some (.int .i64 mD) ∧ w'.cell? ⟨gMM, 0, none⟩ = some (.int .i64 mN) ∧ w'.cell? ⟨gMM, 1, none⟩ = some (.int .i64 mD) ∧ w'.cell? ⟨gS, 0, none⟩ = some (.int .i64 sN) ∧ w'.cell? ⟨gS, 1, none⟩ = some (.int .i64 sD) ∧ w'.cell? ⟨gSS, 0, none⟩ = some (.int .i64 sN) ∧ w'.cell? ⟨gSS, 1, none⟩ = some (.int .i64 sD) ∧ w'.cell? ⟨gQ, 0, none⟩ = some (.int .i64 qN) ∧ w'.cell? ⟨gQ, 1, none⟩ = some (.int .i64 qD) ∧ w'.cell? ⟨gQQ, 0, none⟩ = some (.int .i64 qN) ∧ w'.cell? ⟨gQQ, 1, none⟩ = some (.int .i64 qD) ∧ w'.cell? ⟨gE, 0, none⟩ = some (.int .i64 eN) ∧ w'.cell? ⟨gE, 1, none⟩ = some (.int .i64 eD)) (exact HK.out _ (by repeat (first | exact Below.refl _ _ | exact HBi.out | exact HBj.out | apply Below.drew | apply below_drewN))) (first | (go_at_call 29; refine (HZI.out _).mono ?_; rintro e wi ⟨rfl, hb1⟩; have HBi : Hid (Below w12.heap.size w12 wi) := Lib.hid (bl_trans (by repeat (first | exact Below.refl _ _ | exact HBi.out | exact HBj.out | apply Below.drew | apply below_drewN)) hb1)) | (go_at_call 30; refine (HZS.out _).mono ?_; rintro e wj ⟨rfl, hb2⟩; have HBj : Hid (Below w12.heap.size w12 wj) := Lib.hid (bl_trans (by repeat (first | exact Below.refl _ _ | exact HBi.out | exact HBj.out | apply Below.drew | apply below_drewN)) hb2)))
    all_goals
      go_wp2_with fail
      go_meet
      exact ⟨_, rfl, rfl, Lib.hid (by repeat (first | exact Below.refl _ _ | exact HBi.out | exact HBj.out | apply Below.drew | apply below_drewN))⟩
  case rest =>
    obtain ⟨w13, rfl, rfl, hcb⟩ := hcut
    replace hcb := hcb.out
    clear HK f1 f2 f3 f4 f5 f6 f7 f8 f9 f10 f11 f12 HZI HZS cM0 cM1 hlM hmM cMM0 cMM1 hlMM hmMM cS0 cS1 hlS hmS cSS0 cSS1 hlSS hmSS cQ0 cQ1 hlQ hmQ cQQ0 cQQ1 hlQQ hmQQ cE0 cE1 hlE hmE
    have HB13 := Lib.hid (bl_trans HB12.out hcb)
    have XA_13 := Lib.hid (XA_12.out.below hcb)
    have XB_13 := Lib.hid (XB_12.out.below hcb)
    have XM_13 := Lib.hid (XM_12.out.below hcb)
    have XMM_13 := Lib.hid (XMM_12.out.below hcb)
    have XS_13 := Lib.hid (XS_12.out.below hcb)
    have XSS_13 := Lib.hid (XSS_12.out.below hcb)
    have XQ_13 := Lib.hid (XQ_12.out.below hcb)
    have XQQ_13 := Lib.hid (XQQ_12.out.below hcb)
    have XE_13 := Lib.hid (XE_12.out.below hcb)
    clear hcb HB12 XA_12 XB_12 XM_12 XMM_12 XS_12 XSS_12 XQ_12 XQQ_12 XE_12
    go_upto_region 17 with fail
    go_cut [176] (fun s176 wx => ∃ wz : World, wz = wx ∧ s176 = .bool false ∧ Hid (Below w13.heap.size w13 wz))
    case first =>
      have ⟨cQ0, cQ1⟩ := XQ_13.out
      have hlQ := XQ_13.out.lt
      have hmQ := Nat.lt_succ_of_lt XQ_13.out.lt
      have ⟨cQQ0, cQQ1⟩ := XQQ_13.out
      have hlQQ := XQQ_13.out.lt
      have hmQQ := Nat.lt_succ_of_lt XQQ_13.out.lt
      have HK : Hid (∀ w', Below w13.heap.size w13 w' → w'.cell? ⟨gQ, 0, none⟩ = some (.int .i64 qN) ∧ w'.cell? ⟨gQ, 1, none⟩ = some (.int .i64 qD) ∧ w'.cell? ⟨gQQ, 0, none⟩ = some (.int .i64 qN) ∧ w'.cell? ⟨gQQ, 1, none⟩ = some (.int .i64 qD)) := Lib.hid (fun w' hb => ⟨keep_cell hb cQ0, keep_cell hb cQ1, keep_cell hb cQQ0, keep_cell hb cQQ1⟩)
      by_cases hq0 : qK = 0
      · have hqb : (qK == 0) = true := by simpa using hq0
        obtain ⟨hq, hx, hy, hxy⟩ := HQZ.out hq0
        have HQ := Lib.hid hq
        have hd1 : 1 ≤ qD := hq.2.1
        have hd0 : ¬ qD = 0 := by omega
        have ht := tdiv_le y qD
        obtain ⟨t, hte⟩ : ∃ t, y.tdiv qD = t := ⟨_, rfl⟩
        rw [hte] at ht hxy
        have t1 : -1000000000001 ≤ t := by omega
        have t2 : t ≤ 1000000000001 := by omega
        have hw1 : IntKind.i64.wrap t = t := IntWalk.i64_in _ (by omega)
        have hw2 : IntKind.i64.wrap x = x := IntWalk.i64_in _ (by omega)
        have hxx : (x != x) = false := by simp
        clear hq hx hy ht hq0
        refine wp_region_noPanic ?_
        refine wp_region_held_drew (S := fun w' => w'.cell? ⟨gQ, 0, none⟩ = some (.int .i64 qN) ∧ w'.cell? ⟨gQ, 1, none⟩ = some (.int .i64 qD) ∧ w'.cell? ⟨gQQ, 0, none⟩ = some (.int .i64 qN) ∧ w'.cell? ⟨gQQ, 1, none⟩ = some (.int .i64 qD)) (by kernel_rfl) (HK.out _ (Below.drew (Below.refl _ _))) (fun hHeld => ?_)
        refine takeW 0 (d := some 148) (v := .int .i64 qK) rfl rfl (by kernel_rfl) (by kernel_rfl) (by kernel_rfl) (fun _ _ _ h => h) rfl (fun _ _ => rfl) (by assumption) ?_
        try simp only [Act.put, List.setIfInBounds_toArray, List.set_cons_zero, List.set_cons_succ]
        refine takeO 1 (d := some 149) (v := .bool true) (op := .binOp .eql 2 (.tmp 148) (.const (.int .i64 0)) 2) rfl rfl rfl (by kernel_rfl) (by kernel_rfl) (by kernel_rfl) (fun _ _ _ h => h) rfl ?_ (by assumption) ?_
        · intro o ho w hSw
          try dsimp only at hSw
          try obtain ⟨s0, s1, s2, s3⟩ := hSw
          simp only [execOp, ho]
          go_simp
        try simp only [Act.put, List.setIfInBounds_toArray, List.set_cons_zero, List.set_cons_succ]
        refine takeW 2 (d := some 150) (v := .bool true) rfl rfl (by kernel_rfl) (by kernel_rfl) (by kernel_rfl) (fun _ _ _ h => h) rfl (fun _ _ => rfl) (by assumption) ?_
        try simp only [Act.put, List.setIfInBounds_toArray, List.set_cons_zero, List.set_cons_succ]
        refine takeO 3 (d := some 151) (v := .agg #[.int .i64 qN, .int .i64 qD]) (op := .load 34 (.tmp 17)) rfl rfl rfl (by kernel_rfl) (by kernel_rfl) (by kernel_rfl) (fun _ _ _ h => h) rfl ?_ (by assumption) ?_
        · intro o ho w hSw
          try dsimp only at hSw
          try obtain ⟨s0, s1, s2, s3⟩ := hSw
          simp only [execOp, ho]
          go_simp
        try simp only [Act.put, List.setIfInBounds_toArray, List.set_cons_zero, List.set_cons_succ]
        refine wpAnyH_ready (rs := [4]) (by kernel_rfl) (by simp) ?_
        refine AllReadyH.cons rfl (fun K hK => ?_) AllReadyH.nil
        go_simp
        go_at_call 29
        refine (isQ_yes _ _ HQ.out _).mono ?_
        rintro e wi ⟨rfl, hb1⟩
        have HBi : Hid (Below w13.heap.size w13 wi) := Lib.hid (bl_trans (by repeat (first | exact Below.refl _ _ | exact HBi.out | exact HBj.out | apply Below.drew | apply below_drewN)) hb1)
        try go_wp2_with fail
        refine hK.out _ _ (HK.out _ HBi.out) (fun hHeld2 => ?_)
        clear hK K hHeld
        try simp only [Act.put, List.setIfInBounds_toArray, List.set_cons_zero, List.set_cons_succ]
        refine takeW 5 (d := some 153) (v := .bool false) rfl rfl (by kernel_rfl) (by kernel_rfl) (by kernel_rfl) (fun _ _ _ h => h) rfl (fun _ _ => rfl) (by assumption) ?_
        try simp only [Act.put, List.setIfInBounds_toArray, List.set_cons_zero, List.set_cons_succ]
        refine takeW 6 (d := some 154) (v := .bool false) rfl rfl (by kernel_rfl) (by kernel_rfl) (by kernel_rfl) (fun _ _ _ h => h) rfl (fun _ _ => rfl) (by assumption) ?_
        try simp only [Act.put, List.setIfInBounds_toArray, List.set_cons_zero, List.set_cons_succ]
        refine takeO 7 (d := some 155) (v := .pointer (some ⟨gQ, 0, none⟩)) (op := .fieldAddr 34 (.tmp 17) 0) rfl rfl rfl (by kernel_rfl) (by kernel_rfl) (by kernel_rfl) (fun _ _ _ h => h) rfl ?_ (by assumption) ?_
        · intro o ho w hSw
          try dsimp only at hSw
          try obtain ⟨s0, s1, s2, s3⟩ := hSw
          simp only [execOp, ho]
          go_simp
        try simp only [Act.put, List.setIfInBounds_toArray, List.set_cons_zero, List.set_cons_succ]
        refine takeO 8 (d := some 156) (v := .int .i64 qN) (op := .load 2 (.tmp 155)) rfl rfl rfl (by kernel_rfl) (by kernel_rfl) (by kernel_rfl) (fun _ _ _ h => h) rfl ?_ (by assumption) ?_
        · intro o ho w hSw
          try dsimp only at hSw
          try obtain ⟨s0, s1, s2, s3⟩ := hSw
          simp only [execOp, ho]
          go_simp
        try simp only [Act.put, List.setIfInBounds_toArray, List.set_cons_zero, List.set_cons_succ]
        refine takeW 9 (d := some 157) (v := .int .i64 y) rfl rfl (by kernel_rfl) (by kernel_rfl) (by kernel_rfl) (fun _ _ _ h => h) rfl (fun _ _ => rfl) (by assumption) ?_
        try simp only [Act.put, List.setIfInBounds_toArray, List.set_cons_zero, List.set_cons_succ]
        refine takeO 10 (d := some 158) (v := .pointer (some ⟨gQQ, 1, none⟩)) (op := .fieldAddr 34 (.tmp 19) 1) rfl rfl rfl (by kernel_rfl) (by kernel_rfl) (by kernel_rfl) (fun _ _ _ h => h) rfl ?_ (by assumption) ?_
        · intro o ho w hSw
          try dsimp only at hSw
          try obtain ⟨s0, s1, s2, s3⟩ := hSw
          simp only [execOp, ho]
          go_simp
        try simp only [Act.put, List.setIfInBounds_toArray, List.set_cons_zero, List.set_cons_succ]
        refine takeO 11 (d := some 159) (v := .int .i64 qD) (op := .load 2 (.tmp 158)) rfl rfl rfl (by kernel_rfl) (by kernel_rfl) (by kernel_rfl) (fun _ _ _ h => h) rfl ?_ (by assumption) ?_
        · intro o ho w hSw
          try dsimp only at hSw
          try obtain ⟨s0, s1, s2, s3⟩ := hSw
          simp only [execOp, ho]
          go_simp
        try simp only [Act.put, List.setIfInBounds_toArray, List.set_cons_zero, List.set_cons_succ]
        refine takeO 12 (d := some 160) (v := .int .i64 t) (op := .binOp .quo 2 (.tmp 157) (.tmp 159) 2) rfl rfl rfl (by kernel_rfl) (by kernel_rfl) (by kernel_rfl) (fun _ _ _ h => h) rfl ?_ (by assumption) ?_
        · intro o ho w hSw
          try dsimp only at hSw
          try obtain ⟨s0, s1, s2, s3⟩ := hSw
          simp only [execOp, ho]
          go_simp
        try simp only [Act.put, List.setIfInBounds_toArray, List.set_cons_zero, List.set_cons_succ]
        refine takeO 13 (d := some 161) (v := .int .i64 x) (op := .binOp .mul 2 (.tmp 156) (.tmp 160) 2) rfl rfl rfl (by kernel_rfl) (by kernel_rfl) (by kernel_rfl) (fun _ _ _ h => h) rfl ?_ (by assumption) ?_
        · intro o ho w hSw
          try dsimp only at hSw
          try obtain ⟨s0, s1, s2, s3⟩ := hSw
          simp only [execOp, ho]
          go_simp
        try simp only [Act.put, List.setIfInBounds_toArray, List.set_cons_zero, List.set_cons_succ]
        refine takeW 14 (d := some 162) (v := .int .i64 x) rfl rfl (by kernel_rfl) (by kernel_rfl) (by kernel_rfl) (fun _ _ _ h => h) rfl (fun _ _ => rfl) (by assumption) ?_
        try simp only [Act.put, List.setIfInBounds_toArray, List.set_cons_zero, List.set_cons_succ]
        refine takeO 15 (d := some 163) (v := .bool false) (op := .binOp .neq 2 (.tmp 161) (.tmp 162) 2) rfl rfl rfl (by kernel_rfl) (by kernel_rfl) (by kernel_rfl) (fun _ _ _ h => h) rfl ?_ (by assumption) ?_
        · intro o ho w hSw
          try dsimp only at hSw
          try obtain ⟨s0, s1, s2, s3⟩ := hSw
          simp only [execOp, ho]
          go_simp
        try simp only [Act.put, List.setIfInBounds_toArray, List.set_cons_zero, List.set_cons_succ]
        refine takeW 16 (d := some 164) (v := .bool false) rfl rfl (by kernel_rfl) (by kernel_rfl) (by kernel_rfl) (fun _ _ _ h => h) rfl (fun _ _ => rfl) (by assumption) ?_
        try simp only [Act.put, List.setIfInBounds_toArray, List.set_cons_zero, List.set_cons_succ]
        refine takeN 17 (d := some 165) rfl rfl (by kernel_rfl) (by kernel_rfl) (by kernel_rfl) (fun _ _ _ h => h) rfl (by assumption) ?_
        try simp only [Act.put, List.setIfInBounds_toArray, List.set_cons_zero, List.set_cons_succ]
        refine takeN 18 (d := some 166) rfl rfl (by kernel_rfl) (by kernel_rfl) (by kernel_rfl) (fun _ _ _ h => h) rfl (by assumption) ?_
        try simp only [Act.put, List.setIfInBounds_toArray, List.set_cons_zero, List.set_cons_succ]
        refine takeN 19 (d := some 167) rfl rfl (by kernel_rfl) (by kernel_rfl) (by kernel_rfl) (fun _ _ _ h => h) rfl (by assumption) ?_
        try simp only [Act.put, List.setIfInBounds_toArray, List.set_cons_zero, List.set_cons_succ]
        refine takeN 20 (d := some 168) rfl rfl (by kernel_rfl) (by kernel_rfl) (by kernel_rfl) (fun _ _ _ h => h) rfl (by assumption) ?_
        try simp only [Act.put, List.setIfInBounds_toArray, List.set_cons_zero, List.set_cons_succ]
        refine takeN 21 (d := some 169) rfl rfl (by kernel_rfl) (by kernel_rfl) (by kernel_rfl) (fun _ _ _ h => h) rfl (by assumption) ?_
        try simp only [Act.put, List.setIfInBounds_toArray, List.set_cons_zero, List.set_cons_succ]
        refine takeN 22 (d := some 170) rfl rfl (by kernel_rfl) (by kernel_rfl) (by kernel_rfl) (fun _ _ _ h => h) rfl (by assumption) ?_
        try simp only [Act.put, List.setIfInBounds_toArray, List.set_cons_zero, List.set_cons_succ]
        refine takeN 23 (d := some 171) rfl rfl (by kernel_rfl) (by kernel_rfl) (by kernel_rfl) (fun _ _ _ h => h) rfl (by assumption) ?_
        try simp only [Act.put, List.setIfInBounds_toArray, List.set_cons_zero, List.set_cons_succ]
        refine takeN 24 (d := some 172) rfl rfl (by kernel_rfl) (by kernel_rfl) (by kernel_rfl) (fun _ _ _ h => h) rfl (by assumption) ?_
        try simp only [Act.put, List.setIfInBounds_toArray, List.set_cons_zero, List.set_cons_succ]
        refine takeN 25 (d := some 173) rfl rfl (by kernel_rfl) (by kernel_rfl) (by kernel_rfl) (fun _ _ _ h => h) rfl (by assumption) ?_
        try simp only [Act.put, List.setIfInBounds_toArray, List.set_cons_zero, List.set_cons_succ]
        refine takeW 26 (d := some 174) (v := .bool false) rfl rfl (by kernel_rfl) (by kernel_rfl) (by kernel_rfl) (fun _ _ _ h => h) rfl (fun _ _ => rfl) (by assumption) ?_
        try simp only [Act.put, List.setIfInBounds_toArray, List.set_cons_zero, List.set_cons_succ]
        refine takeW 27 (d := some 175) (v := .bool false) rfl rfl (by kernel_rfl) (by kernel_rfl) (by kernel_rfl) (fun _ _ _ h => h) rfl (fun _ _ => rfl) (by assumption) ?_
        try simp only [Act.put, List.setIfInBounds_toArray, List.set_cons_zero, List.set_cons_succ]
        refine takeW 28 (d := some 176) (v := .bool false) rfl rfl (by kernel_rfl) (by kernel_rfl) (by kernel_rfl) (fun _ _ _ h => h) rfl (fun _ _ => rfl) (by assumption) ?_
        try simp only [Act.put, List.setIfInBounds_toArray, List.set_cons_zero, List.set_cons_succ]
        refine wpAnyH_done (by kernel_rfl) ?_ _
        refine NoPanic.normal ?_
        all_goals
          go_wp2_with fail
          go_meet
          exact ⟨_, rfl, rfl, Lib.hid (by repeat (first | exact Below.refl _ _ | exact HBi.out | exact HBj.out | apply Below.drew | apply below_drewN))⟩
      · have hqb : (qK == 0) = false := by simpa using hq0
        go_quiet (fail)
        go_wp2_with fail
        go_meet
        exact ⟨_, rfl, rfl, Lib.hid (by repeat (first | exact Below.refl _ _ | exact HBi.out | exact HBj.out | apply Below.drew | apply below_drewN))⟩
    case rest =>
      obtain ⟨w14, rfl, rfl, hcb⟩ := hcut
      replace hcb := hcb.out
      have HB14 := Lib.hid (bl_trans HB13.out hcb)
      have XA_14 := Lib.hid (XA_13.out.below hcb)
      have XB_14 := Lib.hid (XB_13.out.below hcb)
      have XM_14 := Lib.hid (XM_13.out.below hcb)
      have XQ_14 := Lib.hid (XQ_13.out.below hcb)
      have XQQ_14 := Lib.hid (XQQ_13.out.below hcb)
      clear hcb HB13 XA_13 XB_13 XM_13 XQ_13 XQQ_13
      have ⟨cA0, cA1⟩ := XA_14.out
      have hlA := XA_14.out.lt
      have hmA := Nat.lt_succ_of_lt XA_14.out.lt
      have ⟨cB0, cB1⟩ := XB_14.out
      have hlB := XB_14.out.lt
      have hmB := Nat.lt_succ_of_lt XB_14.out.lt
      have ⟨cM0, cM1⟩ := XM_14.out
      have hlM := XM_14.out.lt
      have hmM := Nat.lt_succ_of_lt XM_14.out.lt
      by_cases hm0 : mK = 0
      · obtain rfl := hm0
        by_cases ha0 : a = 0
        · have hab : (a == 0) = true := by simpa using ha0
          go_wp2
          go_ret
          exact ⟨rfl, HB14.out⟩
        · have hab : (a == 0) = false := by simpa using ha0
          by_cases hc0 : c = 0
          · have hcb : (c == 0) = true := by simpa using hc0
            go_wp2
            go_ret
            exact ⟨rfl, HB14.out⟩
          · have hcb : (c == 0) = false := by simpa using hc0
            obtain ⟨hq, u, v', ⟨u1, u2, v1, v2⟩, hu, hv, huv⟩ := HMZ.out rfl ha0 hc0
            have HQ := Lib.hid hq
            have HU := Lib.hid hu
            have HV' := Lib.hid hv
            have HUV := Lib.hid huv
            clear hq hu hv huv ha0 hc0
            go_wp2_with fail
            refine (HU.out _).mono ?_
            rintro e w15 ⟨rfl, hb15⟩
            have HB15 := Lib.hid (bl_trans HB14.out hb15)
            have XA_15 := Lib.hid (XA_14.out.below hb15)
            have XB_15 := Lib.hid (XB_14.out.below hb15)
            have XM_15 := Lib.hid (XM_14.out.below hb15)
            have XQ_15 := Lib.hid (XQ_14.out.below hb15)
            have XQQ_15 := Lib.hid (XQQ_14.out.below hb15)
            clear hb15 HB14 XA_14 XB_14 XM_14 XQ_14 XQQ_14
            clear cA0 cA1 cB0 cB1 cM0 cM1 hlA hlB hlM hmA hmB hmM hab hcb
            have ⟨cB0, cB1⟩ := XB_15.out
            have hlB := XB_15.out.lt
            have hmB := Nat.lt_succ_of_lt XB_15.out.lt
            go_wp2_with fail
            refine (HV'.out _).mono ?_
            rintro e w16 ⟨rfl, hb16⟩
            have HB16 := Lib.hid (bl_trans HB15.out hb16)
            have XA_16 := Lib.hid (XA_15.out.below hb16)
            have XB_16 := Lib.hid (XB_15.out.below hb16)
            have XM_16 := Lib.hid (XM_15.out.below hb16)
            have XQ_16 := Lib.hid (XQ_15.out.below hb16)
            have XQQ_16 := Lib.hid (XQQ_15.out.below hb16)
            clear hb16 cB0 cB1 hlB hmB HB15 XA_15 XB_15 XM_15 XQ_15 XQQ_15
            have ⟨cM0, cM1⟩ := XM_16.out
            have hlM := XM_16.out.lt
            have hmM := Nat.lt_succ_of_lt XM_16.out.lt
            go_wp2_with fail
            refine (HUV.out _).mono ?_
            rintro e w17 ⟨rfl, hb17⟩
            have HB17 := Lib.hid (bl_trans HB16.out hb17)
            have XA_17 := Lib.hid (XA_16.out.below hb17)
            have XB_17 := Lib.hid (XB_16.out.below hb17)
            have XM_17 := Lib.hid (XM_16.out.below hb17)
            have XQ_17 := Lib.hid (XQ_16.out.below hb17)
            have XQQ_17 := Lib.hid (XQQ_16.out.below hb17)
            clear hb17 cM0 cM1 hlM hmM HB16 XA_16 XB_16 XM_16 XQ_16 XQQ_16
            have ⟨cM0, cM1⟩ := XM_17.out
            have hlM := XM_17.out.lt
            have hmM := Nat.lt_succ_of_lt XM_17.out.lt
            go_wp2_with (go_at_call 29; refine (isQ_yes _ _ HQ.out _).mono ?_; rintro e wz ⟨rfl, hbz⟩)
            go_ret
            exact ⟨rfl, bl_trans HB17.out hbz⟩
      · have hmb : (mK != 0) = true := by simpa using hm0
        go_wp2
        go_ret
        exact ⟨rfl, HB14.out⟩
end Go.Proofs.Ythdmanngjnfamaa
