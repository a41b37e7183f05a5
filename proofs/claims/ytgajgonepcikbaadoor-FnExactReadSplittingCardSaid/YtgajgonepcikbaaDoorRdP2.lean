
/- Prime powers' text read, by the program. -/
import Derived.Test.YtgajgonepcikbaaDoorRdP1
import Derived.Deep.LoopGhost
import Derived.Deep.AppendLies
namespace Go.Proofs.YtgajgonepcikbaaDoor
open Go.RowKit Go.Joins

set_option maxRecDepth 100000 in
set_option maxHeartbeats 3200000 in
theorem implReadPowers_at {s : ByteArray} {L : List (Int × Int)} {C : Int} (hL : L = rpL s.data.toList) (hC : C = rpC s.data.toList) (hs : s.size ≤ 1048576) (w : World) (hE : Er w) :
    Calls Tryd.prog 36 #[.string s] w fun e w' => ∃ A c, e = .returned (.tuple #[.slice A L.length c, .int .i64 C]) ∧ OwnC 74 2 w' w.heap.size A L.length c ((fl2 L).map (Value.int .i64)) ∧ Below w.heap.size w w' := by
  have HE := Lib.hid hE
  clear hE
  by_cases h1 : s.data.toList = [49]
  · have HL : Hid (L = [] ∧ C = 0) := Lib.hid (by
      rw [hL, hC, h1, (rp_yes rp_one.1).1, (rp_yes rp_one.1).2, rp_one.2]; exact ⟨rfl, rfl⟩)
    obtain ⟨rfl, rfl⟩ := HL.out
    have ⟨b1, b2⟩ := str_eq h1
    clear h1 hL hC
    go_enter Tryd.func36, Tryd.ntmps36
    go_wp2
    go_ret2
    exact ⟨none, 0, rfl, OwnC.nil (by unfold maxLen; omega), Below.refl _ _⟩
  have ⟨b1, b2⟩ := str_ne h1
  obtain ⟨i0, hi, hz0, hz1, hz2⟩ := info_parts infoPow
  have HI := Lib.hid hi
  have HZ0 := Lib.hid hz0
  have HZ1 := Lib.hid hz1
  have HZ2 := Lib.hid hz2
  clear hi hz0 hz1 hz2
  obtain ⟨W, hW⟩ : ∃ W, W = spl 42 s.data.toList := ⟨_, rfl⟩
  have hn : W.length ≤ 1048577 := by
    rw [hW]; have := spl_cnt 42 s.data.toList; rw [size_data] at this; omega
  have HWl : Hid (∀ k, (W.getD k []).length ≤ 1048576) := Lib.hid (fun k => by rw [hW]; have := spl_getD (c := 42) (l := s.data.toList) k; rw [size_data] at this; omega)
  have HW := Lib.hid hW
  have H1 := Lib.hid h1
  have HL := Lib.hid hL
  have HC := Lib.hid hC
  have hp : 0 < W.length := by rw [hW]; exact spl_pos _ _
  obtain ⟨n, hnW⟩ : ∃ n, n = W.length := ⟨_, rfl⟩
  have HN := Lib.hid hnW
  rw [← hnW] at hn hp
  clear hW h1 hL hC
  go_enter Tryd.func36, Tryd.ntmps36
  go_wp2_with fail
  refine (split_at HW.out hs _ HE.out).mono ?_
  rintro e w1 ⟨rfl, hrt, hb1⟩
  rw [← hnW] at hrt ⊢
  have HRt := Lib.hid hrt
  have HB1 := Lib.hid hb1
  have HE1 : Hid (Er w1) := Lib.hid (HE.out.below hb1)
  clear hrt hb1 hnW
  go_wp2_with fail
  go_loopg [4, 6, 7, 8, 9, 10, 16] n (fun g v _ _ _ _ _ i wr => ∃ k : Nat, g = n - k ∧ k ≤ n ∧ i = .int .i64 k ∧ Hid (wr.ownsRow w1.heap.size 74 2 v k (flat2 ((W.take k).map pwP1))) ∧ Hid (Below w1.heap.size w1 wr))
  case atStart => exact ⟨0, by omega, Nat.zero_le _, rfl, Lib.hid (World.ownsRow_nil _ _ _ _), Lib.hid (Below.refl _ _)⟩
  case round =>
    obtain ⟨k, rfl, hk, rfl, HO, HB⟩ := hrel
    by_cases hlt : k < n
    · obtain ⟨b, off, hbo, hbl, hcell⟩ := (HRt.out.below HB.out).at_ hp
      have hbw : b = w.heap.size ∧ off = 0 := by simp at hbo; exact ⟨hbo.1.symm, hbo.2.symm⟩
      obtain ⟨rfl, rfl⟩ := hbw
      have hx := hcell k hlt
      rw [Nat.zero_add] at hx
      obtain ⟨S, hS⟩ : ∃ S, S = bs (W.getD k []) := ⟨_, rfl⟩
      rw [← hS] at hx
      have hSd : S.data.toList = W.getD k [] := by rw [hS, bs_data]
      have hsz : S.size ≤ 1048576 := by rw [hS, bs_size]; exact HWl.out k
      obtain ⟨A, hA⟩ : ∃ A, A = bs (Lib.cut S.data.toList [94]).1 := ⟨_, rfl⟩
      obtain ⟨B, hB⟩ : ∃ A, A = bs (Lib.cut S.data.toList [94]).2.1 := ⟨_, rfl⟩
      obtain ⟨has, hh⟩ : ∃ A, A = (Lib.cut S.data.toList [94]).2.2 := ⟨_, rfl⟩
      have za : A.size ≤ 1048576 := by rw [hA, bs_size]; have := (cut_le S.data.toList 94).1; rw [size_data] at this; omega
      have zb : B.size ≤ 1048576 := by rw [hB, bs_size]; have := (cut_le S.data.toList 94).2; rw [size_data] at this; omega
      obtain ⟨p, hpv⟩ : ∃ n, n = rdV A.data.toList := ⟨_, rfl⟩
      obtain ⟨ok, hok⟩ : ∃ n, n = rdB A.data.toList := ⟨_, rfl⟩
      obtain ⟨d0, hd0⟩ : ∃ n, n = rdV B.data.toList := ⟨_, rfl⟩
      obtain ⟨d0b, hd0b⟩ : ∃ n, n = rdB B.data.toList := ⟨_, rfl⟩
      obtain ⟨q, hq⟩ : ∃ n : Int, n = if has = true then d0 else 1 := ⟨_, rfl⟩
      have HT : Hid (flat2 ((W.take (k + 1)).map pwP1) = flat2 ((W.take k).map pwP1) ++ [.int .i64 p, .int .i64 q]) := Lib.hid (by
        have e : pwP1 (W.getD k []) = (p, q) := by
          unfold pwP1
          rw [hq, hpv, hd0, hh, hA, hB, bs_data, bs_data, hSd]
        have hkW : k < W.length := by rw [← HN.out]; exact hlt
        rw [List.take_succ_eq_append_getElem hkW, List.map_append, List.map_singleton, ← flat2_snoc]
        rw [show W[k] = W.getD k [] by simp [List.getD, List.getElem?_eq_getElem hkW], e])
      have HA := Lib.hid hA
      have HBb := Lib.hid hB
      have HH := Lib.hid hh
      have HV := Lib.hid hpv
      have HOk := Lib.hid hok
      have HV0 := Lib.hid hd0
      have HO0 := Lib.hid hd0b
      have HQ := Lib.hid hq
      have hl1 : k + 1 ≤ maxLen := by unfold maxLen; omega
      have hl2 : (k + 1) * 16 ≤ 140737488355328 := by omega
      clear hA hB hh hpv hok hd0 hd0b hq hcell hbo hS hSd
      go_wp2_with fail
      refine (cut_at HA.out HBb.out HH.out hsz _ (HE1.out.below HB.out)).mono ?_
      rintro e wd ⟨rfl, nq, hwd⟩
      have hbd : Below wr.heap.size wr wd := by subst hwd; exact below_drewN (Below.refl _ _) nq
      have HOd := Lib.hid (ownsRow_below HO.out hbd)
      have HBd := Lib.hid (bl_trans HB.out hbd)
      clear hwd hbd HO HB hx
      go_wp2_with fail
      refine (readDecimal_at HV.out HOk.out za _ (HE1.out.below (bl_trans HBd.out (by repeat (first | exact Below.refl _ _ | apply below_drewN | refine bl_alloc ?_ _))))).mono ?_
      rintro e w2 ⟨rfl, hb2⟩
      have HB2 : Hid (Below wd.heap.size wd w2) := Lib.hid (bl_trans (by repeat (first | exact Below.refl _ _ | apply below_drewN | refine bl_alloc ?_ _)) hb2)
      have q0 := keep_cell hb2 (b := wd.heap.size) (o := 0) (v := .int .i64 0) (by simp [go_sem])
      have q1 := keep_cell hb2 (b := wd.heap.size) (o := 1) (v := .int .i64 1) (by simp [go_sem])
      have qf0 := keep_fr hb2 (b := wd.heap.size) (o := 0) (v := .int .i64 0) (by simp [go_sem]) (by simp [go_sem])
      have qf1 := keep_fr hb2 (b := wd.heap.size) (o := 1) (v := .int .i64 1) (by simp [go_sem]) (by simp [go_sem])
      clear hb2
      go_upto_if 33 with fail
      go_cut [10, 16] (fun s10 s16 wx => s10 = .pointer (some ⟨wd.heap.size, 0, none⟩) ∧ s16 = .int .i64 k ∧ Hid (Below wd.heap.size wd wx) ∧ Hid (wx.cell? ⟨wd.heap.size, 0, none⟩ = some (.int .i64 p) ∧ wx.cell? ⟨wd.heap.size, 1, none⟩ = some (.int .i64 q)))
      case first =>
        have HBs : Hid (Below wd.heap.size wd (w2.setCell ⟨wd.heap.size, 0, none⟩ (.int .i64 p))) := Lib.hid (bl_set HB2.out _ _ (Nat.le_refl _) _)
        cases has with
        | true =>
          have HDt : Hid (q = d0) := Lib.hid (by rw [HQ.out, if_pos rfl])
          go_wp2_with fail
          refine (readDecimal_at HV0.out HO0.out zb _ (HE1.out.below (bl_trans HBd.out HBs.out))).mono ?_
          rintro e w3 ⟨rfl, hb3⟩
          have HB3 : Hid (Below wd.heap.size wd w3) := Lib.hid (bl_trans HBs.out hb3)
          have Q0 := keep_cell hb3 (b := wd.heap.size) (o := 0) (v := .int .i64 p) (by simp [go_sem, q0])
          have Q1 := keep_cell hb3 (b := wd.heap.size) (o := 1) (v := .int .i64 1) (by simp [go_sem, q1])
          have QF1 := keep_fr hb3 (b := wd.heap.size) (o := 1) (v := .int .i64 1) (by simp [go_sem, q1]) (by simp [go_sem, qf1])
          clear hb3 q0 q1 qf0 qf1
          go_wp2
          go_meet
          exact ⟨rfl, rfl, Lib.hid (bl_set HB3.out _ _ (Nat.le_refl _) _), Lib.hid ⟨by simp [go_sem, Q0], by simp [go_sem, Q1, HDt.out]⟩⟩
        | false =>
          have HDt : Hid (q = 1) := Lib.hid (by rw [HQ.out, if_neg (by simp)])
          go_wp2
          go_meet
          exact ⟨rfl, rfl, HBs, Lib.hid ⟨by simp [go_sem, q0], by simp [go_sem, q1, HDt.out]⟩⟩
      case rest =>
        clear q0 q1 qf0 qf1 HB2
        obtain ⟨rfl, rfl, HBc, HQ2⟩ := hcut
        have ⟨q0, q1⟩ := HQ2.out
        have HOc := Lib.hid (ownsRow_below HOd.out HBc.out)
        have HBb := Lib.hid (bl_trans HBd.out HBc.out)
        clear HQ2
        go_wp2_with (at_builtin; refine wpList_append_own _ rfl _ _ _ rfl w1.heap.size 74 i0 _ 2 16 Tryd.underlying37 HI.out HZ0.out HZ1.out HZ2.out rfl (by decide) _ k (flat2 ((W.take k).map pwP1)) rfl (HOc.out.alloc _) ⟨wc.heap.size, 0, none⟩ 1 1 [.int .i64 p, .int .i64 q] rfl rfl (news2 _ _ _ _) (ones2 _ _) hl1 hl2 (base_alloc HBb.out _) ?_; intro v' w4 hown' hgrow _)
        have HO3 : Hid (w4.ownsRow w1.heap.size 74 2 v' (k + 1) (flat2 ((W.take (k + 1)).map pwP1))) := Lib.hid (by rw [HT.out]; exact hown')
        have HB3 : Hid (Below w1.heap.size w1 w4) := Lib.hid (Below.grown (bl_alloc HBb.out _) hgrow (base_alloc HBb.out _) (fun k hk => (HOc.out.lt k hk).1))
        clear hown' hgrow hl1 hl2
        go_wp2
        go_roundg (n - (k + 1))
        case measure => omega
        case rel => exact ⟨k + 1, rfl, by omega, by go_num, HO3, HB3⟩
    · obtain rfl : k = n := by omega
      have HLP : Hid ((W.take k).map pwP1 = lP s.data.toList ∧ (lP s.data.toList).length = k) := Lib.hid (by
        have e : (W.take k).map pwP1 = lP s.data.toList := by unfold lP; rw [HN.out, List.take_length, HW.out]
        exact ⟨e, by rw [← e, List.length_map, List.length_take, ← HN.out]; omega⟩)
      obtain ⟨LP, hLP⟩ : ∃ LP, LP = lP s.data.toList := ⟨_, rfl⟩
      rw [← hLP] at HLP
      have HLp := Lib.hid hLP
      have HO2 : Hid (wr.ownsRow w1.heap.size 74 2 u4 k (flat2 LP)) := Lib.hid (by rw [← HLP.out.1]; exact HO.out)
      clear HO hLP
      obtain ⟨A2, c2, rfl, hrd⟩ := own_cells HO2.out
      rw [fl2_flat] at hrd
      have HRd : Hid (RdC 2 wr A2 k c2 ((fl2 LP).map (Value.int .i64))) := Lib.hid hrd
      have HBw := Lib.hid (bl_trans HB1.out HB.out)
      have hkl : LP.length = k := HLP.out.2
      clear hrd
      cases hpw : pwB (fl2 LP) k with
      | false =>
        have HPw := Lib.hid hpw
        have HR : Hid (L = [] ∧ C = 6) := Lib.hid (by
          have hno : ¬ RpOk s.data.toList (lS s.data.toList) := fun h => by
            have h2 := (rp_eq H1.out).1.2 h
            rw [← HLp.out] at h2
            have h3 : PwOk (fl2 LP) k := by rw [← hkl]; exact h2.1
            have : pwB (fl2 LP) k = true := by unfold pwB; exact @decide_eq_true _ (Classical.propDecidable _) h3
            rw [hpw] at this
            cases this
          rw [HL.out, HC.out]
          exact rp_no hno)
        obtain ⟨rfl, rfl⟩ := HR.out
        clear hpw
        go_wp2_with fail
        refine (arePowers_any _ _ _ _ _ HRd.out).mono ?_
        rintro e w5 ⟨rfl, hb5⟩
        have HB5 := Lib.hid (bl_trans HBw.out hb5)
        clear hb5
        rw [HPw.out]
        go_wp2
        go_ret2
        exact ⟨none, 0, rfl, OwnC.nil (by unfold maxLen; omega), HB5.out⟩
      | true =>
        have HPw := Lib.hid hpw
        have hok := pwB_true hpw
        have HOk := Lib.hid hok
        obtain ⟨T, hT⟩ : ∃ T, T = bs (pwT (pwL (fl2 LP) k)) := ⟨_, rfl⟩
        have HTx := Lib.hid hT
        have hT2 : T = bs (pwT LP) := by rw [hT, ← hkl, pwL_fl2]
        by_cases hts : T.toList = s.toList
        · have HR : Hid (L = LP ∧ C = 0) := Lib.hid (by
            have h : RpOk s.data.toList (lP s.data.toList) := by
              rw [← HLp.out]
              refine ⟨by rw [hkl]; exact hok, ?_⟩
              rw [ByteArray.toList_eq, ByteArray.toList_eq, hT2, bs_data] at hts
              exact hts
            have h2 := (rp_eq H1.out).1.1 h
            rw [HL.out, HC.out, (rp_yes h2).1, (rp_yes h2).2, HLp.out, (rp_eq H1.out).2 h2]
            exact ⟨rfl, rfl⟩)
          obtain ⟨rfl, rfl⟩ := HR.out
          have hb1' : (T.toList == s.toList) = true := by rw [hts]; simp
          have hb2' : (T.toList != s.toList) = false := by rw [hts]; simp
          clear hpw hok hT hT2 hts
          go_wp2_with fail
          refine (arePowers_any _ _ _ _ _ HRd.out).mono ?_
          rintro e w5 ⟨rfl, hb5⟩
          have HB5 := Lib.hid (bl_trans HBw.out hb5)
          have HRd5 := Lib.hid (HRd.out.below hb5)
          have HO5 := Lib.hid (ownsRow_below HO2.out hb5)
          have HE5 := Lib.hid (HE.out.below HB5.out)
          clear hb5
          rw [HPw.out]
          go_wp2_with fail
          refine (powersText_at HTx.out _ HRd5.out HOk.out HE5.out.1).mono ?_
          rintro e w6 ⟨rfl, hb6⟩
          have HB6 := Lib.hid (bl_trans HB5.out hb6)
          have HO6 := Lib.hid (ownsRow_lo (ownsRow_below HO5.out hb6) HB1.out.size)
          clear hb6
          go_wp2
          go_ret2
          refine ⟨A2, c2, by rw [hkl]; rfl, ?_, HB6.out⟩
          rw [hkl, ← fl2_flat]
          exact OwnC.of_row HO6.out
        · have HR : Hid (L = [] ∧ C = 6) := Lib.hid (by
            have hno : ¬ RpOk s.data.toList (lS s.data.toList) := fun h => by
              have h2 := (rp_eq H1.out).1.2 h
              rw [← HLp.out] at h2
              exact hts (by rw [ByteArray.toList_eq, ByteArray.toList_eq, hT2, bs_data]; exact h2.2)
            rw [HL.out, HC.out]
            exact rp_no hno)
          obtain ⟨rfl, rfl⟩ := HR.out
          have hb1' : (T.toList == s.toList) = false := by rw [beq_eq_false_iff_ne]; exact hts
          have hb2' : (T.toList != s.toList) = true := by rw [bne, hb1']; rfl
          clear hpw hok hT hT2 hts
          go_wp2_with fail
          refine (arePowers_any _ _ _ _ _ HRd.out).mono ?_
          rintro e w5 ⟨rfl, hb5⟩
          have HB5 := Lib.hid (bl_trans HBw.out hb5)
          have HRd5 := Lib.hid (HRd.out.below hb5)
          have HE5 := Lib.hid (HE.out.below HB5.out)
          clear hb5
          rw [HPw.out]
          go_wp2_with fail
          refine (powersText_at HTx.out _ HRd5.out HOk.out HE5.out.1).mono ?_
          rintro e w6 ⟨rfl, hb6⟩
          have HB6 := Lib.hid (bl_trans HB5.out hb6)
          clear hb6
          go_wp2
          go_ret2
          exact ⟨none, 0, rfl, OwnC.nil (by unfold maxLen; omega), HB6.out⟩
end Go.Proofs.YtgajgonepcikbaaDoor

namespace Go.Proofs.YtgajgonepcikbaaDoor
open Go.RowKit Go.Joins

/-- the row's block is g0, or a late one -/
def LieAt (v : Value) (g0 h0 : Nat) : Prop := ∀ g, v.ownBlock = some g → g = g0 ∨ h0 ≤ g
set_option maxRecDepth 100000 in
set_option maxHeartbeats 3200000 in
theorem specReadPowers_at {s : ByteArray} {L : List (Int × Int)} {C : Int} (hL : L = rpL s.data.toList) (hC : C = rpC s.data.toList) (hs : s.size ≤ 1048576) (w : World) :
    Calls Tryd.prog 35 #[.string s] w fun e w' => ∃ A c, e = .returned (.tuple #[.slice A L.length c, .int .i64 C]) ∧ OwnC 74 2 w' w.heap.size A L.length c ((fl2 L).map (Value.int .i64)) ∧ Below w.heap.size w w' := by
  by_cases h1 : s.data.toList = [49]
  · have HL : Hid (L = [] ∧ C = 0) := Lib.hid (by
      rw [hL, hC, h1, (rp_yes rp_one.1).1, (rp_yes rp_one.1).2, rp_one.2]; exact ⟨rfl, rfl⟩)
    obtain ⟨rfl, rfl⟩ := HL.out
    have ⟨b1, b2⟩ := str_eq h1
    have HPw : Hid (pwB [] 0 = true) := Lib.hid (by unfold pwB; exact @decide_eq_true _ (Classical.propDecidable _) ⟨fun k hk => absurd hk (Nat.not_lt_zero _), by omega⟩)
    have HOk := Lib.hid (pwB_true HPw.out)
    obtain ⟨T, hT⟩ : ∃ T : ByteArray, T = ⟨#[49]⟩ := ⟨_, rfl⟩
    have HT : Hid (T = bs (pwT (pwL [] 0))) := Lib.hid (by rw [hT]; rfl)
    have ht1 : (T.toList == s.toList) = true := by rw [ByteArray.toList_eq, ByteArray.toList_eq, h1, hT]; rfl
    have ht2 : (T.toList != s.toList) = false := by rw [bne, ht1]; rfl
    clear hT
    have hp := spl_pos 42 s.data.toList
    clear h1 hL hC
    go_enter Tryd.func35, Tryd.ntmps35
    go_wp2_with fail
    refine (l01Split_any _ 42 42 rfl _ hs).mono ?_
    rintro e w1 ⟨Aw, cw, rfl, ho, hb1⟩
    have HB1 : Hid (Below w.heap.size w w1) := Lib.hid (bl_trans (bl_alloc (Below.refl _ _) _) hb1)
    generalize (spl 42 _).length = n at ho hp ⊢
    have hdn : decide (0 < n) = true := by simp; omega
    clear ho hb1
    go_wp2
    refine wp_loop_rounds 1 ?_
    rw [rounds_succ]
    go_wp2_with fail
    refine (l01Powers_any (some ⟨w.heap.size, 0, none⟩) 0 0 [] w1 ⟨rfl, Nat.le_refl _, by unfold maxLen; omega, fun h => absurd h (by omega)⟩).mono ?_
    rintro e w2 ⟨rfl, hb2⟩
    have HB2 := Lib.hid (bl_trans HB1.out hb2)
    clear hb2
    rw [HPw.out]
    go_wp2_with fail
    refine (l01PowersText_at HT.out w2 ⟨rfl, Nat.le_refl _, by unfold maxLen; omega, fun h => absurd h (by omega)⟩ HOk.out).mono ?_
    rintro e w3 ⟨rfl, hb3⟩
    have HB3 := Lib.hid (bl_trans HB2.out hb3)
    clear hb3
    go_wp2
    go_ret2
    exact ⟨_, 0, rfl, OwnC.nil (by unfold maxLen; omega), HB3.out⟩
  have ⟨b1, b2⟩ := str_ne h1
  obtain ⟨i0, hi, hz0, hz1, hz2⟩ := info_parts infoPow
  have HI := Lib.hid hi
  have HZ0 := Lib.hid hz0
  have HZ1 := Lib.hid hz1
  have HZ2 := Lib.hid hz2
  clear hi hz0 hz1 hz2
  obtain ⟨W, hW⟩ : ∃ W, W = spl 42 s.data.toList := ⟨_, rfl⟩
  have hn : W.length ≤ 1048577 := by
    rw [hW]; have := spl_cnt 42 s.data.toList; rw [size_data] at this; omega
  have HWl : Hid (∀ k, (W.getD k []).length ≤ 1048576) := Lib.hid (fun k => by rw [hW]; have := spl_getD (c := 42) (l := s.data.toList) k; rw [size_data] at this; omega)
  have HW := Lib.hid hW
  have H1 := Lib.hid h1
  have HL := Lib.hid hL
  have HC := Lib.hid hC
  have hp : 0 < W.length := by rw [hW]; exact spl_pos _ _
  obtain ⟨n, hnW⟩ : ∃ n, n = W.length := ⟨_, rfl⟩
  have HN := Lib.hid hnW
  rw [← hnW] at hn hp
  clear h1 hL hC
  go_enter Tryd.func35, Tryd.ntmps35
  go_wp2_with fail
  refine (l01Split_any _ 42 42 rfl _ hs).mono ?_
  rintro e w1 ⟨Aw, cw, rfl, ho, hb1⟩
  rw [← hW, ← hnW] at ho ⊢
  have HB1 : Hid (Below w.heap.size w w1) := Lib.hid (bl_trans (bl_alloc (Below.refl _ _) _) hb1)
  have hlt1 : w.heap.size < w1.heap.size := by have := hb1.size; simp at this; omega
  obtain ⟨bw, rfl, hbw1, hbw2⟩ := ho.form hp
  have hbw3 : w.heap.size < bw := by simp at hbw1; omega
  have hcw := ho.2.1
  have hcm := ho.2.2.1
  unfold maxLen at hcm
  have HCl : Hid (∀ i, i < n → w1.cell? ⟨bw, i, none⟩ = some (.string (bs (W.getD i [])))) := Lib.hid (fun i hi => by
    obtain ⟨b, off, hbo, _, hc⟩ := RdT.at_ (W := W) ho.rd hp
    simp at hbo
    have := hc i hi
    rw [← hbo.1, ← hbo.2, Nat.zero_add] at this
    exact this)
  have H0 : Hid (w1.ownsRow w.heap.size 74 2 (.slice (some ⟨w.heap.size, 0, none⟩) 0 0) 0 []) := Lib.hid (ownsRow_below (w := w.alloc (.cells #[] 74)) ⟨rfl, .inr ⟨w.heap.size, 0, #[], rfl, Nat.le_refl _, heap_alloc_new w _, Nat.le_refl _, by unfold maxLen; omega, rfl, rfl⟩⟩ hb1)
  clear hb1 ho hnW hW hbw1
  go_wp2
  go_loopg [4, 6, 7, 8, 9, 10] n (fun g v i _ _ _ _ wr => ∃ k : Nat, g = n - k ∧ k ≤ n ∧ i = .int .i64 k ∧ Hid (wr.ownsRow w.heap.size 74 2 v k (flat2 ((W.take k).map pwS1))) ∧ Hid (LieAt v w.heap.size w1.heap.size) ∧ Hid (∀ i, i < n → wr.cell? ⟨bw, i, none⟩ = some (.string (bs (W.getD i [])))) ∧ Hid (Below w.heap.size w wr ∧ w1.heap.size ≤ wr.heap.size))
  case atStart => exact ⟨0, by omega, Nat.zero_le _, rfl, H0, Lib.hid (fun g hg => .inl (by simpa [Value.ownBlock] using hg.symm)), HCl, Lib.hid ⟨HB1.out, Nat.le_refl _⟩⟩
  case round =>
    obtain ⟨k, rfl, hk, rfl, HO, HLi, HCr, HBl⟩ := hrel
    have HB := Lib.hid HBl.out.1
    by_cases hlt : k < n
    · have hx := HCr.out k hlt
      obtain ⟨S, hS⟩ : ∃ S, S = bs (W.getD k []) := ⟨_, rfl⟩
      rw [← hS] at hx
      have hSd : S.data.toList = W.getD k [] := by rw [hS, bs_data]
      have hsz : S.size ≤ 1048576 := by rw [hS, bs_size]; exact HWl.out k
      obtain ⟨V, hV⟩ : ∃ V, V = spl 94 S.data.toList := ⟨_, rfl⟩
      have hpV : 0 < V.length := by rw [hV]; exact spl_pos _ _
      obtain ⟨A, hA⟩ : ∃ A, A = bs (V.getD 0 []) := ⟨_, rfl⟩
      obtain ⟨B, hB⟩ : ∃ A, A = bs (V.getD 1 []) := ⟨_, rfl⟩
      have za : A.size ≤ 1048576 := by rw [hA, bs_size, hV]; have := spl_getD (c := 94) (l := S.data.toList) 0; rw [size_data] at this; omega
      have zb : B.size ≤ 1048576 := by rw [hB, bs_size, hV]; have := spl_getD (c := 94) (l := S.data.toList) 1; rw [size_data] at this; omega
      obtain ⟨p, hpv⟩ : ∃ n, n = lvV A.data.toList := ⟨_, rfl⟩
      obtain ⟨pb, hpb⟩ : ∃ n, n = lvB A.data.toList := ⟨_, rfl⟩
      obtain ⟨d0, hd0⟩ : ∃ n, n = lvV B.data.toList := ⟨_, rfl⟩
      obtain ⟨d0b, hd0b⟩ : ∃ n, n = lvB B.data.toList := ⟨_, rfl⟩
      obtain ⟨q, hq⟩ : ∃ n : Int, n = if 1 < V.length then d0 else 1 := ⟨_, rfl⟩
      have HT : Hid (flat2 ((W.take (k + 1)).map pwS1) = flat2 ((W.take k).map pwS1) ++ [.int .i64 p, .int .i64 q]) := Lib.hid (by
        have e : pwS1 (W.getD k []) = (p, q) := by
          unfold pwS1
          rw [hq, hpv, hd0, hA, hB, bs_data, bs_data, hV, hSd]
        have hkW : k < W.length := by rw [← HN.out]; exact hlt
        rw [List.take_succ_eq_append_getElem hkW, List.map_append, List.map_singleton, ← flat2_snoc]
        rw [show W[k] = W.getD k [] by simp [List.getD, List.getElem?_eq_getElem hkW], e])
      have HV := Lib.hid hV
      have HA := Lib.hid hA
      have HBb := Lib.hid hB
      have HPv := Lib.hid hpv
      have HPb := Lib.hid hpb
      have HD0 := Lib.hid hd0
      have HD0b := Lib.hid hd0b
      have HQ := Lib.hid hq
      have hl1 : k + 1 ≤ maxLen := by unfold maxLen; omega
      have hl2 : (k + 1) * 16 ≤ 140737488355328 := by omega
      have hdk : decide (k < n) = true := by simp; omega
      clear hA hB hpv hpb hd0 hd0b hq hS hSd
      go_wp2_with fail
      refine (l01Split_any _ 94 94 rfl _ hsz).mono ?_
      rintro e w2 ⟨Ap, cp, rfl, hop, hb2⟩
      rw [← hV] at hop ⊢
      have hrt : RdT w2 Ap V.length cp V := hop.rd
      obtain ⟨bp, op, rfl, hbl, hcell⟩ := hrt.at_ hpV
      have a0 := hcell 0 hpV
      rw [Nat.add_zero, ← HA.out] at a0
      have HCp := Lib.hid hcell
      have hcp : V.length ≤ cp := hop.2.1
      have hcpm := hop.2.2.1
      unfold maxLen at hcpm
      have HB2 : Hid (Below wr.heap.size wr w2) := Lib.hid hb2
      clear hb2 hop hrt hcell hV hx
      go_wp2_with fail
      refine (l01Value_at HPv.out HPb.out za _).mono ?_
      rintro e w3 ⟨rfl, hb3⟩
      have HB3 := Lib.hid (bl_trans HB2.out hb3)
      have HC3 : Hid (∀ i, i < V.length → w3.cell? ⟨bp, op + i, none⟩ = some (.string (bs (V.getD i [])))) := Lib.hid (fun i hi => keep_cell hb3 (HCp.out i hi))
      clear hb3 a0 HCp
      go_upto_if 38 with fail
      go_cut [8, 10] (fun s8 s10 wx => s8 = .int .i64 p ∧ s10 = .int .i64 q ∧ Hid (Below wr.heap.size wr wx))
      case first =>
        by_cases hv1 : 1 < V.length
        · have HDt : Hid (q = d0) := Lib.hid (by rw [HQ.out, if_pos hv1])
          have a1 := HC3.out 1 hv1
          rw [← HBb.out] at a1
          go_wp2_with fail
          refine (l01Value_at HD0.out HD0b.out zb _).mono ?_
          rintro e w4 ⟨rfl, hb4⟩
          have HB4 := Lib.hid (bl_trans HB3.out hb4)
          clear hb4 a1
          go_wp2
          go_meet
          exact ⟨rfl, by rw [HDt.out], HB4⟩
        · have HDt : Hid (q = 1) := Lib.hid (by rw [HQ.out, if_neg hv1])
          go_wp2
          go_meet
          exact ⟨rfl, by rw [HDt.out], HB3⟩
      case rest =>
        clear HC3 HB2 HB3
        obtain ⟨rfl, rfl, HBc⟩ := hcut
        have HOc := Lib.hid (ownsRow_below HO.out HBc.out)
        have HBd := Lib.hid (bl_trans HB.out HBc.out)
        have HCc : Hid (∀ i, i < n → wc.cell? ⟨bw, i, none⟩ = some (.string (bs (W.getD i [])))) := Lib.hid (fun i hi => keep_cell HBc.out (HCr.out i hi))
        have HSz : Hid (w1.heap.size ≤ wc.heap.size) := Lib.hid (Nat.le_trans HBl.out.2 HBc.out.size)
        go_wp2_with (at_builtin; refine wpList_append_lies _ rfl _ _ _ rfl w.heap.size 74 i0 _ 2 16 Tryd.underlying37 HI.out HZ0.out HZ1.out HZ2.out rfl (by omega) _ k (flat2 ((W.take k).map pwS1)) rfl (HOc.out.alloc _) ⟨wc.heap.size, 0, none⟩ 1 1 [.int .i64 p, .int .i64 q] rfl rfl (news2 _ _ _ _) (ones2 _ _) (by omega) hl1 hl2 (base_alloc HBd.out _) _ rfl ?_; intro gg cap w4 hown' hgrow hat hlt4)
        have HO3 : Hid (w4.ownsRow w.heap.size 74 2 (.slice (some ⟨gg, 0, none⟩) (k + 1) cap) (k + 1) (flat2 ((W.take (k + 1)).map pwS1))) := Lib.hid (by rw [HT.out]; exact hown')
        have HB3 : Hid (Below w.heap.size w w4 ∧ w1.heap.size ≤ w4.heap.size) := Lib.hid ⟨Below.grown (bl_alloc HBd.out _) hgrow (base_alloc HBd.out _) (fun k hk => (HOc.out.lt k hk).1), by have h1 := hgrow.size; have h2 := HSz.out; simp at h1; omega⟩
        have HL3 : Hid (LieAt (.slice (some ⟨gg, 0, none⟩) (k + 1) cap) w.heap.size w1.heap.size) := Lib.hid (fun g hg => by
          have e : g = gg := by simpa [Value.ownBlock] using hg.symm
          subst e
          rcases hat with h | h
          · exact HLi.out g h
          · right; rw [h]; have := HSz.out; simp; omega)
        have HC4 : Hid (∀ i, i < n → w4.cell? ⟨bw, i, none⟩ = some (.string (bs (W.getD i [])))) := Lib.hid (fun i hi => by
          have hc := HCc.out i hi
          have hlb := block_lt_of_cell hc
          rw [hgrow.cell_far _ (by simp; omega) (fun h => by
            rcases HLi.out bw h.symm with h2 | h2 <;> omega)]
          exact keep_cell (bl_alloc (Below.refl _ _) _) hc)
        clear hown' hgrow hl1 hl2 hat
        go_wp2
        go_roundg (n - (k + 1))
        case measure => omega
        case rel => exact ⟨k + 1, rfl, by omega, by go_num, HO3, HL3, HC4, HB3⟩
    · obtain rfl : k = n := by omega
      have hdk : decide (k < k) = false := by simp
      have HLP : Hid ((W.take k).map pwS1 = lS s.data.toList ∧ (lS s.data.toList).length = k) := Lib.hid (by
        have e : (W.take k).map pwS1 = lS s.data.toList := by unfold lS; rw [if_neg H1.out, HN.out, List.take_length, HW.out]
        exact ⟨e, by rw [← e, List.length_map, List.length_take, ← HN.out]; omega⟩)
      obtain ⟨LP, hLP⟩ : ∃ LP, LP = lS s.data.toList := ⟨_, rfl⟩
      rw [← hLP] at HLP
      have HLp := Lib.hid hLP
      have HO2 : Hid (wr.ownsRow w.heap.size 74 2 u4 k (flat2 LP)) := Lib.hid (by rw [← HLP.out.1]; exact HO.out)
      clear HO hLP HLi
      obtain ⟨A2, c2, rfl, hrd⟩ := own_cells HO2.out
      rw [fl2_flat] at hrd
      have HRd : Hid (RdC 2 wr A2 k c2 ((fl2 LP).map (Value.int .i64))) := Lib.hid hrd
      have hkl : LP.length = k := HLP.out.2
      clear hrd
      cases hpw : pwB (fl2 LP) k with
      | false =>
        have HPw := Lib.hid hpw
        have HR : Hid (L = [] ∧ C = 6) := Lib.hid (by
          have hno : ¬ RpOk s.data.toList (lS s.data.toList) := fun h => by
            rw [← HLp.out] at h
            have h3 : PwOk (fl2 LP) k := by rw [← hkl]; exact h.1
            have : pwB (fl2 LP) k = true := by unfold pwB; exact @decide_eq_true _ (Classical.propDecidable _) h3
            rw [hpw] at this
            cases this
          rw [HL.out, HC.out]
          exact rp_no hno)
        obtain ⟨rfl, rfl⟩ := HR.out
        clear hpw
        go_wp2_with fail
        refine (l01Powers_any _ _ _ _ _ HRd.out).mono ?_
        rintro e w5 ⟨rfl, hb5⟩
        have HB5 := Lib.hid (bl_trans HB.out hb5)
        clear hb5
        rw [HPw.out]
        go_wp2
        go_ret2
        exact ⟨none, 0, rfl, OwnC.nil (by unfold maxLen; omega), HB5.out⟩
      | true =>
        have HPw := Lib.hid hpw
        have hok := pwB_true hpw
        have HOk := Lib.hid hok
        obtain ⟨T, hT⟩ : ∃ T, T = bs (pwT (pwL (fl2 LP) k)) := ⟨_, rfl⟩
        have HTx := Lib.hid hT
        have hT2 : T = bs (pwT LP) := by rw [hT, ← hkl, pwL_fl2]
        by_cases hts : T.toList = s.toList
        · have HR : Hid (L = LP ∧ C = 0) := Lib.hid (by
            have h : RpOk s.data.toList (lS s.data.toList) := by
              rw [← HLp.out]
              refine ⟨by rw [hkl]; exact hok, ?_⟩
              rw [ByteArray.toList_eq, ByteArray.toList_eq, hT2, bs_data] at hts
              exact hts
            rw [HL.out, HC.out, (rp_yes h).1, (rp_yes h).2, HLp.out]
            exact ⟨rfl, rfl⟩)
          obtain ⟨rfl, rfl⟩ := HR.out
          have hb1' : (T.toList == s.toList) = true := by rw [hts]; simp
          have hb2' : (T.toList != s.toList) = false := by rw [hts]; simp
          clear hpw hok hT hT2 hts
          go_wp2_with fail
          refine (l01Powers_any _ _ _ _ _ HRd.out).mono ?_
          rintro e w5 ⟨rfl, hb5⟩
          have HB5 := Lib.hid (bl_trans HB.out hb5)
          have HRd5 := Lib.hid (HRd.out.below hb5)
          have HO5 := Lib.hid (ownsRow_below HO2.out hb5)
          clear hb5
          rw [HPw.out]
          go_wp2_with fail
          refine (l01PowersText_at HTx.out _ HRd5.out HOk.out).mono ?_
          rintro e w6 ⟨rfl, hb6⟩
          have HB6 := Lib.hid (bl_trans HB5.out hb6)
          have HO6 := Lib.hid (ownsRow_below HO5.out hb6)
          clear hb6
          go_wp2
          go_ret2
          refine ⟨A2, c2, by rw [hkl]; rfl, ?_, HB6.out⟩
          rw [hkl, ← fl2_flat]
          exact OwnC.of_row HO6.out
        · have HR : Hid (L = [] ∧ C = 6) := Lib.hid (by
            have hno : ¬ RpOk s.data.toList (lS s.data.toList) := fun h => by
              rw [← HLp.out] at h
              exact hts (by rw [ByteArray.toList_eq, ByteArray.toList_eq, hT2, bs_data]; exact h.2)
            rw [HL.out, HC.out]
            exact rp_no hno)
          obtain ⟨rfl, rfl⟩ := HR.out
          have hb1' : (T.toList == s.toList) = false := by rw [beq_eq_false_iff_ne]; exact hts
          have hb2' : (T.toList != s.toList) = true := by rw [bne, hb1']; rfl
          clear hpw hok hT hT2 hts
          go_wp2_with fail
          refine (l01Powers_any _ _ _ _ _ HRd.out).mono ?_
          rintro e w5 ⟨rfl, hb5⟩
          have HB5 := Lib.hid (bl_trans HB.out hb5)
          have HRd5 := Lib.hid (HRd.out.below hb5)
          clear hb5
          rw [HPw.out]
          go_wp2_with fail
          refine (l01PowersText_at HTx.out _ HRd5.out HOk.out).mono ?_
          rintro e w6 ⟨rfl, hb6⟩
          have HB6 := Lib.hid (bl_trans HB5.out hb6)
          clear hb6
          go_wp2
          go_ret2
          exact ⟨none, 0, rfl, OwnC.nil (by unfold maxLen; omega), HB6.out⟩
end Go.Proofs.YtgajgonepcikbaaDoor
