
/- A polynomial's text read, by the reference. -/
import Derived.Test.YtgajgonepcikbaaDoorRdF4
namespace Go.Proofs.YtgajgonepcikbaaDoor
open Go.RowKit Go.Joins

theorem rf_S {l : List UInt8} {F : List Int} (h : plS l = some F) : (RfOk l (trimL (plP l)) → RfOk l (trimL F) ∧ trimL F = trimL (plP l)) ∧ (RfOk l (trimL F) → RfOk l (trimL (plP l)) ∧ trimL F = trimL (plP l)) := by
  constructor
  · intro hr
    have e := hr.both.2
    rw [h] at e
    injection e with e
    have e2 : trimL F = trimL (plP l) := by rw [e, trim_pad hr.1]
    exact ⟨by rw [e2]; exact hr, e2⟩
  · intro hr
    have e := hr.both.1
    exact ⟨by rw [e]; exact hr, e.symm⟩
theorem byte_ne {x y : UInt8} {z : Int} (h : ¬ x = y) (hz : z = y.toNat := by rfl) : ((x.toNat : Int) != z) = true := by
  have : ¬ x.toNat = y.toNat := fun e => h (UInt8.toNat_inj.1 e)
  subst hz
  simp; omega
theorem byte_nb {x y : UInt8} {z : Int} (h : ¬ x = y) (hz : z = y.toNat := by rfl) : ((x.toNat : Int) == z) = false := by
  have : ¬ x.toNat = y.toNat := fun e => h (UInt8.toNat_inj.1 e)
  subst hz
  simp; omega
theorem strip_no {s : ByteArray} (h : ∀ h : 0 < s.size, ¬ isS s[0]) : stripW s.data.toList = s.data.toList ∧ signW s.data.toList = 1 := by
  rcases Nat.eq_zero_or_pos s.size with h0 | h0
  · have : s.data.toList = [] := List.eq_nil_of_length_eq_zero (by rw [size_data]; exact h0)
    rw [this]
    decide
  · have hc := data_cons h0
    have hn := h h0
    unfold isS at hn
    rw [hc]
    unfold stripW signW
    simp only [List.head?_cons, Option.some.injEq, List.tail_cons]
    rw [if_neg hn, if_neg (fun e => hn (.inr e))]
    exact ⟨rfl, rfl⟩
theorem strip_yes {s : ByteArray} (h0 : 0 < s.size) (h : isS s[0]) : stripW s.data.toList = s.data.toList.drop 1 ∧ signW s.data.toList = if s[0] = 45 then -1 else 1 := by
  have hc := data_cons h0
  unfold isS at h
  rw [hc]
  unfold stripW signW
  simp only [List.head?_cons, Option.some.injEq, List.tail_cons, List.drop_one]
  rw [if_pos h]
  exact ⟨rfl, trivial⟩
theorem rf_none {l : List UInt8} (h : plS l = none) : rfL l = [] ∧ rfC l = 6 := rf_no fun hr => by
  have := hr.both.2
  rw [h] at this
  cases this

set_option maxRecDepth 100000 in
set_option maxHeartbeats 3200000 in
theorem specReadPolynomial_at {s : ByteArray} {L : List Int} {C : Int} (hL : L = rfL s.data.toList) (hC : C = rfC s.data.toList) (hs : s.size ≤ 1048576) (w : World) :
    Calls Tryd.prog 43 #[.string s] w fun e w' => ∃ A c, e = .returned (.tuple #[.slice A L.length c, .int .i64 C]) ∧ OwnI w' w.heap.size A L.length c L ∧ Below w.heap.size w w' := by
  obtain ⟨i0, hi, hz0, hz1, hz2⟩ := info_parts infoI64
  have HI := Lib.hid hi
  have HZ0 := Lib.hid hz0
  have HZ1 := Lib.hid hz1
  have hm1 : i0.bytes * 9 ≤ 281474976710656 := by rw [hz2]; omega
  have hm2 : 9 ≤ maxLen := by unfold maxLen; omega
  clear hi hz0 hz1 hz2
  have HL := Lib.hid hL
  have HC := Lib.hid hC
  have HLn := Lib.hid (size_data s)
  clear hL hC
  go_enter Tryd.func43, Tryd.ntmps43
  go_wp2_with (at_make; refine wpList_make_full _ rfl _ _ _ rfl w.heap.size 2 i0 (.int .i64 0) 1 Tryd.underlying29 HI.out HZ0.out HZ1.out .i64 .i64 9 9 9 rfl rfl rfl rfl hm1 hm2 (Nat.le_refl _) ?_; intro w1 hown hgrow)
  have HO1 : Hid (OwnI w1 w.heap.size (some ⟨w.heap.size, 0, none⟩) 9 9 zer9) := Lib.hid ((show tab 9 (fun _ => 0) = zer9 from by decide) ▸ own_tab hown)
  have HB1 := Lib.hid ((Below.refl w.heap.size w).grown hgrow (Nat.le_refl _) (by simp))
  clear hown hgrow hm1 hm2
  go_wp2
  go_loopg [5, 6, 7, 8, 9, 10, 11] (s.size + 1) (fun g sf si _ _ _ _ _ wr => ∃ (f i : Nat) (F : List Int), g = s.size + 1 - i ∧ i ≤ s.size + 1 ∧ f ≤ i ∧ sf = .int .i64 f ∧ si = .int .i64 i ∧ Hid (RdI s.data.toList F f i) ∧ Hid (OwnI wr w.heap.size (some ⟨w.heap.size, 0, none⟩) 9 9 F) ∧ Hid (Below w.heap.size w wr))
  case atStart => exact ⟨0, 0, zer9, rfl, by omega, by omega, rfl, rfl, Lib.hid (RdI.start _), HO1, HB1⟩
  case round =>
    obtain ⟨f, i, F, rfl, hi, hfi, rfl, rfl, HI, HO, HB⟩ := hrel
    by_cases hle : i ≤ s.size
    · obtain ⟨sk, hsk⟩ : ∃ sk : Bool, sk = decide (∃ h : i < s.size, ¬ isS s[i] ∨ i = 0) := ⟨_, rfl⟩
      have HSk := Lib.hid hsk
      clear hsk
      go_upto_region 6 with fail
      go_cut [39] (fun t wx => wr = wx ∧ t = .bool sk)
      case first =>
        rcases Nat.lt_or_ge i s.size with hlt | hge
        · rcases Nat.eq_zero_or_pos i with h0 | h0
          · subst h0
            by_cases hx : s[0] = 43
            · obtain rfl : sk = true := HSk.out.trans (decide_eq_true ⟨hlt, .inr rfl⟩)
              have f1 : ((s[0].toNat : Int) != 43) = false := by rw [hx]; rfl
              clear HSk
              clear hx
              go_wp2
              go_meet
              exact ⟨rfl, rfl⟩
            · have hn43 : ¬ s[0] = 43 := hx
              clear hx
              by_cases hx : s[0] = 45
              · obtain rfl : sk = true := HSk.out.trans (decide_eq_true ⟨hlt, .inr rfl⟩)
                have f1 : ((s[0].toNat : Int) != 43) = true := byte_ne hn43
                have f2 : ((s[0].toNat : Int) != 45) = false := by rw [hx]; rfl
                clear HSk
                clear hx hn43
                go_wp2
                go_meet
                exact ⟨rfl, rfl⟩
              · have hn45 : ¬ s[0] = 45 := hx
                clear hx
                have hx : ¬ isS s[0] := fun h => h.elim hn43 hn45
                obtain rfl : sk = true := HSk.out.trans (decide_eq_true ⟨hlt, .inr rfl⟩)
                have f1 : ((s[0].toNat : Int) != 43) = true := byte_ne hn43
                have f2 : ((s[0].toNat : Int) != 45) = true := byte_ne hn45
                clear HSk
                clear hx hn43 hn45
                go_wp2
                go_meet
                exact ⟨rfl, rfl⟩
          · have hi0 : ((i : Int) == 0) = false := by simp; omega
            by_cases hx : s[i] = 43
            · obtain rfl : sk = false := HSk.out.trans (decide_eq_false (fun ⟨_, h⟩ => h.elim (fun h => h (by unfold isS; rw [hx]; simp)) (by omega)))
              have f1 : ((s[i].toNat : Int) != 43) = false := by rw [hx]; rfl
              clear HSk
              clear hx
              go_wp2
              go_meet
              exact ⟨rfl, rfl⟩
            · have hn43 : ¬ s[i] = 43 := hx
              clear hx
              by_cases hx : s[i] = 45
              · obtain rfl : sk = false := HSk.out.trans (decide_eq_false (fun ⟨_, h⟩ => h.elim (fun h => h (by unfold isS; rw [hx]; simp)) (by omega)))
                have f1 : ((s[i].toNat : Int) != 43) = true := byte_ne hn43
                have f2 : ((s[i].toNat : Int) != 45) = false := by rw [hx]; rfl
                clear HSk
                clear hx hn43
                go_wp2
                go_meet
                exact ⟨rfl, rfl⟩
              · have hn45 : ¬ s[i] = 45 := hx
                clear hx
                have hx : ¬ isS s[i] := fun h => h.elim hn43 hn45
                obtain rfl : sk = true := HSk.out.trans (decide_eq_true ⟨hlt, .inl hx⟩)
                have f1 : ((s[i].toNat : Int) != 43) = true := byte_ne hn43
                have f2 : ((s[i].toNat : Int) != 45) = true := byte_ne hn45
                clear HSk
                clear hx hn43 hn45
                go_wp2
                go_meet
                exact ⟨rfl, rfl⟩
        · obtain rfl : sk = false := by rw [HSk.out]; simp; omega
          clear HSk
          go_wp2
          go_meet
          exact ⟨rfl, rfl⟩
      case rest =>
        obtain ⟨rfl, rfl⟩ := hcut
        cases sk with
        | true =>
          have HI2 : Hid (RdI s.data.toList F f (i + 1)) := Lib.hid (by
            obtain ⟨h, hx⟩ := of_decide_eq_true HSk.out.symm
            exact HI.out.skip (by rw [HLn.out]; exact h) hx)
          have hlt : i < s.size := (of_decide_eq_true HSk.out.symm).1
          clear HSk HI
          go_wp2
          go_roundg (s.size + 1 - (i + 1))
          case measure => omega
          case rel => exact ⟨f, i + 1, F, rfl, by omega, by omega, rfl, by go_num, HI2, HO, HB⟩
        | false =>
          have HSt := Lib.hid (HI.out.step (by rw [HLn.out]; exact hle) (fun h => by
            have := of_decide_eq_false HSk.out.symm
            rw [HLn.out] at h
            constructor
            · exact Classical.byContradiction fun hn => this ⟨h, .inl hn⟩
            · exact fun hn => this ⟨h, .inr hn⟩))
          clear HSk HI
          obtain ⟨W, hW⟩ : ∃ W, W = s.extract f i := ⟨_, rfl⟩
          have HWd : Hid (W.data.toList = (s.data.toList.drop f).take (i - f)) := Lib.hid (by rw [hW, ext_data])
          have hWz : W.size ≤ 1048576 := by rw [hW, ByteArray.size_extract]; omega
          have HW := Lib.hid hW
          clear hW
          obtain ⟨V, hV⟩ : ∃ V, V = bs (stripW W.data.toList) := ⟨_, rfl⟩
          obtain ⟨sg, hsg⟩ : ∃ x, x = signW W.data.toList := ⟨_, rfl⟩
          have HV := Lib.hid hV
          have HSg := Lib.hid hsg
          clear hV hsg
          go_upto_region 9 with fail
          rw [← HW.out]
          obtain ⟨tb, htb⟩ : ∃ tb : Bool, tb = decide (∃ h : 0 < W.size, isS W[0]) := ⟨_, rfl⟩
          have HTb := Lib.hid htb
          clear htb
          go_cut [56] (fun t wx => wr = wx ∧ t = .bool tb)
          case first =>
            by_cases h0 : 0 < W.size
            · by_cases hx : W[0] = 43
              · obtain rfl : tb = true := HTb.out.trans (decide_eq_true ⟨h0, by unfold isS; rw [hx]; simp⟩)
                have f1 : ((W[0].toNat : Int) == 43) = true := by rw [hx]; rfl
                clear hx HTb
                go_wp2
                go_meet
                exact ⟨rfl, rfl⟩
              · have hn43 : ¬ W[0] = 43 := hx
                have f1 : ((W[0].toNat : Int) == 43) = false := byte_nb hn43
                clear hx
                by_cases hx : W[0] = 45
                · obtain rfl : tb = true := HTb.out.trans (decide_eq_true ⟨h0, by unfold isS; rw [hx]; simp⟩)
                  have f2 : ((W[0].toNat : Int) == 45) = true := by rw [hx]; rfl
                  clear hx hn43 HTb
                  go_wp2
                  go_meet
                  exact ⟨rfl, rfl⟩
                · obtain rfl : tb = false := HTb.out.trans (decide_eq_false (fun ⟨_, h⟩ => h.elim hn43 hx))
                  have f2 : ((W[0].toNat : Int) == 45) = false := byte_nb hx
                  clear hx hn43 HTb
                  go_wp2
                  go_meet
                  exact ⟨rfl, rfl⟩
            · obtain rfl : tb = false := HTb.out.trans (decide_eq_false (fun ⟨h, _⟩ => h0 h))
              clear HTb
              go_wp2
              go_meet
              exact ⟨rfl, rfl⟩
          case rest =>
            obtain ⟨rfl, rfl⟩ := hcut
            go_upto_if 56 with fail
            go_cut [7, 8] (fun s7 s8 wx => wr = wx ∧ s7 = .string V ∧ s8 = .int .i64 sg)
            case first =>
              cases tb with
              | false =>
                have HE : Hid (V = W ∧ sg = 1) := Lib.hid (by
                  have hn := of_decide_eq_false HTb.out.symm
                  have := strip_no (s := W) (fun h hx => hn ⟨h, hx⟩)
                  rw [HV.out, HSg.out, this.1, this.2]
                  exact ⟨(bs_of W).symm, rfl⟩)
                obtain ⟨rfl, rfl⟩ := HE.out
                clear HTb HE
                go_wp2
                go_meet
                exact ⟨rfl, rfl, rfl⟩
              | true =>
                obtain ⟨h0, hx⟩ := of_decide_eq_true HTb.out.symm
                have HE : Hid (V = W.extract 1 W.size ∧ sg = if W[0] = 45 then -1 else 1) := Lib.hid (by
                  have := strip_yes h0 hx
                  rw [HV.out, HSg.out, this.1, this.2]
                  exact ⟨by rw [ext_bs, List.take_of_length_le (by rw [List.length_drop, size_data]; omega)], rfl⟩)
                clear HTb
                rcases hx with hx | hx
                · obtain rfl : sg = 1 := by rw [HE.out.2, hx]; rfl
                  have HE1 := Lib.hid HE.out.1
                  have f1 : ((W[0].toNat : Int) == 45) = false := by rw [hx]; rfl
                  clear hx HE
                  go_wp2
                  go_meet
                  exact ⟨rfl, by rw [HE1.out], rfl⟩
                · obtain rfl : sg = -1 := by rw [HE.out.2, hx]; rfl
                  have HE1 := Lib.hid HE.out.1
                  have f1 : ((W[0].toNat : Int) == 45) = true := by rw [hx]; rfl
                  clear hx HE
                  go_wp2
                  go_meet
                  exact ⟨rfl, by rw [HE1.out], rfl⟩
            case rest =>
              obtain ⟨rfl, rfl, rfl⟩ := hcut
              clear HTb
              have hVz : V.size ≤ 1048576 := by
                rw [HV.out, bs_size]
                have : (stripW W.data.toList).length ≤ W.data.toList.length := by
                  unfold stripW
                  split
                  · simp
                  · exact Nat.le_refl _
                rw [size_data] at this
                omega
              obtain ⟨c, hc⟩ : ∃ c, c = (tmQ V.data.toList).1 := ⟨_, rfl⟩
              obtain ⟨k, hk⟩ : ∃ c, c = (tmQ V.data.toList).2.1 := ⟨_, rfl⟩
              obtain ⟨ok, hok⟩ : ∃ c, c = (tmQ V.data.toList).2.2 := ⟨_, rfl⟩
              have HQ : Hid (tmQ V.data.toList = (c, k, ok)) := Lib.hid (by rw [hc, hk, hok])
              have hbd := tmQ_bd V.data.toList
              rw [← hc, ← hk, ← hok] at hbd
              obtain ⟨⟨c1, c2⟩, ⟨k1, k2⟩, hk8⟩ := hbd
              have HK := Lib.hid hk8
              have HSS : Hid (stS F ((s.data.toList.drop f).take (i - f)) = if ok = true ∧ c ≤ 1000000 then some (F.set k.toNat (sg * c)) else none) := Lib.hid (by
                rw [← HWd.out]
                exact stS_Q (by rw [HV.out, bs_data]) HSg.out HQ.out)
              have hsg : sg = 1 ∨ sg = -1 := by
                rw [HSg.out]; unfold signW; split <;> simp
              clear hc hk hok hk8 HV HSg HW HWd
              go_wp2_with fail
              refine (l06Term_at HQ.out hVz _).mono ?_
              rintro e w3 ⟨rfl, hb3⟩
              have HO3 := Lib.hid (HO.out.below hb3)
              have HB3 := Lib.hid (bl_trans HB.out hb3)
              clear hb3 HO HB HQ
              by_cases hgood : ok = true ∧ c ≤ 1000000
              · obtain ⟨rfl, hcm⟩ := hgood
                have hk9 := HK.out rfl
                obtain ⟨j, rfl⟩ : ∃ j : Nat, k = (j : Int) := ⟨k.toNat, by omega⟩
                have hj : j < 9 := by omega
                obtain ⟨P, hP⟩ : ∃ P, P = sg * c := ⟨_, rfl⟩
                have HI2 : Hid (RdI s.data.toList (F.set j P) i (i + 1)) := Lib.hid (HSt.out.2 _ (by rw [HSS.out, if_pos ⟨rfl, hcm⟩, hP]; rfl))
                have ⟨q1, q2⟩ := HO3.out.at_ hj
                have HSet := Lib.hid (HO3.out.set_ j P).1
                have HB5 : Hid (Below w.heap.size w (w3.setCell ⟨w.heap.size, j, none⟩ (.int .i64 P))) := Lib.hid (bl_set HB3.out _ _ (Nat.le_refl _) _)
                have hj1 : (0 : Int) ≤ (j : Int) := by omega
                have hj2 : (j : Int) < 9 := by omega
                clear HSt HSS HK hk9 k1 k2
                rcases hsg with rfl | rfl
                · obtain rfl : P = c := by rw [hP]; omega
                  clear hP
                  go_wp2
                  go_roundg (s.size + 1 - (i + 1))
                  case measure => omega
                  case rel => exact ⟨i, i + 1, _, rfl, by omega, by omega, rfl, by go_num, HI2, HSet, HB5⟩
                · obtain rfl : P = -c := by rw [hP]; omega
                  clear hP
                  go_wp2
                  go_roundg (s.size + 1 - (i + 1))
                  case measure => omega
                  case rel => exact ⟨i, i + 1, _, rfl, by omega, by omega, rfl, by go_num, HI2, HSet, HB5⟩
              · have HR : Hid (L = [] ∧ C = 6) := Lib.hid (by
                  rw [HL.out, HC.out]
                  exact rf_none (HSt.out.1 (by rw [HSS.out, if_neg hgood])))
                obtain ⟨rfl, rfl⟩ := HR.out
                clear HSt HSS HK hsg
                cases ok with
                | false =>
                  clear hgood
                  go_wp2
                  go_ret2
                  exact ⟨none, 0, rfl, OwnC.nil (by unfold maxLen; omega), HB3.out⟩
                | true =>
                  have hbig : 1000000 < c := Classical.byContradiction fun h => hgood ⟨rfl, by omega⟩
                  clear hgood
                  go_wp2
                  go_ret2
                  exact ⟨none, 0, rfl, OwnC.nil (by unfold maxLen; omega), HB3.out⟩
    · have HS : Hid (plS s.data.toList = some F) := Lib.hid (HI.out.done (by rw [HLn.out]; omega))
      obtain ⟨G, hG⟩ : ∃ G, G = trimL F := ⟨_, rfl⟩
      have HGe := Lib.hid hG
      go_wp2_with fail
      refine (l06Trim_any _ _ _ _ _ HO.out.rd (by omega)).mono ?_
      rintro e w5 ⟨A5, c5, rfl, ho5, hb5⟩
      rw [← hG] at ho5 ⊢
      have HO7 : Hid (OwnI w5 w.heap.size A5 G.length c5 G) := Lib.hid (OwnC_loF ho5 HB.out.size)
      have HB7 := Lib.hid (bl_trans HB.out hb5)
      clear ho5 hb5 hG HO HI HB
      by_cases hpk : POk G
      · have H := Lib.hid hpk
        obtain ⟨T, hT⟩ : ∃ T, T = bs (plT G) := ⟨_, rfl⟩
        have HTx := Lib.hid hT
        by_cases hts : T.toList = s.toList
        · have HR : Hid (L = G ∧ C = 0) := Lib.hid (by
            have h : RfOk s.data.toList (trimL F) := by
              rw [← HGe.out]
              rw [ByteArray.toList_eq, ByteArray.toList_eq, hT, bs_data] at hts
              exact ⟨hpk, hts⟩
            have ⟨h2, h3⟩ := (rf_S HS.out).2 h
            rw [HL.out, HC.out, (rf_yes h2).1, (rf_yes h2).2, HGe.out, h3]
            exact ⟨rfl, rfl⟩)
          obtain ⟨rfl, rfl⟩ := HR.out
          have hb1 : (T.toList == s.toList) = true := by rw [hts]; simp
          have hb2 : (T.toList != s.toList) = false := by rw [hts]; simp
          clear hpk hT hts
          go_wp2_with fail
          refine (specIsPolynomial_yes _ _ _ _ _ HO7.out.rd H.out).mono ?_
          rintro e w' ⟨rfl, rfl⟩
          go_wp2_with fail
          refine (l06Text_at HTx.out _ HO7.out.rd H.out).mono ?_
          rintro e w8 ⟨rfl, hb8⟩
          have HB8 := Lib.hid (bl_trans HB7.out hb8)
          have HO8 := Lib.hid (HO7.out.below hb8)
          clear hb8
          go_wp2
          go_ret2
          exact ⟨A5, c5, rfl, HO8.out, HB8.out⟩
        · have HR : Hid (L = [] ∧ C = 6) := Lib.hid (by
            rw [HL.out, HC.out]
            exact rf_no (fun h => hts (by rw [ByteArray.toList_eq, ByteArray.toList_eq, hT, bs_data, HGe.out]; exact ((rf_S HS.out).1 h).1.2)))
          obtain ⟨rfl, rfl⟩ := HR.out
          have hb1 : (T.toList == s.toList) = false := by rw [beq_eq_false_iff_ne]; exact hts
          have hb2 : (T.toList != s.toList) = true := by rw [bne, hb1]; rfl
          clear hpk hT hts
          go_wp2_with fail
          refine (specIsPolynomial_yes _ _ _ _ _ HO7.out.rd H.out).mono ?_
          rintro e w' ⟨rfl, rfl⟩
          go_wp2_with fail
          refine (l06Text_at HTx.out _ HO7.out.rd H.out).mono ?_
          rintro e w8 ⟨rfl, hb8⟩
          have HB8 := Lib.hid (bl_trans HB7.out hb8)
          clear hb8
          go_wp2
          go_ret2
          exact ⟨none, 0, rfl, OwnC.nil (by unfold maxLen; omega), HB8.out⟩
      · have H := Lib.hid hpk
        have HR : Hid (L = [] ∧ C = 6) := Lib.hid (by
          rw [HL.out, HC.out]
          exact rf_no (fun h => hpk (by rw [HGe.out]; exact ((rf_S HS.out).1 h).1.1)))
        obtain ⟨rfl, rfl⟩ := HR.out
        clear hpk
        go_wp2_with fail
        refine (specIsPolynomial_no _ _ _ _ _ HO7.out.rd H.out).mono ?_
        rintro e w' ⟨rfl, rfl⟩
        go_wp2
        go_ret2
        exact ⟨none, 0, rfl, OwnC.nil (by unfold maxLen; omega), HB7.out⟩
end Go.Proofs.YtgajgonepcikbaaDoor
