
/- Splittings' text read, by the reference. -/
import Derived.Test.YtgajgonepcikbaaDoorRdS1
import Derived.Test.YtgajgonepcikbaaDoorRdS3
import Derived.Deep.RegionHeld3
namespace Go.Proofs.YtgajgonepcikbaaDoor
open Go.RowKit Go.Joins

set_option maxRecDepth 100000 in
set_option maxHeartbeats 3200000 in
theorem specReadSplitting_at {s : ByteArray} {L : List (Int × Int × Int)} {C : Int} (hL : L = rsL s.data.toList) (hC : C = rsC s.data.toList) (hs : s.size ≤ 1048576) (w : World) :
    Calls Tryd.prog 39 #[.string s] w fun e w' => ∃ A c, e = .returned (.tuple #[.slice A L.length c, .int .i64 C]) ∧ OwnC 81 3 w' w.heap.size A L.length c ((fl3 L).map (Value.int .i64)) ∧ Below w.heap.size w w' := by
  by_cases h1 : s.data.toList = [45]
  · have HL : Hid (L = [] ∧ C = 0) := Lib.hid (by
      rw [hL, hC, h1, (rs_yes rs_one.1).1, (rs_yes rs_one.1).2, rs_one.2]; exact ⟨rfl, rfl⟩)
    obtain ⟨rfl, rfl⟩ := HL.out
    have ⟨b1, b2⟩ := str_eq h1
    have HPw : Hid (spOkB [] 0 = true) := Lib.hid (by exact decide_eq_true ⟨fun k hk => absurd hk (Nat.not_lt_zero _), by decide⟩)
    have HOk : Hid (SpOk [] 0) := Lib.hid (of_decide_eq_true HPw.out)
    obtain ⟨T, hT⟩ : ∃ T : ByteArray, T = ⟨#[45]⟩ := ⟨_, rfl⟩
    have HT : Hid (T = bs (spT (spL [] 0))) := Lib.hid (by rw [hT]; rfl)
    have ht1 : (T.toList == s.toList) = true := by rw [ByteArray.toList_eq, ByteArray.toList_eq, h1, hT]; rfl
    have ht2 : (T.toList != s.toList) = false := by rw [bne, ht1]; rfl
    clear hT
    have hp := spl_pos 32 s.data.toList
    clear h1 hL hC
    go_enter Tryd.func39, Tryd.ntmps39
    go_wp2_with fail
    refine (l01Split_any _ 32 32 rfl _ hs).mono ?_
    rintro e w1 ⟨Aw, cw, rfl, ho, hb1⟩
    have HB1 : Hid (Below w.heap.size w w1) := Lib.hid (bl_trans (bl_alloc (Below.refl _ _) _) hb1)
    generalize (spl 32 _).length = n at ho hp ⊢
    have hdn : decide (0 < n) = true := by simp; omega
    clear ho hb1
    go_wp2
    refine wp_loop_rounds 1 ?_
    rw [rounds_succ]
    go_wp2_with fail
    refine (l14List_any (some ⟨w.heap.size, 0, none⟩) 0 0 [] w1 ⟨rfl, Nat.le_refl _, by unfold maxLen; omega, fun h => absurd h (by omega)⟩ (by omega)).mono ?_
    rintro e w2 ⟨rfl, hb2⟩
    have HB2 := Lib.hid (bl_trans HB1.out hb2)
    clear hb2
    rw [HPw.out]
    go_wp2_with fail
    refine (l14Text_at HT.out w2 ⟨rfl, Nat.le_refl _, by unfold maxLen; omega, fun h => absurd h (by omega)⟩ HOk.out).mono ?_
    rintro e w3 ⟨rfl, hb3⟩
    have HB3 := Lib.hid (bl_trans HB2.out hb3)
    clear hb3
    go_wp2
    go_ret2
    exact ⟨_, 0, rfl, OwnC.nil (by unfold maxLen; omega), HB3.out⟩
  have ⟨b1, b2⟩ := str_ne h1
  obtain ⟨i0, hi, hz0, hz1, hz2⟩ := info_parts infoSp3
  have HI := Lib.hid hi
  have HZ0 := Lib.hid hz0
  have HZ1 := Lib.hid hz1
  have HZ2 := Lib.hid hz2
  clear hi hz0 hz1 hz2
  obtain ⟨W, hW⟩ : ∃ W, W = spl 32 s.data.toList := ⟨_, rfl⟩
  have hn : W.length ≤ 1048577 := by
    rw [hW]; have := spl_cnt 32 s.data.toList; rw [size_data] at this; omega
  have HWl : Hid (∀ k, (W.getD k []).length ≤ 1048576) := Lib.hid (fun k => by rw [hW]; have := spl_getD (c := 32) (l := s.data.toList) k; rw [size_data] at this; omega)
  have HW := Lib.hid hW
  have H1 := Lib.hid h1
  have HL := Lib.hid hL
  have HC := Lib.hid hC
  have hp : 0 < W.length := by rw [hW]; exact spl_pos _ _
  obtain ⟨n, hnW⟩ : ∃ n, n = W.length := ⟨_, rfl⟩
  have HN := Lib.hid hnW
  rw [← hnW] at hn hp
  clear h1 hL hC
  go_enter Tryd.func39, Tryd.ntmps39
  go_wp2_with fail
  refine (l01Split_any _ 32 32 rfl _ hs).mono ?_
  rintro e w1 ⟨Aw, cw, rfl, ho, hb1⟩
  rw [← hW, ← hnW] at ho ⊢
  have HB1 : Hid (Below w.heap.size w w1) := Lib.hid (bl_trans (bl_alloc (Below.refl _ _) _) hb1)
  have hlt1 : w.heap.size < w1.heap.size := by have := hb1.size; simp at this; omega
  obtain ⟨bw, rfl, hbw1, hbw2⟩ := ho.form hp
  have hbw3 : w.heap.size < bw := by simp at hbw1; omega
  have hcw := ho.2.1
  have hcm := ho.2.2.1
  unfold maxLen at hcm
  have HCl : Hid (∀ i, i < n → w1.cell? ⟨bw, i, none⟩ = some (.string (bs (W.getD i [])))) := Lib.hid (fun i hi => by
    obtain ⟨b, off, hbo, _, hc⟩ := RdT.at_ (W := W) ho.rd hp
    simp at hbo
    have := hc i hi
    rw [← hbo.1, ← hbo.2, Nat.zero_add] at this
    exact this)
  have H0 : Hid (w1.ownsRow w.heap.size 81 3 (.slice (some ⟨w.heap.size, 0, none⟩) 0 0) 0 []) := Lib.hid (ownsRow_below (w := w.alloc (.cells #[] 81)) ⟨rfl, .inr ⟨w.heap.size, 0, #[], rfl, Nat.le_refl _, heap_alloc_new w _, Nat.le_refl _, by unfold maxLen; omega, rfl, rfl⟩⟩ hb1)
  clear hb1 ho hnW hW hbw1
  go_wp2
  go_loopg [4, 6, 7, 8, 9, 10] n (fun g v i _ _ _ _ wr => ∃ k : Nat, g = n - k ∧ k ≤ n ∧ i = .int .i64 k ∧ Hid (∀ i, i < k → wOk (W.getD i []) = true) ∧ Hid (wr.ownsRow w.heap.size 81 3 v k (flat3 ((W.take k).map wS))) ∧ Hid (LieAt v w.heap.size w1.heap.size) ∧ Hid (∀ i, i < n → wr.cell? ⟨bw, i, none⟩ = some (.string (bs (W.getD i [])))) ∧ Hid (Below w.heap.size w wr ∧ w1.heap.size ≤ wr.heap.size))
  case atStart => exact ⟨0, by omega, Nat.zero_le _, rfl, Lib.hid (fun i hi => absurd hi (Nat.not_lt_zero _)), H0, Lib.hid (fun g hg => .inl (by simpa [Value.ownBlock] using hg.symm)), HCl, Lib.hid ⟨HB1.out, Nat.le_refl _⟩⟩
  case round =>
    obtain ⟨k, rfl, hk, rfl, HOks, HO, HLi, HCr, HBl⟩ := hrel
    have HB := Lib.hid HBl.out.1
    by_cases hlt : k < n
    · have hx := HCr.out k hlt
      obtain ⟨S, hS⟩ : ∃ S, S = bs (W.getD k []) := ⟨_, rfl⟩
      rw [← hS] at hx
      have hSd : S.data.toList = W.getD k [] := by rw [hS, bs_data]
      have hsz : S.size ≤ 1048576 := by rw [hS, bs_size]; exact HWl.out k
      obtain ⟨V, hV⟩ : ∃ V, V = spl 120 S.data.toList := ⟨_, rfl⟩
      have hpV : 0 < V.length := by rw [hV]; exact spl_pos _ _
      obtain ⟨A, hA⟩ : ∃ A, A = bs (V.getD 0 []) := ⟨_, rfl⟩
      obtain ⟨B, hB⟩ : ∃ A, A = bs (V.getD 1 []) := ⟨_, rfl⟩
      have za : A.size ≤ 1048576 := by rw [hA, bs_size, hV]; have := spl_getD (c := 120) (l := S.data.toList) 0; rw [size_data] at this; omega
      have zb : B.size ≤ 1048576 := by rw [hB, bs_size, hV]; have := spl_getD (c := 120) (l := S.data.toList) 1; rw [size_data] at this; omega
      obtain ⟨U, hU⟩ : ∃ U, U = spl 44 A.data.toList := ⟨_, rfl⟩
      have hUn : U.length ≤ 1048577 := by rw [hU]; have := spl_cnt 44 A.data.toList; rw [size_data] at this; omega
      have HUz : Hid (∀ k, (U.getD k []).length ≤ 1048576) := Lib.hid (fun k => by rw [hU]; have := spl_getD (c := 44) (l := A.data.toList) k; rw [size_data] at this; omega)
      obtain ⟨ok, hok⟩ : ∃ b, b = U.all lsB := ⟨_, rfl⟩
      obtain ⟨d0, hd0⟩ : ∃ n, n = lvV B.data.toList := ⟨_, rfl⟩
      obtain ⟨d0b, hd0b⟩ : ∃ n, n = lvB B.data.toList := ⟨_, rfl⟩
      obtain ⟨t, ht⟩ : ∃ n : Int, n = if V.length = 2 then d0 else 0 := ⟨_, rfl⟩
      have HWk : Hid (wOk (W.getD k []) = (ok && decide (U.length = 2)) ∧ (U.length = 2 → wS (W.getD k []) = ((U.map lsV).getD 0 0, (U.map lsV).getD 1 0, t))) := Lib.hid (by
        have e1 : wV (W.getD k []) = V := by unfold wV; rw [hV, hSd]
        have e2 : wU (W.getD k []) = U := by unfold wU; rw [e1, hU, hA, bs_data]
        refine ⟨by unfold wOk; rw [e2, hok], fun h2 => ?_⟩
        unfold wS
        rw [e1, e2, ht, hd0, hB, bs_data]
        simp [List.getD, List.getElem?_eq_getElem (show 0 < U.length by omega), List.getElem?_eq_getElem (show 1 < U.length by omega)])
      have HkW : Hid (∃ h : k < W.length, W[k] = W.getD k []) := Lib.hid (by
        have hkW : k < W.length := by rw [← HN.out]; exact hlt
        exact ⟨hkW, by simp [List.getD, List.getElem?_eq_getElem hkW]⟩)
      have HV := Lib.hid hV
      have HA := Lib.hid hA
      have HBb := Lib.hid hB
      have HU := Lib.hid hU
      have HOk := Lib.hid hok
      have HD0 := Lib.hid hd0
      have HD0b := Lib.hid hd0b
      have HTt := Lib.hid ht
      have hl1 : k + 1 ≤ maxLen := by unfold maxLen; omega
      have hl2 : (k + 1) * 24 ≤ 140737488355328 := by omega
      have hdk : decide (k < n) = true := by simp; omega
      clear hA hB hok hd0 hd0b ht hS hSd
      go_wp2_with fail
      refine (l01Split_any _ 120 120 rfl _ hsz).mono ?_
      rintro e w2 ⟨Ap, cp, rfl, hop, hb2⟩
      rw [← hV] at hop ⊢
      have hrt : RdT w2 Ap V.length cp V := hop.rd
      obtain ⟨bp, op, rfl, hbl, hcell⟩ := hrt.at_ hpV
      have a0 := hcell 0 hpV
      rw [Nat.add_zero, ← HA.out] at a0
      have HCp := Lib.hid hcell
      have hcp : V.length ≤ cp := hop.2.1
      have hcpm := hop.2.2.1
      unfold maxLen at hcpm
      have HB2 : Hid (Below wr.heap.size wr w2) := Lib.hid hb2
      clear hb2 hop hrt hcell hV hx
      go_wp2_with fail
      refine (l01Split_any _ 44 44 rfl _ za).mono ?_
      rintro e w3 ⟨Au, cu, rfl, hou, hb3⟩
      rw [← hU] at hou ⊢
      have HRu : Hid (RdT w3 Au U.length cu U) := Lib.hid hou.rd
      have HB3 := Lib.hid (bl_trans HB2.out hb3)
      have HC3 : Hid (∀ i, i < V.length → w3.cell? ⟨bp, op + i, none⟩ = some (.string (bs (V.getD i [])))) := Lib.hid (fun i hi => keep_cell hb3 (HCp.out i hi))
      have HB3s : Hid (wr.heap.size ≤ w3.heap.size) := Lib.hid HB3.out.size
      clear hb3 a0 HCp hou hU HB2
      go_wp2_with fail
      refine (l01Numbers_at HOk.out _ HRu.out HUz.out hUn).mono ?_
      rintro e w4 ⟨Bn, mn, dn, rfl, hnum, hb4⟩
      have HNum := Lib.hid hnum
      have HB4 := Lib.hid (bl_trans HB3.out hb4)
      have HC4 : Hid (∀ i, i < V.length → w4.cell? ⟨bp, op + i, none⟩ = some (.string (bs (V.getD i [])))) := Lib.hid (fun i hi => keep_cell hb4 (HC3.out i hi))
      clear hb4 HC3 hnum HB3 HRu
      go_upto_if 39 with fail
      go_cut [10] (fun s10 wx => s10 = .int .i64 t ∧ Hid (Below wr.heap.size wr wx) ∧ Hid (Below w4.heap.size w4 wx))
      case first =>
        by_cases hv1 : V.length = 2
        · have HDt : Hid (t = d0) := Lib.hid (by rw [HTt.out, if_pos hv1])
          have a1 := HC4.out 1 (by omega)
          rw [← HBb.out] at a1
          have hvb : ((V.length : Int) == 2) = true := by simp; omega
          have hv2 : 1 < V.length := by omega
          clear hv1
          go_wp2_with fail
          refine (l01Value_at HD0.out HD0b.out zb _).mono ?_
          rintro e w5 ⟨rfl, hb5⟩
          have HB5 := Lib.hid (bl_trans HB4.out hb5)
          have HB45 := Lib.hid hb5
          clear hb5 a1
          go_wp2
          go_meet
          exact ⟨by rw [HDt.out], HB5, HB45⟩
        · have HDt : Hid (t = 0) := Lib.hid (by rw [HTt.out, if_neg hv1])
          have hvb : ((V.length : Int) == 2) = false := by simp; omega
          clear hv1
          go_wp2
          go_meet
          exact ⟨by rw [HDt.out], HB4, Lib.hid (Below.refl _ _)⟩
      case rest =>
        clear HC4 HB4
        obtain ⟨rfl, HBc, HB4c⟩ := hcut
        have hbad : ∀ h : wOk (W.getD k []) = false, L = [] ∧ C = 6 := fun h => by
          have hno : ¬ RsOk s.data.toList (l3 s.data.toList) := fun hr => by
            have ⟨hkW, e⟩ := HkW.out
            have := (rs_fw H1.out hr).1 W[k] (by rw [← HW.out]; exact List.getElem_mem hkW)
            rw [e, h] at this
            cases this
          rw [HL.out, HC.out]
          exact rs_no hno
        have HBad := Lib.hid hbad
        clear hbad
        cases ok with
        | false =>
          have HR := Lib.hid (HBad.out (by rw [HWk.out.1]; rfl))
          obtain ⟨rfl, rfl⟩ := HR.out
          have HBq := Lib.hid (bl_trans HB.out HBc.out)
          go_wp2
          go_ret2
          exact ⟨none, 0, rfl, OwnC.nil (by unfold maxLen; omega), HBq.out⟩
        | true =>
          have hmn : mn = U.length := (HNum.out rfl).1
          have HNr : Hid (OwnI wc w3.heap.size Bn U.length dn (U.map lsV)) := Lib.hid ((HNum.out rfl).2.below HB4c.out)
          by_cases hu2 : U.length = 2
          · have HWs := Lib.hid (HWk.out.2 hu2)
            have HWok : Hid (wOk (W.getD k []) = true) := Lib.hid (by rw [HWk.out.1, decide_eq_true hu2]; rfl)
            have hnr := HNr.out
            rw [hu2] at hnr
            obtain ⟨bn, rfl, hbn3, _⟩ := OwnC.form hnr (show 0 < 2 by omega)
            have c0 := (hnr.at_ (show 0 < 2 by omega)).1
            have c1 := (hnr.at_ (show 1 < 2 by omega)).1
            have hdn := hnr.2.1
            have hdm := hnr.2.2.1
            unfold maxLen at hdm
            have hbn4 : wr.heap.size ≤ bn := Nat.le_trans HB3s.out hbn3
            generalize (U.map lsV).getD 0 0 = p at c0 HWs
            generalize (U.map lsV).getD 1 0 = q at c1 HWs
            have HT : Hid (flat3 ((W.take (k + 1)).map wS) = flat3 ((W.take k).map wS) ++ [.int .i64 p, .int .i64 q, .int .i64 t]) := Lib.hid (by
              have ⟨hkW, e⟩ := HkW.out
              rw [List.take_succ_eq_append_getElem hkW, List.map_append, List.map_singleton, ← flat3_snoc, e, HWs.out])
            have HOks2 : Hid (∀ i, i < k + 1 → wOk (W.getD i []) = true) := Lib.hid (fun i hi => by
              by_cases e : i = k
              · subst e; exact HWok.out
              · exact HOks.out i (by omega))
            have HOc := Lib.hid (ownsRow_below HO.out HBc.out)
            have HBd := Lib.hid (bl_trans HB.out HBc.out)
            have HCc : Hid (∀ i, i < n → wc.cell? ⟨bw, i, none⟩ = some (.string (bs (W.getD i [])))) := Lib.hid (fun i hi => keep_cell HBc.out (HCr.out i hi))
            have HSz : Hid (w1.heap.size ≤ wc.heap.size) := Lib.hid (Nat.le_trans HBl.out.2 HBc.out.size)
            rw [hmn, hu2]
            clear hmn hu2 hnr HNr HNum
            have hbn2 : bn < wc.heap.size := block_lt_of_cell c0
            go_wp2_with fail
            go_region_held3 (fun w' => w'.cell? ⟨bn, 0, none⟩ = some (.int .i64 p) ∧ w'.cell? ⟨bn, 1, none⟩ = some (.int .i64 q)) (first | go_keep | exact ⟨hk5 _ _ (keep_cell (Below.drew (bl_alloc (Below.refl _ _) _)) c0), hk5 _ _ (keep_cell (Below.drew (bl_alloc (Below.refl _ _) _)) c1)⟩ | exact ⟨c0, c1⟩ | exact ⟨keep_cell (Below.drew (Below.refl _ _)) c0, keep_cell (Below.drew (Below.refl _ _)) c1⟩ | exact ⟨keep_cell (bl_alloc (Below.refl _ _) _) c0, keep_cell (bl_alloc (Below.refl _ _) _) c1⟩ | exact ⟨keep_cell (Below.drew (bl_alloc (Below.refl _ _) _)) c0, keep_cell (Below.drew (bl_alloc (Below.refl _ _) _)) c1⟩) (first | (refine step_append_lies _ (by rfl) _ _ _ (by rfl) w.heap.size 81 i0 _ 3 24 Tryd.underlying44 HI.out HZ0.out HZ1.out HZ2.out rfl (by omega) _ k (flat3 ((W.take k).map wS)) (by rfl) ?hown _ 1 1 [.int .i64 p, .int .i64 q, .int .i64 t] (by rfl) (by rfl) ?hnews (oneT3 _ _ _) (by omega) hl1 hl2 ?hbase _ (by rfl) ?hgo; (case hown => exact HOc.out.alloc _); (case hnews => exact newT3 _ _ _ _ _); (case hbase => exact base_alloc HBd.out _); intro gg cap w5 hown' hgrow hat hlt5; have hk5 := fun (o : Nat) (v : Value) h => grown_far (b := bn) (o := o) (u := v) hgrow h (fun h2 => by have := (HO.out.lt _ h2.symm).2; omega)))
            have HO3 : Hid (w5.ownsRow w.heap.size 81 3 (.slice (some ⟨gg, 0, none⟩) (k + 1) cap) (k + 1) (flat3 ((W.take (k + 1)).map wS))) := Lib.hid (by rw [HT.out]; exact hown')
            have HB3 : Hid (Below w.heap.size w w5 ∧ w1.heap.size ≤ w5.heap.size) := Lib.hid ⟨Below.grown (Below.drew (bl_alloc HBd.out _)) hgrow (base_alloc HBd.out _) (fun k hk => (HOc.out.lt k hk).1), by have h1 := hgrow.size; have h2 := HSz.out; simp at h1; omega⟩
            have HL3 : Hid (LieAt (.slice (some ⟨gg, 0, none⟩) (k + 1) cap) w.heap.size w1.heap.size) := Lib.hid (fun g hg => by
              have e : g = gg := by simpa [Value.ownBlock] using hg.symm
              subst e
              rcases hat with h | h
              · exact HLi.out g h
              · right; rw [h]; have := HSz.out; simp; omega)
            have HC5 : Hid (∀ i, i < n → w5.cell? ⟨bw, i, none⟩ = some (.string (bs (W.getD i [])))) := Lib.hid (fun i hi => by
              have hc := HCc.out i hi
              have hlb := block_lt_of_cell hc
              rw [hgrow.cell_far _ (by simp; omega) (fun h => by
                rcases HLi.out bw h.symm with h2 | h2 <;> omega)]
              exact keep_cell (Below.drew (bl_alloc (Below.refl _ _) _)) hc)
            clear hown' hgrow hl1 hl2 hat
            go_wp2
            go_roundg (n - (k + 1))
            case measure => omega
            case rel => exact ⟨k + 1, rfl, by omega, by go_num, HOks2, HO3, HL3, HC5, HB3⟩
          · have HR := Lib.hid (HBad.out (by rw [HWk.out.1, decide_eq_false hu2]; rfl))
            obtain ⟨rfl, rfl⟩ := HR.out
            have hub : ((U.length : Int) != 2) = true := by simp; omega
            have HBq := Lib.hid (bl_trans HB.out HBc.out)
            rw [hmn]
            clear hu2 hmn
            go_wp2
            go_ret2
            exact ⟨none, 0, rfl, OwnC.nil (by unfold maxLen; omega), HBq.out⟩
    · obtain rfl : k = n := by omega
      have hdk : decide (k < k) = false := by simp
      obtain ⟨LP, hLP⟩ : ∃ LP, LP = (spl 32 s.data.toList).map wS := ⟨_, rfl⟩
      have HLP : Hid ((W.take k).map wS = LP ∧ LP.length = k) := Lib.hid (by
        have e : (W.take k).map wS = LP := by rw [hLP, HN.out, List.take_length, HW.out]
        exact ⟨e, by rw [← e, List.length_map, List.length_take, ← HN.out]; omega⟩)
      have HLp := Lib.hid hLP
      have HO2 : Hid (wr.ownsRow w.heap.size 81 3 u4 k (flat3 LP)) := Lib.hid (by rw [← HLP.out.1]; exact HO.out)
      clear HO hLP HLi
      obtain ⟨A2, c2, rfl, hrd⟩ := own_cells HO2.out
      rw [fl3_flat] at hrd
      have HRd : Hid (RdC 3 wr A2 k c2 ((fl3 LP).map (Value.int .i64))) := Lib.hid hrd
      have hkl : LP.length = k := HLP.out.2
      clear hrd
      cases hpw : spOkB (fl3 LP) k with
      | false =>
        have HPw := Lib.hid hpw
        have HR : Hid (L = [] ∧ C = 6) := Lib.hid (by
          have hno : ¬ RsOk s.data.toList (l3 s.data.toList) := fun h => by
            rw [← (rs_fw H1.out h).2, ← HLp.out] at h
            have h3 : SpOk (fl3 LP) k := by rw [← hkl]; exact h.1
            have : spOkB (fl3 LP) k = true := decide_eq_true h3
            rw [hpw] at this
            cases this
          rw [HL.out, HC.out]
          exact rs_no hno)
        obtain ⟨rfl, rfl⟩ := HR.out
        clear hpw
        go_wp2_with fail
        refine (l14List_any _ _ _ _ _ HRd.out (by omega)).mono ?_
        rintro e w5 ⟨rfl, hb5⟩
        have HB5 := Lib.hid (bl_trans HB.out hb5)
        clear hb5
        rw [HPw.out]
        go_wp2
        go_ret2
        exact ⟨none, 0, rfl, OwnC.nil (by unfold maxLen; omega), HB5.out⟩
      | true =>
        have HPw := Lib.hid hpw
        have hok : SpOk (fl3 LP) k := of_decide_eq_true hpw
        have HOk := Lib.hid hok
        obtain ⟨T, hT⟩ : ∃ T, T = bs (spT (spL (fl3 LP) k)) := ⟨_, rfl⟩
        have HTx := Lib.hid hT
        have hT2 : T = bs (spT LP) := by rw [hT, ← hkl, spL_fl3]
        by_cases hts : T.toList = s.toList
        · have HR : Hid (L = LP ∧ C = 0) := Lib.hid (by
            have h0 : RsOk s.data.toList ((spl 32 s.data.toList).map wS) := by
              rw [← HLp.out]
              refine ⟨by rw [hkl]; exact hok, ?_⟩
              rw [ByteArray.toList_eq, ByteArray.toList_eq, hT2, bs_data] at hts
              exact hts
            have e3 := rs_bw H1.out h0
            have h : RsOk s.data.toList (l3 s.data.toList) := by rw [e3]; exact h0
            rw [HL.out, HC.out, (rs_yes h).1, (rs_yes h).2, HLp.out, e3]
            exact ⟨rfl, rfl⟩)
          obtain ⟨rfl, rfl⟩ := HR.out
          have hb1' : (T.toList == s.toList) = true := by rw [hts]; simp
          have hb2' : (T.toList != s.toList) = false := by rw [hts]; simp
          clear hpw hok hT hT2 hts
          go_wp2_with fail
          refine (l14List_any _ _ _ _ _ HRd.out (by omega)).mono ?_
          rintro e w5 ⟨rfl, hb5⟩
          have HB5 := Lib.hid (bl_trans HB.out hb5)
          have HRd5 := Lib.hid (HRd.out.below hb5)
          have HO5 := Lib.hid (ownsRow_below HO2.out hb5)
          clear hb5
          rw [HPw.out]
          go_wp2_with fail
          refine (l14Text_at HTx.out _ HRd5.out HOk.out).mono ?_
          rintro e w6 ⟨rfl, hb6⟩
          have HB6 := Lib.hid (bl_trans HB5.out hb6)
          have HO6 := Lib.hid (ownsRow_below HO5.out hb6)
          clear hb6
          go_wp2
          go_ret2
          refine ⟨A2, c2, by rw [hkl]; rfl, ?_, HB6.out⟩
          rw [hkl, ← fl3_flat]
          exact OwnC.of_row HO6.out
        · have HR : Hid (L = [] ∧ C = 6) := Lib.hid (by
            have hno : ¬ RsOk s.data.toList (l3 s.data.toList) := fun h => by
              rw [← (rs_fw H1.out h).2, ← HLp.out] at h
              exact hts (by rw [ByteArray.toList_eq, ByteArray.toList_eq, hT2, bs_data]; exact h.2)
            rw [HL.out, HC.out]
            exact rs_no hno)
          obtain ⟨rfl, rfl⟩ := HR.out
          have hb1' : (T.toList == s.toList) = false := by rw [beq_eq_false_iff_ne]; exact hts
          have hb2' : (T.toList != s.toList) = true := by rw [bne, hb1']; rfl
          clear hpw hok hT hT2 hts
          go_wp2_with fail
          refine (l14List_any _ _ _ _ _ HRd.out (by omega)).mono ?_
          rintro e w5 ⟨rfl, hb5⟩
          have HB5 := Lib.hid (bl_trans HB.out hb5)
          have HRd5 := Lib.hid (HRd.out.below hb5)
          clear hb5
          rw [HPw.out]
          go_wp2_with fail
          refine (l14Text_at HTx.out _ HRd5.out HOk.out).mono ?_
          rintro e w6 ⟨rfl, hb6⟩
          have HB6 := Lib.hid (bl_trans HB5.out hb6)
          clear hb6
          go_wp2
          go_ret2
          exact ⟨none, 0, rfl, OwnC.nil (by unfold maxLen; omega), HB6.out⟩
end Go.Proofs.YtgajgonepcikbaaDoor
