
/- A rational number's text read, by the reference. -/
import Derived.Test.YtgajgonepcikbaaDoorRdR
namespace Go.Proofs.YtgajgonepcikbaaDoor
open Go.RowKit Go.Joins

theorem spl_len {c : UInt8} : ∀ (l : List UInt8), ∀ x ∈ spl c l, x.length ≤ l.length
  | [], x, h => by simp [spl] at h; simp [h]
  | a :: l, x, h => by
    have ih := spl_len (c := c) l
    unfold spl at h
    split at h
    · rcases List.mem_cons.1 h with rfl | h
      · simp
      · have := ih x h; simp; omega
    · split at h
      · simp at h; simp [h]
      · rename_i w ws e
        rw [e] at ih
        rcases List.mem_cons.1 h with rfl | h
        · have := ih w (by simp); simp; omega
        · have := ih x (by simp [h]); simp; omega
theorem spl_getD {c : UInt8} {l : List UInt8} (i : Nat) : ((spl c l).getD i []).length ≤ l.length := by
  rcases Nat.lt_or_ge i (spl c l).length with h | h
  · rw [show (spl c l).getD i [] = (spl c l)[i] by simp [List.getD, List.getElem?_eq_getElem h]]
    exact spl_len l _ (List.getElem_mem h)
  · simp [List.getD, List.getElem?_eq_none h]
theorem spl_pos (c : UInt8) (l : List UInt8) : 0 < (spl c l).length := List.length_pos_iff.2 (spl_ne c l)

set_option maxRecDepth 100000 in
set_option maxHeartbeats 3200000 in
theorem specReadRational_at {s : ByteArray} {N D C : Int} (hN : N = rrN s.data.toList) (hD : D = rrD s.data.toList) (hC : C = rrC s.data.toList) (hs : s.size ≤ 1048576) (w : World) :
    Calls Tryd.prog 32 #[.string s] w fun e w' => e = .returned (.tuple #[.agg #[.int .i64 N, .int .i64 D], .int .i64 C]) ∧ Below w.heap.size w w' := by
  have HN := Lib.hid hN
  have HD := Lib.hid hD
  have HC := Lib.hid hC
  clear hN hD hC
  obtain ⟨W, hW⟩ : ∃ W, W = spl 47 s.data.toList := ⟨_, rfl⟩
  have hp : 0 < W.length := by rw [hW]; exact spl_pos _ _
  obtain ⟨A, hA⟩ : ∃ A, A = bs (W.getD 0 []) := ⟨_, rfl⟩
  obtain ⟨B, hB⟩ : ∃ A, A = bs (W.getD 1 []) := ⟨_, rfl⟩
  have za : A.size ≤ 1048576 := by rw [hA, bs_size, hW]; have := spl_getD (c := 47) (l := s.data.toList) 0; rw [size_data] at this; omega
  have zb : B.size ≤ 1048576 := by rw [hB, bs_size, hW]; have := spl_getD (c := 47) (l := s.data.toList) 1; rw [size_data] at this; omega
  obtain ⟨n, hn⟩ : ∃ n, n = lsV A.data.toList := ⟨_, rfl⟩
  obtain ⟨nb, hnb⟩ : ∃ n, n = lsB A.data.toList := ⟨_, rfl⟩
  obtain ⟨d0, hd0⟩ : ∃ n, n = lvV B.data.toList := ⟨_, rfl⟩
  obtain ⟨d0b, hd0b⟩ : ∃ n, n = lvB B.data.toList := ⟨_, rfl⟩
  obtain ⟨d, hd⟩ : ∃ n : Int, n = if 1 < W.length then d0 else 1 := ⟨_, rfl⟩
  have HP : Hid (ratS s.data.toList = (n, d)) := Lib.hid (by
    unfold ratS
    rw [hd, hn, hd0, hA, hB, bs_data, bs_data, hW])
  have HW := Lib.hid hW
  have HA := Lib.hid hA
  have HB := Lib.hid hB
  have HV := Lib.hid hn
  have HV1 := Lib.hid hnb
  have HV0 := Lib.hid hd0
  have HO0 := Lib.hid hd0b
  have HDd := Lib.hid hd
  clear hW hA hB hn hnb hd0 hd0b hd
  go_enter Tryd.func32, Tryd.ntmps32
  go_wp2_with fail
  refine (l01Split_any s 47 47 rfl _ hs).mono ?_
  rintro e w1 ⟨Aw, cw, rfl, ho, hb1⟩
  rw [← HW.out] at ho ⊢
  have hrt : RdT w1 Aw W.length cw W := ho.rd
  obtain ⟨b, off, rfl, hbl, hcell⟩ := hrt.at_ hp
  have a0 := hcell 0 hp
  rw [Nat.add_zero, ← HA.out] at a0
  have HCl := Lib.hid hcell
  have HB1 : Hid (Below w.heap.size w w1) := Lib.hid (bl_trans (by repeat (first | exact Below.refl _ _ | apply below_drewN | refine bl_alloc ?_ _)) hb1)
  have r0 := keep_cell hb1 (b := w.heap.size) (o := 0) (v := .int .i64 0) (by simp [go_sem])
  have r1 := keep_cell hb1 (b := w.heap.size) (o := 1) (v := .int .i64 0) (by simp [go_sem])
  have rf0 := keep_fr hb1 (b := w.heap.size) (o := 0) (v := .int .i64 0) (by simp [go_sem]) (by simp [go_sem])
  have rf1 := keep_fr hb1 (b := w.heap.size) (o := 1) (v := .int .i64 0) (by simp [go_sem]) (by simp [go_sem])
  have hcw : W.length ≤ cw := ho.2.1
  have hcm := ho.2.2.1
  unfold maxLen at hcm
  clear hb1 ho hrt hcell
  go_wp2_with fail
  refine (l01Signed_at HV.out HV1.out za _).mono ?_
  rintro e w2 ⟨rfl, hb2⟩
  have HB2 := Lib.hid (bl_trans HB1.out hb2)
  have R0 := keep_cell hb2 r0
  have R1 := keep_cell hb2 r1
  have RF0 := keep_fr hb2 r0 rf0
  have RF1 := keep_fr hb2 r1 rf1
  have HC2 : Hid (∀ i, i < W.length → w2.cell? ⟨b, off + i, none⟩ = some (.string (bs (W.getD i [])))) := Lib.hid (fun i hi => keep_cell hb2 (HCl.out i hi))
  clear hb2 r0 r1 rf0 rf1 a0
  go_upto_if 20 with fail
  go_cut [5, 7] (fun s5 s7 wx => s5 = .int .i64 n ∧ s7 = .int .i64 d ∧ Hid (Below w.heap.size w wx) ∧ Hid (wx.cell? ⟨w.heap.size, 0, none⟩ = some (.int .i64 0) ∧ wx.cell? ⟨w.heap.size, 1, none⟩ = some (.int .i64 0) ∧ wx.frozen? ⟨w.heap.size, 0, none⟩ = false ∧ wx.frozen? ⟨w.heap.size, 1, none⟩ = false))
  case first =>
    by_cases h1 : 1 < W.length
    · have HDt : Hid (d = d0) := Lib.hid (by rw [HDd.out, if_pos h1])
      have a1 := HC2.out 1 h1
      rw [← HB.out] at a1
      go_wp2_with fail
      refine (l01Value_at HV0.out HO0.out zb _).mono ?_
      rintro e w3 ⟨rfl, hb3⟩
      have HB3 := Lib.hid (bl_trans HB2.out hb3)
      have HR : Hid (w3.cell? ⟨w.heap.size, 0, none⟩ = some (.int .i64 0) ∧ w3.cell? ⟨w.heap.size, 1, none⟩ = some (.int .i64 0) ∧ w3.frozen? ⟨w.heap.size, 0, none⟩ = false ∧ w3.frozen? ⟨w.heap.size, 1, none⟩ = false) := Lib.hid ⟨keep_cell hb3 R0, keep_cell hb3 R1, keep_fr hb3 R0 RF0, keep_fr hb3 R1 RF1⟩
      clear hb3 R0 R1 RF0 RF1 a1
      go_wp2
      go_meet
      exact ⟨rfl, by rw [HDt.out], HB3, HR⟩
    · have HDt : Hid (d = 1) := Lib.hid (by rw [HDd.out, if_neg h1])
      go_wp2
      go_meet
      exact ⟨rfl, by rw [HDt.out], HB2, Lib.hid ⟨R0, R1, RF0, RF1⟩⟩
  case rest =>
    clear R0 R1 RF0 RF1 HC2 HB1 HB2 HCl
    obtain ⟨rfl, rfl, HBc, HR⟩ := hcut
    have ⟨r0, r1, rf0, rf1⟩ := HR.out
    have hlt := block_lt_of_cell r0
    have hne : ¬ wc.heap.size = w.heap.size := by omega
    clear HR
    by_cases hq : QOk n d
    · have H := Lib.hid hq
      obtain ⟨T, hT⟩ : ∃ T, T = bs (ratT n d) := ⟨_, rfl⟩
      have HTx := Lib.hid hT
      by_cases hts : T = s
      · have HF : Hid (N = n ∧ D = d ∧ C = 0) := Lib.hid (by
          have h : RrOk s.data.toList := by unfold RrOk; rw [HP.out]; exact ⟨hq, by rw [← hts, hT, bs_data]⟩
          have := rr_yes h
          rw [HP.out] at this
          rw [HN.out, HD.out, HC.out]; exact this)
        obtain ⟨rfl, rfl, rfl⟩ := HF.out
        have hb : (T.toList == s.toList) = true := by rw [hts]; simp
        have hb2 : (T.toList != s.toList) = false := by rw [hts]; simp
        clear hq hT hts
        go_wp2_with fail
        refine (specIsRational_yes _ _ H.out _).mono ?_
        rintro e w3 ⟨rfl, hb3⟩
        have HB3 : Hid (Below w.heap.size w w3) := Lib.hid (bl_trans (bl_alloc HBc.out _) hb3)
        have R0 := keep_cell hb3 (b := w.heap.size) (o := 0) (v := .int .i64 0) (by simp [go_sem, r0, hlt])
        have R1 := keep_cell hb3 (b := w.heap.size) (o := 1) (v := .int .i64 0) (by simp [go_sem, r1, hlt])
        have RF0 := keep_fr hb3 (b := w.heap.size) (o := 0) (v := .int .i64 0) (by simp [go_sem, r0, hlt]) (by simp [go_sem, rf0, hlt])
        have RF1 := keep_fr hb3 (b := w.heap.size) (o := 1) (v := .int .i64 0) (by simp [go_sem, r1, hlt]) (by simp [go_sem, rf1, hlt])
        have Q0 := keep_cell hb3 (b := wc.heap.size) (o := 0) (v := .int .i64 N) (by simp [go_sem])
        have Q1 := keep_cell hb3 (b := wc.heap.size) (o := 1) (v := .int .i64 D) (by simp [go_sem])
        clear hb3 r0 r1 rf0 rf1
        go_wp2_with fail
        refine (l05Text_at HTx.out H.out.b13.1 H.out.b13.2.1 H.out.b13.2.2 _).mono ?_
        rintro e w4 ⟨rfl, hb4⟩
        have HB4 := Lib.hid (bl_trans HB3.out hb4)
        have r0 := keep_cell hb4 R0
        have r1 := keep_cell hb4 R1
        have rf0 := keep_fr hb4 R0 RF0
        have rf1 := keep_fr hb4 R1 RF1
        have q0 := keep_cell hb4 Q0
        have q1 := keep_cell hb4 Q1
        clear hb4 R0 R1 RF0 RF1 Q0 Q1
        go_wp2
        exact bodyPost_ret (v := .tuple #[.agg #[.int .i64 N, .int .i64 D], .int .i64 0]) (by simp [results, Tryd.results32, go_sem, r0, r1]) rfl ⟨rfl, bl_set (bl_set HB4.out _ _ (Nat.le_refl _) _) _ _ (Nat.le_refl _) _⟩
      · have HF : Hid (N = 0 ∧ D = 0 ∧ C = 6) := Lib.hid (by
          have := rr_no (l := s.data.toList) (fun h => by
            unfold RrOk at h
            rw [HP.out] at h
            exact hts (by rw [hT, bs_of s]; exact congrArg bs h.2))
          rw [HN.out, HD.out, HC.out]; exact this)
        obtain ⟨rfl, rfl, rfl⟩ := HF.out
        have hb : (T.toList == s.toList) = false := by
          rw [beq_eq_false_iff_ne]
          intro e
          rw [ByteArray.toList_eq, ByteArray.toList_eq] at e
          exact hts (by rw [bs_of T, bs_of s, e])
        have hb2 : (T.toList != s.toList) = true := by rw [bne, hb]; rfl
        clear hq hT hts
        go_wp2_with fail
        refine (specIsRational_yes _ _ H.out _).mono ?_
        rintro e w3 ⟨rfl, hb3⟩
        have HB3 : Hid (Below w.heap.size w w3) := Lib.hid (bl_trans (bl_alloc HBc.out _) hb3)
        have R0 := keep_cell hb3 (b := w.heap.size) (o := 0) (v := .int .i64 0) (by simp [go_sem, r0, hlt])
        have R1 := keep_cell hb3 (b := w.heap.size) (o := 1) (v := .int .i64 0) (by simp [go_sem, r1, hlt])
        have RF0 := keep_fr hb3 (b := w.heap.size) (o := 0) (v := .int .i64 0) (by simp [go_sem, r0, hlt]) (by simp [go_sem, rf0, hlt])
        have RF1 := keep_fr hb3 (b := w.heap.size) (o := 1) (v := .int .i64 0) (by simp [go_sem, r1, hlt]) (by simp [go_sem, rf1, hlt])
        have Q0 := keep_cell hb3 (b := wc.heap.size) (o := 0) (v := .int .i64 n) (by simp [go_sem])
        have Q1 := keep_cell hb3 (b := wc.heap.size) (o := 1) (v := .int .i64 d) (by simp [go_sem])
        clear hb3 r0 r1 rf0 rf1
        go_wp2_with fail
        refine (l05Text_at HTx.out H.out.b13.1 H.out.b13.2.1 H.out.b13.2.2 _).mono ?_
        rintro e w4 ⟨rfl, hb4⟩
        have HB4 := Lib.hid (bl_trans HB3.out hb4)
        have r0 := keep_cell hb4 R0
        have r1 := keep_cell hb4 R1
        have rf0 := keep_fr hb4 R0 RF0
        have rf1 := keep_fr hb4 R1 RF1
        clear hb4 R0 R1 RF0 RF1 Q0 Q1
        go_wp2
        exact bodyPost_ret (v := .tuple #[.agg #[.int .i64 0, .int .i64 0], .int .i64 6]) (by simp [results, Tryd.results32, go_sem, r0, r1]) rfl ⟨rfl, bl_set (bl_set HB4.out _ _ (Nat.le_refl _) _) _ _ (Nat.le_refl _) _⟩
    · have H := Lib.hid hq
      have HF : Hid (N = 0 ∧ D = 0 ∧ C = 6) := Lib.hid (by
        have := rr_no (l := s.data.toList) (fun h => by
          unfold RrOk at h
          rw [HP.out] at h
          exact hq h.1)
        rw [HN.out, HD.out, HC.out]; exact this)
      obtain ⟨rfl, rfl, rfl⟩ := HF.out
      clear hq
      go_wp2_with fail
      refine (specIsRational_no _ _ H.out _).mono ?_
      rintro e w3 ⟨rfl, hb3⟩
      have HB3 : Hid (Below w.heap.size w w3) := Lib.hid (bl_trans (bl_alloc HBc.out _) hb3)
      have R0 := keep_cell hb3 (b := w.heap.size) (o := 0) (v := .int .i64 0) (by simp [go_sem, r0, hlt])
      have R1 := keep_cell hb3 (b := w.heap.size) (o := 1) (v := .int .i64 0) (by simp [go_sem, r1, hlt])
      have RF0 := keep_fr hb3 (b := w.heap.size) (o := 0) (v := .int .i64 0) (by simp [go_sem, r0, hlt]) (by simp [go_sem, rf0, hlt])
      have RF1 := keep_fr hb3 (b := w.heap.size) (o := 1) (v := .int .i64 0) (by simp [go_sem, r1, hlt]) (by simp [go_sem, rf1, hlt])
      clear hb3 r0 r1 rf0 rf1
      go_wp2
      exact bodyPost_ret (v := .tuple #[.agg #[.int .i64 0, .int .i64 0], .int .i64 6]) (by simp [results, Tryd.results32, go_sem, R0, R1]) rfl ⟨rfl, bl_set (bl_set HB3.out _ _ (Nat.le_refl _) _) _ _ (Nat.le_refl _) _⟩
end Go.Proofs.YtgajgonepcikbaaDoor
