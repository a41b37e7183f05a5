
/- A rational number's text read, by the program. -/
import Derived.Test.YtgajgonepcikbaaDoorRatT
import Derived.Test.YtgajgonepcikbaaDoorStr4
import Derived.Deep.CutBlock
import Derived.Deep.DeepCutAuto
namespace Go.Proofs.YtgajgonepcikbaaDoor
open Go.RowKit Go.Joins

/-- the text is a rational number's -/
def RrOk (l : List UInt8) : Prop := QOk (ratS l).1 (ratS l).2 ∧ ratT (ratS l).1 (ratS l).2 = l
instance (l : List UInt8) : Decidable (RrOk l) := by unfold RrOk; infer_instance
theorem QOk.one {n d : Int} (h : QOk n d) : 1 ≤ d := by
  obtain ⟨h1, h2, h3, _⟩ := h
  omega
theorem ratP_ok {l : List UInt8} : ((ratP l).2.1 = true ∧ QOk (ratP l).1 (ratP l).2.2 ∧ ratT (ratP l).1 (ratP l).2.2 = l) ↔ RrOk l := by
  constructor
  · rintro ⟨_, h2, h3⟩
    have e := ratS_text h2.b13.1 h2.b13.2.1 h2.one
    rw [h3] at e
    unfold RrOk
    rw [e]
    exact ⟨h2, h3⟩
  · rintro ⟨h2, h3⟩
    have e := ratP_text h2.b13.1 h2.b13.2.1
    rw [h3] at e
    rw [e]
    exact ⟨rfl, h2, h3⟩
theorem ratP_val {l : List UInt8} (h : RrOk l) : ratP l = ((ratS l).1, true, (ratS l).2) := by
  obtain ⟨h2, h3⟩ := h
  have e := ratP_text h2.b13.1 h2.b13.2.1
  rw [h3] at e
  exact e
/-- what ReadRational gives -/
def rrN (l : List UInt8) : Int := if RrOk l then (ratS l).1 else 0
def rrD (l : List UInt8) : Int := if RrOk l then (ratS l).2 else 0
def rrC (l : List UInt8) : Int := if RrOk l then 0 else 6
theorem rr_yes {l : List UInt8} (h : RrOk l) : rrN l = (ratS l).1 ∧ rrD l = (ratS l).2 ∧ rrC l = 0 := by
  unfold rrN rrD rrC; rw [if_pos h, if_pos h, if_pos h]; exact ⟨rfl, rfl, rfl⟩
theorem rr_no {l : List UInt8} (h : ¬ RrOk l) : rrN l = 0 ∧ rrD l = 0 ∧ rrC l = 6 := by
  unfold rrN rrD rrC; rw [if_neg h, if_neg h, if_neg h]; exact ⟨rfl, rfl, rfl⟩

theorem cut_le (l : List UInt8) (c : UInt8) : (Lib.cut l [c]).1.length ≤ l.length ∧ (Lib.cut l [c]).2.1.length ≤ l.length := by
  unfold Lib.cut
  split
  · simp only [List.length_take, List.length_drop]; omega
  · simp
theorem cut_at {s A B : ByteArray} {h : Bool} {c : UInt8} (hA : A = bs (Lib.cut s.data.toList [c]).1) (hB : B = bs (Lib.cut s.data.toList [c]).2.1) (hh : h = (Lib.cut s.data.toList [c]).2.2) (hs : s.size ≤ 1048576) (w : World) (hE : Er w) :
    Calls Tryd.prog 82 #[.string s, .string ⟨#[c]⟩] w fun e w' => e = .returned (.tuple #[.string A, .string B, .bool h]) ∧ ∃ n, w' = w.drewN n := by
  obtain ⟨m, hm⟩ := hE.2.2.2
  subst hA hB hh
  exact Tryd.strings_Cut s ⟨#[c]⟩ m w (by omega) hm
theorem Er.drewN {w : World} (h : Er w) (n : Nat) : Er (w.drewN n) := h.below (below_drewN (Below.refl _ _) n)

set_option maxRecDepth 100000 in
set_option maxHeartbeats 3200000 in
theorem implReadRational_at {s : ByteArray} {N D C : Int} (hN : N = rrN s.data.toList) (hD : D = rrD s.data.toList) (hC : C = rrC s.data.toList) (hs : s.size ≤ 1048576) (w : World) (hE : Er w) :
    Calls Tryd.prog 33 #[.string s] w fun e w' => e = .returned (.tuple #[.agg #[.int .i64 N, .int .i64 D], .int .i64 C]) ∧ Below w.heap.size w w' := by
  have HE := Lib.hid hE
  have HN := Lib.hid hN
  have HD := Lib.hid hD
  have HC := Lib.hid hC
  clear hE hN hD hC
  obtain ⟨A, hA⟩ : ∃ A, A = bs (Lib.cut s.data.toList [47]).1 := ⟨_, rfl⟩
  obtain ⟨B, hB⟩ : ∃ A, A = bs (Lib.cut s.data.toList [47]).2.1 := ⟨_, rfl⟩
  obtain ⟨has, hh⟩ : ∃ A, A = (Lib.cut s.data.toList [47]).2.2 := ⟨_, rfl⟩
  have za : A.size ≤ 1048576 := by rw [hA, bs_size]; have := (cut_le s.data.toList 47).1; rw [size_data] at this; omega
  have zb : B.size ≤ 1048576 := by rw [hB, bs_size]; have := (cut_le s.data.toList 47).2; rw [size_data] at this; omega
  obtain ⟨n, hn⟩ : ∃ n, n = rdV A.data.toList := ⟨_, rfl⟩
  obtain ⟨ok, hok⟩ : ∃ n, n = rdB A.data.toList := ⟨_, rfl⟩
  obtain ⟨d0, hd0⟩ : ∃ n, n = rdV B.data.toList := ⟨_, rfl⟩
  obtain ⟨d0b, hd0b⟩ : ∃ n, n = rdB B.data.toList := ⟨_, rfl⟩
  obtain ⟨d, hd⟩ : ∃ n : Int, n = if has = true then d0 else 1 := ⟨_, rfl⟩
  have HP : Hid (ratP s.data.toList = (n, ok, d)) := Lib.hid (by
    unfold ratP
    rw [hd, hn, hok, hd0, hh, hA, hB, bs_data, bs_data])
  have HA := Lib.hid hA
  have HB := Lib.hid hB
  have HH := Lib.hid hh
  have HV := Lib.hid hn
  have HO := Lib.hid hok
  have HV0 := Lib.hid hd0
  have HO0 := Lib.hid hd0b
  have HDd := Lib.hid hd
  clear hA hB hh hn hok hd0 hd0b hd
  go_enter Tryd.func33, Tryd.ntmps33
  go_wp2_with fail
  refine (cut_at HA.out HB.out HH.out hs _ (HE.out.below (bl_alloc (Below.refl _ _) _))).mono ?_
  rintro e w' ⟨rfl, nq, rfl⟩
  go_wp2_with fail
  refine (readDecimal_at HV.out HO.out za _ (HE.out.below (by repeat (first | exact Below.refl _ _ | apply below_drewN | refine bl_alloc ?_ _)))).mono ?_
  rintro e w1 ⟨rfl, hb1⟩
  have HB1 : Hid (Below w.heap.size w w1) := Lib.hid (bl_trans (by repeat (first | exact Below.refl _ _ | apply below_drewN | refine bl_alloc ?_ _)) hb1)
  have r0 := keep_cell hb1 (b := w.heap.size) (o := 0) (v := .int .i64 0) (by simp [go_sem])
  have r1 := keep_cell hb1 (b := w.heap.size) (o := 1) (v := .int .i64 0) (by simp [go_sem])
  have rf0 := keep_fr hb1 (b := w.heap.size) (o := 0) (v := .int .i64 0) (by simp [go_sem]) (by simp [go_sem])
  have rf1 := keep_fr hb1 (b := w.heap.size) (o := 1) (v := .int .i64 0) (by simp [go_sem]) (by simp [go_sem])
  have q0 := keep_cell hb1 (b := w.heap.size + 1) (o := 0) (v := .int .i64 0) (by simp [go_sem])
  have q1 := keep_cell hb1 (b := w.heap.size + 1) (o := 1) (v := .int .i64 1) (by simp [go_sem])
  have qf0 := keep_fr hb1 (b := w.heap.size + 1) (o := 0) (v := .int .i64 0) (by simp [go_sem]) (by simp [go_sem])
  have qf1 := keep_fr hb1 (b := w.heap.size + 1) (o := 1) (v := .int .i64 1) (by simp [go_sem]) (by simp [go_sem])
  clear hb1
  go_upto_if 22 with fail
  go_cut [7, 8] (fun s7 s8 wx => s7 = .pointer (some ⟨w.heap.size + 1, 0, none⟩) ∧ s8 = .bool ok ∧ Hid (Below w.heap.size w wx) ∧ Hid (wx.cell? ⟨w.heap.size, 0, none⟩ = some (.int .i64 0) ∧ wx.cell? ⟨w.heap.size, 1, none⟩ = some (.int .i64 0) ∧ wx.frozen? ⟨w.heap.size, 0, none⟩ = false ∧ wx.frozen? ⟨w.heap.size, 1, none⟩ = false) ∧ Hid (wx.cell? ⟨w.heap.size + 1, 0, none⟩ = some (.int .i64 n) ∧ wx.cell? ⟨w.heap.size + 1, 1, none⟩ = some (.int .i64 d)))
  case first =>
    have HBs : Hid (Below w.heap.size w (w1.setCell ⟨w.heap.size + 1, 0, none⟩ (.int .i64 n))) := Lib.hid (bl_set HB1.out _ _ (Nat.le_succ _) _)
    cases has with
    | true =>
      have HDt : Hid (d = d0) := Lib.hid (by rw [HDd.out, if_pos rfl])
      go_wp2_with fail
      refine (readDecimal_at HV0.out HO0.out zb _ (HE.out.below HBs.out)).mono ?_
      rintro e w2 ⟨rfl, hb2⟩
      have HB2 : Hid (Below w.heap.size w w2) := Lib.hid (bl_trans HBs.out hb2)
      have R0 := keep_cell hb2 (b := w.heap.size) (o := 0) (v := .int .i64 0) (by simp [go_sem, r0])
      have R1 := keep_cell hb2 (b := w.heap.size) (o := 1) (v := .int .i64 0) (by simp [go_sem, r1])
      have RF0 := keep_fr hb2 (b := w.heap.size) (o := 0) (v := .int .i64 0) (by simp [go_sem, r0]) (by simp [go_sem, rf0])
      have RF1 := keep_fr hb2 (b := w.heap.size) (o := 1) (v := .int .i64 0) (by simp [go_sem, r1]) (by simp [go_sem, rf1])
      have Q0 := keep_cell hb2 (b := w.heap.size + 1) (o := 0) (v := .int .i64 n) (by simp [go_sem, q0])
      have Q1 := keep_cell hb2 (b := w.heap.size + 1) (o := 1) (v := .int .i64 1) (by simp [go_sem, q1])
      have QF1 := keep_fr hb2 (b := w.heap.size + 1) (o := 1) (v := .int .i64 1) (by simp [go_sem, q1]) (by simp [go_sem, qf1])
      clear hb2 r0 r1 rf0 rf1 q0 q1 qf0 qf1
      go_wp2
      go_meet
      exact ⟨rfl, rfl, Lib.hid (bl_set HB2.out _ _ (Nat.le_succ _) _), Lib.hid ⟨by simp [go_sem, R0], by simp [go_sem, R1], by simp [go_sem, RF0], by simp [go_sem, RF1]⟩, Lib.hid ⟨by simp [go_sem, Q0], by simp [go_sem, Q1, HDt.out]⟩⟩
    | false =>
      have HDt : Hid (d = 1) := Lib.hid (by rw [HDd.out, if_neg (by simp)])
      go_wp2
      go_meet
      exact ⟨rfl, rfl, HBs, Lib.hid ⟨by simp [go_sem, r0], by simp [go_sem, r1], by simp [go_sem, rf0], by simp [go_sem, rf1]⟩, Lib.hid ⟨by simp [go_sem, q0], by simp [go_sem, q1, HDt.out]⟩⟩
  case rest =>
    clear r0 r1 rf0 rf1 q0 q1 qf0 qf1 HB1
    obtain ⟨rfl, rfl, HBc, HR, HQ⟩ := hcut
    have ⟨r0, r1, rf0, rf1⟩ := HR.out
    have ⟨q0, q1⟩ := HQ.out
    clear HR HQ
    cases ok with
    | false =>
      have HF : Hid (N = 0 ∧ D = 0 ∧ C = 6) := Lib.hid (by
        have := rr_no (l := s.data.toList) (fun h => by have e := ratP_val h; rw [HP.out] at e; simp at e)
        rw [HN.out, HD.out, HC.out]; exact this)
      obtain ⟨rfl, rfl, rfl⟩ := HF.out
      go_wp2
      exact bodyPost_ret (v := .tuple #[.agg #[.int .i64 0, .int .i64 0], .int .i64 6]) (by simp [results, Tryd.results33, go_sem, r0, r1]) rfl ⟨rfl, bl_set (bl_set HBc.out _ _ (Nat.le_refl _) _) _ _ (Nat.le_refl _) _⟩
    | true =>
      by_cases hq : QOk n d
      · have H := Lib.hid hq
        obtain ⟨T, hT⟩ : ∃ T, T = bs (ratT n d) := ⟨_, rfl⟩
        have HTx := Lib.hid hT
        by_cases hts : T = s
        · have HF : Hid (N = n ∧ D = d ∧ C = 0) := Lib.hid (by
            have h : RrOk s.data.toList := ratP_ok.1 (by rw [HP.out]; exact ⟨rfl, hq, by rw [← hts, hT, bs_data]⟩)
            have e := ratP_val h
            rw [HP.out] at e
            simp at e
            have := rr_yes h
            rw [HN.out, HD.out, HC.out, e.1, e.2]; exact this)
          obtain ⟨rfl, rfl, rfl⟩ := HF.out
          have hb : (T.toList == s.toList) = true := by rw [hts]; simp
          have hb2 : (T.toList != s.toList) = false := by rw [hts]; simp
          clear hq hT hts
          go_wp2_with fail
          refine (implIsRational_yes _ _ H.out _).mono ?_
          rintro e w3 ⟨rfl, hb3⟩
          have HB3 := Lib.hid (bl_trans HBc.out hb3)
          have R0 := keep_cell hb3 r0
          have R1 := keep_cell hb3 r1
          have RF0 := keep_fr hb3 r0 rf0
          have RF1 := keep_fr hb3 r1 rf1
          have Q0 := keep_cell hb3 q0
          have Q1 := keep_cell hb3 q1
          clear hb3 r0 r1 rf0 rf1 q0 q1
          go_wp2_with fail
          refine (rationalText_at HTx.out H.out.b13.1 H.out.b13.2.1 _ (HE.out.below HB3.out).1).mono ?_
          rintro e w4 ⟨rfl, hb4⟩
          have HB4 := Lib.hid (bl_trans HB3.out hb4)
          have r0 := keep_cell hb4 R0
          have r1 := keep_cell hb4 R1
          have rf0 := keep_fr hb4 R0 RF0
          have rf1 := keep_fr hb4 R1 RF1
          have q0 := keep_cell hb4 Q0
          have q1 := keep_cell hb4 Q1
          clear hb4 R0 R1 RF0 RF1 Q0 Q1
          go_wp2
          exact bodyPost_ret (v := .tuple #[.agg #[.int .i64 N, .int .i64 D], .int .i64 0]) (by simp [results, Tryd.results33, go_sem, r0, r1]) rfl ⟨rfl, bl_set (bl_set HB4.out _ _ (Nat.le_refl _) _) _ _ (Nat.le_refl _) _⟩
        · have HF : Hid (N = 0 ∧ D = 0 ∧ C = 6) := Lib.hid (by
            have := rr_no (l := s.data.toList) (fun h => by
              have e := ratP_ok.2 h
              rw [HP.out] at e
              exact hts (by rw [hT, bs_of s]; exact congrArg bs e.2.2))
            rw [HN.out, HD.out, HC.out]; exact this)
          obtain ⟨rfl, rfl, rfl⟩ := HF.out
          have hb : (T.toList == s.toList) = false := by
            rw [beq_eq_false_iff_ne]
            intro e
            rw [ByteArray.toList_eq, ByteArray.toList_eq] at e
            exact hts (by rw [bs_of T, bs_of s, e])
          have hb2 : (T.toList != s.toList) = true := by rw [bne, hb]; rfl
          clear hq hT hts
          go_wp2_with fail
          refine (implIsRational_yes _ _ H.out _).mono ?_
          rintro e w3 ⟨rfl, hb3⟩
          have HB3 := Lib.hid (bl_trans HBc.out hb3)
          have R0 := keep_cell hb3 r0
          have R1 := keep_cell hb3 r1
          have RF0 := keep_fr hb3 r0 rf0
          have RF1 := keep_fr hb3 r1 rf1
          have Q0 := keep_cell hb3 q0
          have Q1 := keep_cell hb3 q1
          clear hb3 r0 r1 rf0 rf1 q0 q1
          go_wp2_with fail
          refine (rationalText_at HTx.out H.out.b13.1 H.out.b13.2.1 _ (HE.out.below HB3.out).1).mono ?_
          rintro e w4 ⟨rfl, hb4⟩
          have HB4 := Lib.hid (bl_trans HB3.out hb4)
          have r0 := keep_cell hb4 R0
          have r1 := keep_cell hb4 R1
          have rf0 := keep_fr hb4 R0 RF0
          have rf1 := keep_fr hb4 R1 RF1
          clear hb4 R0 R1 RF0 RF1 Q0 Q1
          go_wp2
          exact bodyPost_ret (v := .tuple #[.agg #[.int .i64 0, .int .i64 0], .int .i64 6]) (by simp [results, Tryd.results33, go_sem, r0, r1]) rfl ⟨rfl, bl_set (bl_set HB4.out _ _ (Nat.le_refl _) _) _ _ (Nat.le_refl _) _⟩
      · have H := Lib.hid hq
        have HF : Hid (N = 0 ∧ D = 0 ∧ C = 6) := Lib.hid (by
          have := rr_no (l := s.data.toList) (fun h => by
            have e := ratP_ok.2 h
            rw [HP.out] at e
            exact hq e.2.1)
          rw [HN.out, HD.out, HC.out]; exact this)
        obtain ⟨rfl, rfl, rfl⟩ := HF.out
        clear hq
        go_wp2_with fail
        refine (implIsRational_no _ _ H.out _).mono ?_
        rintro e w3 ⟨rfl, hb3⟩
        have HB3 := Lib.hid (bl_trans HBc.out hb3)
        have R0 := keep_cell hb3 r0
        have R1 := keep_cell hb3 r1
        have RF0 := keep_fr hb3 r0 rf0
        have RF1 := keep_fr hb3 r1 rf1
        clear hb3 r0 r1 rf0 rf1 q0 q1
        go_wp2
        exact bodyPost_ret (v := .tuple #[.agg #[.int .i64 0, .int .i64 0], .int .i64 6]) (by simp [results, Tryd.results33, go_sem, R0, R1]) rfl ⟨rfl, bl_set (bl_set HB3.out _ _ (Nat.le_refl _) _) _ _ (Nat.le_refl _) _⟩
end Go.Proofs.YtgajgonepcikbaaDoor
