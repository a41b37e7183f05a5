
/- The walks of a rational number's text. -/
import Derived.Test.YtgajgonepcikbaaDoorStr3
import Derived.Test.YtgajgonepcikbaaDoorRat
import Derived.Test.YtgajgonepcikbaaDoorTxt2
import Derived.Deep.RegionHeld3
namespace Go.Proofs.YtgajgonepcikbaaDoor
open Go.RowKit Go.Joins

theorem decimal_at {n : Int} {D : ByteArray} (hD : D = bs (Lib.itoa n)) (w : World) (h0 : -9223372036854775808 ≤ n) (h1 : n ≤ 9223372036854775807) (hT : Tb w) :
    Calls Tryd.prog 109 #[.int .i64 n] w fun e w' => e = .returned (.string D) ∧ Below w.heap.size w w' := by
  subst hD; exact decimal_any n h0 h1 w hT
theorem bs47 : (⟨#[47]⟩ : ByteArray) = bs [47] := rfl

set_option maxRecDepth 100000 in
set_option maxHeartbeats 1600000 in
theorem rationalText_at {n d : Int} {T : ByteArray} (hTx : T = bs (ratT n d)) (hn : B13 n) (hd : B13 d) (w : World) (hT : Tb w) :
    Calls Tryd.prog 62 #[.agg #[.int .i64 n, .int .i64 d]] w fun e w' => e = .returned (.string T) ∧ Below w.heap.size w w' := by
  have HT := Lib.hid hT
  clear hT
  obtain ⟨n1, n2⟩ := hn
  obtain ⟨d1, d2⟩ := hd
  obtain ⟨D1, hD1⟩ : ∃ D, D = bs (Lib.itoa n) := ⟨_, rfl⟩
  have HD1 := Lib.hid hD1
  by_cases h1 : d = 1
  · have HTx : Hid (T = D1) := Lib.hid (by rw [hTx, hD1]; unfold ratT; rw [if_pos h1])
    have hb : (d == 1) = true := by simpa using h1
    clear hTx h1 hD1
    go_enter Tryd.func62, Tryd.ntmps62
    go_wp2_with fail
    refine (decimal_at HD1.out _ (by omega) (by omega) (HT.out.below (bl_alloc (Below.refl _ _) _))).mono ?_
    rintro e w1 ⟨rfl, hb1⟩
    have HB1 : Hid (Below w.heap.size w w1) := Lib.hid (bl_trans (bl_alloc (Below.refl _ _) _) hb1)
    clear hb1
    go_wp2
    go_ret
    exact ⟨by rw [HTx.out]; rfl, HB1.out⟩
  · have hb : (d == 1) = false := by simpa using h1
    obtain ⟨D2, hD2⟩ : ∃ D, D = bs (Lib.itoa d) := ⟨_, rfl⟩
    have HD2 := Lib.hid hD2
    have z1 : D1.size ≤ 21 := by rw [hD1, bs_size]; exact itoa_len (by omega) (by omega)
    have z2 : D2.size ≤ 21 := by rw [hD2, bs_size]; exact itoa_len (by omega) (by omega)
    have HTx : Hid (T = D1 ++ ⟨#[47]⟩ ++ D2) := Lib.hid (by rw [hTx, hD1, hD2, bs47, bs_app, bs_app]; unfold ratT; rw [if_neg h1]; simp)
    have y1 : ¬ D1.size + 1 > 9223372036854775807 := by omega
    have y2 : ¬ D1.size + 1 + D2.size > 9223372036854775807 := by omega
    clear hTx h1 hD1 hD2
    go_enter Tryd.func62, Tryd.ntmps62
    go_wp2_with fail
    go_region_held3 (fun w' => w'.cell? ⟨w.heap.size, 0, none⟩ = some (.int .i64 n) ∧ w'.cell? ⟨w.heap.size, 1, none⟩ = some (.int .i64 d)) (first | go_keep | exact ⟨hk2 0 _ (hk1 0 _ (by simp)), hk2 1 _ (hk1 1 _ (by simp))⟩ | exact ⟨hk1 0 _ (by simp), hk1 1 _ (by simp)⟩) (first | (go_at_call 109; ((with_reducible refine (decimal_at HD1.out _ (by omega) (by omega) (HT.out.below (by repeat (first | exact HBx.out | exact Below.refl _ _ | apply Below.drew | apply below_drewN | refine bl_alloc ?_ _)))).mono ?_); rintro e wc ⟨rfl, hbc⟩; have HBx : Hid (Below w.heap.size w wc) := Lib.hid (bl_trans (by repeat (first | exact HBx.out | exact Below.refl _ _ | apply Below.drew | apply below_drewN | refine bl_alloc ?_ _)) hbc); have hk1 := fun o v h => keep_cell (b := w.heap.size) (o := o) (v := v) hbc h; clear hbc)) | (go_at_call 109; ((with_reducible refine (decimal_at HD2.out _ (by omega) (by omega) (HT.out.below (by repeat (first | exact HBx.out | exact Below.refl _ _ | apply Below.drew | apply below_drewN | refine bl_alloc ?_ _)))).mono ?_); rintro e wc2 ⟨rfl, hbc⟩; have HBy : Hid (Below w.heap.size w wc2) := Lib.hid (bl_trans (by repeat (first | exact HBx.out | exact Below.refl _ _ | apply Below.drew | apply below_drewN | refine bl_alloc ?_ _)) hbc); have hk2 := fun o v h => keep_cell (b := w.heap.size) (o := o) (v := v) hbc h; clear hbc)))
    go_wp2
    go_ret
    exact ⟨by rw [HTx.out]; rfl, HBy.out⟩
set_option maxRecDepth 100000 in
set_option maxHeartbeats 1600000 in
theorem l05Text_at {n d : Int} {T : ByteArray} (hTx : T = bs (ratT n d)) (hn : B13 n) (hd : B13 d) (hd0 : 0 ≤ d) (w : World) :
    Calls Tryd.prog 60 #[.agg #[.int .i64 n, .int .i64 d]] w fun e w' => e = .returned (.string T) ∧ Below w.heap.size w w' := by
  obtain ⟨n1, n2⟩ := hn
  obtain ⟨d1, d2⟩ := hd
  obtain ⟨D1, hD1⟩ : ∃ D, D = bs (Lib.itoa n) := ⟨_, rfl⟩
  have HD1 := Lib.hid hD1
  by_cases h1 : d = 1
  · have HTx : Hid (T = D1) := Lib.hid (by rw [hTx, hD1]; unfold ratT; rw [if_pos h1])
    have hb : (d == 1) = true := by simpa using h1
    clear hTx h1 hD1
    go_enter Tryd.func60, Tryd.ntmps60
    go_wp2_with fail
    refine (l01Number_at HD1.out _ (by omega) (by omega) ).mono ?_
    rintro e w1 ⟨rfl, hb1⟩
    have HB1 : Hid (Below w.heap.size w w1) := Lib.hid (bl_trans (bl_alloc (Below.refl _ _) _) hb1)
    clear hb1
    go_wp2
    go_ret
    exact ⟨by rw [HTx.out]; rfl, HB1.out⟩
  · have hb : (d == 1) = false := by simpa using h1
    obtain ⟨D2, hD2⟩ : ∃ D, D = bs (Lib.decDigits d.toNat) := ⟨_, rfl⟩
    have HD2 := Lib.hid hD2
    have z1 : D1.size ≤ 21 := by rw [hD1, bs_size]; exact itoa_len (by omega) (by omega)
    have z2 : D2.size ≤ 21 := by rw [hD2, bs_size]; have := dec_len20 (n := d) (by omega); omega
    have HTx : Hid (T = D1 ++ ⟨#[47]⟩ ++ D2) := Lib.hid (by rw [hTx, hD1, hD2, bs47, bs_app, bs_app]; unfold ratT; rw [if_neg h1, show Lib.itoa d = Lib.decDigits d.toNat by unfold Lib.itoa; rw [if_neg (by omega)]]; simp)
    have y1 : ¬ D1.size + 1 > 9223372036854775807 := by omega
    have y2 : ¬ D1.size + 1 + D2.size > 9223372036854775807 := by omega
    clear hTx h1 hD1 hD2
    go_enter Tryd.func60, Tryd.ntmps60
    go_wp2_with fail
    go_region_held3 (fun w' => w'.cell? ⟨w.heap.size, 0, none⟩ = some (.int .i64 n) ∧ w'.cell? ⟨w.heap.size, 1, none⟩ = some (.int .i64 d)) (first | go_keep | exact ⟨hk2 0 _ (hk1 0 _ (by simp)), hk2 1 _ (hk1 1 _ (by simp))⟩ | exact ⟨hk1 0 _ (by simp), hk1 1 _ (by simp)⟩) (first | (go_at_call 105; ((with_reducible refine (l01Number_at HD1.out _ (by omega) (by omega) ).mono ?_); rintro e wc ⟨rfl, hbc⟩; have HBx : Hid (Below w.heap.size w wc) := Lib.hid (bl_trans (by repeat (first | exact HBx.out | exact Below.refl _ _ | apply Below.drew | apply below_drewN | refine bl_alloc ?_ _)) hbc); have hk1 := fun o v h => keep_cell (b := w.heap.size) (o := o) (v := v) hbc h; clear hbc)) | (go_at_call 106; ((with_reducible refine (l01Dec_at HD2.out _ (by omega) (by omega) ).mono ?_); rintro e wc2 ⟨rfl, hbc⟩; have HBy : Hid (Below w.heap.size w wc2) := Lib.hid (bl_trans (by repeat (first | exact HBx.out | exact Below.refl _ _ | apply Below.drew | apply below_drewN | refine bl_alloc ?_ _)) hbc); have hk2 := fun o v h => keep_cell (b := w.heap.size) (o := o) (v := v) hbc h; clear hbc)))
    go_wp2
    go_ret
    exact ⟨by rw [HTx.out]; rfl, HBy.out⟩
instance (n d : Int) : Decidable (QOk n d) := by unfold QOk V; infer_instance
/-- what RationalText gives -/
def rtB (n d : Int) : Bool := decide (QOk n d)
def rtT (n d : Int) : ByteArray := if rtB n d = true then bs (ratT n d) else ⟨#[]⟩
def rtC (n d : Int) : Int := if rtB n d = true then 0 else 1
theorem QOk.b13 {n d : Int} (h : QOk n d) : B13 n ∧ B13 d ∧ 0 ≤ d := by
  obtain ⟨h1, h2, h3, _⟩ := h
  unfold V at h1
  unfold B13
  omega

set_option maxHeartbeats 800000 in
theorem implRationalText_at {n d : Int} {T : ByteArray} {C : Int} (hTx : T = rtT n d) (hC : C = rtC n d) (w : World) (hT : Tb w) :
    Calls Tryd.prog 17 #[.agg #[.int .i64 n, .int .i64 d]] w fun e w' => e = .returned (.tuple #[.string T, .int .i64 C]) ∧ Below w.heap.size w w' := by
  have HT := Lib.hid hT
  clear hT
  by_cases h : QOk n d
  · have H := Lib.hid h
    have HE : Hid (T = bs (ratT n d) ∧ C = 0) := Lib.hid (by rw [hTx, hC]; unfold rtT rtC rtB; rw [if_pos (decide_eq_true h), if_pos (decide_eq_true h)]; exact ⟨rfl, rfl⟩)
    have HC : Hid (C = 0) := Lib.hid HE.out.2
    clear h hTx hC
    obtain rfl := HC.out
    clear HC
    go_enter Tryd.func17, Tryd.ntmps17
    go_wp2_with fail
    refine (implIsRational_yes _ _ H.out _).mono ?_
    rintro e w1 ⟨rfl, hb1⟩
    have q0 : w1.cell? ⟨w.heap.size, 0, none⟩ = some (.int .i64 n) := keep_cell hb1 (by simp)
    have q1 : w1.cell? ⟨w.heap.size, 1, none⟩ = some (.int .i64 d) := keep_cell hb1 (by simp)
    have HB1 : Hid (Below w.heap.size w w1) := Lib.hid (bl_trans (bl_alloc (Below.refl _ _) _) hb1)
    clear hb1
    go_wp2_with fail
    refine (rationalText_at HE.out.1 H.out.b13.1 H.out.b13.2.1 _ (HT.out.below HB1.out)).mono ?_
    rintro e w2 ⟨rfl, hb2⟩
    have HB2 : Hid (Below w.heap.size w w2) := Lib.hid (bl_trans HB1.out hb2)
    clear hb2
    go_wp2
    go_ret2
    exact ⟨rfl, HB2.out⟩
  · have H := Lib.hid h
    have HE : Hid (T = ⟨#[]⟩ ∧ C = 1) := Lib.hid (by rw [hTx, hC]; unfold rtT rtC rtB; rw [if_neg (by rw [decide_eq_false h]; simp), if_neg (by rw [decide_eq_false h]; simp)]; exact ⟨rfl, rfl⟩)
    obtain ⟨rfl, rfl⟩ := HE.out
    clear h hTx hC HE
    go_enter Tryd.func17, Tryd.ntmps17
    go_wp2_with fail
    refine (implIsRational_no _ _ H.out _).mono ?_
    rintro e w1 ⟨rfl, hb1⟩
    have q0 : w1.cell? ⟨w.heap.size, 0, none⟩ = some (.int .i64 n) := keep_cell hb1 (by simp)
    have q1 : w1.cell? ⟨w.heap.size, 1, none⟩ = some (.int .i64 d) := keep_cell hb1 (by simp)
    have HB1 : Hid (Below w.heap.size w w1) := Lib.hid (bl_trans (bl_alloc (Below.refl _ _) _) hb1)
    clear hb1
    go_wp2
    go_ret2
    exact ⟨rfl, HB1.out⟩

set_option maxHeartbeats 800000 in
theorem specRationalText_at {n d : Int} {T : ByteArray} {C : Int} (hTx : T = rtT n d) (hC : C = rtC n d) (w : World) :
    Calls Tryd.prog 15 #[.agg #[.int .i64 n, .int .i64 d]] w fun e w' => e = .returned (.tuple #[.string T, .int .i64 C]) ∧ Below w.heap.size w w' := by
  by_cases h : QOk n d
  · have H := Lib.hid h
    have HE : Hid (T = bs (ratT n d) ∧ C = 0) := Lib.hid (by rw [hTx, hC]; unfold rtT rtC rtB; rw [if_pos (decide_eq_true h), if_pos (decide_eq_true h)]; exact ⟨rfl, rfl⟩)
    have HC : Hid (C = 0) := Lib.hid HE.out.2
    clear h hTx hC
    obtain rfl := HC.out
    clear HC
    go_enter Tryd.func15, Tryd.ntmps15
    go_wp2_with fail
    refine (specIsRational_yes _ _ H.out _).mono ?_
    rintro e w1 ⟨rfl, hb1⟩
    have q0 : w1.cell? ⟨w.heap.size, 0, none⟩ = some (.int .i64 n) := keep_cell hb1 (by simp)
    have q1 : w1.cell? ⟨w.heap.size, 1, none⟩ = some (.int .i64 d) := keep_cell hb1 (by simp)
    have HB1 : Hid (Below w.heap.size w w1) := Lib.hid (bl_trans (bl_alloc (Below.refl _ _) _) hb1)
    clear hb1
    go_wp2_with fail
    refine (l05Text_at HE.out.1 H.out.b13.1 H.out.b13.2.1 H.out.b13.2.2 _).mono ?_
    rintro e w2 ⟨rfl, hb2⟩
    have HB2 : Hid (Below w.heap.size w w2) := Lib.hid (bl_trans HB1.out hb2)
    clear hb2
    go_wp2
    go_ret2
    exact ⟨rfl, HB2.out⟩
  · have H := Lib.hid h
    have HE : Hid (T = ⟨#[]⟩ ∧ C = 1) := Lib.hid (by rw [hTx, hC]; unfold rtT rtC rtB; rw [if_neg (by rw [decide_eq_false h]; simp), if_neg (by rw [decide_eq_false h]; simp)]; exact ⟨rfl, rfl⟩)
    obtain ⟨rfl, rfl⟩ := HE.out
    clear h hTx hC HE
    go_enter Tryd.func15, Tryd.ntmps15
    go_wp2_with fail
    refine (specIsRational_no _ _ H.out _).mono ?_
    rintro e w1 ⟨rfl, hb1⟩
    have q0 : w1.cell? ⟨w.heap.size, 0, none⟩ = some (.int .i64 n) := keep_cell hb1 (by simp)
    have q1 : w1.cell? ⟨w.heap.size, 1, none⟩ = some (.int .i64 d) := keep_cell hb1 (by simp)
    have HB1 : Hid (Below w.heap.size w w1) := Lib.hid (bl_trans (bl_alloc (Below.refl _ _) _) hb1)
    clear hb1
    go_wp2
    go_ret2
    exact ⟨rfl, HB1.out⟩
end Go.Proofs.YtgajgonepcikbaaDoor
