
/- The walks of MakeRational, and of the laws over IsRational and MakeRational. -/
import Derived.Test.YthdmanngjnfamaaRatMake
import Derived.Test.YthdmanngjnfamaaRatEq
namespace Go.Proofs.Ythdmanngjnfamaa
open Go.RowKit


theorem specMakeRational_no (num den : Int) (h : ¬ (V num ∧ V den)) (w : World) :
    Calls Try.prog 25 #[.int .i64 num, .int .i64 den] w fun e w' => e = .returned (.tuple #[.agg #[.int .i64 0, .int .i64 0], .int .i64 2]) ∧ Below w.heap.size w w' := by
  by_cases ha : V num
  · have hb := V_dec (fun hb => h ⟨ha, hb⟩)
    obtain ⟨ha1, ha2⟩ := ha
    clear h
    go_enter Try.func25, Try.ntmps25
    go_wp2_with (first | (go_at_call 85; refine (l01Is_any _ _).mono ?_; rintro e w' ⟨rfl, rfl⟩))
    exact bodyPost_ret (v := .tuple #[.agg #[.int .i64 0, .int .i64 0], .int .i64 2]) (by simp [results, Try.results25, go_sem]) rfl ⟨rfl, bl_alloc (Below.refl _ _) _⟩
  · have ha2 := V_dec ha
    clear h ha
    go_enter Try.func25, Try.ntmps25
    go_wp2_with (first | (go_at_call 85; refine (l01Is_any _ _).mono ?_; rintro e w' ⟨rfl, rfl⟩))
    exact bodyPost_ret (v := .tuple #[.agg #[.int .i64 0, .int .i64 0], .int .i64 2]) (by simp [results, Try.results25, go_sem]) rfl ⟨rfl, bl_alloc (Below.refl _ _) _⟩
theorem specMakeRational_zero (num : Int) (hn : V num) (w : World) :
    Calls Try.prog 25 #[.int .i64 num, .int .i64 0] w fun e w' => e = .returned (.tuple #[.agg #[.int .i64 0, .int .i64 0], .int .i64 5]) ∧ Below w.heap.size w w' := by
  obtain ⟨ha1, ha2⟩ := hn
  go_enter Try.func25, Try.ntmps25
  go_wp2_with (first | (go_at_call 85; refine (l01Is_any _ _).mono ?_; rintro e w' ⟨rfl, rfl⟩))
  exact bodyPost_ret (v := .tuple #[.agg #[.int .i64 0, .int .i64 0], .int .i64 5]) (by simp [results, Try.results25, go_sem]) rfl ⟨rfl, bl_alloc (Below.refl _ _) _⟩
theorem specMakeRational_yes (num den : Int) (hn : V num) (hd : V den) (h0 : ¬ den = 0) (w : World) :
    Calls Try.prog 25 #[.int .i64 num, .int .i64 den] w fun e w' => e = .returned (.tuple #[.agg #[.int .i64 (rdN num den), .int .i64 (rdD num den)], .int .i64 0]) ∧ Below w.heap.size w w' := by
  have HN := Lib.hid hn
  have HD := Lib.hid hd
  have HZ := Lib.hid h0
  have hz : (den == 0) = false := by simpa using h0
  obtain ⟨n1, n2⟩ := hn
  obtain ⟨d1, d2⟩ := hd
  clear h0
  go_enter Try.func25, Try.ntmps25
  go_wp2_with (first | (go_at_call 85; refine (l01Is_any _ _).mono ?_; rintro e w' ⟨rfl, rfl⟩))
  refine (l05Make_yes _ _ HN.out.wd HD.out.wd HZ.out (rd_ok HN.out HD.out HZ.out) _).mono ?_
  rintro e w1 ⟨rfl, hb1⟩
  have c0 := keep_cell hb1 (b := w.heap.size) (o := 0) (v := .int .i64 0) (by simp [go_sem])
  have c1 := keep_cell hb1 (b := w.heap.size) (o := 1) (v := .int .i64 0) (by simp [go_sem])
  have f0 := keep_fr hb1 (b := w.heap.size) (o := 0) (v := .int .i64 0) (by simp [go_sem]) (by simp [go_sem])
  have f1 := keep_fr hb1 (b := w.heap.size) (o := 1) (v := .int .i64 0) (by simp [go_sem]) (by simp [go_sem])
  have hb2 : Below w.heap.size w w1 := bl_trans (bl_alloc (Below.refl _ _) _) hb1
  go_wp2
  exact bodyPost_ret (v := .tuple #[.agg #[.int .i64 (rdN num den), .int .i64 (rdD num den)], .int .i64 0]) (by simp [results, Try.results25, go_sem, c0, c1]) rfl ⟨rfl, bl_set (bl_set hb2 _ _ (Nat.le_refl _) _) _ _ (Nat.le_refl _) _⟩


theorem implMakeRational_no (num den : Int) (h : ¬ (V num ∧ V den)) (w : World) :
    Calls Try.prog 24 #[.int .i64 num, .int .i64 den] w fun e w' => e = .returned (.tuple #[.agg #[.int .i64 0, .int .i64 0], .int .i64 2]) ∧ Below w.heap.size w w' := by
  by_cases ha : V num
  · have hb := V_dec (fun hb => h ⟨ha, hb⟩)
    obtain ⟨ha1, ha2⟩ := ha
    clear h
    go_enter Try.func24, Try.ntmps24
    go_wp2_with (first | (go_at_call 84; refine (isValue_any _ _).mono ?_; rintro e w' ⟨rfl, rfl⟩))
    exact bodyPost_ret (v := .tuple #[.agg #[.int .i64 0, .int .i64 0], .int .i64 2]) (by simp [results, Try.results24, go_sem]) rfl ⟨rfl, bl_alloc (Below.refl _ _) _⟩
  · have ha2 := V_dec ha
    clear h ha
    go_enter Try.func24, Try.ntmps24
    go_wp2_with (first | (go_at_call 84; refine (isValue_any _ _).mono ?_; rintro e w' ⟨rfl, rfl⟩))
    exact bodyPost_ret (v := .tuple #[.agg #[.int .i64 0, .int .i64 0], .int .i64 2]) (by simp [results, Try.results24, go_sem]) rfl ⟨rfl, bl_alloc (Below.refl _ _) _⟩
theorem implMakeRational_zero (num : Int) (hn : V num) (w : World) :
    Calls Try.prog 24 #[.int .i64 num, .int .i64 0] w fun e w' => e = .returned (.tuple #[.agg #[.int .i64 0, .int .i64 0], .int .i64 5]) ∧ Below w.heap.size w w' := by
  obtain ⟨ha1, ha2⟩ := hn
  go_enter Try.func24, Try.ntmps24
  go_wp2_with (first | (go_at_call 84; refine (isValue_any _ _).mono ?_; rintro e w' ⟨rfl, rfl⟩))
  exact bodyPost_ret (v := .tuple #[.agg #[.int .i64 0, .int .i64 0], .int .i64 5]) (by simp [results, Try.results24, go_sem]) rfl ⟨rfl, bl_alloc (Below.refl _ _) _⟩
theorem implMakeRational_yes (num den : Int) (hn : V num) (hd : V den) (h0 : ¬ den = 0) (w : World) :
    Calls Try.prog 24 #[.int .i64 num, .int .i64 den] w fun e w' => e = .returned (.tuple #[.agg #[.int .i64 (rdN num den), .int .i64 (rdD num den)], .int .i64 0]) ∧ Below w.heap.size w w' := by
  have HN := Lib.hid hn
  have HD := Lib.hid hd
  have HZ := Lib.hid h0
  have hz : (den == 0) = false := by simpa using h0
  obtain ⟨n1, n2⟩ := hn
  obtain ⟨d1, d2⟩ := hd
  clear h0
  go_enter Try.func24, Try.ntmps24
  go_wp2_with (first | (go_at_call 84; refine (isValue_any _ _).mono ?_; rintro e w' ⟨rfl, rfl⟩))
  refine (reduced_any _ _ HN.out.wd HD.out.wd HZ.out _).mono ?_
  rintro e w1 ⟨rfl, hb1⟩
  have c0 := keep_cell hb1 (b := w.heap.size) (o := 0) (v := .int .i64 0) (by simp [go_sem])
  have c1 := keep_cell hb1 (b := w.heap.size) (o := 1) (v := .int .i64 0) (by simp [go_sem])
  have f0 := keep_fr hb1 (b := w.heap.size) (o := 0) (v := .int .i64 0) (by simp [go_sem]) (by simp [go_sem])
  have f1 := keep_fr hb1 (b := w.heap.size) (o := 1) (v := .int .i64 0) (by simp [go_sem]) (by simp [go_sem])
  have hb2 : Below w.heap.size w w1 := bl_trans (bl_alloc (Below.refl _ _) _) hb1
  go_wp2
  exact bodyPost_ret (v := .tuple #[.agg #[.int .i64 (rdN num den), .int .i64 (rdD num den)], .int .i64 0]) (by simp [results, Try.results24, go_sem, c0, c1]) rfl ⟨rfl, bl_set (bl_set hb2 _ _ (Nat.le_refl _) _) _ _ (Nat.le_refl _) _⟩

end Go.Proofs.Ythdmanngjnfamaa