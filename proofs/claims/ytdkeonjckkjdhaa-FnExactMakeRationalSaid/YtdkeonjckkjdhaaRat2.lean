/- The walks of the makers of rational numbers, and of the laws over IsRational and MakeRational. -/
import Derived.Test.YtdkeonjckkjdhaaRat
namespace Go.Proofs.Ytdkeonjckkjdhaa
open Go.RowKit


set_option maxHeartbeats 800000 in
theorem l05Make_yes (num den : Int) (hn : Wd num) (hd : Wd den) (h0 : ¬ den = 0) (hq : QOk (rdN num den) (rdD num den)) (w : World) :
    Calls Try.prog 59 #[.int .i64 num, .int .i64 den] w fun e w' => e = .returned (.tuple #[.agg #[.int .i64 (rdN num den), .int .i64 (rdD num den)], .int .i64 0]) ∧ Below w.heap.size w w' := by
  have HN := Lib.hid hn
  have HD := Lib.hid hd
  have HQ := Lib.hid hq
  clear hq
  obtain ⟨n1, n2⟩ := hn
  obtain ⟨d1, d2⟩ := hd
  have g1 := gcd_pos (a := num) h0
  have g2 := gcd_wd (a := num) h0
  obtain ⟨g, hg⟩ : ∃ g : Int, g = (Int.gcd num den : Int) := ⟨_, rfl⟩
  rw [← hg] at g1 g2
  have HG := Lib.hid hg
  have g3 : g ≤ 4000000000000 := by omega
  clear hg g2 h0
  have ⟨x1, x2⟩ := tdiv_wd num g n1 n2
  have ⟨x3, x4⟩ := tdiv_wd den g d1 d2
  by_cases hs : den < 0
  · have HR : Hid (rdN num den = -num.tdiv g ∧ rdD num den = -den.tdiv g) := Lib.hid (by unfold rdN rdD; rw [if_pos hs, if_pos hs, HG.out]; exact ⟨rfl, rfl⟩)
    have HQ2 : Hid (QOk (-num.tdiv g) (-den.tdiv g)) := Lib.hid (by rw [← HR.out.1, ← HR.out.2]; exact HQ.out)
    go_enter Try.func59, Try.ntmps59
    go_wp2_with (first | (go_at_call 46; refine (l01Gcd_any _ _ HN.out HD.out _).mono ?_; rintro e w' ⟨rfl, n, rfl⟩; rw [← HG.out]))
    go_region
    go_wp2_with fail
    refine (specIsRational_yes _ _ HQ2.out _).mono ?_
    rintro e w1 ⟨rfl, hb1⟩
    have c0 := keep_cell hb1 (b := w.heap.size) (o := 0) (v := .int .i64 0) (by simp [go_sem])
    have c1 := keep_cell hb1 (b := w.heap.size) (o := 1) (v := .int .i64 0) (by simp [go_sem])
    have c2 := keep_cell hb1 (b := w.heap.size + 1) (o := 0) (v := .int .i64 (-num.tdiv g)) (by simp [go_sem])
    have c3 := keep_cell hb1 (b := w.heap.size + 1) (o := 1) (v := .int .i64 (-den.tdiv g)) (by simp [go_sem])
    have f0 := keep_fr hb1 (b := w.heap.size) (o := 0) (v := .int .i64 0) (by simp [go_sem]) (by simp [go_sem])
    have f1 := keep_fr hb1 (b := w.heap.size) (o := 1) (v := .int .i64 0) (by simp [go_sem]) (by simp [go_sem])
    have hb2 : Below w.heap.size w w1 := bl_trans (bl_alloc (below_drewN (bl_alloc (Below.refl _ _) _) _) _) hb1
    go_wp2
    rw [HR.out.1, HR.out.2]
    exact bodyPost_ret (v := .tuple #[.agg #[.int .i64 (-num.tdiv g), .int .i64 (-den.tdiv g)], .int .i64 0]) (by simp [results, Try.results59, go_sem, c0, c1]) rfl ⟨rfl, bl_set (bl_set hb2 _ _ (Nat.le_refl _) _) _ _ (Nat.le_refl _) _⟩
  · have HR : Hid (rdN num den = num.tdiv g ∧ rdD num den = den.tdiv g) := Lib.hid (by unfold rdN rdD; rw [if_neg hs, if_neg hs, HG.out]; exact ⟨rfl, rfl⟩)
    have HQ2 : Hid (QOk (num.tdiv g) (den.tdiv g)) := Lib.hid (by rw [← HR.out.1, ← HR.out.2]; exact HQ.out)
    go_enter Try.func59, Try.ntmps59
    go_wp2_with (first | (go_at_call 46; refine (l01Gcd_any _ _ HN.out HD.out _).mono ?_; rintro e w' ⟨rfl, n, rfl⟩; rw [← HG.out]))
    go_region
    go_wp2_with fail
    refine (specIsRational_yes _ _ HQ2.out _).mono ?_
    rintro e w1 ⟨rfl, hb1⟩
    have c0 := keep_cell hb1 (b := w.heap.size) (o := 0) (v := .int .i64 0) (by simp [go_sem])
    have c1 := keep_cell hb1 (b := w.heap.size) (o := 1) (v := .int .i64 0) (by simp [go_sem])
    have c2 := keep_cell hb1 (b := w.heap.size + 1) (o := 0) (v := .int .i64 (num.tdiv g)) (by simp [go_sem])
    have c3 := keep_cell hb1 (b := w.heap.size + 1) (o := 1) (v := .int .i64 (den.tdiv g)) (by simp [go_sem])
    have f0 := keep_fr hb1 (b := w.heap.size) (o := 0) (v := .int .i64 0) (by simp [go_sem]) (by simp [go_sem])
    have f1 := keep_fr hb1 (b := w.heap.size) (o := 1) (v := .int .i64 0) (by simp [go_sem]) (by simp [go_sem])
    have hb2 : Below w.heap.size w w1 := bl_trans (bl_alloc (below_drewN (bl_alloc (Below.refl _ _) _) _) _) hb1
    go_wp2
    rw [HR.out.1, HR.out.2]
    exact bodyPost_ret (v := .tuple #[.agg #[.int .i64 (num.tdiv g), .int .i64 (den.tdiv g)], .int .i64 0]) (by simp [results, Try.results59, go_sem, c0, c1]) rfl ⟨rfl, bl_set (bl_set hb2 _ _ (Nat.le_refl _) _) _ _ (Nat.le_refl _) _⟩

set_option maxHeartbeats 800000 in
theorem l05Make_no (num den : Int) (hn : Wd num) (hd : Wd den) (h0 : ¬ den = 0) (hq : ¬ QOk (rdN num den) (rdD num den)) (w : World) :
    Calls Try.prog 59 #[.int .i64 num, .int .i64 den] w fun e w' => e = .returned (.tuple #[.agg #[.int .i64 0, .int .i64 0], .int .i64 3]) ∧ Below w.heap.size w w' := by
  have HN := Lib.hid hn
  have HD := Lib.hid hd
  have HQ := Lib.hid hq
  clear hq
  obtain ⟨n1, n2⟩ := hn
  obtain ⟨d1, d2⟩ := hd
  have g1 := gcd_pos (a := num) h0
  have g2 := gcd_wd (a := num) h0
  obtain ⟨g, hg⟩ : ∃ g : Int, g = (Int.gcd num den : Int) := ⟨_, rfl⟩
  rw [← hg] at g1 g2
  have HG := Lib.hid hg
  have g3 : g ≤ 4000000000000 := by omega
  clear hg g2 h0
  have ⟨x1, x2⟩ := tdiv_wd num g n1 n2
  have ⟨x3, x4⟩ := tdiv_wd den g d1 d2
  by_cases hs : den < 0
  · have HR : Hid (rdN num den = -num.tdiv g ∧ rdD num den = -den.tdiv g) := Lib.hid (by unfold rdN rdD; rw [if_pos hs, if_pos hs, HG.out]; exact ⟨rfl, rfl⟩)
    have HQ2 : Hid (¬ QOk (-num.tdiv g) (-den.tdiv g)) := Lib.hid (by rw [← HR.out.1, ← HR.out.2]; exact HQ.out)
    go_enter Try.func59, Try.ntmps59
    go_wp2_with (first | (go_at_call 46; refine (l01Gcd_any _ _ HN.out HD.out _).mono ?_; rintro e w' ⟨rfl, n, rfl⟩; rw [← HG.out]))
    go_region
    go_wp2_with fail
    refine (specIsRational_no _ _ HQ2.out _).mono ?_
    rintro e w1 ⟨rfl, hb1⟩
    have c0 := keep_cell hb1 (b := w.heap.size) (o := 0) (v := .int .i64 0) (by simp [go_sem])
    have c1 := keep_cell hb1 (b := w.heap.size) (o := 1) (v := .int .i64 0) (by simp [go_sem])
    have c2 := keep_cell hb1 (b := w.heap.size + 1) (o := 0) (v := .int .i64 (-num.tdiv g)) (by simp [go_sem])
    have c3 := keep_cell hb1 (b := w.heap.size + 1) (o := 1) (v := .int .i64 (-den.tdiv g)) (by simp [go_sem])
    have f0 := keep_fr hb1 (b := w.heap.size) (o := 0) (v := .int .i64 0) (by simp [go_sem]) (by simp [go_sem])
    have f1 := keep_fr hb1 (b := w.heap.size) (o := 1) (v := .int .i64 0) (by simp [go_sem]) (by simp [go_sem])
    have hb2 : Below w.heap.size w w1 := bl_trans (bl_alloc (below_drewN (bl_alloc (Below.refl _ _) _) _) _) hb1
    go_wp2
    exact bodyPost_ret (v := .tuple #[.agg #[.int .i64 0, .int .i64 0], .int .i64 3]) (by simp [results, Try.results59, go_sem, c0, c1]) rfl ⟨rfl, bl_set (bl_set hb2 _ _ (Nat.le_refl _) _) _ _ (Nat.le_refl _) _⟩
  · have HR : Hid (rdN num den = num.tdiv g ∧ rdD num den = den.tdiv g) := Lib.hid (by unfold rdN rdD; rw [if_neg hs, if_neg hs, HG.out]; exact ⟨rfl, rfl⟩)
    have HQ2 : Hid (¬ QOk (num.tdiv g) (den.tdiv g)) := Lib.hid (by rw [← HR.out.1, ← HR.out.2]; exact HQ.out)
    go_enter Try.func59, Try.ntmps59
    go_wp2_with (first | (go_at_call 46; refine (l01Gcd_any _ _ HN.out HD.out _).mono ?_; rintro e w' ⟨rfl, n, rfl⟩; rw [← HG.out]))
    go_region
    go_wp2_with fail
    refine (specIsRational_no _ _ HQ2.out _).mono ?_
    rintro e w1 ⟨rfl, hb1⟩
    have c0 := keep_cell hb1 (b := w.heap.size) (o := 0) (v := .int .i64 0) (by simp [go_sem])
    have c1 := keep_cell hb1 (b := w.heap.size) (o := 1) (v := .int .i64 0) (by simp [go_sem])
    have c2 := keep_cell hb1 (b := w.heap.size + 1) (o := 0) (v := .int .i64 (num.tdiv g)) (by simp [go_sem])
    have c3 := keep_cell hb1 (b := w.heap.size + 1) (o := 1) (v := .int .i64 (den.tdiv g)) (by simp [go_sem])
    have f0 := keep_fr hb1 (b := w.heap.size) (o := 0) (v := .int .i64 0) (by simp [go_sem]) (by simp [go_sem])
    have f1 := keep_fr hb1 (b := w.heap.size) (o := 1) (v := .int .i64 0) (by simp [go_sem]) (by simp [go_sem])
    have hb2 : Below w.heap.size w w1 := bl_trans (bl_alloc (below_drewN (bl_alloc (Below.refl _ _) _) _) _) hb1
    go_wp2
    exact bodyPost_ret (v := .tuple #[.agg #[.int .i64 0, .int .i64 0], .int .i64 3]) (by simp [results, Try.results59, go_sem, c0, c1]) rfl ⟨rfl, bl_set (bl_set hb2 _ _ (Nat.le_refl _) _) _ _ (Nat.le_refl _) _⟩

theorem specMakeRational_no (num den : Int) (h : ¬ (V num ∧ V den)) (w : World) :
    Calls Try.prog 35 #[.int .i64 num, .int .i64 den] w fun e w' => e = .returned (.tuple #[.agg #[.int .i64 0, .int .i64 0], .int .i64 2]) ∧ Below w.heap.size w w' := by
  by_cases ha : V num
  · have hb := V_dec (fun hb => h ⟨ha, hb⟩)
    obtain ⟨ha1, ha2⟩ := ha
    clear h
    go_enter Try.func35, Try.ntmps35
    go_wp2_with (first | (go_at_call 45; refine (l01Is_any _ _).mono ?_; rintro e w' ⟨rfl, rfl⟩))
    exact bodyPost_ret (v := .tuple #[.agg #[.int .i64 0, .int .i64 0], .int .i64 2]) (by simp [results, Try.results35, go_sem]) rfl ⟨rfl, bl_alloc (Below.refl _ _) _⟩
  · have ha2 := V_dec ha
    clear h ha
    go_enter Try.func35, Try.ntmps35
    go_wp2_with (first | (go_at_call 45; refine (l01Is_any _ _).mono ?_; rintro e w' ⟨rfl, rfl⟩))
    exact bodyPost_ret (v := .tuple #[.agg #[.int .i64 0, .int .i64 0], .int .i64 2]) (by simp [results, Try.results35, go_sem]) rfl ⟨rfl, bl_alloc (Below.refl _ _) _⟩
theorem specMakeRational_zero (num : Int) (hn : V num) (w : World) :
    Calls Try.prog 35 #[.int .i64 num, .int .i64 0] w fun e w' => e = .returned (.tuple #[.agg #[.int .i64 0, .int .i64 0], .int .i64 5]) ∧ Below w.heap.size w w' := by
  obtain ⟨ha1, ha2⟩ := hn
  go_enter Try.func35, Try.ntmps35
  go_wp2_with (first | (go_at_call 45; refine (l01Is_any _ _).mono ?_; rintro e w' ⟨rfl, rfl⟩))
  exact bodyPost_ret (v := .tuple #[.agg #[.int .i64 0, .int .i64 0], .int .i64 5]) (by simp [results, Try.results35, go_sem]) rfl ⟨rfl, bl_alloc (Below.refl _ _) _⟩
theorem specMakeRational_yes (num den : Int) (hn : V num) (hd : V den) (h0 : ¬ den = 0) (w : World) :
    Calls Try.prog 35 #[.int .i64 num, .int .i64 den] w fun e w' => e = .returned (.tuple #[.agg #[.int .i64 (rdN num den), .int .i64 (rdD num den)], .int .i64 0]) ∧ Below w.heap.size w w' := by
  have HN := Lib.hid hn
  have HD := Lib.hid hd
  have HZ := Lib.hid h0
  have hz : (den == 0) = false := by simpa using h0
  obtain ⟨n1, n2⟩ := hn
  obtain ⟨d1, d2⟩ := hd
  clear h0
  go_enter Try.func35, Try.ntmps35
  go_wp2_with (first | (go_at_call 45; refine (l01Is_any _ _).mono ?_; rintro e w' ⟨rfl, rfl⟩))
  refine (l05Make_yes _ _ HN.out.wd HD.out.wd HZ.out (rd_ok HN.out HD.out HZ.out) _).mono ?_
  rintro e w1 ⟨rfl, hb1⟩
  have c0 := keep_cell hb1 (b := w.heap.size) (o := 0) (v := .int .i64 0) (by simp [go_sem])
  have c1 := keep_cell hb1 (b := w.heap.size) (o := 1) (v := .int .i64 0) (by simp [go_sem])
  have f0 := keep_fr hb1 (b := w.heap.size) (o := 0) (v := .int .i64 0) (by simp [go_sem]) (by simp [go_sem])
  have f1 := keep_fr hb1 (b := w.heap.size) (o := 1) (v := .int .i64 0) (by simp [go_sem]) (by simp [go_sem])
  have hb2 : Below w.heap.size w w1 := bl_trans (bl_alloc (Below.refl _ _) _) hb1
  go_wp2
  exact bodyPost_ret (v := .tuple #[.agg #[.int .i64 (rdN num den), .int .i64 (rdD num den)], .int .i64 0]) (by simp [results, Try.results35, go_sem, c0, c1]) rfl ⟨rfl, bl_set (bl_set hb2 _ _ (Nat.le_refl _) _) _ _ (Nat.le_refl _) _⟩


theorem implMakeRational_no (num den : Int) (h : ¬ (V num ∧ V den)) (w : World) :
    Calls Try.prog 36 #[.int .i64 num, .int .i64 den] w fun e w' => e = .returned (.tuple #[.agg #[.int .i64 0, .int .i64 0], .int .i64 2]) ∧ Below w.heap.size w w' := by
  by_cases ha : V num
  · have hb := V_dec (fun hb => h ⟨ha, hb⟩)
    obtain ⟨ha1, ha2⟩ := ha
    clear h
    go_enter Try.func36, Try.ntmps36
    go_wp2_with (first | (go_at_call 47; refine (isValue_any _ _).mono ?_; rintro e w' ⟨rfl, rfl⟩))
    exact bodyPost_ret (v := .tuple #[.agg #[.int .i64 0, .int .i64 0], .int .i64 2]) (by simp [results, Try.results36, go_sem]) rfl ⟨rfl, bl_alloc (Below.refl _ _) _⟩
  · have ha2 := V_dec ha
    clear h ha
    go_enter Try.func36, Try.ntmps36
    go_wp2_with (first | (go_at_call 47; refine (isValue_any _ _).mono ?_; rintro e w' ⟨rfl, rfl⟩))
    exact bodyPost_ret (v := .tuple #[.agg #[.int .i64 0, .int .i64 0], .int .i64 2]) (by simp [results, Try.results36, go_sem]) rfl ⟨rfl, bl_alloc (Below.refl _ _) _⟩
theorem implMakeRational_zero (num : Int) (hn : V num) (w : World) :
    Calls Try.prog 36 #[.int .i64 num, .int .i64 0] w fun e w' => e = .returned (.tuple #[.agg #[.int .i64 0, .int .i64 0], .int .i64 5]) ∧ Below w.heap.size w w' := by
  obtain ⟨ha1, ha2⟩ := hn
  go_enter Try.func36, Try.ntmps36
  go_wp2_with (first | (go_at_call 47; refine (isValue_any _ _).mono ?_; rintro e w' ⟨rfl, rfl⟩))
  exact bodyPost_ret (v := .tuple #[.agg #[.int .i64 0, .int .i64 0], .int .i64 5]) (by simp [results, Try.results36, go_sem]) rfl ⟨rfl, bl_alloc (Below.refl _ _) _⟩
theorem implMakeRational_yes (num den : Int) (hn : V num) (hd : V den) (h0 : ¬ den = 0) (w : World) :
    Calls Try.prog 36 #[.int .i64 num, .int .i64 den] w fun e w' => e = .returned (.tuple #[.agg #[.int .i64 (rdN num den), .int .i64 (rdD num den)], .int .i64 0]) ∧ Below w.heap.size w w' := by
  have HN := Lib.hid hn
  have HD := Lib.hid hd
  have HZ := Lib.hid h0
  have hz : (den == 0) = false := by simpa using h0
  obtain ⟨n1, n2⟩ := hn
  obtain ⟨d1, d2⟩ := hd
  clear h0
  go_enter Try.func36, Try.ntmps36
  go_wp2_with (first | (go_at_call 47; refine (isValue_any _ _).mono ?_; rintro e w' ⟨rfl, rfl⟩))
  refine (reduced_any _ _ HN.out.wd HD.out.wd HZ.out _).mono ?_
  rintro e w1 ⟨rfl, hb1⟩
  have c0 := keep_cell hb1 (b := w.heap.size) (o := 0) (v := .int .i64 0) (by simp [go_sem])
  have c1 := keep_cell hb1 (b := w.heap.size) (o := 1) (v := .int .i64 0) (by simp [go_sem])
  have f0 := keep_fr hb1 (b := w.heap.size) (o := 0) (v := .int .i64 0) (by simp [go_sem]) (by simp [go_sem])
  have f1 := keep_fr hb1 (b := w.heap.size) (o := 1) (v := .int .i64 0) (by simp [go_sem]) (by simp [go_sem])
  have hb2 : Below w.heap.size w w1 := bl_trans (bl_alloc (Below.refl _ _) _) hb1
  go_wp2
  exact bodyPost_ret (v := .tuple #[.agg #[.int .i64 (rdN num den), .int .i64 (rdD num den)], .int .i64 0]) (by simp [results, Try.results36, go_sem, c0, c1]) rfl ⟨rfl, bl_set (bl_set hb2 _ _ (Nat.le_refl _) _) _ _ (Nat.le_refl _) _⟩


theorem toRational_any (p n : Int) (w : World) :
    Calls Try.prog 20 #[.agg #[.int .i64 p, .int .i64 n]] w fun e w' => e = .returned (.agg #[.int .i64 p, .int .i64 n]) ∧ Below w.heap.size w w' := by
  go_enter Try.func20, Try.ntmps20
  go_wp2
  exact bodyPost_ret (v := .agg #[.int .i64 p, .int .i64 n]) (by simp [results, Try.results20, go_sem]) rfl ⟨rfl, bl_alloc (bl_alloc (bl_alloc (Below.refl _ _) _) _) _⟩

theorem eqRational_any (a b : Int) (w : World) :
    Calls Try.prog 37 #[.agg #[.int .i64 a, .int .i64 b], .agg #[.int .i64 a, .int .i64 b]] w fun e w' => e = .returned (.bool true) ∧ Below w.heap.size w w' := by
  go_enter Try.func37, Try.ntmps37
  go_wp2
  go_ret
  exact ⟨rfl, bl_alloc (bl_alloc (Below.refl _ _) _) _⟩

set_option maxHeartbeats 400000 in
theorem walkExactIsRational (p n : Int) (w : World) (_ : (Lit.int .i64 p).wf = true) (_ : (Lit.int .i64 n).wf = true) :
    Calls Try.prog 6 #[.agg #[.int .i64 p, .int .i64 n]] w fun e w' => e = .returned (.bool true) ∧ Below w.heap.size w w' := by
  by_cases h : QOk p n
  · have H := Lib.hid h
    clear h
    go_enter Try.func6, Try.ntmps6
    go_wp2_with fail
    refine (toRational_any _ _ _).mono ?_
    rintro e w1 ⟨rfl, hb1⟩
    obtain ⟨hc1, hz1, hb1'⟩ := cell_al hb1
    go_wp2_with fail
    refine (specIsRational_yes _ _ H.out _).mono ?_
    rintro e w2 ⟨rfl, hb2⟩
    have ⟨hc2, _⟩ := bcell hb2
    have hz2 := size_al hz1 hb2
    go_wp2_with fail
    refine (toRational_any _ _ _).mono ?_
    rintro e w3 ⟨rfl, hb3⟩
    go_wp2_with fail
    refine (implIsRational_yes _ _ H.out _).mono ?_
    rintro e w4 ⟨rfl, hb4⟩
    go_wp2
    go_ret
    exact ⟨rfl, bl_trans (bl_trans (bl_trans hb1' hb2) hb3) hb4⟩
  · have H := Lib.hid h
    clear h
    go_enter Try.func6, Try.ntmps6
    go_wp2_with fail
    refine (toRational_any _ _ _).mono ?_
    rintro e w1 ⟨rfl, hb1⟩
    obtain ⟨hc1, hz1, hb1'⟩ := cell_al hb1
    go_wp2_with fail
    refine (specIsRational_no _ _ H.out _).mono ?_
    rintro e w2 ⟨rfl, hb2⟩
    have ⟨hc2, _⟩ := bcell hb2
    have hz2 := size_al hz1 hb2
    go_wp2_with fail
    refine (toRational_any _ _ _).mono ?_
    rintro e w3 ⟨rfl, hb3⟩
    go_wp2_with fail
    refine (implIsRational_no _ _ H.out _).mono ?_
    rintro e w4 ⟨rfl, hb4⟩
    go_wp2
    go_ret
    exact ⟨rfl, bl_trans (bl_trans (bl_trans hb1' hb2) hb3) hb4⟩
set_option maxHeartbeats 800000 in
theorem walkExactMakeRational (a b : Int) (w : World) (_ : (Lit.int .i64 a).wf = true) (_ : (Lit.int .i64 b).wf = true) :
    Calls Try.prog 12 #[.int .i64 a, .int .i64 b] w fun e w' => e = .returned (.bool true) ∧ Below w.heap.size w w' := by
  by_cases h : V a ∧ V b
  · by_cases hz : b = 0
    · subst hz
      have H := Lib.hid h
      clear h
      go_enter Try.func12, Try.ntmps12
      go_wp2_with fail
      refine (specMakeRational_zero _ H.out.1 _).mono ?_
      rintro e w1 ⟨rfl, hb1⟩
      go_wp2_with fail
      refine (implMakeRational_zero _ H.out.1 _).mono ?_
      rintro e w2 ⟨rfl, hb2⟩
      obtain ⟨hc2, hz2, hb2'⟩ := cell_al hb2
      go_wp2_with fail
      refine (eqRational_any _ _ _).mono ?_
      rintro e w3 ⟨rfl, hb3⟩
      go_wp2
      go_ret
      exact ⟨rfl, bl_trans (bl_alloc (bl_trans hb1 hb2') _) hb3⟩
    · have H := Lib.hid h
      have HZ := Lib.hid hz
      clear h hz
      go_enter Try.func12, Try.ntmps12
      go_wp2_with fail
      refine (specMakeRational_yes _ _ H.out.1 H.out.2 HZ.out _).mono ?_
      rintro e w1 ⟨rfl, hb1⟩
      go_wp2_with fail
      refine (implMakeRational_yes _ _ H.out.1 H.out.2 HZ.out _).mono ?_
      rintro e w2 ⟨rfl, hb2⟩
      obtain ⟨hc2, hz2, hb2'⟩ := cell_al hb2
      go_wp2_with fail
      refine (eqRational_any _ _ _).mono ?_
      rintro e w3 ⟨rfl, hb3⟩
      go_wp2
      go_ret
      exact ⟨rfl, bl_trans (bl_alloc (bl_trans hb1 hb2') _) hb3⟩
  · have H := Lib.hid h
    clear h
    go_enter Try.func12, Try.ntmps12
    go_wp2_with fail
    refine (specMakeRational_no _ _ H.out _).mono ?_
    rintro e w1 ⟨rfl, hb1⟩
    go_wp2_with fail
    refine (implMakeRational_no _ _ H.out _).mono ?_
    rintro e w2 ⟨rfl, hb2⟩
    obtain ⟨hc2, hz2, hb2'⟩ := cell_al hb2
    go_wp2_with fail
    refine (eqRational_any _ _ _).mono ?_
    rintro e w3 ⟨rfl, hb3⟩
    go_wp2
    go_ret
    exact ⟨rfl, bl_trans (bl_alloc (bl_trans hb1 hb2') _) hb3⟩

end Go.Proofs.Ytdkeonjckkjdhaa