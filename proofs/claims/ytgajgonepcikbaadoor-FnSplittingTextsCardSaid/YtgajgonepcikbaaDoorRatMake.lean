
/- The walk of the reference's maker of rational numbers. -/
import Derived.Test.YtgajgonepcikbaaDoorRat
namespace Go.Proofs.YtgajgonepcikbaaDoor
open Go.RowKit


set_option maxHeartbeats 800000 in
theorem l05Make_yes (num den : Int) (hn : Wd num) (hd : Wd den) (h0 : ¬ den = 0) (hq : QOk (rdN num den) (rdD num den)) (w : World) :
    Calls Tryd.prog 126 #[.int .i64 num, .int .i64 den] w fun e w' => e = .returned (.tuple #[.agg #[.int .i64 (rdN num den), .int .i64 (rdD num den)], .int .i64 0]) ∧ Below w.heap.size w w' := by
  have HN := Lib.hid hn
  have HD := Lib.hid hd
  have HQ := Lib.hid hq
  clear hq
  obtain ⟨n1, n2⟩ := hn
  obtain ⟨d1, d2⟩ := hd
  have g1 := gcd_pos (a := num) h0
  have g2 := gcd_wd (a := num) h0
  obtain ⟨g, hg⟩ : ∃ g : Int, g = (Int.gcd num den : Int) := ⟨_, rfl⟩
  rw [← hg] at g1 g2
  have HG := Lib.hid hg
  have g3 : g ≤ 4000000000000 := by omega
  clear hg g2 h0
  have ⟨x1, x2⟩ := tdiv_wd num g n1 n2
  have ⟨x3, x4⟩ := tdiv_wd den g d1 d2
  by_cases hs : den < 0
  · have HR : Hid (rdN num den = -num.tdiv g ∧ rdD num den = -den.tdiv g) := Lib.hid (by unfold rdN rdD; rw [if_pos hs, if_pos hs, HG.out]; exact ⟨rfl, rfl⟩)
    have HQ2 : Hid (QOk (-num.tdiv g) (-den.tdiv g)) := Lib.hid (by rw [← HR.out.1, ← HR.out.2]; exact HQ.out)
    go_enter Tryd.func126, Tryd.ntmps126
    go_wp2_with (first | (go_at_call 104; refine (l01Gcd_any _ _ HN.out HD.out _).mono ?_; rintro e w' ⟨rfl, n, rfl⟩; rw [← HG.out]))
    go_region
    go_wp2_with fail
    refine (specIsRational_yes _ _ HQ2.out _).mono ?_
    rintro e w1 ⟨rfl, hb1⟩
    have c0 := keep_cell hb1 (b := w.heap.size) (o := 0) (v := .int .i64 0) (by simp [go_sem])
    have c1 := keep_cell hb1 (b := w.heap.size) (o := 1) (v := .int .i64 0) (by simp [go_sem])
    have c2 := keep_cell hb1 (b := w.heap.size + 1) (o := 0) (v := .int .i64 (-num.tdiv g)) (by simp [go_sem])
    have c3 := keep_cell hb1 (b := w.heap.size + 1) (o := 1) (v := .int .i64 (-den.tdiv g)) (by simp [go_sem])
    have f0 := keep_fr hb1 (b := w.heap.size) (o := 0) (v := .int .i64 0) (by simp [go_sem]) (by simp [go_sem])
    have f1 := keep_fr hb1 (b := w.heap.size) (o := 1) (v := .int .i64 0) (by simp [go_sem]) (by simp [go_sem])
    have hb2 : Below w.heap.size w w1 := bl_trans (bl_alloc (below_drewN (bl_alloc (Below.refl _ _) _) _) _) hb1
    go_wp2
    rw [HR.out.1, HR.out.2]
    exact bodyPost_ret (v := .tuple #[.agg #[.int .i64 (-num.tdiv g), .int .i64 (-den.tdiv g)], .int .i64 0]) (by simp [results, Tryd.results126, go_sem, c0, c1]) rfl ⟨rfl, bl_set (bl_set hb2 _ _ (Nat.le_refl _) _) _ _ (Nat.le_refl _) _⟩
  · have HR : Hid (rdN num den = num.tdiv g ∧ rdD num den = den.tdiv g) := Lib.hid (by unfold rdN rdD; rw [if_neg hs, if_neg hs, HG.out]; exact ⟨rfl, rfl⟩)
    have HQ2 : Hid (QOk (num.tdiv g) (den.tdiv g)) := Lib.hid (by rw [← HR.out.1, ← HR.out.2]; exact HQ.out)
    go_enter Tryd.func126, Tryd.ntmps126
    go_wp2_with (first | (go_at_call 104; refine (l01Gcd_any _ _ HN.out HD.out _).mono ?_; rintro e w' ⟨rfl, n, rfl⟩; rw [← HG.out]))
    go_region
    go_wp2_with fail
    refine (specIsRational_yes _ _ HQ2.out _).mono ?_
    rintro e w1 ⟨rfl, hb1⟩
    have c0 := keep_cell hb1 (b := w.heap.size) (o := 0) (v := .int .i64 0) (by simp [go_sem])
    have c1 := keep_cell hb1 (b := w.heap.size) (o := 1) (v := .int .i64 0) (by simp [go_sem])
    have c2 := keep_cell hb1 (b := w.heap.size + 1) (o := 0) (v := .int .i64 (num.tdiv g)) (by simp [go_sem])
    have c3 := keep_cell hb1 (b := w.heap.size + 1) (o := 1) (v := .int .i64 (den.tdiv g)) (by simp [go_sem])
    have f0 := keep_fr hb1 (b := w.heap.size) (o := 0) (v := .int .i64 0) (by simp [go_sem]) (by simp [go_sem])
    have f1 := keep_fr hb1 (b := w.heap.size) (o := 1) (v := .int .i64 0) (by simp [go_sem]) (by simp [go_sem])
    have hb2 : Below w.heap.size w w1 := bl_trans (bl_alloc (below_drewN (bl_alloc (Below.refl _ _) _) _) _) hb1
    go_wp2
    rw [HR.out.1, HR.out.2]
    exact bodyPost_ret (v := .tuple #[.agg #[.int .i64 (num.tdiv g), .int .i64 (den.tdiv g)], .int .i64 0]) (by simp [results, Tryd.results126, go_sem, c0, c1]) rfl ⟨rfl, bl_set (bl_set hb2 _ _ (Nat.le_refl _) _) _ _ (Nat.le_refl _) _⟩

set_option maxHeartbeats 800000 in
theorem l05Make_no (num den : Int) (hn : Wd num) (hd : Wd den) (h0 : ¬ den = 0) (hq : ¬ QOk (rdN num den) (rdD num den)) (w : World) :
    Calls Tryd.prog 126 #[.int .i64 num, .int .i64 den] w fun e w' => e = .returned (.tuple #[.agg #[.int .i64 0, .int .i64 0], .int .i64 3]) ∧ Below w.heap.size w w' := by
  have HN := Lib.hid hn
  have HD := Lib.hid hd
  have HQ := Lib.hid hq
  clear hq
  obtain ⟨n1, n2⟩ := hn
  obtain ⟨d1, d2⟩ := hd
  have g1 := gcd_pos (a := num) h0
  have g2 := gcd_wd (a := num) h0
  obtain ⟨g, hg⟩ : ∃ g : Int, g = (Int.gcd num den : Int) := ⟨_, rfl⟩
  rw [← hg] at g1 g2
  have HG := Lib.hid hg
  have g3 : g ≤ 4000000000000 := by omega
  clear hg g2 h0
  have ⟨x1, x2⟩ := tdiv_wd num g n1 n2
  have ⟨x3, x4⟩ := tdiv_wd den g d1 d2
  by_cases hs : den < 0
  · have HR : Hid (rdN num den = -num.tdiv g ∧ rdD num den = -den.tdiv g) := Lib.hid (by unfold rdN rdD; rw [if_pos hs, if_pos hs, HG.out]; exact ⟨rfl, rfl⟩)
    have HQ2 : Hid (¬ QOk (-num.tdiv g) (-den.tdiv g)) := Lib.hid (by rw [← HR.out.1, ← HR.out.2]; exact HQ.out)
    go_enter Tryd.func126, Tryd.ntmps126
    go_wp2_with (first | (go_at_call 104; refine (l01Gcd_any _ _ HN.out HD.out _).mono ?_; rintro e w' ⟨rfl, n, rfl⟩; rw [← HG.out]))
    go_region
    go_wp2_with fail
    refine (specIsRational_no _ _ HQ2.out _).mono ?_
    rintro e w1 ⟨rfl, hb1⟩
    have c0 := keep_cell hb1 (b := w.heap.size) (o := 0) (v := .int .i64 0) (by simp [go_sem])
    have c1 := keep_cell hb1 (b := w.heap.size) (o := 1) (v := .int .i64 0) (by simp [go_sem])
    have c2 := keep_cell hb1 (b := w.heap.size + 1) (o := 0) (v := .int .i64 (-num.tdiv g)) (by simp [go_sem])
    have c3 := keep_cell hb1 (b := w.heap.size + 1) (o := 1) (v := .int .i64 (-den.tdiv g)) (by simp [go_sem])
    have f0 := keep_fr hb1 (b := w.heap.size) (o := 0) (v := .int .i64 0) (by simp [go_sem]) (by simp [go_sem])
    have f1 := keep_fr hb1 (b := w.heap.size) (o := 1) (v := .int .i64 0) (by simp [go_sem]) (by simp [go_sem])
    have hb2 : Below w.heap.size w w1 := bl_trans (bl_alloc (below_drewN (bl_alloc (Below.refl _ _) _) _) _) hb1
    go_wp2
    exact bodyPost_ret (v := .tuple #[.agg #[.int .i64 0, .int .i64 0], .int .i64 3]) (by simp [results, Tryd.results126, go_sem, c0, c1]) rfl ⟨rfl, bl_set (bl_set hb2 _ _ (Nat.le_refl _) _) _ _ (Nat.le_refl _) _⟩
  · have HR : Hid (rdN num den = num.tdiv g ∧ rdD num den = den.tdiv g) := Lib.hid (by unfold rdN rdD; rw [if_neg hs, if_neg hs, HG.out]; exact ⟨rfl, rfl⟩)
    have HQ2 : Hid (¬ QOk (num.tdiv g) (den.tdiv g)) := Lib.hid (by rw [← HR.out.1, ← HR.out.2]; exact HQ.out)
    go_enter Tryd.func126, Tryd.ntmps126
    go_wp2_with (first | (go_at_call 104; refine (l01Gcd_any _ _ HN.out HD.out _).mono ?_; rintro e w' ⟨rfl, n, rfl⟩; rw [← HG.out]))
    go_region
    go_wp2_with fail
    refine (specIsRational_no _ _ HQ2.out _).mono ?_
    rintro e w1 ⟨rfl, hb1⟩
    have c0 := keep_cell hb1 (b := w.heap.size) (o := 0) (v := .int .i64 0) (by simp [go_sem])
    have c1 := keep_cell hb1 (b := w.heap.size) (o := 1) (v := .int .i64 0) (by simp [go_sem])
    have c2 := keep_cell hb1 (b := w.heap.size + 1) (o := 0) (v := .int .i64 (num.tdiv g)) (by simp [go_sem])
    have c3 := keep_cell hb1 (b := w.heap.size + 1) (o := 1) (v := .int .i64 (den.tdiv g)) (by simp [go_sem])
    have f0 := keep_fr hb1 (b := w.heap.size) (o := 0) (v := .int .i64 0) (by simp [go_sem]) (by simp [go_sem])
    have f1 := keep_fr hb1 (b := w.heap.size) (o := 1) (v := .int .i64 0) (by simp [go_sem]) (by simp [go_sem])
    have hb2 : Below w.heap.size w w1 := bl_trans (bl_alloc (below_drewN (bl_alloc (Below.refl _ _) _) _) _) hb1
    go_wp2
    exact bodyPost_ret (v := .tuple #[.agg #[.int .i64 0, .int .i64 0], .int .i64 3]) (by simp [results, Tryd.results126, go_sem, c0, c1]) rfl ⟨rfl, bl_set (bl_set hb2 _ _ (Nat.le_refl _) _) _ _ (Nat.le_refl _) _⟩
end Go.Proofs.YtgajgonepcikbaaDoor