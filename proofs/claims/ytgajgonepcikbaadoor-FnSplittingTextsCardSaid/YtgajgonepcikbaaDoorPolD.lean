
/- Polynomials drawn; the laws' comparison of two lists of integers. -/
import Derived.Test.YtgajgonepcikbaaDoorDrw2
import Derived.Test.YtgajgonepcikbaaDoorPolT2
import Derived.Test.YtgajgonepcikbaaDoorRdP1
import Derived.Test.YtgajgonepcikbaaDoorTrim
import Derived.Deep.LoopGhost
namespace Go.Proofs.YtgajgonepcikbaaDoor
open Go.RowKit Go.Joins

section
variable {W : World} {A : Option Addr} {n c : Nat} {ys : List Int} {b : Nat} {w0 w w' : World}
theorem Drew.far {r : Option Nat} (h : Drew W A n c ys b w0 w) (hg : w.grownBy w' r) (hr : ∀ k, r = some k → k ≠ b ∧ w0.heap.size ≤ k) (hW : W.heap.size ≤ w0.heap.size) : Drew W A n c ys b w0 w' := by
  have hb : some b ≠ r := fun e => (hr b e.symm).1 rfl
  have hblk := hg.block b h.1.lt hb
  have kc : ∀ j, w'.cell? ⟨b, j, none⟩ = w.cell? ⟨b, j, none⟩ := fun j => by simp only [World.cell?]; rw [hblk]
  have kf : ∀ j, w'.frozen? ⟨b, j, none⟩ = w.frozen? ⟨b, j, none⟩ := fun j => World.frozen?_of_block hblk
  obtain ⟨p, hp, c1⟩ := h.1.at_
  obtain ⟨s, s1, s2, c2⟩ := h.1.sd
  refine ⟨⟨h.1.rd, h.1.by_, h.1.bel.grown hg h.1.bel.size (fun k hk => Nat.le_trans hW (hr k hk).2), h.1.lo, (kc 0).trans h.1.c0, ⟨p, hp, (kc 1).trans c1⟩, ⟨s, s1, s2, (kc 2).trans c2⟩, (kf 1).trans h.1.f1, (kf 2).trans h.1.f2⟩, ?_⟩
  exact ⟨hg.os.trans h.2.os, hg.tape.trans h.2.tape, hg.output.trans h.2.output, Nat.le_trans h.2.size hg.size, fun k hk hne => (hg.block k (Nat.lt_of_lt_of_le hk h.2.size) (fun e => by have := (hr k e.symm).2; omega)).trans (h.2.block k hk hne)⟩
end
theorem OwnC_lo {e : TypeId} {sz : Nat} {w : World} {lo lo' : Nat} {A : Option Addr} {n c : Nat} {cs : List Value} (h : OwnC e sz w lo A n c cs) (hl : lo' ≤ lo) : OwnC e sz w lo' A n c cs :=
  ⟨h.1, h.2.1, h.2.2.1, fun hn => ownsRow_lo (h.2.2.2 hn) hl⟩
theorem emptyRow (w : World) (T : TypeId) (sz : Nat) : (w.alloc (.cells #[] T)).ownsRow w.heap.size T sz (.slice (some ⟨w.heap.size, 0, none⟩) 0 0) 0 [] :=
  ⟨by simp, .inr ⟨w.heap.size, 0, #[], rfl, Nat.le_refl _, heap_alloc_new w _, Nat.le_refl _, by unfold maxLen; omega, by simp, by simp⟩⟩
/-- k coefficients within bounds -/
def CoB (f : List Int) (k : Nat) : Prop := f.length = k ∧ ∀ i, i < k → -1000000 ≤ f.getD i 0 ∧ f.getD i 0 ≤ 1000000
theorem CoB.snoc {f : List Int} {k : Nat} (h : CoB f k) {p : Int} (h1 : -1000000 ≤ p) (h2 : p ≤ 1000000) : CoB (f ++ [p]) (k + 1) := by
  refine ⟨by rw [List.length_append, h.1]; rfl, fun i hi => ?_⟩
  rcases Nat.lt_or_ge i k with hlt | hge
  · have := h.2 i hlt
    rw [show (f ++ [p]).getD i 0 = f.getD i 0 by simp [List.getD, List.getElem?_append_left (show i < f.length by rw [h.1]; exact hlt)]]
    exact this
  · rw [show (f ++ [p]).getD i 0 = p by
      have hl := h.1
      have : i = f.length := by omega
      simp [List.getD, this]]
    exact ⟨h1, h2⟩
theorem last_snoc (f : List Int) (p : Int) : (f ++ [p]).getD f.length 0 = p := by simp [List.getD]

set_option maxRecDepth 100000 in
set_option maxHeartbeats 3200000 in
theorem l06Valid_any (W : World) (A : Option Addr) (n c : Nat) (ys : List Int) (b : Nat) (dg : Int) (w : World) (h : Sr W A n c ys b w) (h0 : 0 ≤ dg) (h9 : dg ≤ 9) :
    Calls Tryd.prog 100 #[.pointer (some ⟨b, 0, none⟩), .int .i64 dg] w fun e w' => ∃ (B : Option Addr) (N d : Nat) (f : List Int), e = .returned (.slice B N d) ∧ OwnI w' w.heap.size B N d f ∧ (N : Int) = dg + 1 ∧ CoB f N ∧ ¬ f.getD (N - 1) 0 = 0 ∧ Drew W A n c ys b w w' := by
  obtain ⟨i0, hi, hz0, hz1, hz2⟩ := info_parts infoI64
  have HI := Lib.hid hi
  have HZ0 := Lib.hid hz0
  have HZ1 := Lib.hid hz1
  have HZ2 := Lib.hid hz2
  clear hi hz0 hz1 hz2
  obtain ⟨m, rfl⟩ : ∃ m : Nat, dg = (m : Int) := ⟨dg.toNat, by omega⟩
  have hm9 : m ≤ 9 := by omega
  have hlt := h.lt
  have hWw := h.bel.size
  have H := Lib.hid h
  clear h h0 h9
  go_enter Tryd.func100, Tryd.ntmps100
  go_wp2_with fail
  go_loopg [5, 6] m (fun g v i wr => ∃ (k : Nat) (f : List Int), g = m - k ∧ k ≤ m ∧ i = .int .i64 k ∧ Hid (CoB f k) ∧ Hid (wr.ownsRow w.heap.size 2 1 v k (f.map (Value.int .i64))) ∧ Hid (Drew W A n c ys b w wr))
  case atStart => exact ⟨0, [], by omega, Nat.zero_le _, rfl, Lib.hid ⟨rfl, fun i hi => by omega⟩, Lib.hid (emptyRow w _ 1), Lib.hid (H.out.drew0.alloc _)⟩
  case round =>
    obtain ⟨k, f, rfl, hk, rfl, HF, HO, HD⟩ := hrel
    obtain ⟨wo, rfl⟩ : ∃ wo : World, wo = wr := ⟨_, rfl⟩
    have hl1 : k + 1 ≤ maxLen := by unfold maxLen; omega
    have hl2 : (k + 1) * 8 ≤ 140737488355328 := by omega
    by_cases hltk : k < m
    · go_wp2_with fail
      refine (l01Next_any _ A n c ys b 13 _ HD.out.1).mono ?_
      rintro e w1 ⟨x1, rfl, hx1, hx2, hd1⟩
      have ⟨a1, b1⟩ := hx2 (by omega)
      have HD1 := Lib.hid (Drew.trans HD.out hd1)
      have HO1 := Lib.hid (own_drawn HO.out hd1.2 hlt)
      clear hx1 hx2 hd1 HD HO
      go_wp2_with fail
      refine (l01Next_any _ A n c ys b 5 _ HD1.out.1).mono ?_
      rintro e w2 ⟨x2, rfl, hx1, hx2, hd2⟩
      have ⟨a2, b2⟩ := hx2 (by omega)
      have HD2 := Lib.hid (Drew.trans HD1.out hd2)
      have HO2 := Lib.hid (own_drawn HO1.out hd2.2 hlt)
      clear hx1 hx2 hd2 HD1 HO1
      go_wp2_with fail
      refine (l01Next_any _ A n c ys b 201 _ HD2.out.1).mono ?_
      rintro e w3 ⟨x3, rfl, hx1, hx2, hd3⟩
      have ⟨a3, b3⟩ := hx2 (by omega)
      have HD3 := Lib.hid (Drew.trans HD2.out hd3)
      have HO3 := Lib.hid (own_drawn HO2.out hd3.2 hlt)
      clear hx1 hx2 hd3 HD2 HO2
      have hs3 := HD3.out.2.size
      go_wp2_with fail
      refine (l01Pick_any _ A n c ys b w3.heap.size 4 [x1 - 6, x2 - 2, 0, x3 - 100] _ (HD3.out.alloc _).1 (by omega) (by omega) (by simp) (by omega) (fun j hj => by rcases j with _ | _ | _ | _ | j <;> first | (simp; done) | omega)).mono ?_
      rintro e w4 ⟨j4, hj, rfl, hd4⟩
      have HD4 := Lib.hid (Drew.trans (HD3.out.alloc _) hd4)
      have HO4 := Lib.hid (own_drawn (HO3.out.alloc _) hd4.2 hlt)
      obtain ⟨p, hp⟩ : ∃ y, y = ([x1 - 6, x2 - 2, 0, x3 - 100] : List Int).getD j4 0 := ⟨_, rfl⟩
      have ⟨p1, p2⟩ : -1000000 ≤ p ∧ p ≤ 1000000 := by
        rw [hp]; rcases j4 with _ | _ | _ | _ | j <;> first | (simp; omega) | (simp; done) | omega
      rw [← hp]
      clear hd4 hp hj HD3 HO3
      have hs4 := HD4.out.2.size
      go_wp2_with (at_builtin; refine wpList_append_own _ rfl _ _ _ rfl w.heap.size 2 i0 (.int .i64 0) 1 8 Tryd.underlying29 HI.out HZ0.out HZ1.out HZ2.out rfl (by decide) _ k (f.map (Value.int .i64)) rfl (HO4.out.alloc _) ⟨w4.heap.size, 0, none⟩ 1 1 [.int .i64 p] rfl rfl (cell_one_new _ _ _) (ints_one [p]) hl1 hl2 (by simp; omega) ?_; intro v' w5 hown' hgrow _)
      have HO5 : Hid (w5.ownsRow w.heap.size 2 1 v' (k + 1) ((f ++ [p]).map (Value.int .i64))) := Lib.hid (by rw [List.map_append]; exact hown')
      have HD5 : Hid (Drew W A n c ys b w w5) := Lib.hid (Drew.far (HD4.out.alloc _) hgrow (fun k hk => by have := HO4.out.lt k hk; omega) hWw)
      have HF5 := Lib.hid (HF.out.snoc p1 p2)
      clear hown' hgrow hl1 hl2
      go_wp2
      go_roundg (m - (k + 1))
      case measure => omega
      case rel => exact ⟨k + 1, _, rfl, by omega, by go_num, HF5, HO5, HD5⟩
    · obtain rfl : k = m := by omega
      go_wp2_with fail
      refine (l01Next_any _ A n c ys b 6 _ HD.out.1).mono ?_
      rintro e w1 ⟨x1, rfl, hx1, hx2, hd1⟩
      have ⟨a1, b1⟩ := hx2 (by omega)
      have HD1 := Lib.hid (Drew.trans HD.out hd1)
      have HO1 := Lib.hid (own_drawn HO.out hd1.2 hlt)
      clear hx1 hx2 hd1 HD HO
      go_wp2_with fail
      refine (l01Next_any _ A n c ys b 3 _ HD1.out.1).mono ?_
      rintro e w3 ⟨x3, rfl, hx1, hx2, hd3⟩
      have ⟨a3, b3⟩ := hx2 (by omega)
      have HD3 := Lib.hid (Drew.trans HD1.out hd3)
      have HO3 := Lib.hid (own_drawn HO1.out hd3.2 hlt)
      clear hx1 hx2 hd3 HD1 HO1
      have hs3 := HD3.out.2.size
      go_wp2_with fail
      refine (l01Pick_any _ A n c ys b w3.heap.size 4 [1, 1, 1 + x1, -1 - x3] _ (HD3.out.alloc _).1 (by omega) (by omega) (by simp) (by omega) (fun j hj => by rcases j with _ | _ | _ | _ | j <;> first | (simp; done) | omega)).mono ?_
      rintro e w4 ⟨j4, hj, rfl, hd4⟩
      have HD4 := Lib.hid (Drew.trans (HD3.out.alloc _) hd4)
      have HO4 := Lib.hid (own_drawn (HO3.out.alloc _) hd4.2 hlt)
      obtain ⟨p, hp⟩ : ∃ y, y = ([1, 1, 1 + x1, -1 - x3] : List Int).getD j4 0 := ⟨_, rfl⟩
      have ⟨p1, p2, p3⟩ : -1000000 ≤ p ∧ p ≤ 1000000 ∧ ¬ p = 0 := by
        rw [hp]; rcases j4 with _ | _ | _ | _ | j <;> first | (simp; omega) | (simp; done) | omega
      rw [← hp]
      clear hd4 hp hj HD3 HO3
      have hs4 := HD4.out.2.size
      go_wp2_with (at_builtin; refine wpList_append_own _ rfl _ _ _ rfl w.heap.size 2 i0 (.int .i64 0) 1 8 Tryd.underlying29 HI.out HZ0.out HZ1.out HZ2.out rfl (by decide) _ k (f.map (Value.int .i64)) rfl (HO4.out.alloc _) ⟨w4.heap.size, 0, none⟩ 1 1 [.int .i64 p] rfl rfl (cell_one_new _ _ _) (ints_one [p]) hl1 hl2 (by simp; omega) ?_; intro v' w5 hown' hgrow _)
      have HO5 : Hid (w5.ownsRow w.heap.size 2 1 v' (k + 1) ((f ++ [p]).map (Value.int .i64))) := Lib.hid (by rw [List.map_append]; exact hown')
      have HD5 : Hid (Drew W A n c ys b w w5) := Lib.hid (Drew.far (HD4.out.alloc _) hgrow (fun k hk => by have := HO4.out.lt k hk; omega) hWw)
      have HF5 := Lib.hid (HF.out.snoc p1 p2)
      have HP : Hid (¬ (f ++ [p]).getD (k + 1 - 1) 0 = 0) := Lib.hid (by
        have := last_snoc f p
        rw [HF.out.1] at this
        rw [Nat.add_sub_cancel, this]; exact p3)
      clear hown' hgrow hl1 hl2 p3
      obtain ⟨A5, c5, rfl, _⟩ := own_cells HO5.out
      go_wp2
      go_ret
      exact ⟨A5, k + 1, c5, _, rfl, OwnI.of_row HO5.out, by omega, HF5.out, HP.out, HD5.out⟩
end Go.Proofs.YtgajgonepcikbaaDoor

namespace Go.Proofs.YtgajgonepcikbaaDoor
open Go.RowKit Go.Joins

set_option maxRecDepth 100000 in
set_option maxHeartbeats 3200000 in
theorem l06Draw_any (W : World) (A : Option Addr) (n c : Nat) (ys : List Int) (b : Nat) (w : World) (h : Sr W A n c ys b w) :
    Calls Tryd.prog 99 #[.pointer (some ⟨b, 0, none⟩)] w fun e w' => ∃ (B : Option Addr) (N d : Nat) (f : List Int), e = .returned (.slice B N d) ∧ OwnI w' w.heap.size B N d f ∧ N ≤ 11 ∧ Drew W A n c ys b w w' := by
  obtain ⟨i0, hi, hz0, hz1, hz2⟩ := info_parts infoI64
  have HI := Lib.hid hi
  have HZ0 := Lib.hid hz0
  have HZ1 := Lib.hid hz1
  have HZ2 := Lib.hid hz2
  clear hi hz0 hz1 hz2
  have hlt := h.lt
  have hWw := h.bel.size
  have H := Lib.hid h
  clear h
  go_enter Tryd.func99, Tryd.ntmps99
  go_wp2_with fail
  refine (l01Next_any _ A n c ys b 6 _ H.out).mono ?_
  rintro e w1 ⟨x1, rfl, hx1, hx2, hd1⟩
  have ⟨a1, b1⟩ := hx2 (by omega)
  have HD1 := Lib.hid hd1
  have hs1 := hd1.2.size
  clear hx1 hx2 hd1
  go_wp2_with fail
  refine (l06Valid_any _ A n c ys b x1 _ HD1.out.1 a1 (by omega)).mono ?_
  rintro e w2 ⟨B, N, d, f, rfl, ho2, hN, hcb, hne, hd2⟩
  have HO2 := Lib.hid ho2
  have HD2 := Lib.hid (Drew.trans HD1.out hd2)
  have hN0 : 0 < N := by omega
  have hN9 : N ≤ 9 := by omega
  clear ho2 hcb hne hd2 HD1
  go_wp2_with fail
  refine (l01Next_any _ A n c ys b 24 _ HD2.out.1).mono ?_
  rintro e w3 ⟨z, rfl, hx1, hx2, hd3⟩
  have HD3 := Lib.hid (Drew.trans HD2.out hd3)
  have HO3 := Lib.hid (OwnC.kept HO2.out hd3.2 (.inr (fun e => by have := HO2.out.row_ge b e; omega)))
  have hs3 := HD3.out.2.size
  clear hx1 hx2 hd3 HD2
  by_cases hz0 : z = 0
  · have hzb : (z == 0) = true := by simpa using hz0
    clear hz0
    have hl1 : N + 1 ≤ maxLen := by unfold maxLen; omega
    have hl2 : (N + 1) * 8 ≤ 140737488355328 := by omega
    obtain ⟨g0, rfl, hg1, hg2⟩ := HO3.out.form hN0
    go_wp2_with (at_builtin; refine wpList_append_own _ rfl _ _ _ rfl w1.heap.size 2 i0 (.int .i64 0) 1 8 Tryd.underlying29 HI.out HZ0.out HZ1.out HZ2.out rfl (by decide) _ N (f.map (Value.int .i64)) rfl ((HO3.out.2.2.2 hN0).alloc _) ⟨w3.heap.size, 0, none⟩ 1 1 [.int .i64 0] rfl rfl (cell_one_new _ _ _) (ints_one [0]) hl1 hl2 (by simp; omega) ?_; intro v' w5 hown' hgrow _)
    have HO5 : Hid (w5.ownsRow w1.heap.size 2 1 v' (N + 1) ((f ++ [0]).map (Value.int .i64))) := Lib.hid (by rw [List.map_append]; exact hown')
    have HD5 : Hid (Drew W A n c ys b w w5) := Lib.hid (Drew.far (HD3.out.alloc _) hgrow (fun k hk => by have := (HO3.out.2.2.2 hN0).lt k hk; omega) hWw)
    clear hown' hgrow hl1 hl2
    obtain ⟨A5, c5, rfl, _⟩ := own_cells HO5.out
    go_wp2
    go_ret
    exact ⟨A5, N + 1, c5, _, rfl, OwnC_lo (OwnI.of_row HO5.out) hs1, by omega, HD5.out⟩
  · have hzb : (z == 0) = false := by simpa using hz0
    clear hz0
    by_cases hz1 : z = 1
    · have hzc : (z == 1) = true := by simpa using hz1
      clear hz1
      obtain ⟨g, rfl, hg1, hg2⟩ := HO3.out.form hN0
      go_wp2_with fail
      refine (l01Pick_any _ A n c ys b w3.heap.size 3 [1000000, 1000001, -1000000] _ (HD3.out.alloc _).1 (by omega) (by omega) (by simp) (by omega) (fun j hj => by rcases j with _ | _ | _ | j <;> first | (simp; done) | omega)).mono ?_
      rintro e w4 ⟨j4, hj, rfl, hd4⟩
      have HD4 := Lib.hid (Drew.trans (HD3.out.alloc _) hd4)
      have HO4 := Lib.hid (OwnC.kept (OwnC.below HO3.out (bl_alloc (Below.refl _ _) _)) hd4.2 (.inr (fun e => by have := HO3.out.row_ge b e; omega)))
      generalize ([1000000, 1000001, -1000000] : List Int).getD j4 0 = p
      have HO4i : Hid (OwnI w4 w1.heap.size (some ⟨g, 0, none⟩) N d f) := HO4
      have ⟨k1, k2⟩ := HO4i.out.at_ hN0
      have HSt := Lib.hid (HO4i.out.set_ 0 p).1
      have hN0i : (0 : Int) < (N : Int) := by omega
      have hcc := HO4i.out.2.1
      have hcm := HO4i.out.2.2.1
      unfold maxLen at hcm
      have HD5 : Hid (Drew W A n c ys b w (w4.setCell ⟨g, 0, none⟩ (.int .i64 p))) := Lib.hid (HD4.out.set (by omega) (by omega) (by omega))
      clear hd4 hj HO4 HD3 HO3 HO2
      go_wp2
      go_ret
      exact ⟨_, N, d, _, rfl, OwnC_lo HSt.out hs1, by omega, HD5.out⟩
    · have hzc : (z == 1) = false := by simpa using hz1
      clear hz1
      by_cases hz2 : z = 2
      · have hzd : (z == 2) = true := by simpa using hz2
        clear hz2
        go_wp2_with fail
        refine (l01Next_any _ A n c ys b 3 _ HD3.out.1).mono ?_
        rintro e w4 ⟨x4, rfl, hx1, hx2, hd4⟩
        have ⟨a4, b4⟩ := hx2 (by omega)
        have HD4 := Lib.hid (Drew.trans HD3.out hd4)
        have hs4 := HD4.out.2.size
        clear hx1 hx2 hd4
        go_wp2_with fail
        refine (l06Valid_any _ A n c ys b (7 + x4) _ HD4.out.1 (by omega) (by omega)).mono ?_
        rintro e w5 ⟨B5, N5, d5, f5, rfl, ho5, hN5, _, _, hd5⟩
        have HO5 := Lib.hid ho5
        have HD5 := Lib.hid (Drew.trans HD4.out hd5)
        clear ho5 hd5
        go_wp2
        go_ret
        exact ⟨B5, N5, d5, f5, rfl, OwnC_lo HO5.out hs4, by omega, HD5.out⟩
      · have hzd : (z == 2) = false := by simpa using hz2
        clear hz2
        by_cases hz3 : z = 3
        · have hze : (z == 3) = true := by simpa using hz3
          clear hz3
          go_wp2
          go_ret
          exact ⟨_, 0, 0, [], rfl, OwnC.nil (by unfold maxLen; omega), by omega, HD3.out.alloc _⟩
        · have hze : (z == 3) = false := by simpa using hz3
          clear hz3
          go_wp2
          go_ret
          exact ⟨B, N, d, f, rfl, OwnC_lo HO3.out hs1, by omega, HD3.out⟩

set_option maxHeartbeats 1600000 in
theorem drawPolynomialText_any (A : Option Addr) (n c : Nat) (ys : List Int) (w : World) (hr : Rd .u8 w A n c ys) (hb : Bys ys) :
    Calls Tryd.prog 53 #[.slice A n c] w fun e w' => ∃ (B : Option Addr) (N d : Nat) (f : List Int), e = .returned (.slice B N d) ∧ Rd .i64 w' B N d f ∧ N ≤ 11 ∧ Below w.heap.size w w' := by
  have HR := Lib.hid hr
  have HBy := Lib.hid hb
  clear hr hb
  go_enter Tryd.func53, Tryd.ntmps53
  go_wp2_with fail
  refine (l01From_any A n c ys w HR.out HBy.out).mono ?_
  rintro e w0 ⟨b, rfl, hs⟩
  have HS := Lib.hid hs
  clear hs
  go_wp2_with fail
  refine (l06Draw_any _ A n c ys b _ HS.out).mono ?_
  rintro e w1 ⟨B, N, d, f, rfl, ho, hN, hd⟩
  have HD := Lib.hid hd
  have HO := Lib.hid ho.rd
  clear ho hd
  go_wp2
  go_ret
  exact ⟨B, N, d, f, rfl, HO.out, hN, HD.out.1.bel⟩

theorem POk_of_co {f : List Int} {N : Nat} (h : CoB f N) (h9 : N ≤ 9) (hne : ¬ f.getD (N - 1) 0 = 0) : POk f := by
  obtain ⟨rfl, hb⟩ := h
  exact ⟨h9, hb, fun _ => hne⟩
theorem plA_len {fs : List Int} (h : CB fs) : ∀ j, j ≤ fs.length → (plA fs fs.length j).length ≤ 50 * j
  | 0, _ => by simp [plA]
  | j + 1, hj => by
    have ih := plA_len h j (by omega)
    have hb := h.2 (fs.length - 1 - j) (by omega)
    have hl := h.1
    unfold plA
    split
    · omega
    · have h1 := dec_len20 (n := ((fs.getD (fs.length - 1 - j) 0).natAbs : Int)) (by omega)
      have h2 := dec_len20 (n := ((fs.length - 1 - j : Nat) : Int)) (by omega)
      rw [Int.toNat_natCast] at h1 h2
      have h3 : (tmW (fs.getD (fs.length - 1 - j) 0).natAbs (fs.length - 1 - j)).length ≤ 42 := by
        unfold tmW
        rw [List.length_append]
        have a : (if (fs.getD (fs.length - 1 - j) 0).natAbs = 1 ∧ ¬ fs.length - 1 - j = 0 then [] else Lib.decDigits (fs.getD (fs.length - 1 - j) 0).natAbs).length ≤ 20 := by
          split
          · simp
          · exact h1
        have b : (if fs.length - 1 - j = 0 then [] else if fs.length - 1 - j = 1 then [120] else 120 :: 94 :: Lib.decDigits (fs.length - 1 - j)).length ≤ 22 := by
          split
          · simp
          · split
            · simp
            · simp only [List.length_cons]; omega
        omega
      have h4 : (if fs.getD (fs.length - 1 - j) 0 < 0 then [45] else if plA fs fs.length j = [] then [] else [43] : List UInt8).length ≤ 1 := by
        split
        · simp
        · split <;> simp
      rw [List.length_append, List.length_append]
      omega
theorem plT_len {fs : List Int} (h : CB fs) : (plT fs).length ≤ 451 := by
  have := plA_len h fs.length (Nat.le_refl _)
  have hl := h.1
  unfold plT
  split
  · simp
  · omega

set_option maxHeartbeats 1600000 in
theorem drawReadPolynomial_any (A : Option Addr) (n c : Nat) (ys : List Int) (w : World) (hr : Rd .u8 w A n c ys) (hb : Bys ys) :
    Calls Tryd.prog 54 #[.slice A n c] w fun e w' => ∃ u : ByteArray, e = .returned (.string u) ∧ u.size ≤ 1000 ∧ Below w.heap.size w w' := by
  have HR := Lib.hid hr
  have HBy := Lib.hid hb
  clear hr hb
  go_enter Tryd.func54, Tryd.ntmps54
  go_wp2_with fail
  refine (l01From_any A n c ys w HR.out HBy.out).mono ?_
  rintro e w0 ⟨b, rfl, hs⟩
  have HS := Lib.hid hs
  clear hs
  go_wp2_with fail
  refine (l01Next_any _ A n c ys b 6 _ HS.out).mono ?_
  rintro e w1 ⟨x, rfl, hx1, hx2, hd1⟩
  have ⟨x1, x2⟩ := hx2 (by omega)
  have HS1 := Lib.hid hd1.1
  clear hx1 hx2 hd1
  go_wp2_with fail
  refine (l06Valid_any _ A n c ys b x _ HS1.out x1 (by omega)).mono ?_
  rintro e w2 ⟨B, N, d, f, rfl, ho, hN, hcb, hne, hd2⟩
  have HP := Lib.hid (POk_of_co hcb (by omega) hne)
  have HRd := Lib.hid ho.rd
  have HS2 := Lib.hid hd2.1
  obtain ⟨T, hT⟩ : ∃ T, T = bs (plT f) := ⟨_, rfl⟩
  have HT := Lib.hid hT
  have hz : T.size ≤ 451 := by rw [hT, bs_size]; exact plT_len ⟨HP.out.1, HP.out.2.1⟩
  clear ho hcb hne hd2 hT
  go_wp2_with fail
  refine (l06Text_at HT.out _ HRd.out HP.out).mono ?_
  rintro e w3 ⟨rfl, hb3⟩
  have HS3 := Lib.hid (HS2.out.below hb3)
  clear hb3
  go_wp2_with fail
  refine (l01Next_any _ A n c ys b 3 _ HS3.out).mono ?_
  rintro e w4 ⟨z, rfl, hx1, hx2, hd4⟩
  have HS4 := Lib.hid hd4.1
  clear hx1 hx2 hd4
  by_cases hz0 : z = 0
  · have hzb : (z == 0) = true := by simpa using hz0
    clear hz0
    go_wp2_with fail
    refine (l01Damage_any _ A n c ys b T (by omega) _ HS4.out).mono ?_
    rintro e w5 ⟨u, rfl, hu, hd5⟩
    have HS5 := Lib.hid hd5.1
    clear hd5
    go_wp2
    go_ret
    exact ⟨u, rfl, by omega, HS5.out.bel⟩
  · have hzb : (z == 0) = false := by simpa using hz0
    clear hz0
    go_wp2
    go_ret
    exact ⟨T, rfl, by omega, HS4.out.bel⟩

set_option maxHeartbeats 1600000 in
theorem likeInts_any (B : Option Addr) (N d : Nat) (B' : Option Addr) (d' : Nat) (zs : List Int) (w : World) (hr : Rd .i64 w B N d zs) (hr' : Rd .i64 w B' N d' zs) :
    Calls Tryd.prog 55 #[.slice B N d, .slice B' N d'] w fun e w' => e = .returned (.bool true) ∧ Below w.heap.size w w' := by
  have hm := hr.2.2.1
  have hc := hr.2.1
  unfold maxLen at hm
  have HR := Lib.hid hr
  have HR' := Lib.hid hr'
  clear hr hr'
  have hself : ((N : Int) != (N : Int)) = false := by simp
  go_enter Tryd.func55, Tryd.ntmps55
  go_wp2
  go_loopw [5] (fun j wr => ∃ k : Nat, k ≤ N ∧ j = .int .i64 k ∧ Hid (Below w.heap.size w wr)) (fun j _ => N - (intOf j).toNat)
  case atStart => exact ⟨0, Nat.zero_le _, rfl, Lib.hid (Below.refl _ _)⟩
  case round =>
    obtain ⟨k, hk, rfl, HB⟩ := hrel
    by_cases hlt : k < N
    · obtain ⟨b, off, rfl, _, hcell⟩ := HR.out.2.2.2 (by omega)
      obtain ⟨b', off', rfl, _, hcell'⟩ := HR'.out.2.2.2 (by omega)
      have h0 := keep_cell HB.out (hcell k hlt)
      have h0' := keep_cell HB.out (hcell' k hlt)
      generalize zs.getD k 0 = x at h0 h0'
      have f1 : (x != x) = false := by simp
      clear hcell hcell'
      go_wp2_with fail
      go_quiet (fail)
      go_wp2
      go_roundw
      case rel => exact ⟨k + 1, by omega, by go_num, Lib.hid (by repeat (first | exact HB.out | apply Below.drew | apply below_drewN))⟩
      case measure => simp [intOf]; omega
    · go_wp2
      go_ret
      exact ⟨rfl, HB.out⟩
end Go.Proofs.YtgajgonepcikbaaDoor
