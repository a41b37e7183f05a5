
/- Polynomials drawn. -/
import Derived.Test.YthdmanngjnfamaaDrB
import Derived.Test.YthdmanngjnfamaaTrim
import Derived.Test.YthdmanngjnfamaaCopy
import Derived.Deep.LoopGhost
namespace Go.Proofs.Ythdmanngjnfamaa
open Go.RowKit Go.Joins

theorem ownsRow_lo {w : World} {lo lo' : Nat} {e : TypeId} {sz : Nat} {v : Value} {n : Nat} {cs : List Value} (h : w.ownsRow lo e sz v n cs) (hl : lo' ≤ lo) : w.ownsRow lo' e sz v n cs := by
  refine ⟨h.1, ?_⟩
  rcases h.2 with h | ⟨g, cap, cur, hv, hb, hr⟩
  · exact .inl h
  · exact .inr ⟨g, cap, cur, hv, Nat.le_trans hl hb, hr⟩
theorem own_drawn {w w' : World} {lo b : Nat} {e : TypeId} {sz : Nat} {v : Value} {n : Nat} {cs : List Value} (ho : w.ownsRow lo e sz v n cs) (hd : w.grownBy w' (some b)) (hlo : b < lo) : w'.ownsRow lo e sz v n cs :=
  ho.kept hd (by
    cases hv : v.ownBlock with
    | none => exact .inl rfl
    | some k =>
      right
      intro e2
      injection e2 with e2
      have := (ho.lt k hv).1
      omega)
section
variable {W : World} {A : Option Addr} {n c : Nat} {ys : List Int} {b : Nat} {w0 w w' : World}
theorem Drew.far {r : Option Nat} (h : Drew W A n c ys b w0 w) (hg : w.grownBy w' r) (hr : ∀ k, r = some k → k ≠ b ∧ w0.heap.size ≤ k) (hW : W.heap.size ≤ w0.heap.size) : Drew W A n c ys b w0 w' := by
  have hb : some b ≠ r := fun e => (hr b e.symm).1 rfl
  have hblk := hg.block b h.1.lt hb
  have kc : ∀ j, w'.cell? ⟨b, j, none⟩ = w.cell? ⟨b, j, none⟩ := fun j => by simp only [World.cell?]; rw [hblk]
  have kf : ∀ j, w'.frozen? ⟨b, j, none⟩ = w.frozen? ⟨b, j, none⟩ := fun j => World.frozen?_of_block hblk
  obtain ⟨p, hp, c1⟩ := h.1.at_
  obtain ⟨s, s1, s2, c2⟩ := h.1.sd
  refine ⟨⟨h.1.rd, h.1.by_, h.1.bel.grown hg h.1.bel.size (fun k hk => Nat.le_trans hW (hr k hk).2), h.1.lo, (kc 0).trans h.1.c0, ⟨p, hp, (kc 1).trans c1⟩, ⟨s, s1, s2, (kc 2).trans c2⟩, (kf 1).trans h.1.f1, (kf 2).trans h.1.f2⟩, ?_⟩
  exact ⟨hg.os.trans h.2.os, hg.tape.trans h.2.tape, hg.output.trans h.2.output, Nat.le_trans h.2.size hg.size, fun k hk hne => (hg.block k (Nat.lt_of_lt_of_le hk h.2.size) (fun e => by have := (hr k e.symm).2; omega)).trans (h.2.block k hk hne)⟩
end
theorem OwnC_lo {e : TypeId} {sz : Nat} {w : World} {lo lo' : Nat} {A : Option Addr} {n c : Nat} {cs : List Value} (h : OwnC e sz w lo A n c cs) (hl : lo' ≤ lo) : OwnC e sz w lo' A n c cs :=
  ⟨h.1, h.2.1, h.2.2.1, fun hn => ownsRow_lo (h.2.2.2 hn) hl⟩
theorem emptyRow (w : World) (T : TypeId) (sz : Nat) : (w.alloc (.cells #[] T)).ownsRow w.heap.size T sz (.slice (some ⟨w.heap.size, 0, none⟩) 0 0) 0 [] :=
  ⟨by simp, .inr ⟨w.heap.size, 0, #[], rfl, Nat.le_refl _, heap_alloc_new w _, Nat.le_refl _, by unfold maxLen; omega, by simp, by simp⟩⟩
/-- k coefficients within bounds -/
def CoB (f : List Int) (k : Nat) : Prop := f.length = k ∧ ∀ i, i < k → -1000000 ≤ f.getD i 0 ∧ f.getD i 0 ≤ 1000000
theorem CoB.snoc {f : List Int} {k : Nat} (h : CoB f k) {p : Int} (h1 : -1000000 ≤ p) (h2 : p ≤ 1000000) : CoB (f ++ [p]) (k + 1) := by
  refine ⟨by rw [List.length_append, h.1]; rfl, fun i hi => ?_⟩
  rcases Nat.lt_or_ge i k with hlt | hge
  · have := h.2 i hlt
    rw [show (f ++ [p]).getD i 0 = f.getD i 0 by simp [List.getD, List.getElem?_append_left (show i < f.length by rw [h.1]; exact hlt)]]
    exact this
  · rw [show (f ++ [p]).getD i 0 = p by
      have hl := h.1
      have : i = f.length := by omega
      simp [List.getD, this]]
    exact ⟨h1, h2⟩
theorem last_snoc (f : List Int) (p : Int) : (f ++ [p]).getD f.length 0 = p := by simp [List.getD]
set_option maxRecDepth 100000 in
set_option maxHeartbeats 3200000 in
theorem l06Valid_any (W : World) (A : Option Addr) (n c : Nat) (ys : List Int) (b : Nat) (dg : Int) (w : World) (h : Sr W A n c ys b w) (h0 : 0 ≤ dg) (h9 : dg ≤ 9) :
    Calls Try.prog 139 #[.pointer (some ⟨b, 0, none⟩), .int .i64 dg] w fun e w' => ∃ (B : Option Addr) (N d : Nat) (f : List Int), e = .returned (.slice B N d) ∧ OwnI w' w.heap.size B N d f ∧ (N : Int) = dg + 1 ∧ CoB f N ∧ ¬ f.getD (N - 1) 0 = 0 ∧ Drew W A n c ys b w w' := by
  obtain ⟨i0, hi, hz0, hz1, hz2⟩ := info_parts infoI64
  have HI := Lib.hid hi
  have HZ0 := Lib.hid hz0
  have HZ1 := Lib.hid hz1
  have HZ2 := Lib.hid hz2
  clear hi hz0 hz1 hz2
  obtain ⟨m, rfl⟩ : ∃ m : Nat, dg = (m : Int) := ⟨dg.toNat, by omega⟩
  have hm9 : m ≤ 9 := by omega
  have hlt := h.lt
  have hWw := h.bel.size
  have H := Lib.hid h
  clear h h0 h9
  go_enter Try.func139, Try.ntmps139
  go_wp2_with fail
  go_loopg [5, 6] m (fun g v i wr => ∃ (k : Nat) (f : List Int), g = m - k ∧ k ≤ m ∧ i = .int .i64 k ∧ Hid (CoB f k) ∧ Hid (wr.ownsRow w.heap.size 2 1 v k (f.map (Value.int .i64))) ∧ Hid (Drew W A n c ys b w wr))
  case atStart => exact ⟨0, [], by omega, Nat.zero_le _, rfl, Lib.hid ⟨rfl, fun i hi => by omega⟩, Lib.hid (emptyRow w _ 1), Lib.hid (H.out.drew0.alloc _)⟩
  case round =>
    obtain ⟨k, f, rfl, hk, rfl, HF, HO, HD⟩ := hrel
    obtain ⟨wo, rfl⟩ : ∃ wo : World, wo = wr := ⟨_, rfl⟩
    have hl1 : k + 1 ≤ maxLen := by unfold maxLen; omega
    have hl2 : (k + 1) * 8 ≤ 140737488355328 := by omega
    by_cases hltk : k < m
    · go_wp2_with fail
      refine (l01Next_any _ A n c ys b 13 _ HD.out.1).mono ?_
      rintro e w1 ⟨x1, rfl, hx1, hx2, hd1⟩
      have ⟨a1, b1⟩ := hx2 (by omega)
      have HD1 := Lib.hid (Drew.trans HD.out hd1)
      have HO1 := Lib.hid (own_drawn HO.out hd1.2 hlt)
      clear hx1 hx2 hd1 HD HO
      go_wp2_with fail
      refine (l01Next_any _ A n c ys b 5 _ HD1.out.1).mono ?_
      rintro e w2 ⟨x2, rfl, hx1, hx2, hd2⟩
      have ⟨a2, b2⟩ := hx2 (by omega)
      have HD2 := Lib.hid (Drew.trans HD1.out hd2)
      have HO2 := Lib.hid (own_drawn HO1.out hd2.2 hlt)
      clear hx1 hx2 hd2 HD1 HO1
      go_wp2_with fail
      refine (l01Next_any _ A n c ys b 201 _ HD2.out.1).mono ?_
      rintro e w3 ⟨x3, rfl, hx1, hx2, hd3⟩
      have ⟨a3, b3⟩ := hx2 (by omega)
      have HD3 := Lib.hid (Drew.trans HD2.out hd3)
      have HO3 := Lib.hid (own_drawn HO2.out hd3.2 hlt)
      clear hx1 hx2 hd3 HD2 HO2
      have hs3 := HD3.out.2.size
      go_wp2_with fail
      refine (l01Pick_any _ A n c ys b w3.heap.size 4 [x1 - 6, x2 - 2, 0, x3 - 100] _ (HD3.out.alloc _).1 (by omega) (by omega) (by simp) (by omega) (fun j hj => by rcases j with _ | _ | _ | _ | j <;> first | (simp; done) | omega)).mono ?_
      rintro e w4 ⟨j4, hj, rfl, hd4⟩
      have HD4 := Lib.hid (Drew.trans (HD3.out.alloc _) hd4)
      have HO4 := Lib.hid (own_drawn (HO3.out.alloc _) hd4.2 hlt)
      obtain ⟨p, hp⟩ : ∃ y, y = ([x1 - 6, x2 - 2, 0, x3 - 100] : List Int).getD j4 0 := ⟨_, rfl⟩
      have ⟨p1, p2⟩ : -1000000 ≤ p ∧ p ≤ 1000000 := by
        rw [hp]; rcases j4 with _ | _ | _ | _ | j <;> first | (simp; omega) | (simp; done) | omega
      rw [← hp]
      clear hd4 hp hj HD3 HO3
      have hs4 := HD4.out.2.size
      go_wp2_with (at_builtin; refine wpList_append_own _ rfl _ _ _ rfl w.heap.size 2 i0 (.int .i64 0) 1 8 Try.underlying22 HI.out HZ0.out HZ1.out HZ2.out rfl (by decide) _ k (f.map (Value.int .i64)) rfl (HO4.out.alloc _) ⟨w4.heap.size, 0, none⟩ 1 1 [.int .i64 p] rfl rfl (cell_one_new _ _ _) (ints_one [p]) hl1 hl2 (by simp; omega) ?_; intro v' w5 hown' hgrow _)
      have HO5 : Hid (w5.ownsRow w.heap.size 2 1 v' (k + 1) ((f ++ [p]).map (Value.int .i64))) := Lib.hid (by rw [List.map_append]; exact hown')
      have HD5 : Hid (Drew W A n c ys b w w5) := Lib.hid (Drew.far (HD4.out.alloc _) hgrow (fun k hk => by have := HO4.out.lt k hk; omega) hWw)
      have HF5 := Lib.hid (HF.out.snoc p1 p2)
      clear hown' hgrow hl1 hl2
      go_wp2
      go_roundg (m - (k + 1))
      case measure => omega
      case rel => exact ⟨k + 1, _, rfl, by omega, by go_num, HF5, HO5, HD5⟩
    · obtain rfl : k = m := by omega
      go_wp2_with fail
      refine (l01Next_any _ A n c ys b 6 _ HD.out.1).mono ?_
      rintro e w1 ⟨x1, rfl, hx1, hx2, hd1⟩
      have ⟨a1, b1⟩ := hx2 (by omega)
      have HD1 := Lib.hid (Drew.trans HD.out hd1)
      have HO1 := Lib.hid (own_drawn HO.out hd1.2 hlt)
      clear hx1 hx2 hd1 HD HO
      go_wp2_with fail
      refine (l01Next_any _ A n c ys b 3 _ HD1.out.1).mono ?_
      rintro e w3 ⟨x3, rfl, hx1, hx2, hd3⟩
      have ⟨a3, b3⟩ := hx2 (by omega)
      have HD3 := Lib.hid (Drew.trans HD1.out hd3)
      have HO3 := Lib.hid (own_drawn HO1.out hd3.2 hlt)
      clear hx1 hx2 hd3 HD1 HO1
      have hs3 := HD3.out.2.size
      go_wp2_with fail
      refine (l01Pick_any _ A n c ys b w3.heap.size 4 [1, 1, 1 + x1, -1 - x3] _ (HD3.out.alloc _).1 (by omega) (by omega) (by simp) (by omega) (fun j hj => by rcases j with _ | _ | _ | _ | j <;> first | (simp; done) | omega)).mono ?_
      rintro e w4 ⟨j4, hj, rfl, hd4⟩
      have HD4 := Lib.hid (Drew.trans (HD3.out.alloc _) hd4)
      have HO4 := Lib.hid (own_drawn (HO3.out.alloc _) hd4.2 hlt)
      obtain ⟨p, hp⟩ : ∃ y, y = ([1, 1, 1 + x1, -1 - x3] : List Int).getD j4 0 := ⟨_, rfl⟩
      have ⟨p1, p2, p3⟩ : -1000000 ≤ p ∧ p ≤ 1000000 ∧ ¬ p = 0 := by
        rw [hp]; rcases j4 with _ | _ | _ | _ | j <;> first | (simp; omega) | (simp; done) | omega
      rw [← hp]
      clear hd4 hp hj HD3 HO3
      have hs4 := HD4.out.2.size
      go_wp2_with (at_builtin; refine wpList_append_own _ rfl _ _ _ rfl w.heap.size 2 i0 (.int .i64 0) 1 8 Try.underlying22 HI.out HZ0.out HZ1.out HZ2.out rfl (by decide) _ k (f.map (Value.int .i64)) rfl (HO4.out.alloc _) ⟨w4.heap.size, 0, none⟩ 1 1 [.int .i64 p] rfl rfl (cell_one_new _ _ _) (ints_one [p]) hl1 hl2 (by simp; omega) ?_; intro v' w5 hown' hgrow _)
      have HO5 : Hid (w5.ownsRow w.heap.size 2 1 v' (k + 1) ((f ++ [p]).map (Value.int .i64))) := Lib.hid (by rw [List.map_append]; exact hown')
      have HD5 : Hid (Drew W A n c ys b w w5) := Lib.hid (Drew.far (HD4.out.alloc _) hgrow (fun k hk => by have := HO4.out.lt k hk; omega) hWw)
      have HF5 := Lib.hid (HF.out.snoc p1 p2)
      have HP : Hid (¬ (f ++ [p]).getD (k + 1 - 1) 0 = 0) := Lib.hid (by
        have := last_snoc f p
        rw [HF.out.1] at this
        rw [Nat.add_sub_cancel, this]; exact p3)
      clear hown' hgrow hl1 hl2 p3
      obtain ⟨A5, c5, rfl, _⟩ := own_cells HO5.out
      go_wp2
      go_ret
      exact ⟨A5, k + 1, c5, _, rfl, OwnI.of_row HO5.out, by omega, HF5.out, HP.out, HD5.out⟩
set_option maxRecDepth 100000 in
set_option maxHeartbeats 3200000 in
theorem l06Draw_any (W : World) (A : Option Addr) (n c : Nat) (ys : List Int) (b : Nat) (w : World) (h : Sr W A n c ys b w) :
    Calls Try.prog 103 #[.pointer (some ⟨b, 0, none⟩)] w fun e w' => ∃ (B : Option Addr) (N d : Nat) (f : List Int), e = .returned (.slice B N d) ∧ OwnI w' w.heap.size B N d f ∧ N ≤ 11 ∧ Drew W A n c ys b w w' := by
  obtain ⟨i0, hi, hz0, hz1, hz2⟩ := info_parts infoI64
  have HI := Lib.hid hi
  have HZ0 := Lib.hid hz0
  have HZ1 := Lib.hid hz1
  have HZ2 := Lib.hid hz2
  clear hi hz0 hz1 hz2
  have hlt := h.lt
  have hWw := h.bel.size
  have H := Lib.hid h
  clear h
  go_enter Try.func103, Try.ntmps103
  go_wp2_with fail
  refine (l01Next_any _ A n c ys b 6 _ H.out).mono ?_
  rintro e w1 ⟨x1, rfl, hx1, hx2, hd1⟩
  have ⟨a1, b1⟩ := hx2 (by omega)
  have HD1 := Lib.hid hd1
  have hs1 := hd1.2.size
  clear hx1 hx2 hd1
  go_wp2_with fail
  refine (l06Valid_any _ A n c ys b x1 _ HD1.out.1 a1 (by omega)).mono ?_
  rintro e w2 ⟨B, N, d, f, rfl, ho2, hN, hcb, hne, hd2⟩
  have HO2 := Lib.hid ho2
  have HD2 := Lib.hid (Drew.trans HD1.out hd2)
  have hN0 : 0 < N := by omega
  have hN9 : N ≤ 9 := by omega
  clear ho2 hcb hne hd2 HD1
  go_wp2_with fail
  refine (l01Next_any _ A n c ys b 24 _ HD2.out.1).mono ?_
  rintro e w3 ⟨z, rfl, hx1, hx2, hd3⟩
  have HD3 := Lib.hid (Drew.trans HD2.out hd3)
  have HO3 := Lib.hid (OwnC.kept HO2.out hd3.2 (.inr (fun e => by have := HO2.out.row_ge b e; omega)))
  have hs3 := HD3.out.2.size
  clear hx1 hx2 hd3 HD2
  by_cases hz0 : z = 0
  · have hzb : (z == 0) = true := by simpa using hz0
    clear hz0
    have hl1 : N + 1 ≤ maxLen := by unfold maxLen; omega
    have hl2 : (N + 1) * 8 ≤ 140737488355328 := by omega
    obtain ⟨g0, rfl, hg1, hg2⟩ := HO3.out.form hN0
    go_wp2_with (at_builtin; refine wpList_append_own _ rfl _ _ _ rfl w1.heap.size 2 i0 (.int .i64 0) 1 8 Try.underlying22 HI.out HZ0.out HZ1.out HZ2.out rfl (by decide) _ N (f.map (Value.int .i64)) rfl ((HO3.out.2.2.2 hN0).alloc _) ⟨w3.heap.size, 0, none⟩ 1 1 [.int .i64 0] rfl rfl (cell_one_new _ _ _) (ints_one [0]) hl1 hl2 (by simp; omega) ?_; intro v' w5 hown' hgrow _)
    have HO5 : Hid (w5.ownsRow w1.heap.size 2 1 v' (N + 1) ((f ++ [0]).map (Value.int .i64))) := Lib.hid (by rw [List.map_append]; exact hown')
    have HD5 : Hid (Drew W A n c ys b w w5) := Lib.hid (Drew.far (HD3.out.alloc _) hgrow (fun k hk => by have := (HO3.out.2.2.2 hN0).lt k hk; omega) hWw)
    clear hown' hgrow hl1 hl2
    obtain ⟨A5, c5, rfl, _⟩ := own_cells HO5.out
    go_wp2
    go_ret
    exact ⟨A5, N + 1, c5, _, rfl, OwnC_lo (OwnI.of_row HO5.out) hs1, by omega, HD5.out⟩
  · have hzb : (z == 0) = false := by simpa using hz0
    clear hz0
    by_cases hz1 : z = 1
    · have hzc : (z == 1) = true := by simpa using hz1
      clear hz1
      obtain ⟨g, rfl, hg1, hg2⟩ := HO3.out.form hN0
      go_wp2_with fail
      refine (l01Pick_any _ A n c ys b w3.heap.size 3 [1000000, 1000001, -1000000] _ (HD3.out.alloc _).1 (by omega) (by omega) (by simp) (by omega) (fun j hj => by rcases j with _ | _ | _ | j <;> first | (simp; done) | omega)).mono ?_
      rintro e w4 ⟨j4, hj, rfl, hd4⟩
      have HD4 := Lib.hid (Drew.trans (HD3.out.alloc _) hd4)
      have HO4 := Lib.hid (OwnC.kept (OwnC.below HO3.out (bl_alloc (Below.refl _ _) _)) hd4.2 (.inr (fun e => by have := HO3.out.row_ge b e; omega)))
      generalize ([1000000, 1000001, -1000000] : List Int).getD j4 0 = p
      have HO4i : Hid (OwnI w4 w1.heap.size (some ⟨g, 0, none⟩) N d f) := HO4
      have ⟨k1, k2⟩ := HO4i.out.at_ hN0
      have HSt := Lib.hid (HO4i.out.set_ 0 p).1
      have hN0i : (0 : Int) < (N : Int) := by omega
      have hcc := HO4i.out.2.1
      have hcm := HO4i.out.2.2.1
      unfold maxLen at hcm
      have HD5 : Hid (Drew W A n c ys b w (w4.setCell ⟨g, 0, none⟩ (.int .i64 p))) := Lib.hid (HD4.out.set (by omega) (by omega) (by omega))
      clear hd4 hj HO4 HD3 HO3 HO2
      go_wp2
      go_ret
      exact ⟨_, N, d, _, rfl, OwnC_lo HSt.out hs1, by omega, HD5.out⟩
    · have hzc : (z == 1) = false := by simpa using hz1
      clear hz1
      by_cases hz2 : z = 2
      · have hzd : (z == 2) = true := by simpa using hz2
        clear hz2
        go_wp2_with fail
        refine (l01Next_any _ A n c ys b 3 _ HD3.out.1).mono ?_
        rintro e w4 ⟨x4, rfl, hx1, hx2, hd4⟩
        have ⟨a4, b4⟩ := hx2 (by omega)
        have HD4 := Lib.hid (Drew.trans HD3.out hd4)
        have hs4 := HD4.out.2.size
        clear hx1 hx2 hd4
        go_wp2_with fail
        refine (l06Valid_any _ A n c ys b (7 + x4) _ HD4.out.1 (by omega) (by omega)).mono ?_
        rintro e w5 ⟨B5, N5, d5, f5, rfl, ho5, hN5, _, _, hd5⟩
        have HO5 := Lib.hid ho5
        have HD5 := Lib.hid (Drew.trans HD4.out hd5)
        clear ho5 hd5
        go_wp2
        go_ret
        exact ⟨B5, N5, d5, f5, rfl, OwnC_lo HO5.out hs4, by omega, HD5.out⟩
      · have hzd : (z == 2) = false := by simpa using hz2
        clear hz2
        by_cases hz3 : z = 3
        · have hze : (z == 3) = true := by simpa using hz3
          clear hz3
          go_wp2
          go_ret
          exact ⟨_, 0, 0, [], rfl, OwnC.nil (by unfold maxLen; omega), by omega, HD3.out.alloc _⟩
        · have hze : (z == 3) = false := by simpa using hz3
          clear hz3
          go_wp2
          go_ret
          exact ⟨B, N, d, f, rfl, OwnC_lo HO3.out hs1, by omega, HD3.out⟩
end Go.Proofs.Ythdmanngjnfamaa
