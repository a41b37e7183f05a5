
/- The walks of the corners of a polygon. -/
import Derived.Test.YthdmanngjnfamaaPts
namespace Go.Proofs.Ythdmanngjnfamaa
open Go.RowKit

theorem own_cut {w : World} {base : Nat} {e : TypeId} {sz : Nat} {A : Option Addr} {n c : Nat} {cs : List Value} (h : w.ownsRow base e sz (.slice A (n + 1) c) (n + 1) cs) : w.ownsRow base e sz (.slice A n c) n (cs.take (n * sz)) := by
  obtain ⟨hl, h2⟩ := h
  have hm : n * sz ≤ (n + 1) * sz := Nat.mul_le_mul_right _ (by omega)
  refine ⟨by rw [List.length_take]; omega, ?_⟩
  rcases h2 with ⟨h', _⟩ | ⟨g, cap, cur, h', hb, hh, hnc, hcm, hcs, htake⟩
  · simp at h'
  · simp at h'
    obtain ⟨rfl, rfl⟩ := h'
    refine .inr ⟨g, c, cur, rfl, hb, hh, by omega, hcm, hcs, ?_⟩
    rw [← htake, List.take_take, Nat.min_eq_left hm]
theorem own_below {w w' : World} {base : Nat} {e : TypeId} {sz : Nat} {v : Value} {n : Nat} {cs : List Value} (h : w.ownsRow base e sz v n cs) (hb : Below w.heap.size w w') : w'.ownsRow base e sz v n cs :=
  h.kept (row := none) ⟨hb.os, hb.tape, hb.output, hb.size, fun k hk _ => hb.block k hk⟩ (by cases v.ownBlock <;> simp)
theorem V2_pop (L : List (Int × Int)) (b : Nat) (s : List Nat) : (V2 (ptsOf L (b :: s))).take (s.length * 2) = V2 (ptsOf L s) := by
  rw [ptsOf_cons, V2_snoc, List.take_left' (by unfold V2; rw [List.length_map, flatI_len, ptsOf_len])]
theorem bd_at {L : List (Int × Int)} (h : Bd L) {i : Nat} (hi : i < L.length) : (0 ≤ pX L i ∧ pX L i ≤ 8) ∧ (0 ≤ pY L i ∧ pY L i ≤ 39) := by
  have := h _ (getD_mem2 hi)
  unfold pX pY
  omega
theorem top_cells (L : List (Int × Int)) (b : Nat) (s : List Nat) : (flatI (ptsOf L (b :: s))).getD (s.length * 2) 0 = pX L b ∧ (flatI (ptsOf L (b :: s))).getD (s.length * 2 + 1) 0 = pY L b := by
  have h := flatI_at (ptsOf L (b :: s)) s.length (by rw [ptsOf_len]; simp)
  rw [ptsOf_top] at h
  exact h
theorem next_cells (L : List (Int × Int)) (b a : Nat) (s : List Nat) : (flatI (ptsOf L (b :: a :: s))).getD (s.length * 2) 0 = pX L a ∧ (flatI (ptsOf L (b :: a :: s))).getD (s.length * 2 + 1) 0 = pY L a := by
  have h := flatI_at (ptsOf L (b :: a :: s)) s.length (by rw [ptsOf_len]; simp; omega)
  rw [ptsOf_next] at h
  exact h
theorem diff_bd {x y u v : Int} (h1 : 0 ≤ x) (h2 : x ≤ 39) (h3 : 0 ≤ y) (h4 : y ≤ 39) (h5 : 0 ≤ u) (h6 : u ≤ 8) (h7 : 0 ≤ v) (h8 : v ≤ 8) : -312 ≤ (x - y) * (u - v) ∧ (x - y) * (u - v) ≤ 312 := by
  have h : ((x - y) * (u - v)).natAbs ≤ 39 * 8 := by
    rw [Int.natAbs_mul]
    exact Nat.mul_le_mul (by omega) (by omega)
  generalize (x - y) * (u - v) = z at *
  omega
theorem ptL_bd {p : Int} {xs : List Int} (hp : SP p) (h : POk xs) : Bd (ptL p xs) := ptF_bd h.1 fun _ hi h0 => vl_39 h0 hp.2.1 (pok_V h hi)
theorem ptL_inc (p : Int) (xs : List Int) : (ptL p xs).Pairwise (fun a b => a.1 < b.1) := ptF_inc _ _ _
theorem ptL_pos {p : Int} {xs : List Int} (h : POk xs) (h0 : 0 < xs.length) : 0 < (ptL p xs).length := by
  have := ptF_has (v := fun c => vl c p) (fs := xs) (k := xs.length) (i := xs.length - 1) (by omega) (h.2.2 h0)
  exact List.length_pos_of_mem this
/-- the corners -/
noncomputable def plL (p : Int) (xs : List Int) : List (Int × Int) := hullP (ptL p xs)
theorem ptL_len {p : Int} {xs : List Int} (h : POk xs) : (ptL p xs).length ≤ 9 := Nat.le_trans (ptF_len _ _ _) h.1
/-- a stack before point m: all before it are done; the top sees m over what it passed -/
def Stk (L : List (Int × Int)) (m : Nat) (s : List Nat) : Prop := (m = 0 ∧ s = []) ∨ (0 < m ∧ ∃ b t, s = b :: t ∧ St (pX L) (pY L) m s ∧ ∀ k, b < k → k < m → ¬ cr (pX L) (pY L) b k m)
theorem newsC2 (w : World) (x y : Int) (T : TypeId) (g : Nat) (hg : w.heap.size = g) : ∀ j u, [Value.int .i64 x, .int .i64 y][j]? = some u → (w.alloc (.cells #[.int .i64 x, .int .i64 y] T)).cell? ((⟨g, 0, none⟩ : Addr).add j) = some u := by
  subst hg; exact newsC w x y T
theorem stk_push {L : List (Int × Int)} {m : Nat} {s : List Nat} (hX : Inc (pX L) L.length) (hm : m < L.length) (h : Stk L m s) (hc : ∀ b a r, s = b :: a :: r → cr (pX L) (pY L) a b m) :
    Stk L (m + 1) (m :: s) ∧ (0 < m + 1 → ∃ t, m :: s = (m + 1 - 1) :: t) := by
  refine ⟨.inr ⟨by omega, m, s, rfl, ?_, fun k k1 k2 => by omega⟩, fun _ => ⟨s, rfl⟩⟩
  rcases h with ⟨rfl, rfl⟩ | ⟨h0, b, t, rfl, h1, h2⟩
  · exact rfl
  · cases t with
    | nil => exact st_push1 h0 h1 h2
    | cons a r => exact st_push (hX.mono (by omega)) h1 h2 (hc b a r rfl)
theorem stk_pop {L : List (Int × Int)} {m b a : Nat} {r : List Nat} (hX : Inc (pX L) L.length) (hm : m < L.length) (h : Stk L m (b :: a :: r)) (hc : ¬ cr (pX L) (pY L) a b m) : Stk L m (a :: r) := by
  rcases h with ⟨_, h⟩ | ⟨h0, b', t, e, h1, h2⟩
  · cases h
  · have h3 := st_pop (hX.mono (by omega)) h1 hc
    exact .inr ⟨h0, a, r, rfl, h3.1, h3.2⟩
theorem stk_len {L : List (Int × Int)} {m : Nat} {s : List Nat} (h : Stk L m s) : s.length ≤ m := by
  rcases h with ⟨rfl, rfl⟩ | ⟨h0, b, t, rfl, h1, _⟩
  · exact Nat.le_refl _
  · have := st_len t b h1
    have := st_lt h0 h1 b (by simp)
    simp; omega
theorem V2_push {L : List (Int × Int)} {m : Nat} {s : List Nat} {cx cy : Int} (h1 : cx = pX L m) (h2 : cy = pY L m) : V2 (ptsOf L s) ++ [.int .i64 cx, .int .i64 cy] = V2 (ptsOf L (m :: s)) := by
  rw [ptsOf_cons, V2_snoc, h1, h2]; rfl

set_option maxRecDepth 100000 in
set_option maxHeartbeats 4000000 in
theorem polygon_any (p : Int) (A : Option Addr) (n c : Nat) (xs : List Int) (w : World) (hr : Rd .i64 w A n c xs) (hp : SP p) (hx : POk xs) (h0 : 0 < xs.length) :
    Calls Try.prog 116 #[.int .i64 p, .slice A n c] w fun e w' => ∃ A' c', e = .returned (.slice A' (plL p xs).length c') ∧ OwnC 79 2 w' w.heap.size A' (plL p xs).length c' (V2 (plL p xs)) ∧ Below w.heap.size w w' := by
  obtain ⟨i0, hi, hz0, hz1, hz2⟩ := info_parts infoCor
  have HI := Lib.hid hi
  have HZ0 := Lib.hid hz0
  have HZ1 := Lib.hid hz1
  have HZ2 := Lib.hid hz2
  clear hi hz0 hz1 hz2
  have HR := Lib.hid hr
  have HX := Lib.hid hx
  have HP := Lib.hid hp
  obtain ⟨L, hL⟩ : ∃ L, L = ptL p xs := ⟨_, rfl⟩
  have HPL : Hid (plL p xs = hullP L) := Lib.hid (by unfold plL; rw [hL])
  have HBd : Hid (Bd L) := Lib.hid (by rw [hL]; exact ptL_bd hp hx)
  have HIn : Hid (Inc (pX L) L.length) := Lib.hid (by rw [hL]; exact pw_inc (ptL_inc p xs))
  have hL0 : 0 < L.length := by rw [hL]; exact ptL_pos hx h0
  have hL9 : L.length ≤ 9 := by rw [hL]; exact ptL_len hx
  have HL := Lib.hid hL
  clear hr hp hx hL h0
  go_enter Try.func116, Try.ntmps116
  go_wp2_with (go_at_call 118; refine (points_any _ _ _ _ _ _ HR.out HP.out HX.out).mono ?_; rintro e w1 ⟨A1, c1, rfl, ho, hb⟩)
  rw [← HL.out] at ho ⊢
  have HB1 := Lib.hid hb
  have HRd := Lib.hid ho.rd
  clear ho hb
  obtain ⟨N, hN⟩ : ∃ N, N = L.length := ⟨_, rfl⟩
  rw [← hN] at HRd hL0 hL9 ⊢
  have HN := Lib.hid hN
  clear hN
  go_wp2
  go_loopw [5, 7, 8, 9, 10, 15] (fun v _ _ _ _ i wr => ∃ (m : Nat) (s : List Nat), m ≤ N ∧ i = .int .i64 m ∧ Hid (Stk L m s ∧ (0 < m → ∃ t, s = (m - 1) :: t)) ∧ Hid (wr.ownsRow w1.heap.size 79 2 v s.length (V2 (ptsOf L s))) ∧ Hid (Below w1.heap.size w1 wr)) (fun _ _ _ _ _ i _ => N - (intOf i).toNat)
  case atStart => exact ⟨0, [], by omega, rfl, Lib.hid ⟨.inl ⟨rfl, rfl⟩, fun h => absurd h (by omega)⟩, Lib.hid (World.ownsRow_nil _ _ _ _), Lib.hid (Below.refl _ _)⟩
  case round =>
    obtain ⟨m, s, hm, rfl, HS, HO, HB⟩ := hrel
    obtain ⟨wo, rfl⟩ : ∃ wo : World, wo = wr := ⟨_, rfl⟩
    obtain ⟨A2, c2, rfl, hrd⟩ := own_cells HO.out
    have hs9 := hrd.2.1
    have hs8 := hrd.2.2.1
    unfold maxLen at hs8
    clear hrd
    by_cases hlt : m < N
    · obtain ⟨b1, off1, rfl, hcell⟩ := RdC.atF (zs := flatI L) (HRd.out.below HB.out) (by omega)
      have hx0 := hcell (m * 2 + 0) (fl_lt hlt (by omega))
      rw [Nat.add_zero, (flatI_at L m (by have := HN.out; omega)).1] at hx0
      have hy0 := hcell (m * 2 + 1) (fl_lt hlt (by omega))
      rw [← Nat.add_assoc, (flatI_at L m (by have := HN.out; omega)).2] at hy0
      have hcb := bd_at HBd.out (show m < L.length by have := HN.out; omega)
      obtain ⟨cx, hcx⟩ : ∃ x, x = pX L m := ⟨_, rfl⟩
      obtain ⟨cy, hcy⟩ : ∃ x, x = pY L m := ⟨_, rfl⟩
      change _ = some (Value.int .i64 (pX L m)) at hx0
      change _ = some (Value.int .i64 (pY L m)) at hy0
      rw [← hcx] at hx0 hcb
      rw [← hcy] at hy0 hcb
      have ⟨⟨cx1, cx2⟩, ⟨cy1, cy2⟩⟩ := hcb
      have HC := Lib.hid (And.intro hcx hcy)
      clear hcell hcx hcy hcb
      go_wp2
      obtain ⟨gc, hgc⟩ : ∃ g, g = wo.heap.size := ⟨_, rfl⟩
      rw [← hgc]
      go_loopw [5, 8, 9, 10] (fun v2 i2 _ _ wr2 => ∃ (s2 : List Nat) (A3 : Option Addr) (c3 nn : Nat), v2 = .slice A3 nn c3 ∧ i2 = .int .i64 nn ∧ nn ≤ c3 ∧ c3 ≤ 9223372036854775807 ∧ Hid (nn = s2.length) ∧ Hid (wo.ownsRow w1.heap.size 79 2 (.slice A3 s2.length c3) s2.length (V2 (ptsOf L s2))) ∧ Hid (Below wo.heap.size wo wr2) ∧ Hid (Stk L m s2) ∧ wr2.cell? ⟨gc, 0, none⟩ = some (.int .i64 cx) ∧ wr2.cell? ⟨gc, 1, none⟩ = some (.int .i64 cy)) (fun _ i2 _ _ _ => (intOf i2).toNat)
      case atStart => exact ⟨s, A2, c2, s.length, rfl, rfl, hs9, hs8, Lib.hid rfl, HO, Lib.hid (bl_alloc (Below.refl _ _) _), Lib.hid HS.out.1, by rw [hgc]; simp [go_sem], by rw [hgc]; simp [go_sem]⟩
      case round =>
        clear hgc
        obtain ⟨s2, A3, c3, nn, rfl, rfl, k1, k2, HNN, HO3, HB3, HS3, q0, q1⟩ := hrel
        have HO4 : Hid (wo.ownsRow w1.heap.size 79 2 (.slice A3 nn c3) nn (V2 (ptsOf L s2))) := Lib.hid (by rw [HNN.out]; exact HO3.out)
        clear HO3
        by_cases h2 : 2 ≤ nn
        · obtain ⟨A4, c4, e4, hrd⟩ := own_cells (own_below HO4.out HB3.out)
          simp at e4
          obtain ⟨rfl, rfl⟩ := e4
          obtain ⟨b, a, r, hs2⟩ : ∃ b a r, s2 = b :: a :: r := by
            have := HNN.out
            rcases s2 with _ | ⟨b, _ | ⟨a, r⟩⟩
            · simp at this; omega
            · simp at this; omega
            · exact ⟨b, a, r, rfl⟩
          have hnr : nn = r.length + 2 := by have := HNN.out; rw [hs2] at this; simpa using this
          obtain ⟨b2, off2, rfl, hc2⟩ := RdC.atF (zs := flatI (ptsOf L s2)) hrd (by omega)
          rw [hs2] at hc2
          have n0 := hc2 (r.length * 2) (by omega)
          have n1 := hc2 (r.length * 2 + 1) (by omega)
          have t0 := hc2 ((r.length + 1) * 2) (by omega)
          have t1 := hc2 ((r.length + 1) * 2 + 1) (by omega)
          rw [(next_cells L b a r).1] at n0
          rw [(next_cells L b a r).2] at n1
          have tc := top_cells L b (a :: r)
          rw [List.length_cons] at tc
          rw [tc.1] at t0
          rw [tc.2] at t1
          rw [show r.length = nn - 2 by omega] at n0 n1
          rw [show r.length + 1 = nn - 1 by omega] at t0 t1
          rw [← Nat.add_assoc] at n1 t1
          have hbl := block_lt_of_cell n0
          have z1 : ¬ b2 = wr.heap.size := by omega
          have z2 : ¬ b2 = wr.heap.size + 1 := by omega
          have z3 : wr.heap.size ≠ b2 := by omega
          clear hc2 hrd hnr tc
          have hst : St (pX L) (pY L) m (b :: a :: r) := by
            rcases HS3.out with ⟨_, h⟩ | ⟨_, b', t, h, h1, _⟩
            · rw [hs2] at h; cases h
            · rw [← hs2]; exact h1
          have hlt2 := hst.lt
          have hab := bd_at HBd.out (show a < L.length by have := HN.out; omega)
          have hbb := bd_at HBd.out (show b < L.length by have := HN.out; omega)
          obtain ⟨ax, hax⟩ : ∃ x, x = pX L a := ⟨_, rfl⟩
          obtain ⟨ay, hay⟩ : ∃ x, x = pY L a := ⟨_, rfl⟩
          obtain ⟨bx, hbx⟩ : ∃ x, x = pX L b := ⟨_, rfl⟩
          obtain ⟨by_, hby⟩ : ∃ x, x = pY L b := ⟨_, rfl⟩
          rw [← hax] at n0 hab
          rw [← hay] at n1 hab
          rw [← hbx] at t0 hbb
          rw [← hby] at t1 hbb
          have ⟨⟨ax1, ax2⟩, ⟨ay1, ay2⟩⟩ := hab
          have ⟨⟨bx1, bx2⟩, ⟨by1, by2⟩⟩ := hbb
          have HCR : Hid (cr (pX L) (pY L) a b m ↔ (by_ - ay) * (cx - ax) < (cy - ay) * (bx - ax)) := Lib.hid (by unfold cr; rw [hax, hay, hbx, hby, HC.out.1, HC.out.2])
          have ⟨u1, u2⟩ := diff_bd by1 by2 ay1 ay2 cx1 cx2 ax1 ax2
          have ⟨u3, u4⟩ := diff_bd cy1 cy2 ay1 ay2 bx1 bx2 ax1 ax2
          have HS2 := Lib.hid hs2
          have hq := block_lt_of_cell q0
          have z4 : gc < wr.heap.size + 1 := by omega
          have hml := stk_len HS3.out
          rw [← HNN.out] at hml
          have hl1 : nn + 1 ≤ maxLen := by unfold maxLen; omega
          have hl2 : (nn + 1) * 16 ≤ 140737488355328 := by omega
          clear hax hay hbx hby hab hbb hlt2 hst hs2
          by_cases hc : (by_ - ay) * (cx - ax) < (cy - ay) * (bx - ax)
          · have HS5 : Hid (Stk L (m + 1) (m :: s2) ∧ (0 < m + 1 → ∃ t, m :: s2 = (m + 1 - 1) :: t)) := Lib.hid (stk_push HIn.out (by have := HN.out; omega) HS3.out (fun b' a' r' e => by
              have e2 := HS2.out.symm.trans e
              injection e2 with e3 e2
              injection e2 with e4 e2
              subst e3; subst e4
              exact HCR.out.2 hc))
            go_wp2
            go_region
            all_goals
              go_wp2_with (at_builtin; refine wpList_append_own _ rfl _ _ _ rfl w1.heap.size 79 i0 _ 2 16 Try.underlying65 HI.out HZ0.out HZ1.out HZ2.out rfl (by decide) _ nn (V2 (ptsOf L s2)) rfl ((own_below HO4.out (by repeat (first | exact HB3.out | apply Below.drew | refine bl_alloc ?_ _))).alloc _) _ 1 1 [.int .i64 cx, .int .i64 cy] rfl rfl (newsC2 _ _ _ _ _ (by simp)) (onesC _ _) hl1 hl2 (base_alloc2 (bl_trans HB.out (by repeat (first | exact HB3.out | apply Below.drew | refine bl_alloc ?_ _))) _) ?_; intro v' w2 hown' hgrow _)
              have HO5 : Hid (w2.ownsRow w1.heap.size 79 2 v' (m :: s2).length (V2 (ptsOf L (m :: s2)))) := Lib.hid (by
                rw [V2_push HC.out.1 HC.out.2] at hown'
                rw [List.length_cons, ← HNN.out]; exact hown')
              have HB5 : Hid (Below w1.heap.size w1 w2) := Lib.hid ((bl_trans HB.out (by repeat (first | exact HB3.out | apply Below.drew | refine bl_alloc ?_ _))).grown hgrow (bl_trans HB.out (by repeat (first | exact HB3.out | apply Below.drew | refine bl_alloc ?_ _))).size (fun k hk => (HO4.out.lt k hk).1))
              clear hown' hgrow hl1 hl2
              go_wp2
              go_roundw
              case rel => exact ⟨m + 1, m :: s2, by omega, by go_num, HS5, HO5, HB5⟩
              case measure => simp [intOf]; omega
          · have HS5 : Hid (Stk L m (a :: r)) := Lib.hid (stk_pop HIn.out (by have := HN.out; omega) (by rw [← HS2.out]; exact HS3.out) (fun h => hc (HCR.out.1 h)))
            have HO5 : Hid (wo.ownsRow w1.heap.size 79 2 (.slice (some ⟨b2, off2, none⟩) (a :: r).length c3) (a :: r).length (V2 (ptsOf L (a :: r)))) := Lib.hid (by
              have h := HO4.out
              have e := HNN.out
              rw [HS2.out, List.length_cons] at e
              rw [e] at h
              have h' := own_cut h
              rw [HS2.out, V2_pop] at h'
              exact h')
            go_wp2
            go_region
            all_goals
              go_wp2
              go_roundw
              case rel => exact ⟨a :: r, some ⟨b2, off2, none⟩, c3, nn - 1, rfl, by go_num, by omega, by omega, Lib.hid (by have e := HNN.out; rw [HS2.out, List.length_cons] at e; omega), HO5, Lib.hid (by repeat (first | exact HB3.out | apply Below.drew | refine bl_alloc ?_ _)), HS5, by simp [go_sem, q0, hq, z4], by simp [go_sem, q1, hq, z4]⟩
              case measure => simp [intOf]; omega
        · have hml := stk_len HS3.out
          rw [← HNN.out] at hml
          have hl1 : nn + 1 ≤ maxLen := by unfold maxLen; omega
          have hl2 : (nn + 1) * 16 ≤ 140737488355328 := by omega
          have HS5 : Hid (Stk L (m + 1) (m :: s2) ∧ (0 < m + 1 → ∃ t, m :: s2 = (m + 1 - 1) :: t)) := Lib.hid (stk_push HIn.out (by have := HN.out; omega) HS3.out (fun b' a' r' e => by
            have e2 := HNN.out
            rw [e] at e2
            simp at e2
            omega))
          go_wp2_with (at_builtin; refine wpList_append_own _ rfl _ _ _ rfl w1.heap.size 79 i0 _ 2 16 Try.underlying65 HI.out HZ0.out HZ1.out HZ2.out rfl (by decide) _ nn (V2 (ptsOf L s2)) rfl ((own_below HO4.out (by repeat (first | exact HB3.out | apply Below.drew | refine bl_alloc ?_ _))).alloc _) _ 1 1 [.int .i64 cx, .int .i64 cy] rfl rfl (newsC2 _ _ _ _ _ (by simp)) (onesC _ _) hl1 hl2 (base_alloc2 (bl_trans HB.out (by repeat (first | exact HB3.out | apply Below.drew | refine bl_alloc ?_ _))) _) ?_; intro v' w2 hown' hgrow _)
          have HO5 : Hid (w2.ownsRow w1.heap.size 79 2 v' (m :: s2).length (V2 (ptsOf L (m :: s2)))) := Lib.hid (by
            rw [V2_push HC.out.1 HC.out.2] at hown'
            rw [List.length_cons, ← HNN.out]; exact hown')
          have HB5 : Hid (Below w1.heap.size w1 w2) := Lib.hid ((bl_trans HB.out (by repeat (first | exact HB3.out | apply Below.drew | refine bl_alloc ?_ _))).grown hgrow (bl_trans HB.out (by repeat (first | exact HB3.out | apply Below.drew | refine bl_alloc ?_ _))).size (fun k hk => (HO4.out.lt k hk).1))
          clear hown' hgrow hl1 hl2
          go_wp2
          go_roundw
          case rel => exact ⟨m + 1, m :: s2, by omega, by go_num, HS5, HO5, HB5⟩
          case measure => simp [intOf]; omega
    · have hmN : m = N := by omega
      have HF : Hid (ptsOf L s = plL p xs ∧ s.length = (plL p xs).length) := Lib.hid (by
        obtain ⟨t, ht⟩ := HS.out.2 (by have := HN.out; omega)
        have hst : St (pX L) (pY L) m s := by
          rcases HS.out.1 with ⟨h, _⟩ | ⟨_, b', t, h, h1, _⟩
          · omega
          · exact h1
        rw [hmN, HN.out] at ht hst
        rw [ht] at hst
        have e := hullP_eq (by have := HN.out; omega) hst
        rw [← ht] at e
        rw [HPL.out, ← e, ptsOf_len]
        exact ⟨rfl, rfl⟩)
      clear hmN
      go_wp2
      go_ret
      exact ⟨A2, c2, by rw [← HF.out.2]; rfl, by rw [← HF.out.1, ptsOf_len]; exact own_lo (OwnC.of_row HO.out) HB1.out.size, bl_trans HB1.out HB.out⟩

end Go.Proofs.Ythdmanngjnfamaa