
/- The walk of the reference's corners of a polygon. -/
import Derived.Test.YthdmanngjnfamaaPolyg
import Derived.Deep.QuietTactic
import Derived.BigQuiet
namespace Go.Proofs.Ythdmanngjnfamaa
open Go.RowKit

theorem own_oneC {w : World} {base : Nat} (hb : base ≤ w.heap.size) (x y : Int) : (w.alloc (.cells #[.int .i64 x, .int .i64 y] 79)).ownsRow base 79 2 (.slice (some ⟨w.heap.size, 0, none⟩) 1 1) 1 [.int .i64 x, .int .i64 y] :=
  ⟨rfl, .inr ⟨w.heap.size, 1, #[.int .i64 x, .int .i64 y], rfl, hb, heap_alloc_new w _, Nat.le_refl _, by unfold maxLen; omega, rfl, rfl⟩⟩
/-- j is the last one with the least slope from t, of those before k -/
def Lst (L : List (Int × Int)) (t j k : Nat) : Prop := t < j ∧ j < k ∧ (∀ i, t < i → i < j → ¬ cr (pX L) (pY L) t i j) ∧ (∀ i, j < i → i < k → cr (pX L) (pY L) t j i)
theorem lst_start {L : List (Int × Int)} (t : Nat) : Lst L t (t + 1) (t + 2) := ⟨by omega, by omega, fun i h1 h2 => by omega, fun i h1 h2 => by omega⟩
theorem lst_keep {L : List (Int × Int)} {t j k : Nat} (h : Lst L t j k) (hc : cr (pX L) (pY L) t j k) : Lst L t j (k + 1) := by
  obtain ⟨h1, h2, h3, h4⟩ := h
  refine ⟨h1, by omega, h3, fun i i1 i2 => ?_⟩
  by_cases e : i = k
  · subst e; exact hc
  · exact h4 i i1 (by omega)
theorem lst_turn {L : List (Int × Int)} {t j k : Nat} (hX : Inc (pX L) L.length) (hk : k < L.length) (h : Lst L t j k) (hc : ¬ cr (pX L) (pY L) t j k) : Lst L t k (k + 1) := by
  obtain ⟨h1, h2, h3, h4⟩ := h
  refine ⟨by omega, by omega, fun i i1 i2 => ?_, fun i i1 i2 => by omega⟩
  have xj := hX t j h1 (by omega)
  have xk := hX t k (by omega) hk
  have xi := hX t i i1 (by omega)
  rcases Nat.lt_trichotomy i j with hl | hl | hl
  · exact cr_le xi xj xk (h3 i i1 hl) hc
  · subst hl; exact hc
  · exact cr_lt_le xi xj xk (h4 i hl i2) hc
theorem lst_nx {L : List (Int × Int)} {t j N : Nat} (h : Lst L t j N) : Nx (pX L) (pY L) N t j := h

set_option maxRecDepth 100000 in
set_option maxHeartbeats 4000000 in
theorem l13Polygon_any (p : Int) (A : Option Addr) (n c : Nat) (xs : List Int) (w : World) (hr : Rd .i64 w A n c xs) (hp : SP p) (hx : POk xs) (h0 : 0 < xs.length) :
    Calls Try.prog 117 #[.int .i64 p, .slice A n c] w fun e w' => ∃ A' c', e = .returned (.slice A' (plL p xs).length c') ∧ OwnC 79 2 w' w.heap.size A' (plL p xs).length c' (V2 (plL p xs)) ∧ Below w.heap.size w w' := by
  obtain ⟨i0, hi, hz0, hz1, hz2⟩ := info_parts infoCor
  have HI := Lib.hid hi
  have HZ0 := Lib.hid hz0
  have HZ1 := Lib.hid hz1
  have HZ2 := Lib.hid hz2
  clear hi hz0 hz1 hz2
  have HR := Lib.hid hr
  have HX := Lib.hid hx
  have HP := Lib.hid hp
  obtain ⟨L, hL⟩ : ∃ L, L = ptL p xs := ⟨_, rfl⟩
  have HPL : Hid (plL p xs = hullP L) := Lib.hid (by unfold plL; rw [hL])
  have HBd : Hid (Bd L) := Lib.hid (by rw [hL]; exact ptL_bd hp hx)
  have HIn : Hid (Inc (pX L) L.length) := Lib.hid (by rw [hL]; exact pw_inc (ptL_inc p xs))
  have hL0 : 0 < L.length := by rw [hL]; exact ptL_pos hx h0
  have hL9 : L.length ≤ 9 := by rw [hL]; exact ptL_len hx
  have HL := Lib.hid hL
  clear hr hp hx hL h0
  go_enter Try.func117, Try.ntmps117
  go_wp2_with fail
  refine (l13Points_any _ _ _ _ _ _ HR.out HP.out HX.out).mono ?_
  rintro e w1 ⟨A1, c1, rfl, ho, hb⟩
  rw [← HL.out] at ho ⊢
  have HB1 := Lib.hid hb
  have HRd := Lib.hid ho.rd
  clear ho hb
  obtain ⟨N, hN⟩ : ∃ N, N = L.length := ⟨_, rfl⟩
  rw [← hN] at HRd hL0 hL9 ⊢
  have HN := Lib.hid hN
  clear hN
  obtain ⟨b1, off1, rfl, hcell⟩ := RdC.atF (zs := flatI L) HRd.out (by omega)
  have hcs := HRd.out.2.1
  have hcs2 := HRd.out.2.2.1
  unfold maxLen at hcs2
  have fx0 := hcell (0 * 2 + 0) (fl_lt (show 0 < N by omega) (by omega))
  rw [Nat.add_zero, (flatI_at L 0 (by have := HN.out; omega)).1] at fx0
  have fy0 := hcell (0 * 2 + 1) (fl_lt (show 0 < N by omega) (by omega))
  rw [← Nat.add_assoc, (flatI_at L 0 (by have := HN.out; omega)).2] at fy0
  change _ = some (Value.int .i64 (pX L 0)) at fx0
  change _ = some (Value.int .i64 (pY L 0)) at fy0
  have bfx := bd_at HBd.out (show 0 < L.length by have := HN.out; omega)
  obtain ⟨fx, hfx⟩ : ∃ x, x = pX L 0 := ⟨_, rfl⟩
  obtain ⟨fy, hfy⟩ : ∃ x, x = pY L 0 := ⟨_, rfl⟩
  rw [← hfx] at fx0 bfx
  rw [← hfy] at fy0 bfx
  have ⟨⟨fx1, fx2⟩, ⟨fy1, fy2⟩⟩ := bfx
  clear bfx
  simp only [Nat.zero_mul, Nat.add_zero] at fx0 fy0
  have hbl := block_lt_of_cell fx0
  have HF0 := Lib.hid (And.intro hfx hfy)
  clear hcell hfx hfy
  go_wp2
  go_loopw [6, 7, 8, 9, 10, 11] (fun v i _ _ _ _ wr => ∃ (t : Nat) (s : List Nat), t < N ∧ i = .int .i64 t ∧ Hid (St (pX L) (pY L) N (t :: s)) ∧ Hid (wr.ownsRow w1.heap.size 79 2 v (t :: s).length (V2 (ptsOf L (t :: s)))) ∧ Hid (Below w1.heap.size w1 wr)) (fun _ i _ _ _ _ _ => N - (intOf i).toNat)
  case atStart => exact ⟨0, [], by omega, rfl, Lib.hid rfl, Lib.hid (by
    have e : V2 (ptsOf L [0]) = [.int .i64 fx, .int .i64 fy] := by rw [HF0.out.1, HF0.out.2]; rfl
    rw [e]
    exact own_oneC (Nat.le_refl _) _ _), Lib.hid (bl_alloc (Below.refl _ _) _)⟩
  case round =>
    obtain ⟨t, s, ht, rfl, HS, HO, HB⟩ := hrel
    obtain ⟨wo, rfl⟩ : ∃ wo : World, wo = wr := ⟨_, rfl⟩
    obtain ⟨A2, c2, rfl, hrd⟩ := own_cells HO.out
    clear hrd
    by_cases hlt : t < N - 1
    · have hlt2 : (t : Int) < (N : Int) - 1 := by omega
      go_wp2
      go_loopw [8, 9, 10, 11] (fun i2 k2 _ _ wr => ∃ (j k : Nat), t < j ∧ j < k ∧ k ≤ N ∧ i2 = .int .i64 j ∧ k2 = .int .i64 k ∧ Hid (Lst L t j k) ∧ Hid (Below wo.heap.size wo wr)) (fun _ k2 _ _ _ => N - (intOf k2).toNat)
      case atStart => exact ⟨t + 1, t + 2, by omega, by omega, by omega, by go_num, by go_num, Lib.hid (lst_start t), Lib.hid (Below.refl _ _)⟩
      case round =>
        obtain ⟨j, k, j1, j2, j3, rfl, rfl, HLS, HB3⟩ := hrel
        by_cases hk : k < N
        · obtain ⟨b3, off3, e3, hcell⟩ := RdC.atF (zs := flatI L) (HRd.out.below (bl_trans HB.out HB3.out)) (by omega)
          simp at e3
          obtain ⟨rfl, rfl⟩ := e3
          have jx0 := hcell (j * 2 + 0) (fl_lt (show j < N by omega) (by omega))
          rw [Nat.add_zero, (flatI_at L j (by have := HN.out; omega)).1] at jx0
          have jy0 := hcell (j * 2 + 1) (fl_lt (show j < N by omega) (by omega))
          rw [← Nat.add_assoc, (flatI_at L j (by have := HN.out; omega)).2] at jy0
          change _ = some (Value.int .i64 (pX L j)) at jx0
          change _ = some (Value.int .i64 (pY L j)) at jy0
          have bjx := bd_at HBd.out (show j < L.length by have := HN.out; omega)
          obtain ⟨jx, hjx⟩ : ∃ x, x = pX L j := ⟨_, rfl⟩
          obtain ⟨jy, hjy⟩ : ∃ x, x = pY L j := ⟨_, rfl⟩
          rw [← hjx] at jx0 bjx
          rw [← hjy] at jy0 bjx
          have ⟨⟨jx1, jx2⟩, ⟨jy1, jy2⟩⟩ := bjx
          clear bjx
          have kx0 := hcell (k * 2 + 0) (fl_lt (show k < N by omega) (by omega))
          rw [Nat.add_zero, (flatI_at L k (by have := HN.out; omega)).1] at kx0
          have ky0 := hcell (k * 2 + 1) (fl_lt (show k < N by omega) (by omega))
          rw [← Nat.add_assoc, (flatI_at L k (by have := HN.out; omega)).2] at ky0
          change _ = some (Value.int .i64 (pX L k)) at kx0
          change _ = some (Value.int .i64 (pY L k)) at ky0
          have bkx := bd_at HBd.out (show k < L.length by have := HN.out; omega)
          obtain ⟨kx, hkx⟩ : ∃ x, x = pX L k := ⟨_, rfl⟩
          obtain ⟨ky, hky⟩ : ∃ x, x = pY L k := ⟨_, rfl⟩
          rw [← hkx] at kx0 bkx
          rw [← hky] at ky0 bkx
          have ⟨⟨kx1, kx2⟩, ⟨ky1, ky2⟩⟩ := bkx
          clear bkx
          have tx0 := hcell (t * 2 + 0) (fl_lt (show t < N by omega) (by omega))
          rw [Nat.add_zero, (flatI_at L t (by have := HN.out; omega)).1] at tx0
          have ty0 := hcell (t * 2 + 1) (fl_lt (show t < N by omega) (by omega))
          rw [← Nat.add_assoc, (flatI_at L t (by have := HN.out; omega)).2] at ty0
          change _ = some (Value.int .i64 (pX L t)) at tx0
          change _ = some (Value.int .i64 (pY L t)) at ty0
          have btx := bd_at HBd.out (show t < L.length by have := HN.out; omega)
          obtain ⟨tx, htx⟩ : ∃ x, x = pX L t := ⟨_, rfl⟩
          obtain ⟨ty, hty⟩ : ∃ x, x = pY L t := ⟨_, rfl⟩
          rw [← htx] at tx0 btx
          rw [← hty] at ty0 btx
          have ⟨⟨tx1, tx2⟩, ⟨ty1, ty2⟩⟩ := btx
          clear btx
          have hb4 := block_lt_of_cell kx0
          have hb5 : b1 < wr.heap.size + 1 := by omega
          have HCR : Hid (¬ cr (pX L) (pY L) t j k ↔ (ky - ty) * (jx - tx) ≤ (jy - ty) * (kx - tx)) := Lib.hid (by unfold cr; rw [hkx, hky, hjx, hjy, htx, hty]; omega)
          have ⟨u1, u2⟩ := diff_bd ky1 ky2 ty1 ty2 jx1 jx2 tx1 tx2
          have ⟨u3, u4⟩ := diff_bd jy1 jy2 ty1 ty2 kx1 kx2 tx1 tx2
          clear hcell hkx hky hjx hjy htx hty
          have i1 : (0 : Int) ≤ (t : Int) := by omega
          have i2 : (t : Int) < (N : Int) := by omega
          have i3 : (0 : Int) ≤ (j : Int) := by omega
          have i4 : (j : Int) < (N : Int) := by omega
          have i5 : (0 : Int) ≤ (k : Int) := by omega
          have i6 : (k : Int) < (N : Int) := by omega
          by_cases hc : (ky - ty) * (jx - tx) ≤ (jy - ty) * (kx - tx)
          · have HLS2 := Lib.hid (lst_turn HIn.out (by have := HN.out; omega) HLS.out (HCR.out.2 hc))
            have hd : decide ((ky - ty) * (jx - tx) ≤ (jy - ty) * (kx - tx)) = true := by simpa using hc
            clear hc
            go_wp2
            go_region
            all_goals
              go_wp2
              have e1 : IntKind.i64.wrap (ky - ty) = ky - ty := IntWalk.i64_in _ (by omega)
              have e2 : IntKind.i64.wrap (jx - tx) = jx - tx := IntWalk.i64_in _ (by omega)
              have e3 : IntKind.i64.wrap ((ky - ty) * (jx - tx)) = (ky - ty) * (jx - tx) := IntWalk.i64_in _ (by omega)
              have e4 : IntKind.i64.wrap (jy - ty) = jy - ty := IntWalk.i64_in _ (by omega)
              have e5 : IntKind.i64.wrap (kx - tx) = kx - tx := IntWalk.i64_in _ (by omega)
              have e6 : IntKind.i64.wrap ((jy - ty) * (kx - tx)) = (jy - ty) * (kx - tx) := IntWalk.i64_in _ (by omega)
              go_quiet (fail)
              clear e1 e2 e3 e4 e5 e6
              go_wp2
              go_roundw
              case rel => exact ⟨k, k + 1, by omega, by omega, by omega, by first | rfl | go_num, by go_num, HLS2, Lib.hid (by repeat (first | exact HB3.out | apply Below.drew | apply below_drewN | refine bl_alloc ?_ _))⟩
              case measure => simp [intOf]; omega
          · have HLS2 := Lib.hid (lst_keep HLS.out (Classical.not_not.1 fun h => hc (HCR.out.1 h)))
            have hd : decide ((ky - ty) * (jx - tx) ≤ (jy - ty) * (kx - tx)) = false := by simpa using hc
            clear hc
            go_wp2
            go_region
            all_goals
              go_wp2
              have e1 : IntKind.i64.wrap (ky - ty) = ky - ty := IntWalk.i64_in _ (by omega)
              have e2 : IntKind.i64.wrap (jx - tx) = jx - tx := IntWalk.i64_in _ (by omega)
              have e3 : IntKind.i64.wrap ((ky - ty) * (jx - tx)) = (ky - ty) * (jx - tx) := IntWalk.i64_in _ (by omega)
              have e4 : IntKind.i64.wrap (jy - ty) = jy - ty := IntWalk.i64_in _ (by omega)
              have e5 : IntKind.i64.wrap (kx - tx) = kx - tx := IntWalk.i64_in _ (by omega)
              have e6 : IntKind.i64.wrap ((jy - ty) * (kx - tx)) = (jy - ty) * (kx - tx) := IntWalk.i64_in _ (by omega)
              go_quiet (fail)
              clear e1 e2 e3 e4 e5 e6
              go_wp2
              go_roundw
              case rel => exact ⟨j, k + 1, by omega, by omega, by omega, by first | rfl | go_num, by go_num, HLS2, Lib.hid (by repeat (first | exact HB3.out | apply Below.drew | apply below_drewN | refine bl_alloc ?_ _))⟩
              case measure => simp [intOf]; omega
        · have hkN : k = N := by omega
          obtain ⟨b3, off3, e3, hcell⟩ := RdC.atF (zs := flatI L) (HRd.out.below (bl_trans HB.out HB3.out)) (by omega)
          simp at e3
          obtain ⟨rfl, rfl⟩ := e3
          have jx0 := hcell (j * 2 + 0) (fl_lt (show j < N by omega) (by omega))
          rw [Nat.add_zero, (flatI_at L j (by have := HN.out; omega)).1] at jx0
          have jy0 := hcell (j * 2 + 1) (fl_lt (show j < N by omega) (by omega))
          rw [← Nat.add_assoc, (flatI_at L j (by have := HN.out; omega)).2] at jy0
          change _ = some (Value.int .i64 (pX L j)) at jx0
          change _ = some (Value.int .i64 (pY L j)) at jy0
          have bjx := bd_at HBd.out (show j < L.length by have := HN.out; omega)
          obtain ⟨jx, hjx⟩ : ∃ x, x = pX L j := ⟨_, rfl⟩
          obtain ⟨jy, hjy⟩ : ∃ x, x = pY L j := ⟨_, rfl⟩
          rw [← hjx] at jx0 bjx
          rw [← hjy] at jy0 bjx
          have ⟨⟨jx1, jx2⟩, ⟨jy1, jy2⟩⟩ := bjx
          clear bjx
          have HJ := Lib.hid (And.intro hjx hjy)
          have HST : Hid (St (pX L) (pY L) N (j :: t :: s)) := Lib.hid ⟨by rw [← hkN]; exact lst_nx HLS.out, HS.out⟩
          have hsl := st_len _ _ HS.out
          have hl1 : (t :: s).length + 1 ≤ maxLen := by unfold maxLen; simp; omega
          have hl2 : ((t :: s).length + 1) * 16 ≤ 140737488355328 := by simp; omega
          clear hcell hjx hjy hkN
          go_wp2_with (at_builtin; refine wpList_append_own _ rfl _ _ _ rfl w1.heap.size 79 i0 _ 2 16 Try.underlying65 HI.out HZ0.out HZ1.out HZ2.out rfl (by decide) _ (t :: s).length (V2 (ptsOf L (t :: s))) rfl ((own_below HO.out HB3.out).alloc _) _ 1 1 [.int .i64 jx, .int .i64 jy] rfl rfl (newsC2 _ _ _ _ _ (by simp)) (onesC _ _) hl1 hl2 (base_alloc2 (bl_trans HB.out HB3.out) _) ?_; intro v' w2 hown' hgrow _)
          have HO5 : Hid (w2.ownsRow w1.heap.size 79 2 v' (j :: t :: s).length (V2 (ptsOf L (j :: t :: s)))) := Lib.hid (by
            rw [V2_push HJ.out.1 HJ.out.2] at hown'
            exact hown')
          have HB5 : Hid (Below w1.heap.size w1 w2) := Lib.hid ((bl_trans HB.out (by repeat (first | exact HB3.out | apply Below.drew | apply below_drewN | refine bl_alloc ?_ _))).grown hgrow (bl_trans HB.out (by repeat (first | exact HB3.out | apply Below.drew | apply below_drewN | refine bl_alloc ?_ _))).size (fun k hk => (HO.out.lt k hk).1))
          clear hown' hgrow hl1 hl2
          go_wp2
          go_roundw
          case rel => exact ⟨j, t :: s, by omega, by first | rfl | go_num, HST, HO5, HB5⟩
          case measure => simp [intOf]; omega
    · have htN : t = N - 1 := by omega
      have hlt2 : ¬ (t : Int) < (N : Int) - 1 := by omega
      have HF : Hid (ptsOf L (t :: s) = plL p xs ∧ (t :: s).length = (plL p xs).length) := Lib.hid (by
        have hst := HS.out
        have h1 := HN.out
        rw [htN] at hst ⊢
        rw [h1] at hst ⊢
        have e := hullP_eq (by omega) hst
        rw [HPL.out, ← e, ptsOf_len]
        exact ⟨rfl, rfl⟩)
      clear htN
      go_wp2
      go_ret
      exact ⟨A2, c2, by rw [← HF.out.2]; rfl, by rw [← HF.out.1, ptsOf_len]; exact own_lo (OwnC.of_row HO.out) HB1.out.size, bl_trans HB1.out HB.out⟩

end Go.Proofs.Ythdmanngjnfamaa