
/- The walks of the slopes of a polygon. -/
import Derived.Test.YthdmanngjnfamaaPolyg2
import Derived.Test.YthdmanngjnfamaaRat
import Derived.Deep.RegionLaw
import Derived.Deep.AppendLies
namespace Go.Proofs.Ythdmanngjnfamaa
open Go.RowKit

theorem infoSlo : (Try.prog.info? 107).map (fun i => (i.zero, i.size, i.bytes)) = some (some (.agg #[.int .i64 0, .int .i64 0, .int .i64 0]), 3, 24) := by kernel_rfl
theorem news3 (w : World) (x y z : Int) (T : TypeId) (g : Nat) (hg : w.heap.size = g) : ∀ j u, [Value.int .i64 x, .int .i64 y, .int .i64 z][j]? = some u → (w.alloc (.cells #[.int .i64 x, .int .i64 y, .int .i64 z] T)).cell? ((⟨g, 0, none⟩ : Addr).add j) = some u := by
  subst hg
  intro j u hj
  match j, hj with
  | 0, hj => simp at hj; subst hj; simp [Addr.add]
  | 1, hj => simp at hj; subst hj; simp [Addr.add]
  | 2, hj => simp at hj; subst hj; simp [Addr.add]
theorem ones3 (x y z : Int) : ∀ u ∈ [Value.int .i64 x, .int .i64 y, .int .i64 z], u.oneCell' = true := by
  intro u hu; simp at hu; rcases hu with rfl | rfl | rfl <;> rfl
theorem gcd_at {a b g : Int} (hg : g = (Int.gcd a b : Int)) (ha : Wd a) (hb : Wd b) (w : World) :
    Calls Try.prog 93 #[.int .i64 a, .int .i64 b] w fun e w' => e = .returned (.int .i64 g) ∧ ∃ n, w' = w.drewN n := by
  subst hg; exact gcd_any a b ha hb w
theorem l01Gcd_at {a b g : Int} (hg : g = (Int.gcd a b : Int)) (ha : Wd a) (hb : Wd b) (w : World) :
    Calls Try.prog 95 #[.int .i64 a, .int .i64 b] w fun e w' => e = .returned (.int .i64 g) ∧ ∃ n, w' = w.drewN n := by
  subst hg; exact l01Gcd_any a b ha hb w
theorem plL_bd {p : Int} {xs : List Int} (hp : SP p) (h : POk xs) (h0 : 0 < xs.length) : Bd (plL p xs) := hullP_bd (ptL_pos h h0) (ptL_inc p xs) (ptL_bd hp h)
theorem plL_inc {p : Int} {xs : List Int} (h : POk xs) (h0 : 0 < xs.length) : (plL p xs).Pairwise (fun a b => a.1 < b.1) := hullP_inc (ptL_pos h h0) (ptL_inc p xs)
theorem plL_len {p : Int} {xs : List Int} (h : POk xs) (h0 : 0 < xs.length) : 0 < (plL p xs).length ∧ (plL p xs).length ≤ 9 := by
  have := hullP_len (ptL_pos (p := p) h h0) (ptL_inc p xs)
  have := ptL_len (p := p) h
  unfold plL
  omega
/-- the slopes -/
noncomputable def soL (p : Int) (xs : List Int) : List Int := slL (plL p xs)
theorem soL_len (p : Int) (xs : List Int) : (soL p xs).length = ((plL p xs).length - 1) * 3 := slF_len _ _
theorem wd_small {a : Int} (h1 : -1000 ≤ a) (h2 : a ≤ 1000) : Wd a := by unfold Wd; omega

theorem own_madeS (w : World) : (w.alloc (.cells #[] 107)).ownsRow w.heap.size 107 3 (.slice (some ⟨w.heap.size, 0, none⟩) 0 0) 0 [] :=
  ⟨rfl, .inr ⟨w.heap.size, 0, #[], rfl, Nat.le_refl _, heap_alloc_new w _, Nat.le_refl _, by unfold maxLen; omega, rfl, rfl⟩⟩

set_option maxRecDepth 100000 in
set_option maxHeartbeats 4000000 in
theorem slopes_any (p : Int) (A : Option Addr) (n c : Nat) (xs : List Int) (w : World) (hr : Rd .i64 w A n c xs) (hp : SP p) (hx : POk xs) (h0 : 0 < xs.length) :
    Calls Try.prog 109 #[.int .i64 p, .slice A n c] w fun e w' => ∃ A' c', e = .returned (.slice A' ((plL p xs).length - 1) c') ∧ OwnC 107 3 w' w.heap.size A' ((plL p xs).length - 1) c' ((soL p xs).map (Value.int .i64)) ∧ Below w.heap.size w w' := by
  obtain ⟨i0, hi, hz0, hz1, hz2⟩ := info_parts infoSlo
  have HI := Lib.hid hi
  have HZ0 := Lib.hid hz0
  have HZ1 := Lib.hid hz1
  have HZ2 := Lib.hid hz2
  clear hi hz0 hz1 hz2
  have HR := Lib.hid hr
  have HX := Lib.hid hx
  have HP := Lib.hid hp
  have H0 := Lib.hid h0
  obtain ⟨C, hC⟩ : ∃ C, C = plL p xs := ⟨_, rfl⟩
  have HSO : Hid (soL p xs = slF C (C.length - 1)) := Lib.hid (by unfold soL slL; rw [hC])
  have HBd : Hid (Bd C) := Lib.hid (by rw [hC]; exact plL_bd hp hx h0)
  have HIn : Hid (Inc (pX C) C.length) := Lib.hid (by rw [hC]; exact pw_inc (plL_inc hx h0))
  have hM := plL_len (p := p) hx h0
  rw [← hC] at hM
  obtain ⟨hM0, hM9⟩ := hM
  have HC := Lib.hid hC
  clear hr hp hx hC h0
  go_enter Try.func109, Try.ntmps109
  go_wp2_with fail
  refine (polygon_any _ _ _ _ _ _ HR.out HP.out HX.out H0.out).mono ?_
  rintro e w1 ⟨A1, c1, rfl, ho, hb⟩
  rw [← HC.out] at ho ⊢
  have HB1 := Lib.hid hb
  have HRd := Lib.hid ho.rd
  clear ho hb
  obtain ⟨M, hM⟩ : ∃ M, M = C.length := ⟨_, rfl⟩
  rw [← hM] at HRd hM0 hM9 HSO ⊢
  have HM := Lib.hid hM
  have HMp : Hid (M = (plL p xs).length) := Lib.hid (by rw [hM, HC.out])
  clear hM
  obtain ⟨b1, off1, rfl, hcell⟩ := RdC.atF (zs := flatI C) HRd.out (by omega)
  have hcs := HRd.out.2.1
  have hcs2 := HRd.out.2.2.1
  unfold maxLen at hcs2
  clear hcell
  go_wp2
  go_loopw [6, 7, 8, 9, 10] (fun v i _ _ _ wr => ∃ (k : Nat), 1 ≤ k ∧ k ≤ M ∧ i = .int .i64 k ∧ Hid (wr.ownsRow w1.heap.size 107 3 v (k - 1) ((slF C (k - 1)).map (Value.int .i64))) ∧ Hid (Below w1.heap.size w1 wr)) (fun _ i _ _ _ _ => M - (intOf i).toNat)
  case atStart => exact ⟨1, by omega, by omega, rfl, Lib.hid (World.ownsRow_nil _ _ _ _), Lib.hid (Below.refl _ _)⟩
  case round =>
    obtain ⟨k, k1, k2, rfl, HO, HB⟩ := hrel
    by_cases hlt : k < M
    · obtain ⟨b3, off3, e3, hcell⟩ := RdC.atF (zs := flatI C) (HRd.out.below HB.out) (by omega)
      simp at e3
      obtain ⟨rfl, rfl⟩ := e3
      have ux0 := hcell (k * 2 + 0) (fl_lt (show k < M by omega) (by omega))
      rw [Nat.add_zero, (flatI_at C (k) (by have := HM.out; omega)).1] at ux0
      have uy0 := hcell (k * 2 + 1) (fl_lt (show k < M by omega) (by omega))
      rw [← Nat.add_assoc, (flatI_at C (k) (by have := HM.out; omega)).2] at uy0
      change _ = some (Value.int .i64 (pX C (k))) at ux0
      change _ = some (Value.int .i64 (pY C (k))) at uy0
      have bux := bd_at HBd.out (show k < C.length by have := HM.out; omega)
      obtain ⟨ux, hux⟩ : ∃ x, x = pX C (k) := ⟨_, rfl⟩
      obtain ⟨uy, huy⟩ : ∃ x, x = pY C (k) := ⟨_, rfl⟩
      rw [← hux] at ux0 bux
      rw [← huy] at uy0 bux
      have ⟨⟨ux1, ux2⟩, ⟨uy1, uy2⟩⟩ := bux
      clear bux
      have vx0 := hcell ((k - 1) * 2 + 0) (fl_lt (show (k - 1) < M by omega) (by omega))
      rw [Nat.add_zero, (flatI_at C ((k - 1)) (by have := HM.out; omega)).1] at vx0
      have vy0 := hcell ((k - 1) * 2 + 1) (fl_lt (show (k - 1) < M by omega) (by omega))
      rw [← Nat.add_assoc, (flatI_at C ((k - 1)) (by have := HM.out; omega)).2] at vy0
      change _ = some (Value.int .i64 (pX C ((k - 1)))) at vx0
      change _ = some (Value.int .i64 (pY C ((k - 1)))) at vy0
      have bvx := bd_at HBd.out (show (k - 1) < C.length by have := HM.out; omega)
      obtain ⟨vx, hvx⟩ : ∃ x, x = pX C ((k - 1)) := ⟨_, rfl⟩
      obtain ⟨vy, hvy⟩ : ∃ x, x = pY C ((k - 1)) := ⟨_, rfl⟩
      rw [← hvx] at vx0 bvx
      rw [← hvy] at vy0 bvx
      have ⟨⟨vx1, vx2⟩, ⟨vy1, vy2⟩⟩ := bvx
      clear bvx
      have hinc : vx < ux := by rw [hvx, hux]; exact HIn.out (k - 1) k (by omega) (by have := HM.out; omega)
      obtain ⟨rs, hrs⟩ : ∃ x, x = uy - vy := ⟨_, rfl⟩
      obtain ⟨rn, hrn⟩ : ∃ x, x = ux - vx := ⟨_, rfl⟩
      have r1 : -39 ≤ rs := by omega
      have r2 : rs ≤ 39 := by omega
      have r3 : 1 ≤ rn := by omega
      have r4 : rn ≤ 8 := by omega
      obtain ⟨g, hg⟩ : ∃ g, g = (Int.gcd rs rn : Int) := ⟨_, rfl⟩
      have g1 : 1 ≤ g := by have := gcd_pos (a := rs) (b := rn) (by omega); omega
      have g2 : ¬ g = 0 := by omega
      have HSP : Hid (slP (C.getD (k - 1) (0, 0)) (C.getD (k - 1 + 1) (0, 0)) = [rs.tdiv g, rn.tdiv g, rn]) := Lib.hid (by
        rw [show k - 1 + 1 = k by omega]
        have a1 : (C.getD k (0, 0)).2 - (C.getD (k - 1) (0, 0)).2 = rs := by rw [hrs, huy, hvy]; rfl
        have a2 : (C.getD k (0, 0)).1 - (C.getD (k - 1) (0, 0)).1 = rn := by rw [hrn, hux, hvx]; rfl
        unfold slP
        rw [a1, a2, hg])
      have HGg := Lib.hid hg
      have t1 := tdiv_wd rs g (by omega) (by omega)
      have t2 := tdiv_wd rn g (by omega) (by omega)
      have i1 : (0 : Int) ≤ (k : Int) := by omega
      have i2 : (k : Int) < (M : Int) := by omega
      have i3 : (0 : Int) ≤ (k : Int) - 1 := by omega
      have i4 : (k : Int) - 1 < (M : Int) := by omega
      have hl1 : k - 1 + 1 ≤ maxLen := by unfold maxLen; omega
      have hl2 : (k - 1 + 1) * 24 ≤ 140737488355328 := by omega
      clear hcell hux huy hvx hvy hg
      go_wp2
      have e1 : IntKind.i64.wrap (uy - vy) = rs := by rw [IntWalk.i64_in _ (by omega)]; exact hrs.symm
      have e2 : IntKind.i64.wrap (ux - vx) = rn := by rw [IntWalk.i64_in _ (by omega)]; exact hrn.symm
      have e3 : IntKind.i64.wrap ((k : Int) - 1) = (k : Int) - 1 := IntWalk.i64_in _ (by omega)
      clear hrs hrn
      go_quiet (fail)
      clear e1 e2 e3
      go_wp2_with fail
      refine (gcd_at HGg.out (wd_small (by omega) (by omega)) (wd_small (by omega) (by omega)) _).mono ?_
      rintro e w2 ⟨rfl, q, rfl⟩
      go_wp2
      have d1 : IntKind.i64.wrap (rs.tdiv g) = rs.tdiv g := IntWalk.i64_in _ (by omega)
      have d2 : IntKind.i64.wrap (rn.tdiv g) = rn.tdiv g := IntWalk.i64_in _ (by omega)
      go_region_law ((refine step_append_lies _ (by rfl) _ _ _ (by rfl) w1.heap.size 107 i0 _ 3 24 Try.underlying58 HI.out HZ0.out HZ1.out HZ2.out rfl (by omega) _ (k - 1) ((slF C (k - 1)).map (Value.int .i64)) (by rfl) (((own_below HO.out (below_drewN (Below.refl _ _) (nq + q))).alloc _).drew) _ 1 1 [.int .i64 (rs.tdiv g), .int .i64 (rn.tdiv g), .int .i64 rn] (by rfl) (by rfl) (news3 _ _ _ _ _ _ (by simp)) (ones3 _ _ _) (by omega) hl1 hl2 (by have := HB.out.size; simp; omega) _ (by rfl) ?_; intro gg cap w2 hown' hgrow hat hlt2))
      have HO5 : Hid (w2.ownsRow w1.heap.size 107 3 (.slice (some ⟨gg, 0, none⟩) k cap) (k + 1 - 1) ((slF C (k + 1 - 1)).map (Value.int .i64))) := Lib.hid (by
        have e1 : k - 1 + 1 = k := by omega
        have e : slF C (k - 1 + 1) = slF C (k - 1) ++ [rs.tdiv g, rn.tdiv g, rn] := by rw [← HSP.out]; rfl
        rw [e1] at e hown'
        rw [show k + 1 - 1 = k by omega, e, List.map_append]
        exact hown')
      have HB5 : Hid (Below w1.heap.size w1 w2) := Lib.hid ((bl_trans HB.out (by repeat (first | exact Below.refl _ _ | apply Below.drew | apply below_drewN | refine bl_alloc ?_ _))).grown hgrow (bl_trans HB.out (by repeat (first | exact Below.refl _ _ | apply Below.drew | apply below_drewN | refine bl_alloc ?_ _))).size (fun k hk => (HO.out.lt k hk).1))
      clear hown' hgrow hat hlt2 d1 d2 hl1 hl2
      go_wp2
      go_roundw
      case rel => exact ⟨k + 1, by omega, by omega, by go_num, HO5, HB5⟩
      case measure => simp [intOf]; omega
    · have hkM : k = M := by omega
      obtain ⟨A2, c2, rfl, _⟩ := own_cells HO.out
      have HF : Hid (wr.ownsRow w1.heap.size 107 3 (.slice A2 (M - 1) c2) (M - 1) ((soL p xs).map (Value.int .i64))) := Lib.hid (by rw [HSO.out, ← hkM]; exact HO.out)
      go_wp2
      go_ret
      exact ⟨A2, c2, by rw [← HMp.out, ← hkM]; rfl, by rw [← HMp.out]; exact own_lo (OwnC.of_row HF.out) HB1.out.size, bl_trans HB1.out HB.out⟩

set_option maxRecDepth 100000 in
set_option maxHeartbeats 4000000 in
theorem l13Slopes_any (p : Int) (A : Option Addr) (n c : Nat) (xs : List Int) (w : World) (hr : Rd .i64 w A n c xs) (hp : SP p) (hx : POk xs) (h0 : 0 < xs.length) :
    Calls Try.prog 111 #[.int .i64 p, .slice A n c] w fun e w' => ∃ A' c', e = .returned (.slice A' ((plL p xs).length - 1) c') ∧ OwnC 107 3 w' w.heap.size A' ((plL p xs).length - 1) c' ((soL p xs).map (Value.int .i64)) ∧ Below w.heap.size w w' := by
  obtain ⟨i0, hi, hz0, hz1, hz2⟩ := info_parts infoSlo
  have HI := Lib.hid hi
  have HZ0 := Lib.hid hz0
  have HZ1 := Lib.hid hz1
  have HZ2 := Lib.hid hz2
  clear hi hz0 hz1 hz2
  have HR := Lib.hid hr
  have HX := Lib.hid hx
  have HP := Lib.hid hp
  have H0 := Lib.hid h0
  obtain ⟨C, hC⟩ : ∃ C, C = plL p xs := ⟨_, rfl⟩
  have HSO : Hid (soL p xs = slF C (C.length - 1)) := Lib.hid (by unfold soL slL; rw [hC])
  have HBd : Hid (Bd C) := Lib.hid (by rw [hC]; exact plL_bd hp hx h0)
  have HIn : Hid (Inc (pX C) C.length) := Lib.hid (by rw [hC]; exact pw_inc (plL_inc hx h0))
  have hM := plL_len (p := p) hx h0
  rw [← hC] at hM
  obtain ⟨hM0, hM9⟩ := hM
  have HC := Lib.hid hC
  clear hr hp hx hC h0
  go_enter Try.func111, Try.ntmps111
  go_wp2_with fail
  refine (l13Polygon_any _ _ _ _ _ _ HR.out HP.out HX.out H0.out).mono ?_
  rintro e w1 ⟨A1, c1, rfl, ho, hb⟩
  rw [← HC.out] at ho ⊢
  have HB1 := Lib.hid hb
  have HRd := Lib.hid ho.rd
  clear ho hb
  obtain ⟨M, hM⟩ : ∃ M, M = C.length := ⟨_, rfl⟩
  rw [← hM] at HRd hM0 hM9 HSO ⊢
  have HM := Lib.hid hM
  have HMp : Hid (M = (plL p xs).length) := Lib.hid (by rw [hM, HC.out])
  clear hM
  obtain ⟨b1, off1, rfl, hcell⟩ := RdC.atF (zs := flatI C) HRd.out (by omega)
  have hcs := HRd.out.2.1
  have hcs2 := HRd.out.2.2.1
  unfold maxLen at hcs2
  clear hcell
  go_wp2
  go_loopw [6, 7, 8, 9, 10] (fun v i _ _ _ wr => ∃ (k : Nat), 1 ≤ k ∧ k ≤ M ∧ i = .int .i64 k ∧ Hid (wr.ownsRow w1.heap.size 107 3 v (k - 1) ((slF C (k - 1)).map (Value.int .i64))) ∧ Hid (Below w1.heap.size w1 wr)) (fun _ i _ _ _ _ => M - (intOf i).toNat)
  case atStart => exact ⟨1, by omega, by omega, rfl, Lib.hid (own_madeS w1), Lib.hid (bl_alloc (Below.refl _ _) _)⟩
  case round =>
    obtain ⟨k, k1, k2, rfl, HO, HB⟩ := hrel
    by_cases hlt : k < M
    · obtain ⟨b3, off3, e3, hcell⟩ := RdC.atF (zs := flatI C) (HRd.out.below HB.out) (by omega)
      simp at e3
      obtain ⟨rfl, rfl⟩ := e3
      have ux0 := hcell (k * 2 + 0) (fl_lt (show k < M by omega) (by omega))
      rw [Nat.add_zero, (flatI_at C (k) (by have := HM.out; omega)).1] at ux0
      have uy0 := hcell (k * 2 + 1) (fl_lt (show k < M by omega) (by omega))
      rw [← Nat.add_assoc, (flatI_at C (k) (by have := HM.out; omega)).2] at uy0
      change _ = some (Value.int .i64 (pX C (k))) at ux0
      change _ = some (Value.int .i64 (pY C (k))) at uy0
      have bux := bd_at HBd.out (show k < C.length by have := HM.out; omega)
      obtain ⟨ux, hux⟩ : ∃ x, x = pX C (k) := ⟨_, rfl⟩
      obtain ⟨uy, huy⟩ : ∃ x, x = pY C (k) := ⟨_, rfl⟩
      rw [← hux] at ux0 bux
      rw [← huy] at uy0 bux
      have ⟨⟨ux1, ux2⟩, ⟨uy1, uy2⟩⟩ := bux
      clear bux
      have vx0 := hcell ((k - 1) * 2 + 0) (fl_lt (show (k - 1) < M by omega) (by omega))
      rw [Nat.add_zero, (flatI_at C ((k - 1)) (by have := HM.out; omega)).1] at vx0
      have vy0 := hcell ((k - 1) * 2 + 1) (fl_lt (show (k - 1) < M by omega) (by omega))
      rw [← Nat.add_assoc, (flatI_at C ((k - 1)) (by have := HM.out; omega)).2] at vy0
      change _ = some (Value.int .i64 (pX C ((k - 1)))) at vx0
      change _ = some (Value.int .i64 (pY C ((k - 1)))) at vy0
      have bvx := bd_at HBd.out (show (k - 1) < C.length by have := HM.out; omega)
      obtain ⟨vx, hvx⟩ : ∃ x, x = pX C ((k - 1)) := ⟨_, rfl⟩
      obtain ⟨vy, hvy⟩ : ∃ x, x = pY C ((k - 1)) := ⟨_, rfl⟩
      rw [← hvx] at vx0 bvx
      rw [← hvy] at vy0 bvx
      have ⟨⟨vx1, vx2⟩, ⟨vy1, vy2⟩⟩ := bvx
      clear bvx
      have hinc : vx < ux := by rw [hvx, hux]; exact HIn.out (k - 1) k (by omega) (by have := HM.out; omega)
      obtain ⟨rs, hrs⟩ : ∃ x, x = uy - vy := ⟨_, rfl⟩
      obtain ⟨rn, hrn⟩ : ∃ x, x = ux - vx := ⟨_, rfl⟩
      have r1 : -39 ≤ rs := by omega
      have r2 : rs ≤ 39 := by omega
      have r3 : 1 ≤ rn := by omega
      have r4 : rn ≤ 8 := by omega
      obtain ⟨g, hg⟩ : ∃ g, g = (Int.gcd rs rn : Int) := ⟨_, rfl⟩
      have g1 : 1 ≤ g := by have := gcd_pos (a := rs) (b := rn) (by omega); omega
      have g2 : ¬ g = 0 := by omega
      have HSP : Hid (slP (C.getD (k - 1) (0, 0)) (C.getD (k - 1 + 1) (0, 0)) = [rs.tdiv g, rn.tdiv g, rn]) := Lib.hid (by
        rw [show k - 1 + 1 = k by omega]
        have a1 : (C.getD k (0, 0)).2 - (C.getD (k - 1) (0, 0)).2 = rs := by rw [hrs, huy, hvy]; rfl
        have a2 : (C.getD k (0, 0)).1 - (C.getD (k - 1) (0, 0)).1 = rn := by rw [hrn, hux, hvx]; rfl
        unfold slP
        rw [a1, a2, hg])
      have HGg := Lib.hid hg
      have t1 := tdiv_wd rs g (by omega) (by omega)
      have t2 := tdiv_wd rn g (by omega) (by omega)
      have i1 : (0 : Int) ≤ (k : Int) := by omega
      have i2 : (k : Int) < (M : Int) := by omega
      have i3 : (0 : Int) ≤ (k : Int) - 1 := by omega
      have i4 : (k : Int) - 1 < (M : Int) := by omega
      have hl1 : k - 1 + 1 ≤ maxLen := by unfold maxLen; omega
      have hl2 : (k - 1 + 1) * 24 ≤ 140737488355328 := by omega
      clear hcell hux huy hvx hvy hg
      go_wp2
      have e1 : IntKind.i64.wrap (uy - vy) = rs := by rw [IntWalk.i64_in _ (by omega)]; exact hrs.symm
      have e2 : IntKind.i64.wrap (ux - vx) = rn := by rw [IntWalk.i64_in _ (by omega)]; exact hrn.symm
      have e3 : IntKind.i64.wrap ((k : Int) - 1) = (k : Int) - 1 := IntWalk.i64_in _ (by omega)
      clear hrs hrn
      go_quiet (fail)
      clear e1 e2 e3
      go_wp2_with fail
      refine (l01Gcd_at (HGg.out.trans (by rw [Int.gcd_comm])) (wd_small (by omega) (by omega)) (wd_small (by omega) (by omega)) _).mono ?_
      rintro e w2 ⟨rfl, q, rfl⟩
      go_wp2
      have d1 : IntKind.i64.wrap (rs.tdiv g) = rs.tdiv g := IntWalk.i64_in _ (by omega)
      have d2 : IntKind.i64.wrap (rn.tdiv g) = rn.tdiv g := IntWalk.i64_in _ (by omega)
      go_region_law ((refine step_append_lies _ (by rfl) _ _ _ (by rfl) w1.heap.size 107 i0 _ 3 24 Try.underlying58 HI.out HZ0.out HZ1.out HZ2.out rfl (by omega) _ (k - 1) ((slF C (k - 1)).map (Value.int .i64)) (by rfl) (((own_below HO.out (below_drewN (Below.refl _ _) (nq + q))).alloc _).drew) _ 1 1 [.int .i64 (rs.tdiv g), .int .i64 (rn.tdiv g), .int .i64 rn] (by rfl) (by rfl) (news3 _ _ _ _ _ _ (by simp)) (ones3 _ _ _) (by omega) hl1 hl2 (by have := HB.out.size; simp; omega) _ (by rfl) ?_; intro gg cap w2 hown' hgrow hat hlt2))
      have HO5 : Hid (w2.ownsRow w1.heap.size 107 3 (.slice (some ⟨gg, 0, none⟩) k cap) (k + 1 - 1) ((slF C (k + 1 - 1)).map (Value.int .i64))) := Lib.hid (by
        have e1 : k - 1 + 1 = k := by omega
        have e : slF C (k - 1 + 1) = slF C (k - 1) ++ [rs.tdiv g, rn.tdiv g, rn] := by rw [← HSP.out]; rfl
        rw [e1] at e hown'
        rw [show k + 1 - 1 = k by omega, e, List.map_append]
        exact hown')
      have HB5 : Hid (Below w1.heap.size w1 w2) := Lib.hid ((bl_trans HB.out (by repeat (first | exact Below.refl _ _ | apply Below.drew | apply below_drewN | refine bl_alloc ?_ _))).grown hgrow (bl_trans HB.out (by repeat (first | exact Below.refl _ _ | apply Below.drew | apply below_drewN | refine bl_alloc ?_ _))).size (fun k hk => (HO.out.lt k hk).1))
      clear hown' hgrow hat hlt2 d1 d2 hl1 hl2
      go_wp2
      go_roundw
      case rel => exact ⟨k + 1, by omega, by omega, by go_num, HO5, HB5⟩
      case measure => simp [intOf]; omega
    · have hkM : k = M := by omega
      obtain ⟨A2, c2, rfl, _⟩ := own_cells HO.out
      have HF : Hid (wr.ownsRow w1.heap.size 107 3 (.slice A2 (M - 1) c2) (M - 1) ((soL p xs).map (Value.int .i64))) := Lib.hid (by rw [HSO.out, ← hkM]; exact HO.out)
      go_wp2
      go_ret
      exact ⟨A2, c2, by rw [← HMp.out, ← hkM]; rfl, by rw [← HMp.out]; exact own_lo (OwnC.of_row HF.out) HB1.out.size, bl_trans HB1.out HB.out⟩

end Go.Proofs.Ythdmanngjnfamaa