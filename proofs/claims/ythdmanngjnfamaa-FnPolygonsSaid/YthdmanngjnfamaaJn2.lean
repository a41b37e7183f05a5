
/- The walk of the program's JoinSlopes. -/
import Derived.Test.YthdmanngjnfamaaJn0
import Derived.Deep.RegionHeld3
namespace Go.Proofs.Ythdmanngjnfamaa
open Go.RowKit

theorem areSlopes_at {A : Option Addr} {n c : Nat} {zs : List Int} {v : Bool} (hv : v = slB zs n) (w : World) (hr : RdC 3 w A n c (zs.map (Value.int .i64))) :
    Calls Try.prog 113 #[.slice A n c] w fun e w' => e = .returned (.bool v) ∧ Below w.heap.size w w' := by
  subst hv; exact areSlopes_any A n c zs w hr
def lenV : Value → Nat
  | .slice _ n _ => n
  | _ => 0
theorem lenV_slice (A : Option Addr) (n c : Nat) : lenV (.slice A n c) = n := rfl
theorem RdC.cut3 {w : World} {b o n c : Nat} {zs : List Int} (h : RdC 3 w (some ⟨b, o, none⟩) (n + 1) c (zs.map (Value.int .i64))) :
    RdC 3 w (if c = 1 then some ⟨b, o, none⟩ else some ⟨b, o + 3, none⟩) n (c - 1) ((zs.drop 3).map (Value.int .i64)) := by
  have hl := h.1
  rw [List.length_map] at hl
  refine ⟨by rw [List.length_map, List.length_drop]; omega, by have := h.2.1; omega, by have := h.2.2.1; omega, fun hn => ?_⟩
  obtain ⟨b', o', e, hb, hc⟩ := h.2.2.2 (by omega)
  simp at e
  obtain ⟨rfl, rfl⟩ := e
  rw [if_neg (by have := h.2.1; omega)]
  refine ⟨_, _, rfl, hb, fun j hj => ?_⟩
  rw [Nat.add_assoc, hc (3 + j) (by omega), List.map_drop, List.getElem?_drop]
theorem cut_sl {w : World} {b o n c i : Nat} {zs : List Int} (h : RdC 3 w (some ⟨b, o, none⟩) (n + 1) c ((zs.drop (i * 3)).map (Value.int .i64))) :
    RdC 3 w (if c = 1 then some ⟨b, o, none⟩ else some ⟨b, o + 3, none⟩) n (c - 1) ((zs.drop ((i + 1) * 3)).map (Value.int .i64)) := by
  have := h.cut3
  rw [List.drop_drop] at this
  rw [show (i + 1) * 3 = i * 3 + 3 by omega]
  exact this
theorem run_cut1 {b o n c : Nat} {X : Option Addr} (hX : X = if c = 1 then some ⟨b, o, none⟩ else some ⟨b, o + 3, none⟩) (w : World) :
    (Instr.slice 58 (.slice (some ⟨b, o, none⟩) (n + 1) c) (some (.int .i64 1)) none none).run Try.prog w = .ok (.slice X n (c - 1)) w := by
  have hs : (sizeOf (Try.prog.elem 58)).run Try.prog w = .ok 3 w := by kernel_rfl
  rw [run_slice_l (P := Try.prog) (w := w) 58 (some ⟨b, o, none⟩) (n + 1) c (by kernel_rfl) .i64 1 (by omega) (by omega), hs, hX]
  simp [Result.andThen, sliced, Addr.add]
theorem getD_drop (zs : List Int) (i j : Nat) : (zs.drop i).getD j 0 = zs.getD (i + j) 0 := by
  simp [List.getD, List.getElem?_drop]

set_option maxRecDepth 100000 in
set_option maxHeartbeats 8000000 in
theorem implJoin_any (A : Option Addr) (n c : Nat) (zs : List Int) (B : Option Addr) (m d : Nat) (ys : List Int) (w : World) (hr : RdC 3 w A n c (zs.map (Value.int .i64))) (hs : RdC 3 w B m d (ys.map (Value.int .i64))) :
    Calls Try.prog 48 #[.slice A n c, .slice B m d] w (GivesS 107 3 (joR zs n ys m) w) := by
  obtain ⟨i0, hi, hz0, hz1, hz2⟩ := info_parts infoSlJ
  have HI := Lib.hid hi
  have HZ0 := Lib.hid hz0
  have HZ1 := Lib.hid hz1
  have HZ2 := Lib.hid hz2
  clear hi hz0 hz1 hz2
  have HR := Lib.hid hr
  have HS := Lib.hid hs
  have hc1 := hr.2.1
  have hc2 := hr.2.2.1
  have hd1 := hs.2.1
  have hd2 := hs.2.2.1
  unfold maxLen at hc2 hd2
  clear hr hs
  obtain ⟨u, hu⟩ : ∃ u, u = slB zs n := ⟨_, rfl⟩
  obtain ⟨v, hv⟩ : ∃ v, v = slB ys m := ⟨_, rfl⟩
  have HU := Lib.hid hu
  have HV0 := Lib.hid hv
  cases u with
  | false =>
    have HE : Hid (joR zs n ys m = (0, [], 1)) := Lib.hid (by unfold joR; rw [← hu, if_neg (by simp)])
    clear hu hv
    go_enter Try.func48, Try.ntmps48
    go_wp2_with fail
    refine (areSlopes_at HU.out _ HR.out).mono ?_
    rintro e w1 ⟨rfl, hb⟩
    have HB1 := Lib.hid hb
    clear hb
    go_wp2
    go_ret2
    exact ⟨none, 0, by rw [HE.out]; rfl, by rw [HE.out]; exact OwnC.nil (by unfold maxLen; omega), HB1.out⟩
  | true =>
    cases v with
    | false =>
      have HE : Hid (joR zs n ys m = (0, [], 1)) := Lib.hid (by unfold joR; rw [← hv, if_neg (by simp)])
      clear hu hv
      go_enter Try.func48, Try.ntmps48
      go_wp2_with fail
      refine (areSlopes_at HU.out _ HR.out).mono ?_
      rintro e w1 ⟨rfl, hb⟩
      have HB1 := Lib.hid hb
      clear hb
      go_wp2_with fail
      refine (areSlopes_at HV0.out _ (HS.out.below HB1.out)).mono ?_
      rintro e w2 ⟨rfl, hb⟩
      have HB2 := Lib.hid (bl_trans HB1.out hb)
      clear hb
      go_wp2
      go_ret2
      exact ⟨none, 0, by rw [HE.out]; rfl, by rw [HE.out]; exact OwnC.nil (by unfold maxLen; omega), HB2.out⟩
    | true =>
      have HE : Hid (joR zs n ys m = ((jnL zs ys n m).length / 3, jnL zs ys n m, 0)) := Lib.hid (by unfold joR; rw [← hu, ← hv, if_pos ⟨rfl, rfl⟩])
      have HKa := Lib.hid (slB_yes hu.symm)
      have HKb := Lib.hid (slB_yes hv.symm)
      have hn8 := HKa.out.2
      have hm8 := HKb.out.2
      clear hu hv
      go_enter Try.func48, Try.ntmps48
      go_wp2_with fail
      refine (areSlopes_at HU.out _ HR.out).mono ?_
      rintro e w1 ⟨rfl, hb⟩
      have HB1 := Lib.hid hb
      clear hb
      go_wp2_with fail
      refine (areSlopes_at HV0.out _ (HS.out.below HB1.out)).mono ?_
      rintro e w0 ⟨rfl, hb⟩
      have HB0 := Lib.hid (bl_trans HB1.out hb)
      have HRa := Lib.hid (HR.out.below HB0.out)
      have HSb := Lib.hid (HS.out.below HB0.out)
      clear hb HB1
      go_wp2
      go_loopw [0, 1, 6] (fun av bv v wr => ∃ (i k p q2 cnt f : Nat) (L : List Int) (Aa : Option Addr) (ca : Nat) (Bb : Option Addr) (cb : Nat), i + p = n ∧ k + q2 = m ∧ cnt ≤ i + k ∧ av = .slice Aa p ca ∧ bv = .slice Bb q2 cb ∧ Hid (RdC 3 w0 Aa p ca ((zs.drop (i * 3)).map (Value.int .i64))) ∧ Hid (RdC 3 w0 Bb q2 cb ((ys.drop (k * 3)).map (Value.int .i64))) ∧ Hid (n - i + (m - k) ≤ f ∧ L ++ jnF zs ys n m f i k = jnL zs ys n m ∧ L.length = cnt * 3) ∧ Hid (wr.ownsRow w0.heap.size 107 3 v cnt (L.map (Value.int .i64))) ∧ Hid (Below w0.heap.size w0 wr)) (fun av bv _ _ => lenV av + lenV bv)
      case atStart => exact ⟨0, 0, n, m, 0, n + m, [], _, _, _, _, by omega, by omega, by omega, rfl, rfl, by rw [Nat.zero_mul, List.drop_zero]; exact HRa, by rw [Nat.zero_mul, List.drop_zero]; exact HSb, Lib.hid ⟨by omega, rfl, rfl⟩, Lib.hid ⟨rfl, .inl ⟨rfl, rfl⟩⟩, Lib.hid (Below.refl _ _)⟩
      case round =>
        obtain ⟨i, k, p, q2, cnt, f, L, Aa, ca, Bb, cb, i1, k1, hcnt, rfl, rfl, HAr, HBr, HJ, HO, HB⟩ := hrel
        obtain ⟨wo, rfl⟩ : ∃ wo : World, wo = wr := ⟨_, rfl⟩
        have hpa := HAr.out.2.1
        have hca2 := HAr.out.2.2.1
        have hqb := HBr.out.2.1
        have hcb2 := HBr.out.2.2.1
        unfold maxLen at hca2 hcb2
        rcases p with _ | p
        · rcases q2 with _ | q2
          · have HF : Hid (L = jnL zs ys n m ∧ cnt = (jnL zs ys n m).length / 3) := Lib.hid (by
              have h := HJ.out
              have e := h.2.1
              rw [jn_end (by omega) (by omega), List.append_nil] at e
              refine ⟨e, ?_⟩
              rw [← e, h.2.2]
              omega)
            obtain ⟨A2, c2, rfl, _⟩ := own_cells HO.out
            go_wp2
            go_ret2
            exact ⟨A2, c2, by rw [HE.out, HF.out.2]; rfl, by rw [HE.out, ← HF.out.2, ← HF.out.1]; exact own_lo (OwnC.of_row HO.out) HB0.out.size, bl_trans HB0.out HB.out⟩
          · obtain ⟨bb, ob, rfl, hcb⟩ := HBr.out.atF (by omega)
            obtain ⟨Bx, hBx⟩ : ∃ X : Option Addr, X = if cb = 1 then some ⟨bb, ob, none⟩ else some ⟨bb, ob + 3, none⟩ := ⟨_, rfl⟩
            have HBc : Hid (RdC 3 w0 Bx q2 (cb - 1) ((ys.drop ((k + 1) * 3)).map (Value.int .i64))) := Lib.hid (by rw [hBx]; exact cut_sl HBr.out)
            have hsB := fun (w : World) => run_cut1 (n := q2) hBx w
            clear hBx
            have hb0 : ((q2 : Int) + 1 == 0) = false := by simp; omega
            have hb0' : (((q2 + 1 : Nat) : Int) == 0) = false := by simp; omega
            have br0 := hcb 0 (by omega)
            rw [getD_drop, Nat.add_zero, Nat.add_zero] at br0
            change _ = some (Value.int .i64 (sR ys k)) at br0
            obtain ⟨r', hrp⟩ : ∃ x, x = sR ys k := ⟨_, rfl⟩
            rw [← hrp] at br0
            have br0w := keep_cell HB.out br0
            have bq0 := hcb 1 (by omega)
            rw [getD_drop] at bq0
            change _ = some (Value.int .i64 (sQ ys k)) at bq0
            obtain ⟨q', hqp⟩ : ∃ x, x = sQ ys k := ⟨_, rfl⟩
            rw [← hqp] at bq0
            have bq0w := keep_cell HB.out bq0
            have bt0 := hcb 2 (by omega)
            rw [getD_drop] at bt0
            change _ = some (Value.int .i64 (sT ys k)) at bt0
            obtain ⟨t', htp⟩ : ∃ x, x = sT ys k := ⟨_, rfl⟩
            rw [← htp] at bt0
            have bt0w := keep_cell HB.out bt0
            clear hcb
            obtain ⟨f, rfl⟩ : ∃ g, f = g + 1 := ⟨f - 1, by have := HJ.out.1; omega⟩
            have HJ2 : Hid (n - (i) + (m - (k + 1)) ≤ f ∧ L ++ [r', q', t'] ++ jnF zs ys n m f ((i)) ((k + 1)) = jnL zs ys n m ∧ (L ++ [r', q', t']).length = (cnt + 1) * 3) := Lib.hid (by
              have hh := HJ.out
              refine ⟨by omega, ?_, by rw [List.length_append, hh.2.2]; simp; omega⟩
              have h2 := hh.2.1
              rw [jn_b (by omega) (.inl (by omega))] at h2
              rw [List.append_assoc, ← h2]
              rw [hrp, hqp, htp])
            have hl1 : cnt + 1 ≤ maxLen := by unfold maxLen; omega
            have hl2 : (cnt + 1) * 24 ≤ 140737488355328 := by omega
            clear hrp hqp htp
            go_wp2_with fail
            go_quiet (fail)
            go_wp2_with fail
            go_quiet (fail)
            go_wp2_with fail
            go_region_held3 (fun w' => w'.cell? ⟨bb, ob, none⟩ = some (.int .i64 r') ∧ w'.cell? ⟨bb, ob + 1, none⟩ = some (.int .i64 q') ∧ w'.cell? ⟨bb, ob + 2, none⟩ = some (.int .i64 t')) (first | go_keep | exact ⟨keep_cell (by repeat (first | exact HG.out | apply Below.drew | apply below_drewN)) br0, keep_cell (by repeat (first | exact HG.out | apply Below.drew | apply below_drewN)) bq0, keep_cell (by repeat (first | exact HG.out | apply Below.drew | apply below_drewN)) bt0⟩) ((refine step_append_lies _ (by rfl) _ _ _ (by rfl) w0.heap.size 107 i0 _ 3 24 Try.underlying58 HI.out HZ0.out HZ1.out HZ2.out rfl (by omega) _ cnt (L.map (Value.int .i64)) (by rfl) (ownJ_below HO.out (by repeat (first | exact Below.refl _ _ | apply Below.drew | apply below_drewN | refine bl_alloc ?_ _))) _ 1 1 [.int .i64 r', .int .i64 q', .int .i64 t'] (by rfl) (by rfl) (newsJ _ _ _ _ _ _ (by simp)) (onesJ _ _ _) (by omega) hl1 hl2 (Below.size (bl_trans HB.out (by repeat (first | exact Below.refl _ _ | apply Below.drew | apply below_drewN | refine bl_alloc ?_ _)))) _ (by rfl) ?_; intro gg cap w2 hown' hgrow hat hlt2; have HG : Hid (Below w0.heap.size w0 w2) := Lib.hid (Below.grown (bl_trans HB.out (by repeat (first | exact Below.refl _ _ | apply Below.drew | apply below_drewN | refine bl_alloc ?_ _))) hgrow (Below.size (bl_trans HB.out (by repeat (first | exact Below.refl _ _ | apply Below.drew | apply below_drewN | refine bl_alloc ?_ _)))) (fun k hk => (HO.out.lt k hk).1))))
            have HO2 : Hid (w2.ownsRow w0.heap.size 107 3 (.slice (some ⟨gg, 0, none⟩) (cnt + 1) cap) (cnt + 1) ((L ++ [r', q', t']).map (Value.int .i64))) := Lib.hid (by rw [List.map_append]; exact hown')
            clear hown' hgrow hl1 hl2 hat hlt2
            go_wp2
            go_roundw
            case rel => exact ⟨i, k + 1, 0, q2, cnt + 1, f, L ++ [r', q', t'], _, _, _, _, by omega, by omega, by omega, rfl, rfl, HAr, HBc, HJ2, HO2, HG⟩
            case measure => first | (simp [lenV_slice]; done) | (simp [lenV_slice]; omega)
        · obtain ⟨ba, oa, rfl, hca⟩ := HAr.out.atF (by omega)
          obtain ⟨Ax, hAx⟩ : ∃ X : Option Addr, X = if ca = 1 then some ⟨ba, oa, none⟩ else some ⟨ba, oa + 3, none⟩ := ⟨_, rfl⟩
          have HAc : Hid (RdC 3 w0 Ax p (ca - 1) ((zs.drop ((i + 1) * 3)).map (Value.int .i64))) := Lib.hid (by rw [hAx]; exact cut_sl HAr.out)
          have hsA := fun (w : World) => run_cut1 (n := p) hAx w
          clear hAx
          have ha0 : ((p : Int) + 1 == 0) = false := by simp; omega
          have ha0' : (((p + 1 : Nat) : Int) == 0) = false := by simp; omega
          have ar0 := hca 0 (by omega)
          rw [getD_drop, Nat.add_zero, Nat.add_zero] at ar0
          change _ = some (Value.int .i64 (sR zs i)) at ar0
          obtain ⟨r, hr⟩ : ∃ x, x = sR zs i := ⟨_, rfl⟩
          rw [← hr] at ar0
          have ar0w := keep_cell HB.out ar0
          have aq0 := hca 1 (by omega)
          rw [getD_drop] at aq0
          change _ = some (Value.int .i64 (sQ zs i)) at aq0
          obtain ⟨q, hq⟩ : ∃ x, x = sQ zs i := ⟨_, rfl⟩
          rw [← hq] at aq0
          have aq0w := keep_cell HB.out aq0
          have at0 := hca 2 (by omega)
          rw [getD_drop] at at0
          change _ = some (Value.int .i64 (sT zs i)) at at0
          obtain ⟨t, ht⟩ : ∃ x, x = sT zs i := ⟨_, rfl⟩
          rw [← ht] at at0
          have at0w := keep_cell HB.out at0
          have kA := (HKa.out.1 i (by omega)).1
          unfold SlK at kA
          rw [← hr, ← hq, ← ht] at kA
          have ⟨⟨qa1, qa2⟩, ⟨ra1, ra2⟩, _, ⟨ta1, ta2⟩, _⟩ := kA
          clear hca kA
          rcases q2 with _ | q2
          · obtain ⟨f, rfl⟩ : ∃ g, f = g + 1 := ⟨f - 1, by have := HJ.out.1; omega⟩
            have HJ2 : Hid (n - (i + 1) + (m - (k)) ≤ f ∧ L ++ [r, q, t] ++ jnF zs ys n m f ((i + 1)) ((k)) = jnL zs ys n m ∧ (L ++ [r, q, t]).length = (cnt + 1) * 3) := Lib.hid (by
              have hh := HJ.out
              refine ⟨by omega, ?_, by rw [List.length_append, hh.2.2]; simp; omega⟩
              have h2 := hh.2.1
              rw [jn_a (by omega) (.inl (by omega))] at h2
              rw [List.append_assoc, ← h2]
              rw [hr, hq, ht])
            have hl1 : cnt + 1 ≤ maxLen := by unfold maxLen; omega
            have hl2 : (cnt + 1) * 24 ≤ 140737488355328 := by omega
            clear hr hq ht
            go_wp2_with fail
            go_quiet (fail)
            go_wp2_with fail
            go_region_held3 (fun w' => w'.cell? ⟨ba, oa, none⟩ = some (.int .i64 r) ∧ w'.cell? ⟨ba, oa + 1, none⟩ = some (.int .i64 q) ∧ w'.cell? ⟨ba, oa + 2, none⟩ = some (.int .i64 t)) (first | go_keep | exact ⟨keep_cell (by repeat (first | exact HG.out | apply Below.drew | apply below_drewN)) ar0, keep_cell (by repeat (first | exact HG.out | apply Below.drew | apply below_drewN)) aq0, keep_cell (by repeat (first | exact HG.out | apply Below.drew | apply below_drewN)) at0⟩) ((refine step_append_lies _ (by rfl) _ _ _ (by rfl) w0.heap.size 107 i0 _ 3 24 Try.underlying58 HI.out HZ0.out HZ1.out HZ2.out rfl (by omega) _ cnt (L.map (Value.int .i64)) (by rfl) (ownJ_below HO.out (by repeat (first | exact Below.refl _ _ | apply Below.drew | apply below_drewN | refine bl_alloc ?_ _))) _ 1 1 [.int .i64 r, .int .i64 q, .int .i64 t] (by rfl) (by rfl) (newsJ _ _ _ _ _ _ (by simp)) (onesJ _ _ _) (by omega) hl1 hl2 (Below.size (bl_trans HB.out (by repeat (first | exact Below.refl _ _ | apply Below.drew | apply below_drewN | refine bl_alloc ?_ _)))) _ (by rfl) ?_; intro gg cap w2 hown' hgrow hat hlt2; have HG : Hid (Below w0.heap.size w0 w2) := Lib.hid (Below.grown (bl_trans HB.out (by repeat (first | exact Below.refl _ _ | apply Below.drew | apply below_drewN | refine bl_alloc ?_ _))) hgrow (Below.size (bl_trans HB.out (by repeat (first | exact Below.refl _ _ | apply Below.drew | apply below_drewN | refine bl_alloc ?_ _)))) (fun k hk => (HO.out.lt k hk).1))))
            have HO2 : Hid (w2.ownsRow w0.heap.size 107 3 (.slice (some ⟨gg, 0, none⟩) (cnt + 1) cap) (cnt + 1) ((L ++ [r, q, t]).map (Value.int .i64))) := Lib.hid (by rw [List.map_append]; exact hown')
            clear hown' hgrow hl1 hl2 hat hlt2
            go_wp2
            go_roundw
            case rel => exact ⟨i + 1, k, p, 0, cnt + 1, f, L ++ [r, q, t], _, _, _, _, by omega, by omega, by omega, rfl, rfl, HAc, HBr, HJ2, HO2, HG⟩
            case measure => first | (simp [lenV_slice]; done) | (simp [lenV_slice]; omega)
          · obtain ⟨bb, ob, rfl, hcb⟩ := HBr.out.atF (by omega)
            obtain ⟨Bx, hBx⟩ : ∃ X : Option Addr, X = if cb = 1 then some ⟨bb, ob, none⟩ else some ⟨bb, ob + 3, none⟩ := ⟨_, rfl⟩
            have HBc : Hid (RdC 3 w0 Bx q2 (cb - 1) ((ys.drop ((k + 1) * 3)).map (Value.int .i64))) := Lib.hid (by rw [hBx]; exact cut_sl HBr.out)
            have hsB := fun (w : World) => run_cut1 (n := q2) hBx w
            clear hBx
            have hb0 : ((q2 : Int) + 1 == 0) = false := by simp; omega
            have hb0' : (((q2 + 1 : Nat) : Int) == 0) = false := by simp; omega
            have br0 := hcb 0 (by omega)
            rw [getD_drop, Nat.add_zero, Nat.add_zero] at br0
            change _ = some (Value.int .i64 (sR ys k)) at br0
            obtain ⟨r', hrp⟩ : ∃ x, x = sR ys k := ⟨_, rfl⟩
            rw [← hrp] at br0
            have br0w := keep_cell HB.out br0
            have bq0 := hcb 1 (by omega)
            rw [getD_drop] at bq0
            change _ = some (Value.int .i64 (sQ ys k)) at bq0
            obtain ⟨q', hqp⟩ : ∃ x, x = sQ ys k := ⟨_, rfl⟩
            rw [← hqp] at bq0
            have bq0w := keep_cell HB.out bq0
            have bt0 := hcb 2 (by omega)
            rw [getD_drop] at bt0
            change _ = some (Value.int .i64 (sT ys k)) at bt0
            obtain ⟨t', htp⟩ : ∃ x, x = sT ys k := ⟨_, rfl⟩
            rw [← htp] at bt0
            have bt0w := keep_cell HB.out bt0
            have kB := (HKb.out.1 k (by omega)).1
            unfold SlK at kB
            rw [← hrp, ← hqp, ← htp] at kB
            have ⟨⟨qb1, qb2⟩, ⟨rb1, rb2⟩, _, ⟨tb1, tb2⟩, _⟩ := kB
            clear hcb kB
            have ⟨m1, m2⟩ := rq_bd ra1 ra2 qb1 qb2
            have ⟨m3, m4⟩ := rq_bd rb1 rb2 qa1 qa2
            by_cases c1 : r * q' < r' * q
            · obtain ⟨f, rfl⟩ : ∃ g, f = g + 1 := ⟨f - 1, by have := HJ.out.1; omega⟩
              have HJ2 : Hid (n - (i + 1) + (m - (k)) ≤ f ∧ L ++ [r, q, t] ++ jnF zs ys n m f ((i + 1)) ((k)) = jnL zs ys n m ∧ (L ++ [r, q, t]).length = (cnt + 1) * 3) := Lib.hid (by
                have hh := HJ.out
                refine ⟨by omega, ?_, by rw [List.length_append, hh.2.2]; simp; omega⟩
                have h2 := hh.2.1
                rw [jn_a (by omega) (.inr (by rw [← hr, ← hqp, ← hrp, ← hq]; exact c1))] at h2
                rw [List.append_assoc, ← h2]
                rw [hr, hq, ht])
              have hc1 : decide (r * q' < r' * q) = true := by simpa using c1
              have hl1 : cnt + 1 ≤ maxLen := by unfold maxLen; omega
              have hl2 : (cnt + 1) * 24 ≤ 140737488355328 := by omega
              clear c1 hr hq ht hrp hqp htp
              go_wp2_with fail
              go_quiet (fail)
              go_wp2_with fail
              go_region_held3 (fun w' => w'.cell? ⟨ba, oa, none⟩ = some (.int .i64 r) ∧ w'.cell? ⟨ba, oa + 1, none⟩ = some (.int .i64 q) ∧ w'.cell? ⟨ba, oa + 2, none⟩ = some (.int .i64 t)) (first | go_keep | exact ⟨keep_cell (by repeat (first | exact HG.out | apply Below.drew | apply below_drewN)) ar0, keep_cell (by repeat (first | exact HG.out | apply Below.drew | apply below_drewN)) aq0, keep_cell (by repeat (first | exact HG.out | apply Below.drew | apply below_drewN)) at0⟩) ((refine step_append_lies _ (by rfl) _ _ _ (by rfl) w0.heap.size 107 i0 _ 3 24 Try.underlying58 HI.out HZ0.out HZ1.out HZ2.out rfl (by omega) _ cnt (L.map (Value.int .i64)) (by rfl) (ownJ_below HO.out (by repeat (first | exact Below.refl _ _ | apply Below.drew | apply below_drewN | refine bl_alloc ?_ _))) _ 1 1 [.int .i64 r, .int .i64 q, .int .i64 t] (by rfl) (by rfl) (newsJ _ _ _ _ _ _ (by simp)) (onesJ _ _ _) (by omega) hl1 hl2 (Below.size (bl_trans HB.out (by repeat (first | exact Below.refl _ _ | apply Below.drew | apply below_drewN | refine bl_alloc ?_ _)))) _ (by rfl) ?_; intro gg cap w2 hown' hgrow hat hlt2; have HG : Hid (Below w0.heap.size w0 w2) := Lib.hid (Below.grown (bl_trans HB.out (by repeat (first | exact Below.refl _ _ | apply Below.drew | apply below_drewN | refine bl_alloc ?_ _))) hgrow (Below.size (bl_trans HB.out (by repeat (first | exact Below.refl _ _ | apply Below.drew | apply below_drewN | refine bl_alloc ?_ _)))) (fun k hk => (HO.out.lt k hk).1))))
              have HO2 : Hid (w2.ownsRow w0.heap.size 107 3 (.slice (some ⟨gg, 0, none⟩) (cnt + 1) cap) (cnt + 1) ((L ++ [r, q, t]).map (Value.int .i64))) := Lib.hid (by rw [List.map_append]; exact hown')
              clear hown' hgrow hl1 hl2 hat hlt2
              go_wp2
              go_roundw
              case rel => exact ⟨i + 1, k, p, q2 + 1, cnt + 1, f, L ++ [r, q, t], _, _, _, _, by omega, by omega, by omega, rfl, rfl, HAc, HBr, HJ2, HO2, HG⟩
              case measure => first | (simp [lenV_slice]; done) | (simp [lenV_slice]; omega)
            · by_cases c2 : r' * q < r * q'
              · obtain ⟨f, rfl⟩ : ∃ g, f = g + 1 := ⟨f - 1, by have := HJ.out.1; omega⟩
                have HJ2 : Hid (n - (i) + (m - (k + 1)) ≤ f ∧ L ++ [r', q', t'] ++ jnF zs ys n m f ((i)) ((k + 1)) = jnL zs ys n m ∧ (L ++ [r', q', t']).length = (cnt + 1) * 3) := Lib.hid (by
                  have hh := HJ.out
                  refine ⟨by omega, ?_, by rw [List.length_append, hh.2.2]; simp; omega⟩
                  have h2 := hh.2.1
                  rw [jn_b (by omega) (.inr (by rw [← hr, ← hqp, ← hrp, ← hq]; exact c2))] at h2
                  rw [List.append_assoc, ← h2]
                  rw [hrp, hqp, htp])
                have hc1 : decide (r * q' < r' * q) = false := by simpa using c1
                have hc2 : decide (r' * q < r * q') = true := by simpa using c2
                have hl1 : cnt + 1 ≤ maxLen := by unfold maxLen; omega
                have hl2 : (cnt + 1) * 24 ≤ 140737488355328 := by omega
                clear c1 c2 hr hq ht hrp hqp htp
                go_wp2_with fail
                go_quiet (fail)
                go_wp2_with fail
                go_quiet (fail)
                go_wp2_with fail
                go_region_held3 (fun w' => w'.cell? ⟨bb, ob, none⟩ = some (.int .i64 r') ∧ w'.cell? ⟨bb, ob + 1, none⟩ = some (.int .i64 q') ∧ w'.cell? ⟨bb, ob + 2, none⟩ = some (.int .i64 t')) (first | go_keep | exact ⟨keep_cell (by repeat (first | exact HG.out | apply Below.drew | apply below_drewN)) br0, keep_cell (by repeat (first | exact HG.out | apply Below.drew | apply below_drewN)) bq0, keep_cell (by repeat (first | exact HG.out | apply Below.drew | apply below_drewN)) bt0⟩) ((refine step_append_lies _ (by rfl) _ _ _ (by rfl) w0.heap.size 107 i0 _ 3 24 Try.underlying58 HI.out HZ0.out HZ1.out HZ2.out rfl (by omega) _ cnt (L.map (Value.int .i64)) (by rfl) (ownJ_below HO.out (by repeat (first | exact Below.refl _ _ | apply Below.drew | apply below_drewN | refine bl_alloc ?_ _))) _ 1 1 [.int .i64 r', .int .i64 q', .int .i64 t'] (by rfl) (by rfl) (newsJ _ _ _ _ _ _ (by simp)) (onesJ _ _ _) (by omega) hl1 hl2 (Below.size (bl_trans HB.out (by repeat (first | exact Below.refl _ _ | apply Below.drew | apply below_drewN | refine bl_alloc ?_ _)))) _ (by rfl) ?_; intro gg cap w2 hown' hgrow hat hlt2; have HG : Hid (Below w0.heap.size w0 w2) := Lib.hid (Below.grown (bl_trans HB.out (by repeat (first | exact Below.refl _ _ | apply Below.drew | apply below_drewN | refine bl_alloc ?_ _))) hgrow (Below.size (bl_trans HB.out (by repeat (first | exact Below.refl _ _ | apply Below.drew | apply below_drewN | refine bl_alloc ?_ _)))) (fun k hk => (HO.out.lt k hk).1))))
                have HO2 : Hid (w2.ownsRow w0.heap.size 107 3 (.slice (some ⟨gg, 0, none⟩) (cnt + 1) cap) (cnt + 1) ((L ++ [r', q', t']).map (Value.int .i64))) := Lib.hid (by rw [List.map_append]; exact hown')
                clear hown' hgrow hl1 hl2 hat hlt2
                go_wp2
                go_roundw
                case rel => exact ⟨i, k + 1, p + 1, q2, cnt + 1, f, L ++ [r', q', t'], _, _, _, _, by omega, by omega, by omega, rfl, rfl, HAr, HBc, HJ2, HO2, HG⟩
                case measure => first | (simp [lenV_slice]; done) | (simp [lenV_slice]; omega)
              · obtain ⟨f, rfl⟩ : ∃ g, f = g + 1 := ⟨f - 1, by have := HJ.out.1; omega⟩
                have HJ2 : Hid (n - (i + 1) + (m - (k + 1)) ≤ f ∧ L ++ [r, q, t + t'] ++ jnF zs ys n m f ((i + 1)) ((k + 1)) = jnL zs ys n m ∧ (L ++ [r, q, t + t']).length = (cnt + 1) * 3) := Lib.hid (by
                  have hh := HJ.out
                  refine ⟨by omega, ?_, by rw [List.length_append, hh.2.2]; simp; omega⟩
                  have h2 := hh.2.1
                  rw [jn_c (by omega) (by omega) (by rw [← hr, ← hqp, ← hrp, ← hq]; exact c1) (by rw [← hr, ← hqp, ← hrp, ← hq]; exact c2)] at h2
                  rw [List.append_assoc, ← h2]
                  rw [hr, hq, ht, htp])
                have hc1 : decide (r * q' < r' * q) = false := by simpa using c1
                have hc2 : decide (r' * q < r * q') = false := by simpa using c2
                have hl1 : cnt + 1 ≤ maxLen := by unfold maxLen; omega
                have hl2 : (cnt + 1) * 24 ≤ 140737488355328 := by omega
                clear c1 c2 hr hq ht hrp hqp htp
                go_wp2_with fail
                go_quiet (fail)
                go_wp2_with fail
                go_quiet (fail)
                go_wp2_with fail
                have e1 : IntKind.i64.wrap (t + t') = t + t' := IntWalk.i64_in _ (by omega)
                go_region_held3 (fun w' => w'.cell? ⟨ba, oa, none⟩ = some (.int .i64 r) ∧ w'.cell? ⟨ba, oa + 1, none⟩ = some (.int .i64 q) ∧ w'.cell? ⟨ba, oa + 2, none⟩ = some (.int .i64 t) ∧ w'.cell? ⟨bb, ob, none⟩ = some (.int .i64 r') ∧ w'.cell? ⟨bb, ob + 1, none⟩ = some (.int .i64 q') ∧ w'.cell? ⟨bb, ob + 2, none⟩ = some (.int .i64 t')) (first | go_keep | exact ⟨keep_cell (by repeat (first | exact HG.out | apply Below.drew | apply below_drewN)) ar0, keep_cell (by repeat (first | exact HG.out | apply Below.drew | apply below_drewN)) aq0, keep_cell (by repeat (first | exact HG.out | apply Below.drew | apply below_drewN)) at0, keep_cell (by repeat (first | exact HG.out | apply Below.drew | apply below_drewN)) br0, keep_cell (by repeat (first | exact HG.out | apply Below.drew | apply below_drewN)) bq0, keep_cell (by repeat (first | exact HG.out | apply Below.drew | apply below_drewN)) bt0⟩) ((refine step_append_lies _ (by rfl) _ _ _ (by rfl) w0.heap.size 107 i0 _ 3 24 Try.underlying58 HI.out HZ0.out HZ1.out HZ2.out rfl (by omega) _ cnt (L.map (Value.int .i64)) (by rfl) (ownJ_below HO.out (by repeat (first | exact Below.refl _ _ | apply Below.drew | apply below_drewN | refine bl_alloc ?_ _))) _ 1 1 [.int .i64 r, .int .i64 q, .int .i64 (t + t')] (by rfl) (by rfl) (newsJ _ _ _ _ _ _ (by simp)) (onesJ _ _ _) (by omega) hl1 hl2 (Below.size (bl_trans HB.out (by repeat (first | exact Below.refl _ _ | apply Below.drew | apply below_drewN | refine bl_alloc ?_ _)))) _ (by rfl) ?_; intro gg cap w2 hown' hgrow hat hlt2; have HG : Hid (Below w0.heap.size w0 w2) := Lib.hid (Below.grown (bl_trans HB.out (by repeat (first | exact Below.refl _ _ | apply Below.drew | apply below_drewN | refine bl_alloc ?_ _))) hgrow (Below.size (bl_trans HB.out (by repeat (first | exact Below.refl _ _ | apply Below.drew | apply below_drewN | refine bl_alloc ?_ _)))) (fun k hk => (HO.out.lt k hk).1))))
                clear e1
                have HO2 : Hid (w2.ownsRow w0.heap.size 107 3 (.slice (some ⟨gg, 0, none⟩) (cnt + 1) cap) (cnt + 1) ((L ++ [r, q, t + t']).map (Value.int .i64))) := Lib.hid (by rw [List.map_append]; exact hown')
                clear hown' hgrow hl1 hl2 hat hlt2
                go_wp2
                go_quiet (fail)
                go_wp2_with fail
                go_roundw
                case rel => exact ⟨i + 1, k + 1, p, q2, cnt + 1, f, L ++ [r, q, t + t'], _, _, _, _, by omega, by omega, by omega, rfl, rfl, HAc, HBc, HJ2, HO2, Lib.hid (below_drewN HG.out _)⟩
                case measure => first | (simp [lenV_slice]; done) | (simp [lenV_slice]; omega)

end Go.Proofs.Ythdmanngjnfamaa