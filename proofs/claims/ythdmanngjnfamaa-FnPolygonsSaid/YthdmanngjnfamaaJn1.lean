
/- The walk of the reference's JoinSlopes. -/
import Derived.Test.YthdmanngjnfamaaJn0
import Derived.Deep.RegionHeld3
namespace Go.Proofs.Ythdmanngjnfamaa
open Go.RowKit

theorem l13List_at {A : Option Addr} {n c : Nat} {zs : List Int} {v : Bool} (hv : v = slB zs n) (w : World) (hr : RdC 3 w A n c (zs.map (Value.int .i64))) :
    Calls Try.prog 114 #[.slice A n c] w fun e w' => e = .returned (.bool v) ∧ Below w.heap.size w w' := by
  subst hv; exact l13List_any A n c zs w hr

set_option maxRecDepth 100000 in
set_option maxHeartbeats 8000000 in
theorem specJoin_any (A : Option Addr) (n c : Nat) (zs : List Int) (B : Option Addr) (m d : Nat) (ys : List Int) (w : World) (hr : RdC 3 w A n c (zs.map (Value.int .i64))) (hs : RdC 3 w B m d (ys.map (Value.int .i64))) :
    Calls Try.prog 49 #[.slice A n c, .slice B m d] w (GivesS 107 3 (joR zs n ys m) w) := by
  obtain ⟨i0, hi, hz0, hz1, hz2⟩ := info_parts infoSlJ
  have HI := Lib.hid hi
  have HZ0 := Lib.hid hz0
  have HZ1 := Lib.hid hz1
  have HZ2 := Lib.hid hz2
  clear hi hz0 hz1 hz2
  have HR := Lib.hid hr
  have HS := Lib.hid hs
  have hc1 := hr.2.1
  have hc2 := hr.2.2.1
  have hd1 := hs.2.1
  have hd2 := hs.2.2.1
  unfold maxLen at hc2 hd2
  clear hr hs
  obtain ⟨u, hu⟩ : ∃ u, u = slB zs n := ⟨_, rfl⟩
  obtain ⟨v, hv⟩ : ∃ v, v = slB ys m := ⟨_, rfl⟩
  have HU := Lib.hid hu
  have HV0 := Lib.hid hv
  cases u with
  | false =>
    have HE : Hid (joR zs n ys m = (0, [], 1)) := Lib.hid (by unfold joR; rw [← hu, if_neg (by simp)])
    clear hu hv
    go_enter Try.func49, Try.ntmps49
    go_wp2_with fail
    refine (l13List_at HU.out _ HR.out).mono ?_
    rintro e w1 ⟨rfl, hb⟩
    have HB1 := Lib.hid hb
    clear hb
    go_wp2
    go_ret2
    exact ⟨none, 0, by rw [HE.out]; rfl, by rw [HE.out]; exact OwnC.nil (by unfold maxLen; omega), HB1.out⟩
  | true =>
    cases v with
    | false =>
      have HE : Hid (joR zs n ys m = (0, [], 1)) := Lib.hid (by unfold joR; rw [← hv, if_neg (by simp)])
      clear hu hv
      go_enter Try.func49, Try.ntmps49
      go_wp2_with fail
      refine (l13List_at HU.out _ HR.out).mono ?_
      rintro e w1 ⟨rfl, hb⟩
      have HB1 := Lib.hid hb
      clear hb
      go_wp2_with fail
      refine (l13List_at HV0.out _ (HS.out.below HB1.out)).mono ?_
      rintro e w2 ⟨rfl, hb⟩
      have HB2 := Lib.hid (bl_trans HB1.out hb)
      clear hb
      go_wp2
      go_ret2
      exact ⟨none, 0, by rw [HE.out]; rfl, by rw [HE.out]; exact OwnC.nil (by unfold maxLen; omega), HB2.out⟩
    | true =>
      have HE : Hid (joR zs n ys m = ((jnL zs ys n m).length / 3, jnL zs ys n m, 0)) := Lib.hid (by unfold joR; rw [← hu, ← hv, if_pos ⟨rfl, rfl⟩])
      have HKa := Lib.hid (slB_yes hu.symm)
      have HKb := Lib.hid (slB_yes hv.symm)
      have hn8 := HKa.out.2
      have hm8 := HKb.out.2
      clear hu hv
      go_enter Try.func49, Try.ntmps49
      go_wp2_with fail
      refine (l13List_at HU.out _ HR.out).mono ?_
      rintro e w1 ⟨rfl, hb⟩
      have HB1 := Lib.hid hb
      clear hb
      go_wp2_with fail
      refine (l13List_at HV0.out _ (HS.out.below HB1.out)).mono ?_
      rintro e w0 ⟨rfl, hb⟩
      have HB0 := Lib.hid (bl_trans HB1.out hb)
      have HRa := Lib.hid (HR.out.below HB0.out)
      have HSb := Lib.hid (HS.out.below HB0.out)
      clear hb HB1
      go_wp2
      go_loopw [6, 7, 8] (fun v i2 k2 wr => ∃ (i k cnt f : Nat) (L : List Int), i ≤ n ∧ k ≤ m ∧ cnt ≤ i + k ∧ i2 = .int .i64 i ∧ k2 = .int .i64 k ∧ Hid (n - i + (m - k) ≤ f ∧ L ++ jnF zs ys n m f i k = jnL zs ys n m ∧ L.length = cnt * 3) ∧ Hid (wr.ownsRow w0.heap.size 107 3 v cnt (L.map (Value.int .i64))) ∧ Hid (Below w0.heap.size w0 wr)) (fun _ i2 k2 _ => (n - (intOf i2).toNat) + (m - (intOf k2).toNat))
      case atStart => exact ⟨0, 0, 0, n + m, [], by omega, by omega, by omega, rfl, rfl, Lib.hid ⟨by omega, rfl, rfl⟩, Lib.hid (own_madeJ w0), Lib.hid (bl_alloc (Below.refl _ _) _)⟩
      case round =>
        obtain ⟨i, k, cnt, f, L, i1, k1, hcnt, rfl, rfl, HJ, HO, HB⟩ := hrel
        obtain ⟨wo, rfl⟩ : ∃ wo : World, wo = wr := ⟨_, rfl⟩
        by_cases hi : i < n
        · obtain ⟨ba, oa, rfl, hca⟩ := HRa.out.atF (by omega)
          have ar0 := hca (i * 3 + 0) (fl_lt (show i < n by omega) (by omega))
          rw [Nat.add_zero] at ar0
          change _ = some (Value.int .i64 (sR zs i)) at ar0
          obtain ⟨r, hr⟩ : ∃ x, x = sR zs i := ⟨_, rfl⟩
          rw [← hr] at ar0
          have ar0w := keep_cell HB.out ar0
          have aq0 := hca (i * 3 + 1) (fl_lt (show i < n by omega) (by omega))
          rw [← Nat.add_assoc] at aq0
          change _ = some (Value.int .i64 (sQ zs i)) at aq0
          obtain ⟨q, hq⟩ : ∃ x, x = sQ zs i := ⟨_, rfl⟩
          rw [← hq] at aq0
          have aq0w := keep_cell HB.out aq0
          have at0 := hca (i * 3 + 2) (fl_lt (show i < n by omega) (by omega))
          rw [← Nat.add_assoc] at at0
          change _ = some (Value.int .i64 (sT zs i)) at at0
          obtain ⟨t, ht⟩ : ∃ x, x = sT zs i := ⟨_, rfl⟩
          rw [← ht] at at0
          have at0w := keep_cell HB.out at0
          have ia1 : (0 : Int) ≤ (i : Int) := by omega
          have ia2 : (i : Int) < (n : Int) := by omega
          have hdi : decide (i < n) = true := by simp; omega
          have kA := (HKa.out.1 i hi).1
          unfold SlK at kA
          rw [← hr, ← hq, ← ht] at kA
          have ⟨⟨qa1, qa2⟩, ⟨ra1, ra2⟩, _, ⟨ta1, ta2⟩, _⟩ := kA
          clear hca kA
          by_cases hk : k < m
          · obtain ⟨bb, ob, rfl, hcb⟩ := HSb.out.atF (by omega)
            have br0 := hcb (k * 3 + 0) (fl_lt (show k < m by omega) (by omega))
            rw [Nat.add_zero] at br0
            change _ = some (Value.int .i64 (sR ys k)) at br0
            obtain ⟨r', hrp⟩ : ∃ x, x = sR ys k := ⟨_, rfl⟩
            rw [← hrp] at br0
            have br0w := keep_cell HB.out br0
            have bq0 := hcb (k * 3 + 1) (fl_lt (show k < m by omega) (by omega))
            rw [← Nat.add_assoc] at bq0
            change _ = some (Value.int .i64 (sQ ys k)) at bq0
            obtain ⟨q', hqp⟩ : ∃ x, x = sQ ys k := ⟨_, rfl⟩
            rw [← hqp] at bq0
            have bq0w := keep_cell HB.out bq0
            have bt0 := hcb (k * 3 + 2) (fl_lt (show k < m by omega) (by omega))
            rw [← Nat.add_assoc] at bt0
            change _ = some (Value.int .i64 (sT ys k)) at bt0
            obtain ⟨t', htp⟩ : ∃ x, x = sT ys k := ⟨_, rfl⟩
            rw [← htp] at bt0
            have bt0w := keep_cell HB.out bt0
            have ib1 : (0 : Int) ≤ (k : Int) := by omega
            have ib2 : (k : Int) < (m : Int) := by omega
            have hdk : decide (k < m) = true := by simp; omega
            have hkm : ((k : Int) == (m : Int)) = false := by simp; omega
            have hin : ((i : Int) == (n : Int)) = false := by simp; omega
            have kB := (HKb.out.1 k hk).1
            unfold SlK at kB
            rw [← hrp, ← hqp, ← htp] at kB
            have ⟨⟨qb1, qb2⟩, ⟨rb1, rb2⟩, _, ⟨tb1, tb2⟩, _⟩ := kB
            clear hcb kB
            have ⟨m1, m2⟩ := rq_bd ra1 ra2 qb1 qb2
            have ⟨m3, m4⟩ := rq_bd rb1 rb2 qa1 qa2
            by_cases c1 : r * q' < r' * q
            · obtain ⟨f, rfl⟩ : ∃ g, f = g + 1 := ⟨f - 1, by have := HJ.out.1; omega⟩
              have HJ2 : Hid (n - (i + 1) + (m - (k)) ≤ f ∧ L ++ [r, q, t] ++ jnF zs ys n m f ((i + 1)) ((k)) = jnL zs ys n m ∧ (L ++ [r, q, t]).length = (cnt + 1) * 3) := Lib.hid (by
                have hh := HJ.out
                refine ⟨by omega, ?_, by rw [List.length_append, hh.2.2]; simp; omega⟩
                have h2 := hh.2.1
                rw [jn_a hi (.inr (by rw [← hr, ← hqp, ← hrp, ← hq]; exact c1))] at h2
                rw [List.append_assoc, ← h2]
                rw [hr, hq, ht])
              have HV : Hid (true = Less3 r q r' q') := Lib.hid (by unfold Less3; first | (simp; done) | (simp; exact c1))
              have hl1 : cnt + 1 ≤ maxLen := by unfold maxLen; omega
              have hl2 : (cnt + 1) * 24 ≤ 140737488355328 := by omega
              clear c1 hi hk hr hq ht hrp hqp htp
              go_wp2_with fail
              go_region_held3 (fun w' => w'.cell? ⟨ba, oa + i * 3, none⟩ = some (.int .i64 r) ∧ w'.cell? ⟨ba, oa + i * 3 + 1, none⟩ = some (.int .i64 q) ∧ w'.cell? ⟨ba, oa + i * 3 + 2, none⟩ = some (.int .i64 t) ∧ w'.cell? ⟨bb, ob + k * 3, none⟩ = some (.int .i64 r') ∧ w'.cell? ⟨bb, ob + k * 3 + 1, none⟩ = some (.int .i64 q') ∧ w'.cell? ⟨bb, ob + k * 3 + 2, none⟩ = some (.int .i64 t')) (first | go_keep | exact ⟨keep_cell HBx.out ar0w, keep_cell HBx.out aq0w, keep_cell HBx.out at0w, keep_cell HBx.out br0w, keep_cell HBx.out bq0w, keep_cell HBx.out bt0w⟩) (first | (go_at_call 115; refine (l13Less_at HV.out m1 m2 m3 m4 _).mono ?_; rintro e wcHBx ⟨rfl, hbc⟩; have HBx : Hid (Below wo.heap.size wo wcHBx) := Lib.hid (bl_trans (by repeat (first | exact HBy.out | exact HBx.out | exact Below.refl _ _ | apply Below.drew | apply below_drewN | refine bl_alloc ?_ _)) hbc); clear hbc))
              go_wp2_with (at_builtin; refine wpList_append_own _ rfl _ _ _ rfl w0.heap.size 107 i0 _ 3 24 Try.underlying58 HI.out HZ0.out HZ1.out HZ2.out rfl (by decide) _ cnt (L.map (Value.int .i64)) rfl ((ownJ_below HO.out (by repeat (first | exact HBy.out | exact HBx.out | exact Below.refl _ _ | apply Below.drew | apply below_drewN | refine bl_alloc ?_ _))).alloc _) _ 1 1 [.int .i64 r, .int .i64 q, .int .i64 t] rfl rfl (newsJ _ _ _ _ _ _ (by simp)) (onesJ _ _ _) hl1 hl2 (base_alloc2 (bl_trans HB.out (by repeat (first | exact HBy.out | exact HBx.out | exact Below.refl _ _ | apply Below.drew | apply below_drewN | refine bl_alloc ?_ _))) _) ?_; intro v' w2 hown' hgrow _)
              have HO2 : Hid (w2.ownsRow w0.heap.size 107 3 v' (cnt + 1) ((L ++ [r, q, t]).map (Value.int .i64))) := Lib.hid (by rw [List.map_append]; exact hown')
              have HB2 : Hid (Below w0.heap.size w0 w2) := Lib.hid (Below.grown (bl_trans HB.out (by repeat (first | exact HBy.out | exact HBx.out | exact Below.refl _ _ | apply Below.drew | apply below_drewN | refine bl_alloc ?_ _))) hgrow (Below.size (bl_trans HB.out (by repeat (first | exact HBy.out | exact HBx.out | exact Below.refl _ _ | apply Below.drew | apply below_drewN | refine bl_alloc ?_ _)))) (fun k hk => (HO.out.lt k hk).1))
              clear hown' hgrow hl1 hl2
              go_wp2
              go_roundw
              case rel => exact ⟨i + 1, k, cnt + 1, f, L ++ [r, q, t], by omega, by omega, by omega, by first | rfl | go_num, by first | rfl | go_num, HJ2, HO2, HB2⟩
              case measure => simp [intOf]; omega
            · by_cases c2 : r' * q < r * q'
              · obtain ⟨f, rfl⟩ : ∃ g, f = g + 1 := ⟨f - 1, by have := HJ.out.1; omega⟩
                have HJ2 : Hid (n - (i) + (m - (k + 1)) ≤ f ∧ L ++ [r', q', t'] ++ jnF zs ys n m f ((i)) ((k + 1)) = jnL zs ys n m ∧ (L ++ [r', q', t']).length = (cnt + 1) * 3) := Lib.hid (by
                  have hh := HJ.out
                  refine ⟨by omega, ?_, by rw [List.length_append, hh.2.2]; simp; omega⟩
                  have h2 := hh.2.1
                  rw [jn_b hk (.inr (by rw [← hr, ← hqp, ← hrp, ← hq]; exact c2))] at h2
                  rw [List.append_assoc, ← h2]
                  rw [hrp, hqp, htp])
                have HV : Hid (false = Less3 r q r' q') := Lib.hid (by unfold Less3; first | (simp; done) | (simp; omega))
                have HV2 : Hid (true = Less3 r' q' r q) := Lib.hid (by unfold Less3; first | (simp; done) | (simp; exact c2))
                have hl1 : cnt + 1 ≤ maxLen := by unfold maxLen; omega
                have hl2 : (cnt + 1) * 24 ≤ 140737488355328 := by omega
                clear c1 c2 hi hk hr hq ht hrp hqp htp
                go_wp2_with fail
                go_region_held3 (fun w' => w'.cell? ⟨ba, oa + i * 3, none⟩ = some (.int .i64 r) ∧ w'.cell? ⟨ba, oa + i * 3 + 1, none⟩ = some (.int .i64 q) ∧ w'.cell? ⟨ba, oa + i * 3 + 2, none⟩ = some (.int .i64 t) ∧ w'.cell? ⟨bb, ob + k * 3, none⟩ = some (.int .i64 r') ∧ w'.cell? ⟨bb, ob + k * 3 + 1, none⟩ = some (.int .i64 q') ∧ w'.cell? ⟨bb, ob + k * 3 + 2, none⟩ = some (.int .i64 t')) (first | go_keep | exact ⟨keep_cell HBx.out ar0w, keep_cell HBx.out aq0w, keep_cell HBx.out at0w, keep_cell HBx.out br0w, keep_cell HBx.out bq0w, keep_cell HBx.out bt0w⟩) (first | (go_at_call 115; refine (l13Less_at HV.out m1 m2 m3 m4 _).mono ?_; rintro e wcHBx ⟨rfl, hbc⟩; have HBx : Hid (Below wo.heap.size wo wcHBx) := Lib.hid (bl_trans (by repeat (first | exact HBy.out | exact HBx.out | exact Below.refl _ _ | apply Below.drew | apply below_drewN | refine bl_alloc ?_ _)) hbc); clear hbc))
                go_wp2_with fail
                go_region_held3 (fun w' => w'.cell? ⟨bb, ob + k * 3, none⟩ = some (.int .i64 r') ∧ w'.cell? ⟨bb, ob + k * 3 + 1, none⟩ = some (.int .i64 q') ∧ w'.cell? ⟨bb, ob + k * 3 + 2, none⟩ = some (.int .i64 t') ∧ w'.cell? ⟨ba, oa + i * 3, none⟩ = some (.int .i64 r) ∧ w'.cell? ⟨ba, oa + i * 3 + 1, none⟩ = some (.int .i64 q) ∧ w'.cell? ⟨ba, oa + i * 3 + 2, none⟩ = some (.int .i64 t)) (first | go_keep | exact ⟨keep_cell HBy.out br0w, keep_cell HBy.out bq0w, keep_cell HBy.out bt0w, keep_cell HBy.out ar0w, keep_cell HBy.out aq0w, keep_cell HBy.out at0w⟩) (first | (go_at_call 115; refine (l13Less_at HV2.out m3 m4 m1 m2 _).mono ?_; rintro e wcHBy ⟨rfl, hbc⟩; have HBy : Hid (Below wo.heap.size wo wcHBy) := Lib.hid (bl_trans (by repeat (first | exact HBy.out | exact HBx.out | exact Below.refl _ _ | apply Below.drew | apply below_drewN | refine bl_alloc ?_ _)) hbc); clear hbc))
                go_wp2_with (at_builtin; refine wpList_append_own _ rfl _ _ _ rfl w0.heap.size 107 i0 _ 3 24 Try.underlying58 HI.out HZ0.out HZ1.out HZ2.out rfl (by decide) _ cnt (L.map (Value.int .i64)) rfl ((ownJ_below HO.out (by repeat (first | exact HBy.out | exact HBx.out | exact Below.refl _ _ | apply Below.drew | apply below_drewN | refine bl_alloc ?_ _))).alloc _) _ 1 1 [.int .i64 r', .int .i64 q', .int .i64 t'] rfl rfl (newsJ _ _ _ _ _ _ (by simp)) (onesJ _ _ _) hl1 hl2 (base_alloc2 (bl_trans HB.out (by repeat (first | exact HBy.out | exact HBx.out | exact Below.refl _ _ | apply Below.drew | apply below_drewN | refine bl_alloc ?_ _))) _) ?_; intro v' w2 hown' hgrow _)
                have HO2 : Hid (w2.ownsRow w0.heap.size 107 3 v' (cnt + 1) ((L ++ [r', q', t']).map (Value.int .i64))) := Lib.hid (by rw [List.map_append]; exact hown')
                have HB2 : Hid (Below w0.heap.size w0 w2) := Lib.hid (Below.grown (bl_trans HB.out (by repeat (first | exact HBy.out | exact HBx.out | exact Below.refl _ _ | apply Below.drew | apply below_drewN | refine bl_alloc ?_ _))) hgrow (Below.size (bl_trans HB.out (by repeat (first | exact HBy.out | exact HBx.out | exact Below.refl _ _ | apply Below.drew | apply below_drewN | refine bl_alloc ?_ _)))) (fun k hk => (HO.out.lt k hk).1))
                clear hown' hgrow hl1 hl2
                go_wp2
                go_roundw
                case rel => exact ⟨i, k + 1, cnt + 1, f, L ++ [r', q', t'], by omega, by omega, by omega, by first | rfl | go_num, by first | rfl | go_num, HJ2, HO2, HB2⟩
                case measure => simp [intOf]; omega
              · obtain ⟨f, rfl⟩ : ∃ g, f = g + 1 := ⟨f - 1, by have := HJ.out.1; omega⟩
                have HJ2 : Hid (n - (i + 1) + (m - (k + 1)) ≤ f ∧ L ++ [r, q, t + t'] ++ jnF zs ys n m f ((i + 1)) ((k + 1)) = jnL zs ys n m ∧ (L ++ [r, q, t + t']).length = (cnt + 1) * 3) := Lib.hid (by
                  have hh := HJ.out
                  refine ⟨by omega, ?_, by rw [List.length_append, hh.2.2]; simp; omega⟩
                  have h2 := hh.2.1
                  rw [jn_c hi hk (by rw [← hr, ← hqp, ← hrp, ← hq]; exact c1) (by rw [← hr, ← hqp, ← hrp, ← hq]; exact c2)] at h2
                  rw [List.append_assoc, ← h2]
                  rw [hr, hq, ht, htp])
                have HV : Hid (false = Less3 r q r' q') := Lib.hid (by unfold Less3; first | (simp; done) | (simp; omega))
                have HV2 : Hid (false = Less3 r' q' r q) := Lib.hid (by unfold Less3; first | (simp; done) | (simp; omega))
                have hl1 : cnt + 1 ≤ maxLen := by unfold maxLen; omega
                have hl2 : (cnt + 1) * 24 ≤ 140737488355328 := by omega
                clear c1 c2 hi hk hr hq ht hrp hqp htp
                go_wp2_with fail
                go_region_held3 (fun w' => w'.cell? ⟨ba, oa + i * 3, none⟩ = some (.int .i64 r) ∧ w'.cell? ⟨ba, oa + i * 3 + 1, none⟩ = some (.int .i64 q) ∧ w'.cell? ⟨ba, oa + i * 3 + 2, none⟩ = some (.int .i64 t) ∧ w'.cell? ⟨bb, ob + k * 3, none⟩ = some (.int .i64 r') ∧ w'.cell? ⟨bb, ob + k * 3 + 1, none⟩ = some (.int .i64 q') ∧ w'.cell? ⟨bb, ob + k * 3 + 2, none⟩ = some (.int .i64 t')) (first | go_keep | exact ⟨keep_cell HBx.out ar0w, keep_cell HBx.out aq0w, keep_cell HBx.out at0w, keep_cell HBx.out br0w, keep_cell HBx.out bq0w, keep_cell HBx.out bt0w⟩) (first | (go_at_call 115; refine (l13Less_at HV.out m1 m2 m3 m4 _).mono ?_; rintro e wcHBx ⟨rfl, hbc⟩; have HBx : Hid (Below wo.heap.size wo wcHBx) := Lib.hid (bl_trans (by repeat (first | exact HBy.out | exact HBx.out | exact Below.refl _ _ | apply Below.drew | apply below_drewN | refine bl_alloc ?_ _)) hbc); clear hbc))
                go_wp2_with fail
                go_region_held3 (fun w' => w'.cell? ⟨bb, ob + k * 3, none⟩ = some (.int .i64 r') ∧ w'.cell? ⟨bb, ob + k * 3 + 1, none⟩ = some (.int .i64 q') ∧ w'.cell? ⟨bb, ob + k * 3 + 2, none⟩ = some (.int .i64 t') ∧ w'.cell? ⟨ba, oa + i * 3, none⟩ = some (.int .i64 r) ∧ w'.cell? ⟨ba, oa + i * 3 + 1, none⟩ = some (.int .i64 q) ∧ w'.cell? ⟨ba, oa + i * 3 + 2, none⟩ = some (.int .i64 t)) (first | go_keep | exact ⟨keep_cell HBy.out br0w, keep_cell HBy.out bq0w, keep_cell HBy.out bt0w, keep_cell HBy.out ar0w, keep_cell HBy.out aq0w, keep_cell HBy.out at0w⟩) (first | (go_at_call 115; refine (l13Less_at HV2.out m3 m4 m1 m2 _).mono ?_; rintro e wcHBy ⟨rfl, hbc⟩; have HBy : Hid (Below wo.heap.size wo wcHBy) := Lib.hid (bl_trans (by repeat (first | exact HBy.out | exact HBx.out | exact Below.refl _ _ | apply Below.drew | apply below_drewN | refine bl_alloc ?_ _)) hbc); clear hbc))
                go_wp2_with fail
                have e1 : IntKind.i64.wrap (t + t') = t + t' := IntWalk.i64_in _ (by omega)
                go_region_held3 (fun w' => w'.cell? ⟨ba, oa + i * 3, none⟩ = some (.int .i64 r) ∧ w'.cell? ⟨ba, oa + i * 3 + 1, none⟩ = some (.int .i64 q) ∧ w'.cell? ⟨ba, oa + i * 3 + 2, none⟩ = some (.int .i64 t) ∧ w'.cell? ⟨bb, ob + k * 3, none⟩ = some (.int .i64 r') ∧ w'.cell? ⟨bb, ob + k * 3 + 1, none⟩ = some (.int .i64 q') ∧ w'.cell? ⟨bb, ob + k * 3 + 2, none⟩ = some (.int .i64 t')) (first | go_keep | exact ⟨keep_cell HBy.out ar0w, keep_cell HBy.out aq0w, keep_cell HBy.out at0w, keep_cell HBy.out br0w, keep_cell HBy.out bq0w, keep_cell HBy.out bt0w⟩ | exact ⟨keep_cell (by repeat (first | exact HG.out | apply Below.drew | apply below_drewN)) ar0, keep_cell (by repeat (first | exact HG.out | apply Below.drew | apply below_drewN)) aq0, keep_cell (by repeat (first | exact HG.out | apply Below.drew | apply below_drewN)) at0, keep_cell (by repeat (first | exact HG.out | apply Below.drew | apply below_drewN)) br0, keep_cell (by repeat (first | exact HG.out | apply Below.drew | apply below_drewN)) bq0, keep_cell (by repeat (first | exact HG.out | apply Below.drew | apply below_drewN)) bt0⟩) ((refine step_append_lies _ (by rfl) _ _ _ (by rfl) w0.heap.size 107 i0 _ 3 24 Try.underlying58 HI.out HZ0.out HZ1.out HZ2.out rfl (by omega) _ cnt (L.map (Value.int .i64)) (by rfl) (ownJ_below HO.out (by repeat (first | exact HBy.out | exact HBx.out | exact Below.refl _ _ | apply Below.drew | apply below_drewN | refine bl_alloc ?_ _))) _ 1 1 [.int .i64 r, .int .i64 q, .int .i64 (t + t')] (by rfl) (by rfl) (newsJ _ _ _ _ _ _ (by simp)) (onesJ _ _ _) (by omega) hl1 hl2 (Below.size (bl_trans HB.out (by repeat (first | exact HBy.out | exact HBx.out | exact Below.refl _ _ | apply Below.drew | apply below_drewN | refine bl_alloc ?_ _)))) _ (by rfl) ?_; intro gg cap w2 hown' hgrow hat hlt2; have HG : Hid (Below w0.heap.size w0 w2) := Lib.hid (Below.grown (bl_trans HB.out (by repeat (first | exact HBy.out | exact HBx.out | exact Below.refl _ _ | apply Below.drew | apply below_drewN | refine bl_alloc ?_ _))) hgrow (Below.size (bl_trans HB.out (by repeat (first | exact HBy.out | exact HBx.out | exact Below.refl _ _ | apply Below.drew | apply below_drewN | refine bl_alloc ?_ _)))) (fun k hk => (HO.out.lt k hk).1))))
                clear e1 hat hlt2
                have HO2 : Hid (w2.ownsRow w0.heap.size 107 3 (.slice (some ⟨gg, 0, none⟩) (cnt + 1) cap) (cnt + 1) ((L ++ [r, q, t + t']).map (Value.int .i64))) := Lib.hid (by rw [List.map_append]; exact hown')
                have HB2 : Hid (Below w0.heap.size w0 w2) := Lib.hid (Below.grown (bl_trans HB.out (by repeat (first | exact HBy.out | exact HBx.out | exact Below.refl _ _ | apply Below.drew | apply below_drewN | refine bl_alloc ?_ _))) hgrow (Below.size (bl_trans HB.out (by repeat (first | exact HBy.out | exact HBx.out | exact Below.refl _ _ | apply Below.drew | apply below_drewN | refine bl_alloc ?_ _)))) (fun k hk => (HO.out.lt k hk).1))
                clear hown' hgrow hl1 hl2
                go_wp2
                go_roundw
                case rel => exact ⟨i + 1, k + 1, cnt + 1, f, L ++ [r, q, t + t'], by omega, by omega, by omega, by first | rfl | go_num, by first | rfl | go_num, HJ2, HO2, HB2⟩
                case measure => simp [intOf]; omega
          · obtain ⟨f, rfl⟩ : ∃ g, f = g + 1 := ⟨f - 1, by have := HJ.out.1; omega⟩
            have HJ2 : Hid (n - (i + 1) + (m - (k)) ≤ f ∧ L ++ [r, q, t] ++ jnF zs ys n m f ((i + 1)) ((k)) = jnL zs ys n m ∧ (L ++ [r, q, t]).length = (cnt + 1) * 3) := Lib.hid (by
              have hh := HJ.out
              refine ⟨by omega, ?_, by rw [List.length_append, hh.2.2]; simp; omega⟩
              have h2 := hh.2.1
              rw [jn_a hi (.inl (by omega))] at h2
              rw [List.append_assoc, ← h2]
              rw [hr, hq, ht])
            have hl1 : cnt + 1 ≤ maxLen := by unfold maxLen; omega
            have hl2 : (cnt + 1) * 24 ≤ 140737488355328 := by omega
            have hkm : ((k : Int) == (m : Int)) = true := by simp; omega
            clear hi hk hr hq ht
            go_wp2_with fail
            go_quiet (fail)
            go_wp2_with (at_builtin; refine wpList_append_own _ rfl _ _ _ rfl w0.heap.size 107 i0 _ 3 24 Try.underlying58 HI.out HZ0.out HZ1.out HZ2.out rfl (by decide) _ cnt (L.map (Value.int .i64)) rfl ((ownJ_below HO.out (by repeat (first | exact HBy.out | exact HBx.out | exact Below.refl _ _ | apply Below.drew | apply below_drewN | refine bl_alloc ?_ _))).alloc _) _ 1 1 [.int .i64 r, .int .i64 q, .int .i64 t] rfl rfl (newsJ _ _ _ _ _ _ (by simp)) (onesJ _ _ _) hl1 hl2 (base_alloc2 (bl_trans HB.out (by repeat (first | exact HBy.out | exact HBx.out | exact Below.refl _ _ | apply Below.drew | apply below_drewN | refine bl_alloc ?_ _))) _) ?_; intro v' w2 hown' hgrow _)
            have HO2 : Hid (w2.ownsRow w0.heap.size 107 3 v' (cnt + 1) ((L ++ [r, q, t]).map (Value.int .i64))) := Lib.hid (by rw [List.map_append]; exact hown')
            have HB2 : Hid (Below w0.heap.size w0 w2) := Lib.hid (Below.grown (bl_trans HB.out (by repeat (first | exact HBy.out | exact HBx.out | exact Below.refl _ _ | apply Below.drew | apply below_drewN | refine bl_alloc ?_ _))) hgrow (Below.size (bl_trans HB.out (by repeat (first | exact HBy.out | exact HBx.out | exact Below.refl _ _ | apply Below.drew | apply below_drewN | refine bl_alloc ?_ _)))) (fun k hk => (HO.out.lt k hk).1))
            clear hown' hgrow hl1 hl2
            go_wp2
            go_roundw
            case rel => exact ⟨i + 1, k, cnt + 1, f, L ++ [r, q, t], by omega, by omega, by omega, by first | rfl | go_num, by first | rfl | go_num, HJ2, HO2, HB2⟩
            case measure => simp [intOf]; omega
        · by_cases hk : k < m
          · obtain ⟨bb, ob, rfl, hcb⟩ := HSb.out.atF (by omega)
            have br0 := hcb (k * 3 + 0) (fl_lt (show k < m by omega) (by omega))
            rw [Nat.add_zero] at br0
            change _ = some (Value.int .i64 (sR ys k)) at br0
            obtain ⟨r', hrp⟩ : ∃ x, x = sR ys k := ⟨_, rfl⟩
            rw [← hrp] at br0
            have br0w := keep_cell HB.out br0
            have bq0 := hcb (k * 3 + 1) (fl_lt (show k < m by omega) (by omega))
            rw [← Nat.add_assoc] at bq0
            change _ = some (Value.int .i64 (sQ ys k)) at bq0
            obtain ⟨q', hqp⟩ : ∃ x, x = sQ ys k := ⟨_, rfl⟩
            rw [← hqp] at bq0
            have bq0w := keep_cell HB.out bq0
            have bt0 := hcb (k * 3 + 2) (fl_lt (show k < m by omega) (by omega))
            rw [← Nat.add_assoc] at bt0
            change _ = some (Value.int .i64 (sT ys k)) at bt0
            obtain ⟨t', htp⟩ : ∃ x, x = sT ys k := ⟨_, rfl⟩
            rw [← htp] at bt0
            have bt0w := keep_cell HB.out bt0
            have ib1 : (0 : Int) ≤ (k : Int) := by omega
            have ib2 : (k : Int) < (m : Int) := by omega
            have hdk : decide (k < m) = true := by simp; omega
            clear hcb
            obtain ⟨f, rfl⟩ : ∃ g, f = g + 1 := ⟨f - 1, by have := HJ.out.1; omega⟩
            have HJ2 : Hid (n - (i) + (m - (k + 1)) ≤ f ∧ L ++ [r', q', t'] ++ jnF zs ys n m f ((i)) ((k + 1)) = jnL zs ys n m ∧ (L ++ [r', q', t']).length = (cnt + 1) * 3) := Lib.hid (by
              have hh := HJ.out
              refine ⟨by omega, ?_, by rw [List.length_append, hh.2.2]; simp; omega⟩
              have h2 := hh.2.1
              rw [jn_b hk (.inl (by omega))] at h2
              rw [List.append_assoc, ← h2]
              rw [hrp, hqp, htp])
            have hl1 : cnt + 1 ≤ maxLen := by unfold maxLen; omega
            have hl2 : (cnt + 1) * 24 ≤ 140737488355328 := by omega
            have hkm : ((k : Int) == (m : Int)) = false := by simp; omega
            have hin : ((i : Int) == (n : Int)) = true := by simp; omega
            have hdi : decide (i < n) = false := by simp; omega
            clear hi hk hrp hqp htp
            go_wp2_with fail
            go_quiet (fail)
            go_wp2_with fail
            go_quiet (fail)
            go_wp2_with (at_builtin; refine wpList_append_own _ rfl _ _ _ rfl w0.heap.size 107 i0 _ 3 24 Try.underlying58 HI.out HZ0.out HZ1.out HZ2.out rfl (by decide) _ cnt (L.map (Value.int .i64)) rfl ((ownJ_below HO.out (by repeat (first | exact HBy.out | exact HBx.out | exact Below.refl _ _ | apply Below.drew | apply below_drewN | refine bl_alloc ?_ _))).alloc _) _ 1 1 [.int .i64 r', .int .i64 q', .int .i64 t'] rfl rfl (newsJ _ _ _ _ _ _ (by simp)) (onesJ _ _ _) hl1 hl2 (base_alloc2 (bl_trans HB.out (by repeat (first | exact HBy.out | exact HBx.out | exact Below.refl _ _ | apply Below.drew | apply below_drewN | refine bl_alloc ?_ _))) _) ?_; intro v' w2 hown' hgrow _)
            have HO2 : Hid (w2.ownsRow w0.heap.size 107 3 v' (cnt + 1) ((L ++ [r', q', t']).map (Value.int .i64))) := Lib.hid (by rw [List.map_append]; exact hown')
            have HB2 : Hid (Below w0.heap.size w0 w2) := Lib.hid (Below.grown (bl_trans HB.out (by repeat (first | exact HBy.out | exact HBx.out | exact Below.refl _ _ | apply Below.drew | apply below_drewN | refine bl_alloc ?_ _))) hgrow (Below.size (bl_trans HB.out (by repeat (first | exact HBy.out | exact HBx.out | exact Below.refl _ _ | apply Below.drew | apply below_drewN | refine bl_alloc ?_ _)))) (fun k hk => (HO.out.lt k hk).1))
            clear hown' hgrow hl1 hl2
            go_wp2
            go_roundw
            case rel => exact ⟨i, k + 1, cnt + 1, f, L ++ [r', q', t'], by omega, by omega, by omega, by first | rfl | go_num, by first | rfl | go_num, HJ2, HO2, HB2⟩
            case measure => simp [intOf]; omega
          · have HF : Hid (L = jnL zs ys n m ∧ cnt = (jnL zs ys n m).length / 3) := Lib.hid (by
              have h := HJ.out
              have e := h.2.1
              rw [jn_end (by omega) (by omega), List.append_nil] at e
              refine ⟨e, ?_⟩
              rw [← e, h.2.2]
              omega)
            obtain ⟨A2, c2, rfl, _⟩ := own_cells HO.out
            have hdi : decide (i < n) = false := by simp; omega
            have hdk : decide (k < m) = false := by simp; omega
            go_wp2
            go_ret2
            exact ⟨A2, c2, by rw [HE.out, HF.out.2]; rfl, by rw [HE.out, ← HF.out.2, ← HF.out.1]; exact own_lo (OwnC.of_row HO.out) HB0.out.size, bl_trans HB0.out HB.out⟩

end Go.Proofs.Ythdmanngjnfamaa