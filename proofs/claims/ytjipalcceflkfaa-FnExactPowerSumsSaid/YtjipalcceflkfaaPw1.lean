
/- The walk of the reference's PowerSums. -/
import Derived.Test.YtjipalcceflkfaaCodes
import Derived.Test.YtjipalcceflkfaaPs
import Derived.Test.YtjipalcceflkfaaTrim
import Derived.Deep.QuietTactic
import Derived.BigQuiet
import Derived.IntWalk
namespace Go.Proofs.Ytjipalcceflkfaa
open Go.RowKit

/-- the code of PowerSums, and what it gives -/
def pwC (xs : List Int) (cnt : Int) : Int := if ¬ smC [xs] = 0 then smC [xs] else if ¬ (1 ≤ cnt ∧ cnt ≤ 6) then 2 else if ¬ xs.getD (xs.length - 1) 0 = 1 then 5 else 0
def pwR (xs : List Int) (cnt : Int) : List Int × Int := if pwC xs cnt = 0 then (psL xs (xs.length - 1) cnt.toNat, 0) else ([], pwC xs cnt)
theorem smC_zero {xs : List Int} (h : smC [xs] = 0) : SmOk xs := by
  unfold smC at h
  by_cases h1 : ([xs].any npo) = true
  · rw [if_pos h1] at h; omega
  · rw [if_neg h1] at h
    by_cases h2 : ([xs].any nso) = true
    · rw [if_pos h2] at h; omega
    · simpa [nso] using h2
theorem psC_bd {xs : List Int} (h : SmOk xs) (n i : Nat) : (psC xs n i).natAbs ≤ 60 := by
  unfold psC
  rcases Nat.lt_or_ge (n - i) xs.length with h1 | h1
  · have := h.2.2 (n - i) h1; omega
  · simp [List.getD, List.getElem?_eq_none h1]
theorem ps_at_bd {xs : List Int} (h : SmOk xs) (n k i : Nat) (hk : k ≤ 6) : ((psL xs n k).getD i 0).natAbs ≤ 52379047260 :=
  Nat.le_trans (sA_at _ _) (Nat.le_trans (psL_bd (psC_bd h n) k hk) (psB_le k hk))
theorem psA_bd6 {xs : List Int} (h : SmOk xs) (n k i : Nat) (hk : k ≤ 6) (hi : i ≤ k) : (psA (psC xs n) (fun j => (psL xs n k).getD (j - 1) 0) (k + 1) i).natAbs ≤ 3142742835600 := by
  have h1 := psA_bd' (psL xs n k) (psC_bd h n) i (by rw [psL_len]; exact hi)
  rw [psL_len] at h1
  have h2 := Nat.le_trans (psL_bd (psC_bd h n) k hk) (psB_le k hk)
  omega
theorem mul_bd60 {x y : Int} (hx : x.natAbs ≤ 60) (hy : y.natAbs ≤ 52379047260) : -3142742835600 ≤ x * y ∧ x * y ≤ 3142742835600 := by
  have h : (x * y).natAbs ≤ 60 * 52379047260 := by
    rw [Int.natAbs_mul]; exact Nat.mul_le_mul hx hy
  generalize x * y = z at *
  omega
/-- the next sum of powers -/
theorem psN_at (xs : List Int) (n j : Nat) : psN xs n (psL xs n j) = -(psA (psC xs n) (fun q => (psL xs n j).getD (q - 1) 0) (j + 1) (min j n) + if j + 1 ≤ n then ((j : Int) + 1) * psC xs n (j + 1) else 0) := by
  unfold psN
  rw [psL_len]

set_option maxRecDepth 100000 in
set_option maxHeartbeats 4000000 in
theorem specPowerSums_ok (A : Option Addr) (n c : Nat) (xs : List Int) (cnt : Int) (w : World) (hr : Rd .i64 w A n c xs) (hz : pwC xs cnt = 0) :
    Calls Try.prog 35 #[.slice A n c, .int .i64 cnt] w (Gives (psL xs (xs.length - 1) cnt.toNat, 0) w) := by
  obtain ⟨i0, hi, hz0, hz1, hz2⟩ := info_parts infoI64
  have HI := Lib.hid hi
  have HZ0 := Lib.hid hz0
  have HZ1 := Lib.hid hz1
  have HZ2 := Lib.hid hz2
  clear hi hz0 hz1 hz2
  obtain rfl : xs.length = n := hr.1
  have hs0 : smC [xs] = 0 := by
    apply Decidable.byContradiction; intro h; unfold pwC at hz; rw [if_pos h] at hz; exact h hz
  have hcr : 1 ≤ cnt ∧ cnt ≤ 6 := by
    apply Decidable.byContradiction; intro h; unfold pwC at hz; rw [if_neg (by simpa using hs0), if_pos h] at hz; omega
  have hl1 : xs.getD (xs.length - 1) 0 = 1 := by
    apply Decidable.byContradiction; intro h; unfold pwC at hz; rw [if_neg (by simpa using hs0), if_neg (by simpa using hcr), if_pos h] at hz; omega
  have hsm := smC_zero hs0
  have HS := Lib.hid hsm
  have HC := Lib.hid hs0.symm
  obtain ⟨C, rfl⟩ : ∃ C : Nat, cnt = C := ⟨cnt.toNat, by omega⟩
  obtain ⟨C1, C2⟩ := hcr
  obtain ⟨N, hN⟩ : ∃ N, xs.length = N + 1 := ⟨xs.length - 1, by have := hsm.2.1; omega⟩
  have HN := Lib.hid hN
  have N1 : 1 ≤ N := by have := hsm.2.1; omega
  have N2 : N ≤ 4 := by have := hsm.2.1; omega
  have hcp := hr.2.1
  have hcm := hr.2.2.1
  unfold maxLen at hcm
  have HP := Lib.hid (RdP.one (T := 22) hr)
  have HR := Lib.hid hr
  have HL1 : Hid (xs.getD N 0 = 1) := Lib.hid (by rw [← hl1, hN]; rfl)
  rw [hN] at HP HR hcp
  rw [hN]
  clear hr hz hs0 hl1 hsm hN
  have hmon : ((1 : Int) != 1) = false := rfl
  obtain ⟨b, off, rfl, hb, hcell⟩ := HR.out.2.2.2 (by omega)
  have hlast := hcell N (by omega)
  rw [HL1.out] at hlast
  have HCe := Lib.hid hcell
  clear hcell
  go_enter Try.func35, Try.ntmps35
  go_wp2_with fail
  refine ((l07Code_any HC.out _ HP.out (by omega)).mono fun _ _ h => same_below h).mono ?_
  rintro e w1 ⟨rfl, hbb⟩
  have HB1 : Hid (Below w.heap.size w w1) := Lib.hid (bl_trans (bl_alloc (Below.refl _ _) _) hbb)
  have hlast1 := keep_cell HB1.out hlast
  clear hbb hlast
  go_wp2_with (first | (go_at_call 86; refine (l01In_any _ _ _ _).mono ?_; rintro e w' ⟨rfl, rfl⟩))
  go_loopw [8, 9] (fun v kk wr => ∃ j : Nat, j ≤ C ∧ kk = .int .i64 ((j : Int) + 1) ∧ Hid (wr.ownsRow w1.heap.size 2 1 v j ((psL xs N j).map (Value.int .i64))) ∧ Hid (Below w1.heap.size w1 wr)) (fun _ kk _ => C + 1 - (intOf kk).toNat)
  case atStart => exact ⟨0, by omega, rfl, Lib.hid (own_made w1), Lib.hid (bl_alloc (Below.refl _ _) _)⟩
  case round =>
    obtain ⟨j, hj, rfl, HO, HB⟩ := hrel
    obtain ⟨wo, rfl⟩ : ∃ wo : World, wo = wr := ⟨_, rfl⟩
    have hLl := psL_len xs N j
    obtain ⟨L, hL⟩ : ∃ L, L = psL xs N j := ⟨_, rfl⟩
    obtain ⟨A', c', rfl, hrc⟩ := own_cells HO.out
    have HRo := Lib.hid (rdI_of hrc)
    have hc1 := hrc.2.1
    have hc2 := hrc.2.2.1
    unfold maxLen at hc2
    have HLe := Lib.hid hL
    clear hrc hL hLl
    by_cases hlt : j < C
    · go_wp2
      go_loopw [10, 11] (fun t ii wi => ∃ (i m : Nat), i ≤ j ∧ i ≤ N ∧ t = .int .i64 (psA (psC xs N) (fun q => (psL xs N j).getD (q - 1) 0) (j + 1) i) ∧ ii = .int .i64 ((i : Int) + 1) ∧ wi = wo.drewN m) (fun _ ii _ => N + 1 - (intOf ii).toNat)
      case atStart => exact ⟨0, 0, by omega, by omega, rfl, rfl, rfl⟩
      case round =>
        obtain ⟨i, m, hij, hiN, rfl, rfl, rfl⟩ := hrel
        have HTb := Lib.hid (psA_bd6 HS.out N j i (by omega) hij)
        have HTs : Hid (psA (psC xs N) (fun q => (psL xs N j).getD (q - 1) 0) (j + 1) (i + 1) = psA (psC xs N) (fun q => (psL xs N j).getD (q - 1) 0) (j + 1) i + psC xs N (i + 1) * (psL xs N j).getD (j + 1 - (i + 1) - 1) 0) := Lib.hid rfl
        obtain ⟨t, ht⟩ : ∃ t, t = psA (psC xs N) (fun q => (psL xs N j).getD (q - 1) 0) (j + 1) i := ⟨_, rfl⟩
        rw [← ht] at HTb HTs ⊢
        have HTe := Lib.hid ht
        have ⟨t1, t2⟩ : -3142742835600 ≤ t ∧ t ≤ 3142742835600 := by have := HTb.out; omega
        clear ht
        by_cases c1 : i < j
        · by_cases c2 : i < N
          · obtain ⟨p, hp⟩ : ∃ p, p = N - (i + 1) := ⟨_, rfl⟩
            obtain ⟨q, hq⟩ : ∃ q, q = j - (i + 1) := ⟨_, rfl⟩
            obtain ⟨bo, oo, rfl, hbo, hco⟩ := HRo.out.2.2.2 (by omega)
            have hx := HCe.out p (by omega)
            have hx1 := keep_cell HB1.out hx
            have hx2 := keep_cell HB.out hx1
            have hy := hco q (by omega)
            obtain ⟨x, hxe⟩ : ∃ x, x = xs.getD p 0 := ⟨_, rfl⟩
            obtain ⟨y, hye⟩ : ∃ y, y = (psL xs N j).getD q 0 := ⟨_, rfl⟩
            rw [← hxe] at hx2
            rw [← hye] at hy
            have hxb : x.natAbs ≤ 60 := by rw [hxe, hp]; exact psC_bd HS.out N (i + 1)
            have hyb : y.natAbs ≤ 52379047260 := by rw [hye]; exact ps_at_bd HS.out N j q (by omega)
            have ⟨m1, m2⟩ := mul_bd60 hxb hyb
            have HX : Hid (t + x * y = psA (psC xs N) (fun q => (psL xs N j).getD (q - 1) 0) (j + 1) (i + 1)) := Lib.hid (by
              rw [HTs.out, hxe, hye, hp, hq]
              unfold psC
              rw [show j + 1 - (i + 1) - 1 = j - (i + 1) by omega])
            have k1 : (N : Int) - ((i : Int) + 1) = (p : Int) := by omega
            have k2 : (j : Int) + 1 - ((i : Int) + 1) = (q : Int) + 1 := by omega
            have e1 : IntKind.i64.wrap ((N : Int) - ((i : Int) + 1)) = (p : Int) := by rw [k1]; exact IntWalk.i64_in _ (by omega)
            have e2 : IntKind.i64.wrap ((j : Int) + 1 - ((i : Int) + 1)) = (q : Int) + 1 := by rw [k2]; exact IntWalk.i64_in _ (by omega)
            have e3 : IntKind.i64.wrap ((q : Int) + 1 - 1) = (q : Int) := by rw [show (q : Int) + 1 - 1 = q by omega]; exact IntWalk.i64_in _ (by omega)
            have e4 : IntKind.i64.wrap (x * y) = x * y := IntWalk.i64_in _ (by omega)
            have e5 : IntKind.i64.wrap (t + x * y) = t + x * y := IntWalk.i64_in _ (by omega)
            have hm2 : i + 1 ≤ j := by omega
            have hm3 : i + 1 ≤ N := by omega
            have p1 : (p : Int) < (N : Int) + 1 := by omega
            have q1 : (q : Int) < (j : Int) := by omega
            clear hx hx1 hco hxe hye hp hq hxb hyb k1 k2
            go_wp2_with fail
            go_quiet (fail)
            go_wp2
            clear e1 e2 e3 e4 e5
            go_roundw
            case rel => exact ⟨i + 1, _, hm2, hm3, by rw [← HX.out], by go_num, rfl⟩
            case measure => simp [intOf]; omega
          · obtain rfl : i = N := by omega
            have hm3 : i < j := c1
            have hnd : decide (i < j) = true := by simpa using c1
            clear c2
            have HY : Hid (-t = psN xs i (psL xs i j)) := Lib.hid (by
              rw [psN_at, if_neg (by omega), show min j i = i by omega, ← HTe.out, Int.add_zero])
            have HOm : Hid ((wo.drewN m).ownsRow w1.heap.size 2 1 (.slice A' j c') j ((psL xs i j).map (Value.int .i64))) := HO
            have HBm : Hid (Below w1.heap.size w1 (wo.drewN m)) := Lib.hid (below_drewN HB.out m)
            have hl1 : j + 1 ≤ maxLen := by unfold maxLen; omega
            have hl2 : (j + 1) * 8 ≤ 140737488355328 := by omega
            go_wp2_with (at_builtin; refine wpList_append_own _ rfl _ _ _ rfl w1.heap.size 2 i0 (.int .i64 0) 1 8 Try.underlying22 HI.out HZ0.out HZ1.out HZ2.out rfl (by decide) _ j ((psL xs i j).map (Value.int .i64)) rfl (HOm.out.alloc _) ⟨wo.heap.size, 0, none⟩ 1 1 [.int .i64 (-t)] rfl rfl (cell_one_new _ _ _) (ints_one [-t]) hl1 hl2 (base_alloc2 HBm.out _) ?_; intro v' w2 hown' hgrow _)
            have HO2 : Hid (w2.ownsRow w1.heap.size 2 1 v' (j + 1) ((psL xs i (j + 1)).map (Value.int .i64))) := Lib.hid (by rw [psL_succ, ← HY.out, List.map_append]; exact hown')
            have HB2 : Hid (Below w1.heap.size w1 w2) := Lib.hid (Below.grown (bl_alloc HBm.out _) hgrow (base_alloc2 HBm.out _) (fun k hk => (HOm.out.lt k hk).1))
            clear hown' hgrow hl1 hl2
            go_wp2
            go_roundw
            case rel => exact ⟨j + 1, by omega, by go_num, HO2, HB2⟩
            case measure => simp [intOf]; omega
        · obtain rfl : i = j := by omega
          by_cases c2 : i < N
          · obtain ⟨p, hp⟩ : ∃ p, p = N - (i + 1) := ⟨_, rfl⟩
            have hx := HCe.out p (by omega)
            have hx1 := keep_cell HB1.out hx
            have hx2 := keep_cell HB.out hx1
            obtain ⟨x, hxe⟩ : ∃ x, x = xs.getD p 0 := ⟨_, rfl⟩
            rw [← hxe] at hx2
            have hxb : x.natAbs ≤ 60 := by rw [hxe, hp]; exact psC_bd HS.out N (i + 1)
            have HY : Hid (-(t + ((i : Int) + 1) * x) = psN xs N (psL xs N i)) := Lib.hid (by
              rw [psN_at, if_pos (by omega), show min i N = i by omega, ← HTe.out, hxe, hp]; rfl)
            have ⟨m1, m2⟩ : -360 ≤ ((i : Int) + 1) * x ∧ ((i : Int) + 1) * x ≤ 360 := by
              have h : (((i : Int) + 1) * x).natAbs ≤ 6 * 60 := by
                rw [Int.natAbs_mul]; exact Nat.mul_le_mul (by omega) hxb
              generalize ((i : Int) + 1) * x = z at *
              omega
            have k1 : (N : Int) - ((i : Int) + 1) = (p : Int) := by omega
            have p1 : (p : Int) < (N : Int) + 1 := by omega
            clear hx hx1 hxe hp hxb
            have HOm : Hid ((wo.drewN m).ownsRow w1.heap.size 2 1 (.slice A' i c') i ((psL xs N i).map (Value.int .i64))) := HO
            have HBm : Hid (Below w1.heap.size w1 (wo.drewN m)) := Lib.hid (below_drewN HB.out m)
            have hl1 : i + 1 ≤ maxLen := by unfold maxLen; omega
            have hl2 : (i + 1) * 8 ≤ 140737488355328 := by omega
            go_wp2_with (at_builtin; refine wpList_append_own _ rfl _ _ _ rfl w1.heap.size 2 i0 (.int .i64 0) 1 8 Try.underlying22 HI.out HZ0.out HZ1.out HZ2.out rfl (by decide) _ i ((psL xs N i).map (Value.int .i64)) rfl (HOm.out.alloc _) ⟨wo.heap.size, 0, none⟩ 1 1 [.int .i64 (-(t + ((i : Int) + 1) * x))] rfl rfl (cell_one_new _ _ _) (ints_one [-(t + ((i : Int) + 1) * x)]) hl1 hl2 (base_alloc2 HBm.out _) ?_; intro v' w2 hown' hgrow _)
            have HO2 : Hid (w2.ownsRow w1.heap.size 2 1 v' (i + 1) ((psL xs N (i + 1)).map (Value.int .i64))) := Lib.hid (by rw [psL_succ, ← HY.out, List.map_append]; exact hown')
            have HB2 : Hid (Below w1.heap.size w1 w2) := Lib.hid (Below.grown (bl_alloc HBm.out _) hgrow (base_alloc2 HBm.out _) (fun k hk => (HOm.out.lt k hk).1))
            clear hown' hgrow hl1 hl2
            go_wp2
            go_roundw
            case rel => exact ⟨i + 1, by omega, by go_num, HO2, HB2⟩
            case measure => simp [intOf]; omega
          · have HY : Hid (-t = psN xs N (psL xs N i)) := Lib.hid (by
              rw [psN_at, if_neg (by omega), show min i N = i by omega, ← HTe.out, Int.add_zero])
            have HOm : Hid ((wo.drewN m).ownsRow w1.heap.size 2 1 (.slice A' i c') i ((psL xs N i).map (Value.int .i64))) := HO
            have HBm : Hid (Below w1.heap.size w1 (wo.drewN m)) := Lib.hid (below_drewN HB.out m)
            have hl1 : i + 1 ≤ maxLen := by unfold maxLen; omega
            have hl2 : (i + 1) * 8 ≤ 140737488355328 := by omega
            go_wp2_with (at_builtin; refine wpList_append_own _ rfl _ _ _ rfl w1.heap.size 2 i0 (.int .i64 0) 1 8 Try.underlying22 HI.out HZ0.out HZ1.out HZ2.out rfl (by decide) _ i ((psL xs N i).map (Value.int .i64)) rfl (HOm.out.alloc _) ⟨wo.heap.size, 0, none⟩ 1 1 [.int .i64 (-t)] rfl rfl (cell_one_new _ _ _) (ints_one [-t]) hl1 hl2 (base_alloc2 HBm.out _) ?_; intro v' w2 hown' hgrow _)
            have HO2 : Hid (w2.ownsRow w1.heap.size 2 1 v' (i + 1) ((psL xs N (i + 1)).map (Value.int .i64))) := Lib.hid (by rw [psL_succ, ← HY.out, List.map_append]; exact hown')
            have HB2 : Hid (Below w1.heap.size w1 w2) := Lib.hid (Below.grown (bl_alloc HBm.out _) hgrow (base_alloc2 HBm.out _) (fun k hk => (HOm.out.lt k hk).1))
            clear hown' hgrow hl1 hl2
            go_wp2
            go_roundw
            case rel => exact ⟨i + 1, by omega, by go_num, HO2, HB2⟩
            case measure => simp [intOf]; omega
    · have hjC : j = C := by omega
      subst hjC
      have HOu : Hid (OwnI wo w1.heap.size A' j c' (psL xs N j)) := Lib.hid (by
        have h := HO.out
        exact OwnI.of_row h)
      go_wp2
      go_loop [12] (fun ii => ∃ i : Nat, i ≤ j ∧ ii = .int .i64 i) (fun ii => j - (intOf ii).toNat)
      case atStart => exact ⟨0, by omega, rfl⟩
      case round =>
        obtain ⟨i, hij, rfl⟩ := hrel
        by_cases hi : i < j
        · obtain ⟨bo, oo, rfl, hbo, hco⟩ := HRo.out.2.2.2 (by omega)
          have hy := hco i hi
          obtain ⟨y, hye⟩ : ∃ y, y = (psL xs N j).getD i 0 := ⟨_, rfl⟩
          rw [← hye] at hy
          have hyb : y.natAbs ≤ 52379047260 := by rw [hye]; exact ps_at_bd HS.out N j i (by omega)
          have y1 : -1000000000000 ≤ y := by omega
          have y2 : y ≤ 1000000000000 := by omega
          clear hye hyb hco
          go_wp2_with (go_at_call 87; refine (l01Is_any _ _).mono ?_; rintro e w' ⟨rfl, rfl⟩)
          go_round
          case rel => exact ⟨i + 1, by omega, by go_num⟩
          case measure => simp [intOf]; omega
        · go_wp2
          go_ret2
          refine ⟨A', c', by rw [psL_len]; rfl, ?_, bl_trans HB1.out HB.out⟩
          rw [psL_len]
          exact own_lo HOu.out HB1.out.size

set_option maxRecDepth 100000 in
set_option maxHeartbeats 1600000 in
theorem specPowerSums_e1 (A : Option Addr) (n c : Nat) (xs : List Int) (cnt : Int) (w : World) (hr : Rd .i64 w A n c xs) {k : Int} (hk : k = smC [xs]) (hz : ¬ k = 0) :
    Calls Try.prog 35 #[.slice A n c, .int .i64 cnt] w (Gives ([], k) w) := by
  obtain rfl : xs.length = n := hr.1
  have HP := Lib.hid (RdP.one (T := 22) hr)
  have hcp := hr.2.1
  have hcm := hr.2.2.1
  unfold maxLen at hcm
  have HC := Lib.hid hk
  have hk1 : (k == 0) = false := by simpa using hz
  have hk2 : (k != 0) = true := by simpa using hz
  clear hk hr
  go_enter Try.func35, Try.ntmps35
  go_wp2_with fail
  refine ((l07Code_any HC.out _ HP.out (by omega)).mono fun _ _ h => same_below h).mono ?_
  rintro e w1 ⟨rfl, hbb⟩
  have HB1 : Hid (Below w.heap.size w w1) := Lib.hid (bl_trans (bl_alloc (Below.refl _ _) _) hbb)
  clear hbb
  go_wp2_with (first | (go_at_call 86; refine (l01In_any _ _ _ _).mono ?_; rintro e w' ⟨rfl, rfl⟩))
  go_ret2
  exact ⟨none, 0, rfl, OwnI.nil _ _, HB1.out⟩

set_option maxRecDepth 100000 in
set_option maxHeartbeats 1600000 in
theorem specPowerSums_e2 (A : Option Addr) (n c : Nat) (xs : List Int) (cnt : Int) (w : World) (hr : Rd .i64 w A n c xs) (hk : 0 = smC [xs]) (hz : ¬ (1 ≤ cnt ∧ cnt ≤ 6)) :
    Calls Try.prog 35 #[.slice A n c, .int .i64 cnt] w (Gives ([], 2) w) := by
  obtain rfl : xs.length = n := hr.1
  have HP := Lib.hid (RdP.one (T := 22) hr)
  have hcp := hr.2.1
  have hcm := hr.2.2.1
  unfold maxLen at hcm
  have HC := Lib.hid hk
  have hd : (decide (1 ≤ cnt) && decide (cnt ≤ 6)) = false := by simp only [Bool.and_eq_false_iff, decide_eq_false_iff_not]; omega
  clear hk hr hz
  go_enter Try.func35, Try.ntmps35
  go_wp2_with fail
  refine ((l07Code_any HC.out _ HP.out (by omega)).mono fun _ _ h => same_below h).mono ?_
  rintro e w1 ⟨rfl, hbb⟩
  have HB1 : Hid (Below w.heap.size w w1) := Lib.hid (bl_trans (bl_alloc (Below.refl _ _) _) hbb)
  clear hbb
  go_wp2_with (first | (go_at_call 86; refine (l01In_any _ _ _ _).mono ?_; rintro e w' ⟨rfl, rfl⟩))
  go_ret2
  exact ⟨none, 0, rfl, OwnI.nil _ _, HB1.out⟩

set_option maxRecDepth 100000 in
set_option maxHeartbeats 1600000 in
theorem specPowerSums_e5 (A : Option Addr) (n c : Nat) (xs : List Int) (cnt : Int) (w : World) (hr : Rd .i64 w A n c xs) (hk : 0 = smC [xs]) (hz : 1 ≤ cnt ∧ cnt ≤ 6) (hl : ¬ xs.getD (xs.length - 1) 0 = 1) :
    Calls Try.prog 35 #[.slice A n c, .int .i64 cnt] w (Gives ([], 5) w) := by
  obtain rfl : xs.length = n := hr.1
  have HP := Lib.hid (RdP.one (T := 22) hr)
  have hcp := hr.2.1
  have hcm := hr.2.2.1
  unfold maxLen at hcm
  have HC := Lib.hid hk
  have hsm := smC_zero hk.symm
  have ⟨C1, C2⟩ := hz
  obtain ⟨N, hN⟩ : ∃ N, xs.length = N + 1 := ⟨xs.length - 1, by have := hsm.2.1; omega⟩
  have N2 : N ≤ 4 := by have := hsm.2.1; omega
  rw [hN] at HP hr hcp hl
  rw [hN]
  obtain ⟨b, off, rfl, hb, hcell⟩ := hr.2.2.2 (by omega)
  have hlast := hcell N (by omega)
  obtain ⟨y, hy⟩ : ∃ y, y = xs.getD N 0 := ⟨_, rfl⟩
  rw [← hy] at hlast
  have hy1 : (y != 1) = true := by simp; rw [hy]; exact hl
  clear hk hr hz hsm hN hcell hy hl
  go_enter Try.func35, Try.ntmps35
  go_wp2_with fail
  refine ((l07Code_any HC.out _ HP.out (by omega)).mono fun _ _ h => same_below h).mono ?_
  rintro e w1 ⟨rfl, hbb⟩
  have HB1 : Hid (Below w.heap.size w w1) := Lib.hid (bl_trans (bl_alloc (Below.refl _ _) _) hbb)
  have hlast1 := keep_cell HB1.out hlast
  clear hbb
  go_wp2_with (first | (go_at_call 86; refine (l01In_any _ _ _ _).mono ?_; rintro e w' ⟨rfl, rfl⟩))
  go_ret2
  exact ⟨none, 0, rfl, OwnI.nil _ _, HB1.out⟩

theorem specPowerSums_any (A : Option Addr) (n c : Nat) (xs : List Int) (cnt : Int) (w : World) (hr : Rd .i64 w A n c xs) :
    Calls Try.prog 35 #[.slice A n c, .int .i64 cnt] w (Gives (pwR xs cnt) w) := by
  unfold pwR
  by_cases h : pwC xs cnt = 0
  · rw [if_pos h]
    exact specPowerSums_ok A n c xs cnt w hr h
  · rw [if_neg h]
    unfold pwC at h ⊢
    by_cases h1 : smC [xs] = 0
    · rw [if_neg (by simpa using h1)] at h ⊢
      by_cases h2 : 1 ≤ cnt ∧ cnt ≤ 6
      · rw [if_neg (by simpa using h2)] at h ⊢
        by_cases h3 : xs.getD (xs.length - 1) 0 = 1
        · rw [if_neg (by simpa using h3)] at h; exact absurd rfl h
        · rw [if_pos h3]
          exact specPowerSums_e5 A n c xs cnt w hr h1.symm h2 h3
      · rw [if_pos h2]
        exact specPowerSums_e2 A n c xs cnt w hr h1.symm h2
    · rw [if_pos h1]
      exact specPowerSums_e1 A n c xs cnt w hr rfl h1
end Go.Proofs.Ytjipalcceflkfaa
