
/- The walk of the program's PowerSums. -/
import Derived.Test.YtjipalcceflkfaaPw1
import Derived.Test.YtjipalcceflkfaaOx
namespace Go.Proofs.Ytjipalcceflkfaa
open Go.RowKit

def nvl (x : Int) : Bool := !(decide (-1000000000000 ≤ x) && decide (x ≤ 1000000000000))
theorem nvl_any (x : Int) (w : World) :
    Calls Try.prog 93 #[.int .i64 x] w fun e w' => e = .returned (.bool (nvl x)) ∧ w = w' := by
  unfold nvl
  by_cases h : -1000000000000 ≤ x <;> by_cases h2 : x ≤ 1000000000000
  all_goals
    go_enter Try.func93, Try.ntmps93
    go_wp2_with (go_at_call 94; refine (isValue_any _ _).mono ?_; rintro e w' ⟨rfl, rfl⟩)
    go_ret
    exact ⟨by simp [h, h2], rfl⟩

set_option maxHeartbeats 400000 in
theorem nvl_index (A : Option Addr) (n c : Nat) (xs : List Int) (w : World) (hr : Rd .i64 w A n c xs) :
    Calls Try.prog 127 #[.slice A n c, .func (.func 93) #[] #[]] w fun e w' => (∃ j : Int, e = .returned (.int .i64 j) ∧ decide (0 ≤ j) = xs.any nvl) ∧ w = w' := by
  obtain ⟨hl, hc, hm, hr⟩ := hr
  unfold maxLen at hm
  have HL := Lib.hid hl
  clear hl
  rcases Nat.eq_zero_or_pos n with h0 | h0
  · subst h0
    clear hr
    go_enter Try.func127, Try.ntmps127
    go_wp2
    refine wp_loop_rounds 1 ?_
    rw [rounds_succ]
    go_wp2
    go_ret
    exact ⟨⟨-1, rfl, by rw [List.eq_nil_of_length_eq_zero HL.out]; rfl⟩, rfl⟩
  obtain ⟨b, off, rfl, hb, hcell⟩ := hr h0
  clear hr
  have HC := Lib.hid hcell
  clear hcell
  go_enter Try.func127, Try.ntmps127
  go_wp2
  go_loop [5, 8] (fun _ j => ∃ k : Nat, k ≤ n ∧ j = .int .i64 k ∧ Hid (∀ i, i < k → nvl (xs.getD i 0) = false)) (fun _ j => n - (intOf j).toNat)
  case atStart => exact ⟨0, Nat.zero_le _, rfl, Lib.hid (fun i hi => absurd hi (Nat.not_lt_zero _))⟩
  case round =>
    obtain ⟨k, hk, rfl, HN⟩ := hrel
    by_cases hlt : k < n
    · have hx := HC.out k hlt
      obtain ⟨x, hxe⟩ : ∃ x, x = xs.getD k 0 := ⟨_, rfl⟩
      rw [← hxe] at hx
      have HX := Lib.hid hxe
      clear hxe
      by_cases hp : nvl x = true
      · have HA : Hid (xs.any nvl = true) := Lib.hid (any_at (k := k) (by have := HL.out; omega) (by rw [← HX.out]; exact hp))
        go_wp2_with (go_at_call 93; refine (nvl_any _ _).mono ?_; rintro e w' ⟨rfl, rfl⟩; rw [hp])
        go_ret
        exact ⟨⟨k, rfl, by rw [HA.out]; simp⟩, rfl⟩
      · have hp2 : nvl x = false := by simpa using hp
        clear hp
        have HN2 : Hid (∀ i, i < k + 1 → nvl (xs.getD i 0) = false) := Lib.hid (fun i hi => by
          by_cases e : i = k
          · subst e; rw [← HX.out]; exact hp2
          · exact HN.out i (by omega))
        go_wp2_with (go_at_call 93; refine (nvl_any _ _).mono ?_; rintro e w' ⟨rfl, rfl⟩; rw [hp2])
        go_round
        case rel => exact ⟨k + 1, by omega, by go_num, HN2⟩
        case measure => simp [intOf]; omega
    · have HA : Hid (xs.any nvl = false) := Lib.hid (any_none (fun i hi => HN.out i (by have := HL.out; omega)))
      go_wp2
      go_ret
      exact ⟨⟨-1, rfl, by rw [HA.out]; rfl⟩, rfl⟩

theorem nvl_has (A : Option Addr) (n c : Nat) (xs : List Int) (w : World) (hr : Rd .i64 w A n c xs) :
    Calls Try.prog 92 #[.slice A n c, .func (.func 93) #[] #[]] w fun e w' => e = .returned (.bool (xs.any nvl)) ∧ w = w' := by
  have HR := Lib.hid hr
  clear hr
  go_enter Try.func92, Try.ntmps92
  go_wp2_with (go_at_call 127; refine (nvl_index _ _ _ _ _ HR.out).mono ?_; rintro e w' ⟨⟨j, rfl, HJ⟩, rfl⟩; have HJ2 := Lib.hid HJ; clear HJ)
  go_ret
  exact ⟨ret_bool HJ2.out, rfl⟩

theorem isMonic_yes (b off N c : Nat) (w : World) (hN : N ≤ 1000) (h : w.cell? ⟨b, off + N, none⟩ = some (.int .i64 1)) :
    Calls Try.prog 90 #[.slice (some ⟨b, off, none⟩) (N + 1) c] w fun e w' => e = .returned (.bool true) ∧ w = w' := by
  go_enter Try.func90, Try.ntmps90
  go_wp2
  go_ret
  exact ⟨rfl, rfl⟩
theorem isMonic_no (b off N c : Nat) (y : Int) (w : World) (hN : N ≤ 1000) (h : w.cell? ⟨b, off + N, none⟩ = some (.int .i64 y)) (hy : (y == 1) = false) :
    Calls Try.prog 90 #[.slice (some ⟨b, off, none⟩) (N + 1) c] w fun e w' => e = .returned (.bool false) ∧ w = w' := by
  go_enter Try.func90, Try.ntmps90
  go_wp2
  go_ret
  exact ⟨rfl, rfl⟩
/-- the list that the program makes: the degree, then the sums -/
def psM (xs : List Int) (n k : Nat) : List Int := (n : Int) :: psL xs n k
theorem psM_len (xs : List Int) (n k : Nat) : (psM xs n k).length = k + 1 := by unfold psM; rw [List.length_cons, psL_len]
theorem psM_succ (xs : List Int) (n k : Nat) : psM xs n (k + 1) = psM xs n k ++ [psN xs n (psL xs n k)] := rfl
/-- the sum under way: i terms done -/
def psI (xs : List Int) (n j i : Nat) : Int := -(psA (psC xs n) (fun q => (psL xs n j).getD (q - 1) 0) (j + 1) (min i j) + if j < i then ((j : Int) + 1) * psC xs n (j + 1) else 0)
theorem psI_step {xs : List Int} {n j i : Nat} (h : i < j) : psI xs n j (i + 1) = psI xs n j i - psC xs n (i + 1) * (psM xs n j).getD (j - i) 0 := by
  unfold psI
  rw [if_neg (by omega), if_neg (by omega), show min (i + 1) j = i + 1 by omega, show min i j = i by omega]
  show -(psA _ _ (j + 1) i + psC xs n (i + 1) * (psL xs n j).getD (j + 1 - (i + 1) - 1) 0 + 0) = _
  obtain ⟨q, hq⟩ : ∃ q, j - i = q + 1 := ⟨j - i - 1, by omega⟩
  rw [hq, show j + 1 - (i + 1) - 1 = q by omega]
  unfold psM
  rw [List.getD_cons_succ]
  omega
theorem psI_last {xs : List Int} {n j : Nat} : psI xs n j (j + 1) = psI xs n j j - ((j : Int) + 1) * psC xs n (j + 1) := by
  unfold psI
  rw [if_pos (by omega), if_neg (by omega), show min (j + 1) j = j by omega, show min j j = j by omega]
  omega
theorem psI_zero {xs : List Int} {n j : Nat} : psI xs n j 0 = 0 := by
  unfold psI
  rw [if_neg (by omega), show min 0 j = 0 by omega]
  rfl
theorem psI_done {xs : List Int} {n j : Nat} : psI xs n j (min (j + 1) n) = psN xs n (psL xs n j) := by
  rw [psN_at]
  unfold psI
  by_cases h : j + 1 ≤ n
  · rw [show min (j + 1) n = j + 1 by omega, if_pos (by omega), if_pos h, show min (j + 1) j = min j n by omega]
  · rw [show min (j + 1) n = n by omega, if_neg (by omega), if_neg h, show min n j = min j n by omega]
theorem psI_bd {xs : List Int} (h : SmOk xs) (n j i : Nat) (hj : j ≤ 5) : -3200000000000 ≤ psI xs n j i ∧ psI xs n j i ≤ 3200000000000 := by
  have h1 := psA_bd6 h n j (min i j) (by omega) (by omega)
  have h2 : (((j : Int) + 1) * psC xs n (j + 1)).natAbs ≤ 6 * 60 := by
    rw [Int.natAbs_mul]; exact Nat.mul_le_mul (by omega) (psC_bd h n _)
  unfold psI
  generalize ((j : Int) + 1) * psC xs n (j + 1) = z at *
  split <;> omega
theorem psM_bd {xs : List Int} (h : SmOk xs) (n k i : Nat) (hk : k ≤ 6) (hn : n ≤ 4) : ((psM xs n k).getD i 0).natAbs ≤ 52379047260 := by
  unfold psM
  cases i with
  | zero => simp; omega
  | succ i => rw [List.getD_cons_succ]; exact ps_at_bd h n k i hk
theorem newN (w : World) (N : Nat) : ∀ j u, [Value.int .i64 (N : Int)][j]? = some u → (w.alloc (.cells #[.int .i64 (N : Int)] 2)).cell? ((⟨w.heap.size, 0, none⟩ : Addr).add j) = some u := by
  intro j u hj
  match j, hj with
  | 0, hj => simp at hj; subst hj; simp [Addr.add]
theorem own_oneN (w : World) (x : Int) : (w.alloc (.cells #[.int .i64 x] 2)).ownsRow w.heap.size 2 1 (.slice (some ⟨w.heap.size, 0, none⟩) 1 1) 1 [.int .i64 x] :=
  ⟨rfl, .inr ⟨w.heap.size, 1, #[.int .i64 x], rfl, Nat.le_refl _, heap_alloc_new w _, Nat.le_refl _, by unfold maxLen; omega, rfl, rfl⟩⟩

set_option maxRecDepth 100000 in
set_option maxHeartbeats 4000000 in
theorem powerSums_any (b off N c C : Nat) (xs : List Int) (w : World) (hr : Rd .i64 w (some ⟨b, off, none⟩) (N + 1) c xs) (hs : SmOk xs) (hN1 : 1 ≤ N) (hN2 : N ≤ 4) (hC2 : C ≤ 6) :
    Calls Try.prog 91 #[.slice (some ⟨b, off, none⟩) (N + 1) c, .int .i64 C] w fun e w' => ∃ A c', e = .returned (.slice A (C + 1) c') ∧ OwnI w' w.heap.size A (C + 1) c' (psM xs N C) ∧ Below w.heap.size w w' := by
  obtain ⟨i0, hi, hz0, hz1, hz2⟩ := info_parts infoI64
  have HI := Lib.hid hi
  have HZ0 := Lib.hid hz0
  have HZ1 := Lib.hid hz1
  have HZ2 := Lib.hid hz2
  clear hi hz0 hz1 hz2
  have HR := Lib.hid hr
  have HS := Lib.hid hs
  have hcp := hr.2.1
  have hcm := hr.2.2.1
  unfold maxLen at hcm
  clear hr hs
  obtain ⟨b', off', e, hb, hcell⟩ := HR.out.2.2.2 (by omega)
  simp at e
  obtain ⟨rfl, rfl⟩ := e
  have HCe := Lib.hid hcell
  clear hcell
  go_enter Try.func91, Try.ntmps91
  go_wp2_with fail
  refine (degree_any _ _ _ (by omega) _).mono ?_
  rintro e w' ⟨rfl, rfl⟩
  have ed : ((N + 1 : Nat) : Int) - 1 = (N : Int) := by omega
  rw [ed]
  clear ed
  go_wp2
  go_loopw [6, 7] (fun v kk wr => ∃ j : Nat, j ≤ C ∧ kk = .int .i64 ((j : Int) + 1) ∧ Hid (wr.ownsRow w.heap.size 2 1 v (j + 1) ((psM xs N j).map (Value.int .i64))) ∧ Hid (Below w.heap.size w wr)) (fun _ kk _ => C + 1 - (intOf kk).toNat)
  case atStart => exact ⟨0, by omega, rfl, Lib.hid (own_oneN w N), Lib.hid (bl_alloc (Below.refl _ _) _)⟩
  case round =>
    obtain ⟨j, hj, rfl, HO, HB⟩ := hrel
    obtain ⟨wo, rfl⟩ : ∃ wo : World, wo = wr := ⟨_, rfl⟩
    obtain ⟨A', c', rfl, hrc⟩ := own_cells HO.out
    have HRo := Lib.hid (rdI_of hrc)
    have hc1 := hrc.2.1
    have hc2 := hrc.2.2.1
    unfold maxLen at hc2
    clear hrc
    by_cases hlt : j < C
    · have hjC : decide ((j : Int) + 1 ≤ (C : Int)) = true := by simp; omega
      go_wp2
      go_loopw [8, 9] (fun t ii wi => ∃ (i m : Nat), i ≤ j + 1 ∧ i ≤ N ∧ t = .int .i64 (psI xs N j i) ∧ ii = .int .i64 ((i : Int) + 1) ∧ wi = wo.drewN m) (fun _ ii _ => N + 1 - (intOf ii).toNat)
      case atStart => exact ⟨0, 0, by omega, by omega, by rw [psI_zero], rfl, rfl⟩
      case round =>
        obtain ⟨i, m, hij, hiN, rfl, rfl, rfl⟩ := hrel
        have ⟨t1, t2⟩ := psI_bd HS.out N j i (by omega)
        have ⟨t3, t4⟩ := psI_bd HS.out N j (i + 1) (by omega)
        obtain ⟨t, ht⟩ : ∃ t, t = psI xs N j i := ⟨_, rfl⟩
        obtain ⟨t', ht'⟩ : ∃ t', t' = psI xs N j (i + 1) := ⟨_, rfl⟩
        rw [← ht] at t1 t2 ⊢
        rw [← ht'] at t3 t4
        have HTe := Lib.hid ht
        have HTe' := Lib.hid ht'
        clear ht ht'
        have hmin : ((j : Int) + 1 ≤ (N : Int)) ∨ ((N : Int) < (j : Int) + 1) := by omega
        by_cases c2 : i < N
        · by_cases c1 : i < j + 1
          · obtain ⟨p, hp⟩ : ∃ p, p = N - (i + 1) := ⟨_, rfl⟩
            have hx := HCe.out p (by omega)
            have hx2 := keep_cell HB.out hx
            obtain ⟨x, hxe⟩ : ∃ x, x = xs.getD p 0 := ⟨_, rfl⟩
            rw [← hxe] at hx2
            have HPC : Hid (psC xs N (i + 1) = x) := Lib.hid (by rw [hxe, hp]; rfl)
            have hxb : x.natAbs ≤ 60 := by rw [← HPC.out]; exact psC_bd HS.out N (i + 1)
            have k1 : (N : Int) - ((i : Int) + 1) = (p : Int) := by omega
            have p1 : (p : Int) < (N : Int) + 1 := by omega
            have hm3 : i + 1 ≤ N := by omega
            by_cases c3 : i = j
            · subst c3
              have HX : Hid (t - ((i : Int) + 1) * x = t') := Lib.hid (by rw [HTe.out, HTe'.out, psI_last, HPC.out])
              have ⟨m1, m2⟩ : -360 ≤ ((i : Int) + 1) * x ∧ ((i : Int) + 1) * x ≤ 360 := by
                have h : (((i : Int) + 1) * x).natAbs ≤ 6 * 60 := by
                  rw [Int.natAbs_mul]; exact Nat.mul_le_mul (by omega) hxb
                generalize ((i : Int) + 1) * x = z at *
                omega
              have hmn : decide ((i : Int) + 1 ≤ (N : Int)) = true := by simp; omega
              clear hx hxe hp hxb hmin
              go_wp2
              go_roundw
              case rel => exact ⟨i + 1, _, by omega, hm3, by rw [← HTe'.out, HX.out], by go_num, rfl⟩
              case measure => simp [intOf]; omega
            · obtain ⟨q, hq⟩ : ∃ q, q = j - i := ⟨_, rfl⟩
              obtain ⟨bo, oo, rfl, hbo, hco⟩ := HRo.out.2.2.2 (by omega)
              have hy := hco q (by omega)
              obtain ⟨y, hye⟩ : ∃ y, y = (psM xs N j).getD q 0 := ⟨_, rfl⟩
              rw [← hye] at hy
              have hyb : y.natAbs ≤ 52379047260 := by rw [hye]; exact psM_bd HS.out N j q (by omega) (by omega)
              have ⟨m1, m2⟩ := mul_bd60 hxb hyb
              have HX : Hid (t - x * y = t') := Lib.hid (by rw [HTe.out, HTe'.out, psI_step (by omega), HPC.out, hye, hq])
              have k2 : (j : Int) + 1 - ((i : Int) + 1) = (q : Int) := by omega
              have e1 : IntKind.i64.wrap ((N : Int) - ((i : Int) + 1)) = (p : Int) := by rw [k1]; exact IntWalk.i64_in _ (by omega)
              have e2 : IntKind.i64.wrap ((j : Int) + 1 - ((i : Int) + 1)) = (q : Int) := by rw [k2]; exact IntWalk.i64_in _ (by omega)
              have e4 : IntKind.i64.wrap (x * y) = x * y := IntWalk.i64_in _ (by omega)
              have e5 : IntKind.i64.wrap (t - x * y) = t - x * y := IntWalk.i64_in _ (by omega)
              have q1 : (q : Int) < (j : Int) + 1 := by omega
              have hne : ((i : Int) + 1 == (j : Int) + 1) = false := by simp; omega
              have hm2 : i + 1 ≤ j + 1 := by omega
              clear hx hco hxe hye hp hq hxb hyb k1 k2
              go_wp2_with fail
              all_goals
                first
                | omega
                | (go_quiet (fail)
                   go_wp2
                   clear e1 e2 e4 e5
                   go_roundw
                   case rel => exact ⟨i + 1, _, hm2, hm3, by rw [← HTe'.out, HX.out], by go_num, rfl⟩
                   case measure => simp [intOf]; omega)
          · obtain rfl : i = j + 1 := by omega
            have HY : Hid (t = psN xs N (psL xs N j)) := Lib.hid (by rw [HTe.out, ← psI_done, show min (j + 1) N = j + 1 by omega])
            have HOm : Hid ((wo.drewN m).ownsRow w.heap.size 2 1 (.slice A' (j + 1) c') (j + 1) ((psM xs N j).map (Value.int .i64))) := HO
            have HBm : Hid (Below w.heap.size w (wo.drewN m)) := Lib.hid (below_drewN HB.out m)
            have hl1 : j + 1 + 1 ≤ maxLen := by unfold maxLen; omega
            have hl2 : (j + 1 + 1) * 8 ≤ 140737488355328 := by omega
            go_wp2_with (at_builtin; refine wpList_append_own _ rfl _ _ _ rfl w.heap.size 2 i0 (.int .i64 0) 1 8 Try.underlying22 HI.out HZ0.out HZ1.out HZ2.out rfl (by decide) _ (j + 1) ((psM xs N j).map (Value.int .i64)) rfl (HOm.out.alloc _) ⟨wo.heap.size, 0, none⟩ 1 1 [.int .i64 t] rfl rfl (cell_one_new _ _ _) (ints_one [t]) hl1 hl2 (base_alloc2 HBm.out _) ?_; intro v' w2 hown' hgrow _)
            all_goals
              first
              | omega
              | (have HO2 : Hid (w2.ownsRow w.heap.size 2 1 v' (j + 1 + 1) ((psM xs N (j + 1)).map (Value.int .i64))) := Lib.hid (by rw [psM_succ, ← HY.out, List.map_append]; exact hown')
                 have HB2 : Hid (Below w.heap.size w w2) := Lib.hid (Below.grown (bl_alloc HBm.out _) hgrow (base_alloc2 HBm.out _) (fun k hk => (HOm.out.lt k hk).1))
                 clear hown' hgrow hl1 hl2
                 go_wp2
                 go_roundw
                 case rel => exact ⟨j + 1, by omega, by go_num, HO2, HB2⟩
                 case measure => simp [intOf]; omega)
        · obtain rfl : i = N := by omega
          have HY : Hid (t = psN xs i (psL xs i j)) := Lib.hid (by rw [HTe.out, ← psI_done, show min (j + 1) i = i by omega])
          have HOm : Hid ((wo.drewN m).ownsRow w.heap.size 2 1 (.slice A' (j + 1) c') (j + 1) ((psM xs i j).map (Value.int .i64))) := HO
          have HBm : Hid (Below w.heap.size w (wo.drewN m)) := Lib.hid (below_drewN HB.out m)
          have hl1 : j + 1 + 1 ≤ maxLen := by unfold maxLen; omega
          have hl2 : (j + 1 + 1) * 8 ≤ 140737488355328 := by omega
          go_wp2_with (at_builtin; refine wpList_append_own _ rfl _ _ _ rfl w.heap.size 2 i0 (.int .i64 0) 1 8 Try.underlying22 HI.out HZ0.out HZ1.out HZ2.out rfl (by decide) _ (j + 1) ((psM xs i j).map (Value.int .i64)) rfl (HOm.out.alloc _) ⟨wo.heap.size, 0, none⟩ 1 1 [.int .i64 t] rfl rfl (cell_one_new _ _ _) (ints_one [t]) hl1 hl2 (base_alloc2 HBm.out _) ?_; intro v' w2 hown' hgrow _)
          all_goals
            first
            | omega
            | (have HO2 : Hid (w2.ownsRow w.heap.size 2 1 v' (j + 1 + 1) ((psM xs i (j + 1)).map (Value.int .i64))) := Lib.hid (by rw [psM_succ, ← HY.out, List.map_append]; exact hown')
               have HB2 : Hid (Below w.heap.size w w2) := Lib.hid (Below.grown (bl_alloc HBm.out _) hgrow (base_alloc2 HBm.out _) (fun k hk => (HOm.out.lt k hk).1))
               clear hown' hgrow hl1 hl2
               go_wp2
               go_roundw
               case rel => exact ⟨j + 1, by omega, by go_num, HO2, HB2⟩
               case measure => simp [intOf]; omega)
    · have hjC : decide ((j : Int) + 1 ≤ (C : Int)) = false := by simp; omega
      obtain rfl : j = C := by omega
      go_wp2
      go_ret
      exact ⟨A', c', rfl, OwnI.of_row HO.out, HB.out⟩

/-- the post of a call whose list may lie one place behind its array's head -/
def GivesX (r : List Int × Int) (w : World) (e : Ending) (w' : World) : Prop :=
  ∃ A c, e = .returned (.tuple #[.slice A r.1.length c, .int .i64 r.2]) ∧ OwnX w' w.heap.size A r.1.length c r.1 ∧ Below w.heap.size w w'
theorem nvl_ps {xs : List Int} (h : SmOk xs) (n k : Nat) (hk : k ≤ 6) : (psL xs n k).any nvl = false := any_none (fun i hi => by
  have := ps_at_bd h n k i hk
  unfold nvl
  simp only [Bool.not_eq_false', Bool.and_eq_true, decide_eq_true_eq]
  omega)
theorem run_cutI {g C c : Nat} (hC : 1 ≤ C) (hc : C + 1 ≤ c) (w : World) :
    (Instr.slice 22 (.slice (some ⟨g, 0, none⟩) (C + 1) c) (some (.int .i64 1)) none none).run Try.prog w = .ok (.slice (some ⟨g, 1, none⟩) C (c - 1)) w := by
  have hs : (sizeOf (Try.prog.elem 22)).run Try.prog w = .ok 1 w := by kernel_rfl
  rw [run_slice_l (P := Try.prog) (w := w) 22 (some ⟨g, 0, none⟩) (C + 1) c (by kernel_rfl) .i64 1 (by omega) (by omega), hs]
  have h1 : ¬ c = 1 := by omega
  simp [Result.andThen, sliced, Addr.add, h1]

set_option maxRecDepth 100000 in
set_option maxHeartbeats 4000000 in
theorem implPowerSums_ok (A : Option Addr) (n c : Nat) (xs : List Int) (cnt : Int) (w : World) (hr : Rd .i64 w A n c xs) (hz : pwC xs cnt = 0) :
    Calls Try.prog 36 #[.slice A n c, .int .i64 cnt] w (GivesX (psL xs (xs.length - 1) cnt.toNat, 0) w) := by
  obtain rfl : xs.length = n := hr.1
  have hs0 : smC [xs] = 0 := by
    apply Decidable.byContradiction; intro h; unfold pwC at hz; rw [if_pos h] at hz; exact h hz
  have hcr : 1 ≤ cnt ∧ cnt ≤ 6 := by
    apply Decidable.byContradiction; intro h; unfold pwC at hz; rw [if_neg (by simpa using hs0), if_pos h] at hz; omega
  have hl1 : xs.getD (xs.length - 1) 0 = 1 := by
    apply Decidable.byContradiction; intro h; unfold pwC at hz; rw [if_neg (by simpa using hs0), if_neg (by simpa using hcr), if_pos h] at hz; omega
  have hsm := smC_zero hs0
  have HS := Lib.hid hsm
  have HC := Lib.hid hs0.symm
  obtain ⟨C, rfl⟩ : ∃ C : Nat, cnt = C := ⟨cnt.toNat, by omega⟩
  obtain ⟨C1, C2⟩ := hcr
  obtain ⟨N, hN⟩ : ∃ N, xs.length = N + 1 := ⟨xs.length - 1, by have := hsm.2.1; omega⟩
  have N1 : 1 ≤ N := by have := hsm.2.1; omega
  have N2 : N ≤ 4 := by have := hsm.2.1; omega
  have hcp := hr.2.1
  have hcm := hr.2.2.1
  unfold maxLen at hcm
  have HP := Lib.hid (RdP.one (T := 22) hr)
  have HR := Lib.hid hr
  have HL1 : Hid (xs.getD N 0 = 1) := Lib.hid (by rw [← hl1, hN]; rfl)
  rw [hN] at HP HR hcp
  rw [hN]
  have HNV := Lib.hid (nvl_ps hsm N C (by omega)).symm
  clear hr hz hs0 hl1 hsm hN
  obtain ⟨b, off, rfl, hb, hcell⟩ := HR.out.2.2.2 (by omega)
  have hlast := hcell N (by omega)
  rw [HL1.out] at hlast
  clear hcell
  go_enter Try.func36, Try.ntmps36
  go_wp2_with fail
  refine ((areSmallOnes_any HC.out _ HP.out (by omega)).mono fun _ _ h => same_below h).mono ?_
  rintro e w1 ⟨rfl, hbb⟩
  have HB1 : Hid (Below w.heap.size w w1) := Lib.hid (bl_trans (bl_alloc (Below.refl _ _) _) hbb)
  have hlast1 := keep_cell HB1.out hlast
  clear hbb hlast
  go_wp2_with fail
  refine (within_any _ _ _ _).mono ?_
  rintro e w' ⟨rfl, rfl⟩
  go_wp2_with fail
  refine (isMonic_yes _ _ _ _ _ (by omega) hlast1).mono ?_
  rintro e w' ⟨rfl, rfl⟩
  go_wp2_with fail
  refine (powerSums_any b off N c C xs w1 (HR.out.below HB1.out) HS.out N1 N2 (by omega)).mono ?_
  rintro e w2 ⟨A2, c2, rfl, ho, hbb⟩
  obtain ⟨g, rfl, hg1, hg2⟩ := OwnC.form ho (by omega)
  have hcc := ho.2.1
  have hcc2 := ho.2.2.1
  unfold maxLen at hcc2
  have HX : Hid (OwnX w2 w.heap.size (some ⟨g, 1, none⟩) C (c2 - 1) (psL xs N C)) := Lib.hid (.inr ⟨g, N, rfl, by rw [show c2 - 1 + 1 = c2 by omega]; exact own_lo ho HB1.out.size⟩)
  have HB2 : Hid (Below w.heap.size w w2) := Lib.hid (bl_trans HB1.out hbb)
  clear ho hbb
  have hcut := fun (w : World) => run_cutI (g := g) (C := C) (c := c2) (by omega) hcc w
  go_wp2_with fail
  refine (nvl_has _ _ _ _ _ HX.out.rd).mono ?_
  rintro e w' ⟨rfl, rfl⟩
  rw [← HNV.out]
  go_wp2
  go_ret2
  refine ⟨_, c2 - 1, by rw [psL_len]; rfl, ?_, HB2.out⟩
  rw [psL_len]
  exact HX.out


set_option maxRecDepth 100000 in
set_option maxHeartbeats 1600000 in
theorem implPowerSums_e1 (A : Option Addr) (n c : Nat) (xs : List Int) (cnt : Int) (w : World) (hr : Rd .i64 w A n c xs) {k : Int} (hk : k = smC [xs]) (hz : ¬ k = 0) :
    Calls Try.prog 36 #[.slice A n c, .int .i64 cnt] w (GivesX ([], k) w) := by
  obtain rfl : xs.length = n := hr.1
  have HP := Lib.hid (RdP.one (T := 22) hr)
  have hcp := hr.2.1
  have hcm := hr.2.2.1
  unfold maxLen at hcm
  have HC := Lib.hid hk
  have hk1 : (k == 0) = false := by simpa using hz
  have hk2 : (k != 0) = true := by simpa using hz
  clear hk hr
  go_enter Try.func36, Try.ntmps36
  go_wp2_with fail
  refine ((areSmallOnes_any HC.out _ HP.out (by omega)).mono fun _ _ h => same_below h).mono ?_
  rintro e w1 ⟨rfl, hbb⟩
  have HB1 : Hid (Below w.heap.size w w1) := Lib.hid (bl_trans (bl_alloc (Below.refl _ _) _) hbb)
  clear hbb
  go_wp2_with (go_at_call 89; refine (within_any _ _ _ _).mono ?_; rintro e w' ⟨rfl, rfl⟩)
  go_ret2
  exact ⟨none, 0, rfl, .inl (OwnI.nil _ _), HB1.out⟩


set_option maxRecDepth 100000 in
set_option maxHeartbeats 1600000 in
theorem implPowerSums_e2 (A : Option Addr) (n c : Nat) (xs : List Int) (cnt : Int) (w : World) (hr : Rd .i64 w A n c xs) (hk : 0 = smC [xs]) (hz : ¬ (1 ≤ cnt ∧ cnt ≤ 6)) :
    Calls Try.prog 36 #[.slice A n c, .int .i64 cnt] w (GivesX ([], 2) w) := by
  obtain rfl : xs.length = n := hr.1
  have HP := Lib.hid (RdP.one (T := 22) hr)
  have hcp := hr.2.1
  have hcm := hr.2.2.1
  unfold maxLen at hcm
  have HC := Lib.hid hk
  have hd : (decide (1 ≤ cnt) && decide (cnt ≤ 6)) = false := by simp only [Bool.and_eq_false_iff, decide_eq_false_iff_not]; omega
  clear hk hr hz
  go_enter Try.func36, Try.ntmps36
  go_wp2_with fail
  refine ((areSmallOnes_any HC.out _ HP.out (by omega)).mono fun _ _ h => same_below h).mono ?_
  rintro e w1 ⟨rfl, hbb⟩
  have HB1 : Hid (Below w.heap.size w w1) := Lib.hid (bl_trans (bl_alloc (Below.refl _ _) _) hbb)
  clear hbb
  go_wp2_with (go_at_call 89; refine (within_any _ _ _ _).mono ?_; rintro e w' ⟨rfl, rfl⟩)
  go_ret2
  exact ⟨none, 0, rfl, .inl (OwnI.nil _ _), HB1.out⟩


set_option maxRecDepth 100000 in
set_option maxHeartbeats 1600000 in
theorem implPowerSums_e5 (A : Option Addr) (n c : Nat) (xs : List Int) (cnt : Int) (w : World) (hr : Rd .i64 w A n c xs) (hk : 0 = smC [xs]) (hz : 1 ≤ cnt ∧ cnt ≤ 6) (hl : ¬ xs.getD (xs.length - 1) 0 = 1) :
    Calls Try.prog 36 #[.slice A n c, .int .i64 cnt] w (GivesX ([], 5) w) := by
  obtain rfl : xs.length = n := hr.1
  have HP := Lib.hid (RdP.one (T := 22) hr)
  have hcp := hr.2.1
  have hcm := hr.2.2.1
  unfold maxLen at hcm
  have HC := Lib.hid hk
  have hsm := smC_zero hk.symm
  have ⟨C1, C2⟩ := hz
  obtain ⟨N, hN⟩ : ∃ N, xs.length = N + 1 := ⟨xs.length - 1, by have := hsm.2.1; omega⟩
  have N2 : N ≤ 4 := by have := hsm.2.1; omega
  rw [hN] at HP hr hcp hl
  rw [hN]
  obtain ⟨b, off, rfl, hb, hcell⟩ := hr.2.2.2 (by omega)
  have hlast := hcell N (by omega)
  obtain ⟨y, hy⟩ : ∃ y, y = xs.getD N 0 := ⟨_, rfl⟩
  rw [← hy] at hlast
  have hy1 : (y == 1) = false := by simp; rw [hy]; exact hl
  clear hk hr hz hsm hN hcell hy hl
  go_enter Try.func36, Try.ntmps36
  go_wp2_with fail
  refine ((areSmallOnes_any HC.out _ HP.out (by omega)).mono fun _ _ h => same_below h).mono ?_
  rintro e w1 ⟨rfl, hbb⟩
  have HB1 : Hid (Below w.heap.size w w1) := Lib.hid (bl_trans (bl_alloc (Below.refl _ _) _) hbb)
  have hlast1 := keep_cell HB1.out hlast
  clear hbb
  go_wp2_with (first | (go_at_call 89; refine (within_any _ _ _ _).mono ?_; rintro e w' ⟨rfl, rfl⟩) | (go_at_call 90; refine (isMonic_no _ _ _ _ _ _ (by omega) hlast1 hy1).mono ?_; rintro e w' ⟨rfl, rfl⟩))
  go_ret2
  exact ⟨none, 0, rfl, .inl (OwnI.nil _ _), HB1.out⟩


theorem implPowerSums_any (A : Option Addr) (n c : Nat) (xs : List Int) (cnt : Int) (w : World) (hr : Rd .i64 w A n c xs) :
    Calls Try.prog 36 #[.slice A n c, .int .i64 cnt] w (GivesX (pwR xs cnt) w) := by
  unfold pwR
  by_cases h : pwC xs cnt = 0
  · rw [if_pos h]
    exact implPowerSums_ok A n c xs cnt w hr h
  · rw [if_neg h]
    unfold pwC at h ⊢
    by_cases h1 : smC [xs] = 0
    · rw [if_neg (by simpa using h1)] at h ⊢
      by_cases h2 : 1 ≤ cnt ∧ cnt ≤ 6
      · rw [if_neg (by simpa using h2)] at h ⊢
        by_cases h3 : xs.getD (xs.length - 1) 0 = 1
        · rw [if_neg (by simpa using h3)] at h; exact absurd rfl h
        · rw [if_pos h3]
          exact implPowerSums_e5 A n c xs cnt w hr h1.symm h2 h3
      · rw [if_pos h2]
        exact implPowerSums_e2 A n c xs cnt w hr h1.symm h2
    · rw [if_pos h1]
      exact implPowerSums_e1 A n c xs cnt w hr rfl h1

end Go.Proofs.Ytjipalcceflkfaa