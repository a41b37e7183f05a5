
/- Lists of prime powers drawn; the laws' comparison of two lists. -/
import Derived.Test.YtgajgonepcikbaaDoorPwD
import Derived.Deep.AppendLies
namespace Go.Proofs.YtgajgonepcikbaaDoor
open Go.RowKit Go.Joins

set_option maxRecDepth 100000 in
set_option maxHeartbeats 3200000 in
theorem drawPowersText_any (A : Option Addr) (n c : Nat) (ys : List Int) (w : World) (hr : Rd .u8 w A n c ys) (hb : Bys ys) :
    Calls Tryd.prog 50 #[.slice A n c] w fun e w' => ∃ (B : Option Addr) (N d : Nat) (zs : List Int), e = .returned (.slice B N d) ∧ RdC 2 w' B N d (zs.map (Value.int .i64)) ∧ N ≤ 2000 ∧ Below w.heap.size w w' := by
  obtain ⟨i0, hi, hz0, hz1, hz2⟩ := info_parts infoPow
  have HI := Lib.hid hi
  have HZ0 := Lib.hid hz0
  have HZ1 := Lib.hid hz1
  have HZ2 := Lib.hid hz2
  clear hi hz0 hz1 hz2
  have HR := Lib.hid hr
  have HBy := Lib.hid hb
  clear hr hb
  go_enter Tryd.func50, Tryd.ntmps50
  go_wp2_with fail
  refine (l01From_any A n c ys w HR.out HBy.out).mono ?_
  rintro e w0 ⟨b, rfl, hs⟩
  have HS := Lib.hid hs
  clear hs
  go_wp2_with fail
  refine (l01Next_any _ A n c ys b 100000 _ HS.out).mono ?_
  rintro e w1 ⟨x, rfl, hx1, hx2, hd1⟩
  have ⟨x1, x2⟩ := hx2 (by omega)
  have HS1 := Lib.hid hd1.1
  have HF := Lib.hid (facs_bd (n := 1 + x) (by omega) (by omega)).1
  clear hx1 hx2 hd1
  go_wp2_with fail
  refine (l01Factor_any (1 + x) (by omega) (by omega) _).mono ?_
  rintro e w2 ⟨v, rfl, ho, hb2⟩
  have HS2 := Lib.hid (HS1.out.below hb2)
  have hb1 : b < w1.heap.size := HS1.out.lt
  have hWb : w.heap.size ≤ w1.heap.size := HS1.out.bel.size
  have hs2 : w1.heap.size ≤ w2.heap.size := hb2.size
  obtain ⟨M, hM⟩ : ∃ M, M = (facs (1 + x)).length := ⟨_, rfl⟩
  have hM1 : M ≤ 1000 := by rw [hM]; exact HF.out
  rw [fl2_flat, ← hM] at ho
  generalize fl2 (facs (1 + x)) = zs at ho
  have HO := Lib.hid ho
  clear ho hb2 hM HF
  go_wp2_with fail
  refine (l01Next_any _ A n c ys b 16 _ HS2.out).mono ?_
  rintro e w3 ⟨z, rfl, hx1, hx2, hd3⟩
  have HO3 := Lib.hid (own_drawn HO.out hd3.2 hb1)
  have HS3 := Lib.hid hd3.1
  have hs3 := hd3.2.size
  clear hx1 hx2 hd3 HO
  by_cases hz0 : z = 0
  · have hzb : (z == 0) = true := by simpa using hz0
    clear hz0
    have hl1 : M + 1 ≤ maxLen := by unfold maxLen; omega
    have hl2 : (M + 1) * 16 ≤ 140737488355328 := by omega
    go_wp2_with fail
    refine (l01Pick_any _ A n c ys b w3.heap.size 4 [4, 2, 999983, 1000003] _ (HS3.out.alloc _) (by omega) (by omega) (by simp) (by omega) (fun j hj => by rcases j with _ | _ | _ | _ | j <;> first | (simp; done) | omega)).mono ?_
    rintro e w4 ⟨j4, hj, rfl, hd4⟩
    generalize ([4, 2, 999983, 1000003] : List Int).getD j4 0 = p
    have HO4 := Lib.hid (own_drawn (HO3.out.alloc _) hd4.2 hb1)
    have HS4 := Lib.hid hd4.1
    have hs4 : w3.heap.size + 1 ≤ w4.heap.size := by have := hd4.2.size; simpa using this
    clear hd4 hj HO3
    go_wp2_with fail
    refine (l01Pick_any _ A n c ys b w4.heap.size 4 [1, 0, 40, 41] _ (HS4.out.alloc _) (by omega) (by omega) (by simp) (by omega) (fun j hj => by rcases j with _ | _ | _ | _ | j <;> first | (simp; done) | omega)).mono ?_
    rintro e w5 ⟨j5, hj, rfl, hd5⟩
    generalize ([1, 0, 40, 41] : List Int).getD j5 0 = q
    have HO5 := Lib.hid (own_drawn (HO4.out.alloc _) hd5.2 hb1)
    have HS5 := Lib.hid hd5.1
    have hs5 : w4.heap.size + 1 ≤ w5.heap.size := by have := hd5.2.size; simpa using this
    clear hd5 hj HO4
    go_wp2_with (at_builtin; refine wpList_append_own _ rfl _ _ _ rfl w1.heap.size 74 i0 _ 2 16 Tryd.underlying37 HI.out HZ0.out HZ1.out HZ2.out rfl (by decide) _ M (zs.map (Value.int .i64)) rfl (HO5.out.alloc _) ⟨w5.heap.size, 0, none⟩ 1 1 [.int .i64 p, .int .i64 q] rfl rfl (news2 _ _ _ _) (ones2 _ _) hl1 hl2 (by simp; omega) ?_; intro v' w6 hown' hgrow _)
    have HB6 : Hid (Below w.heap.size w w6) := Lib.hid (Below.grown (bl_alloc HS5.out.bel _) hgrow (by simp; omega) (fun k hk => Nat.le_trans hWb (HO5.out.lt k hk).1))
    obtain ⟨A6, c6, rfl, hrd⟩ := own_cells hown'
    have HRd : Hid (RdC 2 w6 A6 (M + 1) c6 ((zs ++ [p, q]).map (Value.int .i64))) := Lib.hid (by rw [List.map_append]; exact hrd)
    clear hown' hgrow hrd hl1 hl2
    go_wp2
    go_ret
    exact ⟨A6, M + 1, c6, zs ++ [p, q], rfl, HRd.out, by omega, HB6.out⟩
  · have hzb : (z == 0) = false := by simpa using hz0
    clear hz0
    by_cases hz1 : z = 1
    · have hzc : (z == 1) = true := by simpa using hz1
      clear hz1
      obtain ⟨A3, c3, rfl, hrd⟩ := own_cells HO3.out
      by_cases hM0 : 0 < M
      · have HOc := Lib.hid (OwnC.of_row HO3.out)
        obtain ⟨g, rfl, hg1, hg2⟩ := HOc.out.form hM0
        have hMd : decide (0 < M) = true := by simp; omega
        clear hrd
        go_wp2_with fail
        refine (l01Pick_any _ A n c ys b w3.heap.size 3 [0, 40, 41] _ (HS3.out.alloc _) (by omega) (by omega) (by simp) (by omega) (fun j hj => by rcases j with _ | _ | _ | j <;> first | (simp; done) | omega)).mono ?_
        rintro e w4 ⟨j4, hj, rfl, hd4⟩
        generalize ([0, 40, 41] : List Int).getD j4 0 = q
        have HO4 := Lib.hid (OwnC.of_row (own_drawn (HO3.out.alloc _) hd4.2 hb1))
        have HS4 := Lib.hid hd4.1
        clear hd4 hj HO3 HOc
        have ⟨k1, k2⟩ := HO4.out.atF (j := 1) (by omega)
        have HSt := Lib.hid (HO4.out.setF hM0 1 q)
        have hcc := HO4.out.2.1
        have hcm := HO4.out.2.2.1
        unfold maxLen at hcm
        have hMi : (0 : Int) < (M : Int) := by omega
        go_wp2
        go_ret
        exact ⟨_, M, _, zs.set 1 q, rfl, HSt.out.1.rd, by omega, bl_set HS4.out.bel _ _ (by omega) _⟩
      · have hMd : decide (0 < M) = false := by simp; omega
        have HRd := Lib.hid hrd
        clear hrd
        have hM2 : ¬ (0 : Int) < (M : Int) := by omega
        go_wp2
        go_ret
        exact ⟨A3, M, c3, zs, rfl, HRd.out, by omega, HS3.out.bel⟩
    · have hzc : (z == 1) = false := by simpa using hz1
      clear hz1
      obtain ⟨A3, c3, rfl, hrd⟩ := own_cells HO3.out
      have HRd := Lib.hid hrd
      clear hrd
      go_wp2
      go_ret
      exact ⟨A3, M, c3, zs, rfl, HRd.out, by omega, HS3.out.bel⟩

set_option maxHeartbeats 1600000 in
theorem likePowers_any (B : Option Addr) (N d : Nat) (B' : Option Addr) (d' : Nat) (zs : List Int) (w : World) (hr : RdC 2 w B N d (zs.map (Value.int .i64))) (hr' : RdC 2 w B' N d' (zs.map (Value.int .i64))) :
    Calls Tryd.prog 52 #[.slice B N d, .slice B' N d'] w fun e w' => e = .returned (.bool true) ∧ Below w.heap.size w w' := by
  have hm := hr.2.2.1
  have hc := hr.2.1
  unfold maxLen at hm
  have HR := Lib.hid hr
  have HR' := Lib.hid hr'
  clear hr hr'
  have hself : ((N : Int) != (N : Int)) = false := by simp
  go_enter Tryd.func52, Tryd.ntmps52
  go_wp2
  go_loopw [5] (fun j wr => ∃ k : Nat, k ≤ N ∧ j = .int .i64 k ∧ Hid (Below w.heap.size w wr)) (fun j _ => N - (intOf j).toNat)
  case atStart => exact ⟨0, Nat.zero_le _, rfl, Lib.hid (Below.refl _ _)⟩
  case round =>
    obtain ⟨k, hk, rfl, HB⟩ := hrel
    by_cases hlt : k < N
    · obtain ⟨b, off, rfl, hcell⟩ := (HR.out.below HB.out).atF (by omega)
      obtain ⟨b', off', rfl, hcell'⟩ := (HR'.out.below HB.out).atF (by omega)
      have h0 := hcell (k * 2 + 0) (fl_lt hlt (by omega))
      rw [Nat.add_zero] at h0
      have h1 := hcell (k * 2 + 1) (fl_lt hlt (by omega))
      rw [← Nat.add_assoc] at h1
      have h0' := hcell' (k * 2 + 0) (fl_lt hlt (by omega))
      rw [Nat.add_zero] at h0'
      have h1' := hcell' (k * 2 + 1) (fl_lt hlt (by omega))
      rw [← Nat.add_assoc] at h1'
      generalize zs.getD (k * 2) 0 = x at h0 h0'
      generalize zs.getD (k * 2 + 1) 0 = y at h1 h1'
      have f1 : (x != x) = false := by simp
      have f2 : (y != y) = false := by simp
      clear hcell hcell'
      go_wp2_with fail
      go_quiet (fail)
      go_wp2
      go_roundw
      case rel => exact ⟨k + 1, by omega, by go_num, Lib.hid (by repeat (first | exact HB.out | apply Below.drew | apply below_drewN))⟩
      case measure => simp [intOf]; omega
    · go_wp2
      go_ret
      exact ⟨rfl, HB.out⟩
end Go.Proofs.YtgajgonepcikbaaDoor
