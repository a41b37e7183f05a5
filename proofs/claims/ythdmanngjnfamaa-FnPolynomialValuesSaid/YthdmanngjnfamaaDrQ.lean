
/- Draws of polynomials for the laws. -/
import Derived.Test.YthdmanngjnfamaaDrP
import Derived.Test.YthdmanngjnfamaaGiv
namespace Go.Proofs.Ythdmanngjnfamaa
open Go.RowKit Go.Joins

set_option maxRecDepth 100000 in
set_option maxHeartbeats 1600000 in
theorem drawTwoP_any (A : Option Addr) (n c : Nat) (ys : List Int) (w : World) (hr : Rd .u8 w A n c ys) (hb : Bys ys) :
    Calls Try.prog 96 #[.slice A n c] w fun e w' => ∃ (B : Option Addr) (N d : Nat) (f : List Int) (B' : Option Addr) (N' d' : Nat) (g : List Int), e = .returned (.tuple #[.slice B N d, .slice B' N' d']) ∧ Rd .i64 w' B N d f ∧ Rd .i64 w' B' N' d' g ∧ Below w.heap.size w w' := by
  obtain ⟨i0, hi, hz0, hz1, hz2⟩ := info_parts infoI64
  have HI := Lib.hid hi
  have HZ0 := Lib.hid hz0
  have HZ1 := Lib.hid hz1
  have HZ2 := Lib.hid hz2
  clear hi hz0 hz1 hz2
  have HR := Lib.hid hr
  have HBy := Lib.hid hb
  clear hr hb
  go_enter Try.func96, Try.ntmps96
  go_wp2_with fail
  refine (l01From_any A n c ys w HR.out HBy.out).mono ?_
  rintro e wd0 ⟨b, rfl, hs⟩
  have HS := Lib.hid hs
  clear hs
  have hb0 := HS.out.lt
  go_wp2_with fail
  refine (l06Draw_any _ A n c ys b _ HS.out).mono ?_
  rintro e wd1 ⟨B, N, d, f, rfl, ho1, hN, hd1⟩
  have HO1 := Lib.hid ho1
  have HD1 := Lib.hid hd1
  have hs1 := hd1.2.size
  clear ho1 hd1
  go_wp2_with fail
  refine (l06Draw_any _ A n c ys b _ HD1.out.1).mono ?_
  rintro e wd2 ⟨B', N', d', g, rfl, ho2, hN', hd2⟩
  have HO2 := Lib.hid ho2
  have HF2 := Lib.hid (OwnC.kept HO1.out hd2.2 (.inr (fun e => by have := HO1.out.row_ge b e; omega)))
  have HD2 := Lib.hid (Drew.trans HD1.out hd2)
  have hs2 := hd2.2.size
  clear ho2 hd2 HO1
  go_wp2_with fail
  refine (l01Next_any _ A n c ys b 10 _ HD2.out.1).mono ?_
  rintro e wd3 ⟨z, rfl, hx1, hx2, hd3⟩
  have HG3 := Lib.hid (OwnC.kept HO2.out hd3.2 (.inr (fun e => by have := HO2.out.row_ge b e; omega)))
  have HF3 := Lib.hid (OwnC.kept HF2.out hd3.2 (.inr (fun e => by have := HF2.out.row_ge b e; omega)))
  have HD3 := Lib.hid (Drew.trans HD2.out hd3)
  clear hx1 hx2 hd3 HO2 HF2
  have HRf := Lib.hid (OwnI.rd HF3.out)
  have HRg := Lib.hid (OwnI.rd HG3.out)
  by_cases hz0 : z = 0
  · have hzb : (z == 0) = true := by simpa using hz0
    clear hz0
    go_wp2_with fail
    go_loopg [6, 7] N (fun G v i wr => ∃ (k : Nat) (L : List Int), G = N - k ∧ k ≤ N ∧ i = .int .i64 k ∧ L.length = k ∧ Hid (wr.ownsRow wd3.heap.size 2 1 v k (L.map (Value.int .i64))) ∧ Hid (Below wd3.heap.size wd3 wr))
    case atStart => exact ⟨0, [], by omega, Nat.zero_le _, rfl, rfl, Lib.hid (emptyRow wd3 _ 1), Lib.hid (bl_alloc (Below.refl _ _) _)⟩
    case round =>
      obtain ⟨k, L, rfl, hk, rfl, hkl, HO, HB⟩ := hrel
      have HK := Lib.hid hkl
      clear hkl
      by_cases hlt : k < N
      · obtain ⟨bf, off, rfl, hbf, hcell⟩ := HRf.out.2.2.2 (by omega)
        have hx := keep_cell HB.out (hcell k hlt)
        generalize f.getD k 0 = x at hx
        obtain ⟨y, hy⟩ : ∃ y, IntKind.i64.wrap (-x) = y := ⟨_, rfl⟩
        clear hcell
        have hl1 : k + 1 ≤ maxLen := by unfold maxLen; omega
        have hl2 : (k + 1) * 8 ≤ 140737488355328 := by omega
        go_wp2_with (at_builtin; refine wpList_append_own _ rfl _ _ _ rfl wd3.heap.size 2 i0 (.int .i64 0) 1 8 Try.underlying22 HI.out HZ0.out HZ1.out HZ2.out rfl (by decide) _ k (L.map (Value.int .i64)) rfl (HO.out.alloc _) ⟨wr.heap.size, 0, none⟩ 1 1 [.int .i64 y] rfl rfl (cell_one_new _ _ _) (ints_one [y]) hl1 hl2 (base_alloc2 HB.out _) ?_; intro v' w1 hown' hgrow _)
        have HO2 : Hid (w1.ownsRow wd3.heap.size 2 1 v' (k + 1) ((L ++ [y]).map (Value.int .i64))) := Lib.hid (by rw [List.map_append]; exact hown')
        have HB2 : Hid (Below wd3.heap.size wd3 w1) := Lib.hid ((bl_alloc HB.out _).grown hgrow (base_alloc2 HB.out _) (fun k hk => (HO.out.lt k hk).1))
        clear hown' hgrow hl1 hl2
        go_wp2
        go_roundg (N - (k + 1))
        case measure => omega
        case rel => exact ⟨k + 1, L ++ [y], rfl, by omega, by go_num, by have := HK.out; rw [List.length_append]; simp; omega, HO2, HB2⟩
      · obtain rfl : k = N := by omega
        obtain ⟨A', c', rfl, _⟩ := own_cells HO.out
        go_wp2
        go_ret2
        exact ⟨B, k, d, f, A', k, c', L, rfl, HRf.out.below HB.out, OwnI.rd (OwnI.of_row HO.out), bl_trans HD3.out.1.bel HB.out⟩
  · have hzb : (z == 0) = false := by simpa using hz0
    clear hz0
    go_wp2
    go_ret2
    exact ⟨B, N, d, f, B', N', d', g, rfl, HRf.out, HRg.out, HD3.out.1.bel⟩
set_option maxHeartbeats 1600000 in
theorem drawMulP_any (A : Option Addr) (n c : Nat) (ys : List Int) (w : World) (hr : Rd .u8 w A n c ys) (hb : Bys ys) :
    Calls Try.prog 31 #[.slice A n c] w fun e w' => ∃ (B : Option Addr) (N d : Nat) (f : List Int) (B' : Option Addr) (N' d' : Nat) (g : List Int), e = .returned (.tuple #[.slice B N d, .slice B' N' d']) ∧ Rd .i64 w' B N d f ∧ Rd .i64 w' B' N' d' g ∧ Below w.heap.size w w' := by
  have HR := Lib.hid hr
  have HBy := Lib.hid hb
  clear hr hb
  go_enter Try.func31, Try.ntmps31
  go_wp2_with fail
  refine (drawTwoP_any A n c ys _ HR.out HBy.out).mono ?_
  rintro e w1 ⟨B, N, d, f, B', N', d', g, rfl, h1, h2, hb⟩
  have HW := Lib.hid (And.intro h1 (And.intro h2 hb))
  clear hb h1 h2
  go_wp2
  go_ret2
  exact ⟨B, N, d, f, B', N', d', g, rfl, HW.out⟩
set_option maxHeartbeats 1600000 in
theorem drawEval_any (A : Option Addr) (n c : Nat) (ys : List Int) (w : World) (hr : Rd .u8 w A n c ys) (hb : Bys ys) :
    Calls Try.prog 36 #[.slice A n c] w fun e w' => ∃ (B : Option Addr) (N d : Nat) (f : List Int) (x : Int), e = .returned (.tuple #[.slice B N d, .int .i64 x]) ∧ Rd .i64 w' B N d f ∧ -1001 ≤ x ∧ x ≤ 1001 ∧ Below w.heap.size w w' := by
  have HR := Lib.hid hr
  have HBy := Lib.hid hb
  clear hr hb
  go_enter Try.func36, Try.ntmps36
  go_wp2_with fail
  refine (l01From_any A n c ys w HR.out HBy.out).mono ?_
  rintro e wd0 ⟨b, rfl, hs⟩
  have HS := Lib.hid hs
  clear hs
  have hb0 := HS.out.lt
  go_wp2_with fail
  refine (l06Draw_any _ A n c ys b _ HS.out).mono ?_
  rintro e wd1 ⟨B, N, d, f, rfl, ho1, hN, hd1⟩
  have HO1 := Lib.hid ho1
  have HD1 := Lib.hid hd1
  have hs1 := hd1.2.size
  clear ho1 hd1
  go_wp2_with fail
  refine (l01Next_any _ A n c ys b 41 _ HD1.out.1).mono ?_
  rintro e wd2 ⟨a, rfl, hx1, hx2, hd2⟩
  have ⟨al, au⟩ := hx2 (by omega)
  have HD2 := Lib.hid (Drew.trans (HD1.out) hd2)
  have HO2 := Lib.hid (OwnC.kept HO1.out hd2.2 (.inr (fun e => by have := HO1.out.row_ge b e; omega)))
  clear hx1 hx2 hd2
  go_wp2_with fail
  refine (l01Next_any _ A n c ys b 401 _ HD2.out.1).mono ?_
  rintro e wd3 ⟨a3, rfl, hx1, hx2, hd3⟩
  have ⟨a3l, a3u⟩ := hx2 (by omega)
  have HD3 := Lib.hid (Drew.trans (HD2.out) hd3)
  have HO3 := Lib.hid (OwnC.kept HO2.out hd3.2 (.inr (fun e => by have := HO2.out.row_ge b e; omega)))
  clear hx1 hx2 hd3
  go_wp2_with fail
  refine (l01Pick_any _ A n c ys b wd3.heap.size 8 [0, 1, -1, a - 20, 1000, -1000, 1001, a3 - 200] _ (HD3.out.alloc _).1 (by omega) (by omega) (by simp) (by have := HD3.out.1.lt; omega) (fun j hj => by rcases j with _ | _ | _ | _ | _ | _ | _ | _ | j <;> first | (simp; done) | omega)).mono ?_
  rintro e wd4 ⟨i4, hi4, rfl, hd4⟩
  have HD4 := Lib.hid (Drew.trans (HD3.out.alloc _) hd4)
  obtain ⟨x, hy4⟩ : ∃ y, y = ([0, 1, -1, a - 20, 1000, -1000, 1001, a3 - 200] : List Int).getD i4 0 := ⟨_, rfl⟩
  have ⟨xl, xu⟩ : -1001 ≤ x ∧ x ≤ 1001 := by
    rw [hy4]; rcases i4 with _ | _ | _ | _ | _ | _ | _ | _ | j <;> first | (simp; omega) | (simp; done) | omega
  rw [← hy4]
  have HO4 := Lib.hid (OwnC.kept (OwnC.below HO3.out (bl_alloc (Below.refl _ _) _)) hd4.2 (.inr (fun e => by have := HO3.out.row_ge b e; omega)))
  clear hy4 hi4 hd4
  go_wp2
  go_ret2
  exact ⟨B, N, d, f, x, rfl, OwnI.rd HO4.out, xl, xu, HD4.out.1.bel⟩
end Go.Proofs.Ythdmanngjnfamaa
