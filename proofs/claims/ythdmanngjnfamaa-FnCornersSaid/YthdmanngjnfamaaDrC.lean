
/- Draws for HeightOf and CountWithSlope. -/
import Derived.Test.YthdmanngjnfamaaDrS
import Derived.Test.YthdmanngjnfamaaSlopesOf
import Derived.Deep.QuietTactic
import Derived.BigQuiet
namespace Go.Proofs.Ythdmanngjnfamaa
open Go.RowKit Go.Joins

set_option maxHeartbeats 1600000 in
theorem drawHeight_any (A : Option Addr) (n c : Nat) (ys : List Int) (w : World) (hr : Rd .u8 w A n c ys) (hb : Bys ys) :
    Calls Try.prog 56 #[.slice A n c] w fun e w' => ∃ (p : Int) (B : Option Addr) (N d : Nat) (f : List Int) (x : Int), e = .returned (.tuple #[.int .i64 p, .slice B N d, .int .i64 x]) ∧ Rd .i64 w' B N d f ∧ Below w.heap.size w w' := by
  have HR := Lib.hid hr
  have HBy := Lib.hid hb
  clear hr hb
  go_enter Try.func56, Try.ntmps56
  go_wp2_with fail
  refine (l01From_any A n c ys w HR.out HBy.out).mono ?_
  rintro e wd0 ⟨b, rfl, hs⟩
  have HS := Lib.hid hs
  clear hs
  have hb0 := HS.out.lt
  go_wp2_with fail
  refine (l13Draw_any _ A n c ys b _ HS.out).mono ?_
  rintro e wd1 ⟨p, B, N, d, f, rfl, ho1, hN, hd1⟩
  have HO1 := Lib.hid ho1
  have HD1 := Lib.hid hd1
  have hs1 := hd1.2.size
  clear ho1 hd1
  go_wp2_with fail
  refine (l01Next_any _ A n c ys b 12 _ HD1.out.1).mono ?_
  rintro e wd2 ⟨x, rfl, hx1, hx2, hd⟩
  have ⟨xl, xu⟩ := hx2 (by omega)
  have HD2 := Lib.hid (Drew.trans HD1.out hd)
  have HO2 := Lib.hid (OwnC.kept HO1.out hd.2 (.inr (fun e => by have := HO1.out.row_ge b e; omega)))
  clear hx1 hx2 hd HO1 HD1
  have ⟨y1, y2⟩ : 0 ≤ x.tdiv 11 ∧ x.tdiv 11 ≤ 1 := by
    rw [Int.tdiv_eq_ediv_of_nonneg xl]; omega
  obtain ⟨y, hy⟩ : ∃ y, x.tdiv 11 = y := ⟨_, rfl⟩
  rw [hy] at y1 y2
  go_wp2_with fail
  refine (l01Next_any _ A n c ys b ((N : Int) + 1 + y) _ HD2.out.1).mono ?_
  rintro e wd3 ⟨z, rfl, hx1, hx2, hd⟩
  have ⟨z1, z2⟩ : 0 ≤ z ∧ z ≤ 20 := by
    by_cases h1 : (N : Int) + 1 + y ≤ 1
    · have := hx1 h1; omega
    · have := hx2 (by omega); omega
  have HD3 := Lib.hid (Drew.trans HD2.out hd)
  have HO3 := Lib.hid (OwnC.kept HO2.out hd.2 (.inr (fun e => by have := HO2.out.row_ge b e; omega)))
  clear hx1 hx2 hd HO2 HD2
  go_wp2_with fail
  refine (l01Next_any _ A n c ys b 12 _ HD3.out.1).mono ?_
  rintro e wd4 ⟨x2, rfl, hx1, hx2, hd⟩
  have ⟨x2l, x2u⟩ := hx2 (by omega)
  have HD4 := Lib.hid (Drew.trans HD3.out hd)
  have HO4 := Lib.hid (OwnC.kept HO3.out hd.2 (.inr (fun e => by have := HO3.out.row_ge b e; omega)))
  clear hx1 hx2 hd HO3 HD3
  have ⟨v1, v2⟩ : 0 ≤ x2.tdiv 11 ∧ x2.tdiv 11 ≤ 1 := by
    rw [Int.tdiv_eq_ediv_of_nonneg x2l]; omega
  obtain ⟨v, hv⟩ : ∃ y, x2.tdiv 11 = y := ⟨_, rfl⟩
  rw [hv] at v1 v2
  have HRf := Lib.hid (OwnI.rd HO4.out)
  go_wp2
  exact bodyPost_ret (v := .tuple #[.int .i64 p, .slice B N d, .int .i64 (z - v)]) (by simp [results, Try.results56, go_sem]) rfl ⟨p, B, N, d, f, z - v, rfl, HRf.out, HD4.out.1.bel⟩
theorem soR_code {p : Int} {xs zs : List Int} {N : Nat} {k : Int} (h : (N, zs, k) = soR p xs) : k = 0 ∨ N = 0 := by
  unfold soR at h
  by_cases hz : pgC p xs = 0
  · rw [if_pos hz] at h
    simp only [Prod.mk.injEq] at h
    exact .inl h.2.2
  · rw [if_neg hz] at h
    simp only [Prod.mk.injEq] at h
    exact .inr h.1
theorem sSlo_own {p : Int} {xs zs : List Int} {N : Nat} {k : Int} (h : (N, zs, k) = soR p xs) {A : Option Addr} {n c : Nat} (w : World) (hr : Rd .i64 w A n c xs) :
    Calls Try.prog 46 #[.int .i64 p, .slice A n c] w fun e w' => ∃ A' c', e = .returned (.tuple #[.slice A' N c', .int .i64 k]) ∧ OwnC 107 3 w' w.heap.size A' N c' (zs.map (Value.int .i64)) ∧ Below w.heap.size w w' := by
  have := specSlopesOf_any p A n c xs w hr
  rw [← h] at this
  exact this
set_option maxRecDepth 100000 in
set_option maxHeartbeats 1600000 in
theorem drawCount_any (A : Option Addr) (n c : Nat) (ys : List Int) (w : World) (hr : Rd .u8 w A n c ys) (hb : Bys ys) :
    Calls Try.prog 59 #[.slice A n c] w fun e w' => ∃ (p : Int) (B : Option Addr) (N d : Nat) (f : List Int) (rise run : Int), e = .returned (.tuple #[.int .i64 p, .slice B N d, .int .i64 rise, .int .i64 run]) ∧ Rd .i64 w' B N d f ∧ Below w.heap.size w w' := by
  have HR := Lib.hid hr
  have HBy := Lib.hid hb
  clear hr hb
  go_enter Try.func59, Try.ntmps59
  go_wp2_with fail
  refine (l01From_any A n c ys w HR.out HBy.out).mono ?_
  rintro e wd0 ⟨b, rfl, hs⟩
  have HS := Lib.hid hs
  clear hs
  have hb0 := HS.out.lt
  go_wp2_with fail
  refine (l13Draw_any _ A n c ys b _ HS.out).mono ?_
  rintro e wd1 ⟨p, B, N, d, f, rfl, ho1, hN, hd1⟩
  have HF1 := Lib.hid ho1
  have HD1 := Lib.hid hd1
  have hs1 := hd1.2.size
  clear ho1 hd1
  obtain ⟨M, zs, k, hS⟩ : ∃ N zs k, (N, zs, k) = soR p f := ⟨_, _, _, rfl⟩
  have HSo := Lib.hid hS
  clear hS
  go_wp2_with fail
  refine (sSlo_own HSo.out _ (OwnI.rd HF1.out)).mono ?_
  rintro e wd2 ⟨A2, c2, rfl, ho2, hb⟩
  have HF2 := Lib.hid (HF1.out.below hb)
  have HD2 := Lib.hid (HD1.out.below hb)
  have HO2 := Lib.hid ho2
  have hs2 : wd1.heap.size ≤ wd2.heap.size := hb.size
  clear hb ho2 HF1 HD1
  have hMm : (M : Int) ≤ 9223372036854775807 := by have h1 := HO2.out.2.1; have h2 := HO2.out.2.2.1; unfold maxLen at h2; omega
  by_cases hk : k = 0
  · have hkb : (k == 0) = true := by simpa using hk
    clear hk
    by_cases hM0 : 0 < M
    · have hMi : (0 : Int) < (M : Int) := by omega
      obtain ⟨g, rfl, hg1, hg2⟩ := HO2.out.form hM0
      go_wp2_with fail
      refine (l01Next_any _ A n c ys b 3 _ HD2.out.1).mono ?_
      rintro e wd3 ⟨z, rfl, hx1, hx2, hd⟩
      have ⟨z1, z2⟩ := hx2 (by omega)
      have HD3 := Lib.hid (Drew.trans HD2.out hd)
      have HO3 := Lib.hid (OwnC.kept HO2.out hd.2 (.inr (fun e => by have := HO2.out.row_ge b e; omega)))
      have HF3 : Hid (OwnI wd3 wd0.heap.size B N d f) := Lib.hid (OwnC.kept HF2.out hd.2 (.inr (fun e => by have := HF2.out.row_ge b e; omega)))
      clear hx1 hx2 hd HD2 HO2 HF2
      by_cases hz : 0 < z
      · go_wp2_with fail
        refine (l01Next_any _ A n c ys b (M : Int) _ HD3.out.1).mono ?_
        rintro e wd4 ⟨x, rfl, hx1, hx2, hd⟩
        obtain ⟨i, rfl, hi⟩ : ∃ i : Nat, x = (i : Int) ∧ i < M := by
          by_cases h1 : 1 < M
          · have := hx2 (by omega); exact ⟨x.toNat, by omega, by omega⟩
          · have := hx1 (by omega); exact ⟨0, by omega, hM0⟩
        have HD4 := Lib.hid (Drew.trans HD3.out hd)
        have HO4 := Lib.hid (OwnC.kept HO3.out hd.2 (.inr (fun e => by have := HO3.out.row_ge b e; omega)))
        have HF4 : Hid (OwnI wd4 wd0.heap.size B N d f) := Lib.hid (OwnC.kept HF3.out hd.2 (.inr (fun e => by have := HF3.out.row_ge b e; omega)))
        clear hx1 hx2 hd HD3 HO3 HF3
        have ⟨k0, _⟩ := HO4.out.atF (j := i * 3 + 0) (fl_lt hi (by omega))
        have ⟨k1, _⟩ := HO4.out.atF (j := i * 3 + 1) (fl_lt hi (by omega))
        have ⟨k2, _⟩ := HO4.out.atF (j := i * 3 + 2) (fl_lt hi (by omega))
        rw [Nat.add_zero] at k0
        generalize zs.getD (i * 3) 0 = x0 at k0
        generalize zs.getD (i * 3 + 1) 0 = x1 at k1
        generalize zs.getD (i * 3 + 2) 0 = x2 at k2
        have hii : (i : Int) < (M : Int) := by omega
        go_wp2_with fail
        go_quiet (fail)
        go_wp2
        exact bodyPost_ret (v := .tuple #[.int .i64 p, .slice B N d, .int .i64 x0, .int .i64 x1]) (by simp [results, Try.results59, go_sem]) rfl ⟨p, B, N, d, f, x0, x1, rfl, Rd.below (OwnI.rd HF4.out) (by repeat (first | exact Below.refl _ _ | apply Below.drew | apply below_drewN | apply bl_alloc)), by repeat (first | exact HD4.out.1.bel | apply Below.drew | apply below_drewN | apply bl_alloc)⟩
      · have hzb : decide (0 < z) = false := by simpa using hz
        go_wp2_with fail
        refine (l01Next_any _ A n c ys b 9 _ HD3.out.1).mono ?_
        rintro e wt1 ⟨a, rfl, hx1, hx2, hd⟩
        have ⟨al, au⟩ := hx2 (by omega)
        have HT1 := Lib.hid (Drew.trans HD3.out hd)
        have HFt1 : Hid (OwnI wt1 wd0.heap.size B N d f) := Lib.hid (OwnC.kept HF3.out hd.2 (.inr (fun e => by have := HF3.out.row_ge b e; omega)))
        clear hx1 hx2 hd HD3 HF3
        go_wp2_with fail
        refine (l01Pick_any _ A n c ys b wt1.heap.size 4 [0, a - 4, 60, 61] _ (HT1.out.alloc _).1 (by omega) (by omega) (by simp) (by have := HT1.out.1.lt; omega) (fun j hj => by rcases j with _ | _ | _ | _ | j <;> first | (simp; done) | omega)).mono ?_
        rintro e wt2 ⟨i2, hi2, rfl, hd⟩
        generalize ([0, a - 4, 60, 61] : List Int).getD i2 0 = rise
        have HT2 := Lib.hid (Drew.trans (HT1.out.alloc _) hd)
        have HFt2 : Hid (OwnI wt2 wd0.heap.size B N d f) := Lib.hid (OwnC.kept (OwnC.below HFt1.out (bl_alloc (Below.refl _ _) _)) hd.2 (.inr (fun e => by have := HFt1.out.row_ge b e; omega)))
        clear hd hi2 HT1 HFt1
        go_wp2_with fail
        refine (l01Pick_any _ A n c ys b wt2.heap.size 5 [1, 2, 8, 9, 0] _ (HT2.out.alloc _).1 (by omega) (by omega) (by simp) (by have := HT2.out.1.lt; omega) (fun j hj => by rcases j with _ | _ | _ | _ | _ | j <;> first | (simp; done) | omega)).mono ?_
        rintro e wt3 ⟨i3, hi3, rfl, hd⟩
        generalize ([1, 2, 8, 9, 0] : List Int).getD i3 0 = run
        have HT3 := Lib.hid (Drew.trans (HT2.out.alloc _) hd)
        have HFt3 : Hid (OwnI wt3 wd0.heap.size B N d f) := Lib.hid (OwnC.kept (OwnC.below HFt2.out (bl_alloc (Below.refl _ _) _)) hd.2 (.inr (fun e => by have := HFt2.out.row_ge b e; omega)))
        clear hd hi3 HT2 HFt2
        go_wp2
        exact bodyPost_ret (v := .tuple #[.int .i64 p, .slice B N d, .int .i64 rise, .int .i64 run]) (by simp [results, Try.results59, go_sem]) rfl ⟨p, B, N, d, f, rise, run, rfl, OwnI.rd HFt3.out, HT3.out.1.bel⟩
    · have hMi : decide ((0 : Int) < (M : Int)) = false := by simp; omega
      go_wp2_with fail
      refine (l01Next_any _ A n c ys b 9 _ HD2.out.1).mono ?_
      rintro e wt1 ⟨a, rfl, hx1, hx2, hd⟩
      have ⟨al, au⟩ := hx2 (by omega)
      have HT1 := Lib.hid (Drew.trans HD2.out hd)
      have HFt1 : Hid (OwnI wt1 wd0.heap.size B N d f) := Lib.hid (OwnC.kept HF2.out hd.2 (.inr (fun e => by have := HF2.out.row_ge b e; omega)))
      clear hx1 hx2 hd HD2 HF2
      go_wp2_with fail
      refine (l01Pick_any _ A n c ys b wt1.heap.size 4 [0, a - 4, 60, 61] _ (HT1.out.alloc _).1 (by omega) (by omega) (by simp) (by have := HT1.out.1.lt; omega) (fun j hj => by rcases j with _ | _ | _ | _ | j <;> first | (simp; done) | omega)).mono ?_
      rintro e wt2 ⟨i2, hi2, rfl, hd⟩
      generalize ([0, a - 4, 60, 61] : List Int).getD i2 0 = rise
      have HT2 := Lib.hid (Drew.trans (HT1.out.alloc _) hd)
      have HFt2 : Hid (OwnI wt2 wd0.heap.size B N d f) := Lib.hid (OwnC.kept (OwnC.below HFt1.out (bl_alloc (Below.refl _ _) _)) hd.2 (.inr (fun e => by have := HFt1.out.row_ge b e; omega)))
      clear hd hi2 HT1 HFt1
      go_wp2_with fail
      refine (l01Pick_any _ A n c ys b wt2.heap.size 5 [1, 2, 8, 9, 0] _ (HT2.out.alloc _).1 (by omega) (by omega) (by simp) (by have := HT2.out.1.lt; omega) (fun j hj => by rcases j with _ | _ | _ | _ | _ | j <;> first | (simp; done) | omega)).mono ?_
      rintro e wt3 ⟨i3, hi3, rfl, hd⟩
      generalize ([1, 2, 8, 9, 0] : List Int).getD i3 0 = run
      have HT3 := Lib.hid (Drew.trans (HT2.out.alloc _) hd)
      have HFt3 : Hid (OwnI wt3 wd0.heap.size B N d f) := Lib.hid (OwnC.kept (OwnC.below HFt2.out (bl_alloc (Below.refl _ _) _)) hd.2 (.inr (fun e => by have := HFt2.out.row_ge b e; omega)))
      clear hd hi3 HT2 HFt2
      go_wp2
      exact bodyPost_ret (v := .tuple #[.int .i64 p, .slice B N d, .int .i64 rise, .int .i64 run]) (by simp [results, Try.results59, go_sem]) rfl ⟨p, B, N, d, f, rise, run, rfl, OwnI.rd HFt3.out, HT3.out.1.bel⟩
  · have hkb : (k == 0) = false := by simpa using hk
    clear hk
    go_wp2_with fail
    refine (l01Next_any _ A n c ys b 9 _ HD2.out.1).mono ?_
    rintro e wt1 ⟨a, rfl, hx1, hx2, hd⟩
    have ⟨al, au⟩ := hx2 (by omega)
    have HT1 := Lib.hid (Drew.trans HD2.out hd)
    have HFt1 : Hid (OwnI wt1 wd0.heap.size B N d f) := Lib.hid (OwnC.kept HF2.out hd.2 (.inr (fun e => by have := HF2.out.row_ge b e; omega)))
    clear hx1 hx2 hd HD2 HF2
    go_wp2_with fail
    refine (l01Pick_any _ A n c ys b wt1.heap.size 4 [0, a - 4, 60, 61] _ (HT1.out.alloc _).1 (by omega) (by omega) (by simp) (by have := HT1.out.1.lt; omega) (fun j hj => by rcases j with _ | _ | _ | _ | j <;> first | (simp; done) | omega)).mono ?_
    rintro e wt2 ⟨i2, hi2, rfl, hd⟩
    generalize ([0, a - 4, 60, 61] : List Int).getD i2 0 = rise
    have HT2 := Lib.hid (Drew.trans (HT1.out.alloc _) hd)
    have HFt2 : Hid (OwnI wt2 wd0.heap.size B N d f) := Lib.hid (OwnC.kept (OwnC.below HFt1.out (bl_alloc (Below.refl _ _) _)) hd.2 (.inr (fun e => by have := HFt1.out.row_ge b e; omega)))
    clear hd hi2 HT1 HFt1
    go_wp2_with fail
    refine (l01Pick_any _ A n c ys b wt2.heap.size 5 [1, 2, 8, 9, 0] _ (HT2.out.alloc _).1 (by omega) (by omega) (by simp) (by have := HT2.out.1.lt; omega) (fun j hj => by rcases j with _ | _ | _ | _ | _ | j <;> first | (simp; done) | omega)).mono ?_
    rintro e wt3 ⟨i3, hi3, rfl, hd⟩
    generalize ([1, 2, 8, 9, 0] : List Int).getD i3 0 = run
    have HT3 := Lib.hid (Drew.trans (HT2.out.alloc _) hd)
    have HFt3 : Hid (OwnI wt3 wd0.heap.size B N d f) := Lib.hid (OwnC.kept (OwnC.below HFt2.out (bl_alloc (Below.refl _ _) _)) hd.2 (.inr (fun e => by have := HFt2.out.row_ge b e; omega)))
    clear hd hi3 HT2 HFt2
    go_wp2
    exact bodyPost_ret (v := .tuple #[.int .i64 p, .slice B N d, .int .i64 rise, .int .i64 run]) (by simp [results, Try.results59, go_sem]) rfl ⟨p, B, N, d, f, rise, run, rfl, OwnI.rd HFt3.out, HT3.out.1.bel⟩
end Go.Proofs.Ythdmanngjnfamaa
