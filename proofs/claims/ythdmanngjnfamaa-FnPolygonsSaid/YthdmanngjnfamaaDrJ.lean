
/- Lists of slopes drawn. -/
import Derived.Test.YthdmanngjnfamaaDrS
import Derived.Test.YthdmanngjnfamaaSlo
import Derived.Test.YthdmanngjnfamaaCws
namespace Go.Proofs.Ythdmanngjnfamaa
open Go.RowKit Go.Joins

theorem sp235 {p : Int} (h : p = 2 ∨ p = 3 ∨ p = 5) : SP p := by
  refine ⟨by omega, by omega, fun d h1 h2 => ?_⟩
  have h3 : d < 3 := by
    rcases Int.lt_or_le d 3 with h | h
    · exact h
    · have : 3 * 3 ≤ d * d := Int.mul_le_mul h h (by omega) (by omega)
      omega
  obtain rfl : d = 2 := by omega
  omega
theorem coB_pok {f : List Int} {N : Nat} (h : CoB f N) (hN : N ≤ 9) (h0 : ¬ f.getD (N - 1) 0 = 0) : POk f :=
  ⟨by rw [h.1]; exact hN, fun i hi => h.2 i (by rw [← h.1]; exact hi), fun _ => by rw [h.1]; exact h0⟩
set_option maxRecDepth 100000 in
set_option maxHeartbeats 3200000 in
theorem drawJoin_any (A : Option Addr) (n c : Nat) (ys : List Int) (w : World) (hr : Rd .u8 w A n c ys) (hb : Bys ys) :
    Calls Try.prog 47 #[.slice A n c] w fun e w' => ∃ (B : Option Addr) (N d : Nat) (zs : List Int) (B' : Option Addr) (N' d' : Nat) (vs : List Int), e = .returned (.tuple #[.slice B N d, .slice B' N' d']) ∧ RdC 3 w' B N d (zs.map (Value.int .i64)) ∧ RdC 3 w' B' N' d' (vs.map (Value.int .i64)) ∧ Below w.heap.size w w' := by
  have HR := Lib.hid hr
  have HBy := Lib.hid hb
  clear hr hb
  go_enter Try.func47, Try.ntmps47
  go_wp2_with fail
  refine (l01From_any A n c ys w HR.out HBy.out).mono ?_
  rintro e wd0 ⟨b, rfl, hs⟩
  have HS := Lib.hid hs
  clear hs
  have hb0 := HS.out.lt
  have hlo := HS.out.lo
  go_wp2_with fail
  refine (l01Pick_any _ A n c ys b wd0.heap.size 3 [2, 3, 5] _ (HS.out.alloc _) (by omega) (by omega) (by simp) (by omega) (fun j hj => by rcases j with _ | _ | _ | j <;> first | (simp; done) | omega)).mono ?_
  rintro e wd1 ⟨i1, hi1, rfl, hd1⟩
  have HD1 := Lib.hid (Drew.trans (HS.out.drew0.alloc _) hd1)
  obtain ⟨p, hp⟩ : ∃ y, y = ([2, 3, 5] : List Int).getD i1 0 := ⟨_, rfl⟩
  have hp3 : p = 2 ∨ p = 3 ∨ p = 5 := by
    rw [hp]; rcases i1 with _ | _ | _ | j <;> first | (simp; done) | omega
  rw [← hp]
  have HP := Lib.hid (sp235 hp3)
  have hp1 : 2 ≤ p := by omega
  have hp2 : p ≤ 97 := by omega
  clear hp hi1 hd1 hp3
  go_wp2_with fail
  refine (l01Next_any _ A n c ys b 6 _ HD1.out.1).mono ?_
  rintro e wAa ⟨x2, rfl, hx1, hx2, hd⟩
  have ⟨a2, b2⟩ := hx2 (by omega)
  have HDa2 := Lib.hid (Drew.trans HD1.out hd)
  clear hx1 hx2 hd HD1
  go_wp2_with fail
  refine (l13Valid_any _ A n c ys b p x2 _ HDa2.out.1 hp1 hp2 a2 (by omega)).mono ?_
  rintro e wAb ⟨B2, N2, d2, f2, rfl, ho, hN, hcb, hne, hd⟩
  have HDb2 := Lib.hid (Drew.trans HDa2.out hd)
  have HO2 := Lib.hid (OwnI.rd ho)
  have HX2 := Lib.hid (coB_pok hcb (by omega) hne)
  have H02 : Hid (0 < f2.length) := Lib.hid (by rw [hcb.1]; omega)
  obtain ⟨M2, hM2⟩ : ∃ M, M = (plL p f2).length - 1 := ⟨_, rfl⟩
  have HM2 := Lib.hid hM2
  clear ho hN hcb hne hd HDa2 hM2
  go_wp2_with fail
  refine (l13Slopes_at _ HM2.out HO2.out HP.out HX2.out H02.out).mono ?_
  rintro e wAc ⟨A2, c2, rfl, ho, hb⟩
  have HD2 := Lib.hid (HDb2.out.below hb)
  have HS2 := Lib.hid ho
  have hge2 : wAb.heap.size ≤ wAc.heap.size := hb.size
  have hw2 := HDb2.out.2.size
  clear ho hb HDb2 HO2
  have hb2 := hw2
  go_wp2_with fail
  refine (l01Next_any _ A n c ys b 6 _ HD2.out.1).mono ?_
  rintro e wBa ⟨x3, rfl, hx1, hx2, hd⟩
  have ⟨a3, b3⟩ := hx2 (by omega)
  have HDa3 := Lib.hid (Drew.trans HD2.out hd)
  have HSa := Lib.hid (OwnC.kept HS2.out hd.2 (.inr (fun e => by have := HS2.out.row_ge b e; omega)))
  clear hx1 hx2 hd HD2
  go_wp2_with fail
  refine (l13Valid_any _ A n c ys b p x3 _ HDa3.out.1 hp1 hp2 a3 (by omega)).mono ?_
  rintro e wBb ⟨B3, N3, d3, f3, rfl, ho, hN, hcb, hne, hd⟩
  have HDb3 := Lib.hid (Drew.trans HDa3.out hd)
  have HSb := Lib.hid (OwnC.kept HSa.out hd.2 (.inr (fun e => by have := HSa.out.row_ge b e; omega)))
  have HO3 := Lib.hid (OwnI.rd ho)
  have HX3 := Lib.hid (coB_pok hcb (by omega) hne)
  have H03 : Hid (0 < f3.length) := Lib.hid (by rw [hcb.1]; omega)
  obtain ⟨M3, hM3⟩ : ∃ M, M = (plL p f3).length - 1 := ⟨_, rfl⟩
  have HM3 := Lib.hid hM3
  clear ho hN hcb hne hd HDa3 hM3
  go_wp2_with fail
  refine (l13Slopes_at _ HM3.out HO3.out HP.out HX3.out H03.out).mono ?_
  rintro e wBc ⟨A3, c3, rfl, ho, hb⟩
  have HD3 := Lib.hid (HDb3.out.below hb)
  have HSc := Lib.hid (HSb.out.below hb)
  have HS3 := Lib.hid ho
  have hge3 : wBb.heap.size ≤ wBc.heap.size := hb.size
  have hw3 := HDb3.out.2.size
  clear ho hb HDb3 HO3
  have HRb := Lib.hid HS3.out.rd
  obtain ⟨zs, hzs⟩ : ∃ z, z = soL p f2 := ⟨_, rfl⟩
  obtain ⟨vs, hvs⟩ : ∃ z, z = soL p f3 := ⟨_, rfl⟩
  rw [← hzs] at HSc
  rw [← hvs] at HRb HS3
  clear hzs hvs HS2 HSa
  have hlen : M2 ≤ 9223372036854775807 := by have h1 := HSc.out.2.1; have h2 := HSc.out.2.2.1; unfold maxLen at h2; omega
  have HGB : Hid (∀ k, rowOf A2 M2 = some k → k < wBb.heap.size) := Lib.hid (fun k hk => (HSb.out.row_ge k hk).2)
  by_cases hM0 : 0 < M2
  · have hMd : decide (0 < (M2 : Int)) = true := by simp; omega
    have hMi : (0 : Int) < (M2 : Int) := by omega
    obtain ⟨g, rfl, hg1, hg2⟩ := HSc.out.form hM0
    have hg3 : g < wBb.heap.size := HGB.out g (by unfold rowOf; rw [if_neg (by omega)]; rfl)
    clear HGB HSb
    go_wp2_with fail
    refine (l01Next_any _ A n c ys b 16 _ HD3.out.1).mono ?_
    rintro e w4 ⟨z, rfl, hx1, hx2, hd⟩
    have HD4 := Lib.hid (Drew.trans HD3.out hd)
    have HSd := Lib.hid (OwnC.kept HSc.out hd.2 (.inr (fun e => by have := HSc.out.row_ge b e; omega)))
    have HTd := Lib.hid (OwnC.kept HS3.out hd.2 (.inr (fun e => by have := HS3.out.row_ge b e; omega)))
    have hs4 := hd.2.size
    clear hx1 hx2 hd
    by_cases hz0 : z = 0
    · have hzb : (z == 0) = true := by simpa using hz0
      clear hz0
      go_wp2_with fail
      refine (l01Pick_any _ A n c ys b w4.heap.size 3 [0, 8, 9] _ (HD4.out.alloc _).1 (by omega) (by omega) (by simp) (by omega) (fun j hj => by rcases j with _ | _ | _ | j <;> first | (simp; done) | omega)).mono ?_
      rintro e w5 ⟨j5, hj, rfl, hd⟩
      generalize ([0, 8, 9] : List Int).getD j5 0 = q
      have HD5 := Lib.hid (Drew.trans (HD4.out.alloc _) hd)
      have HSe := Lib.hid (OwnC.kept (OwnC.below HSd.out (bl_alloc (Below.refl _ _) _)) hd.2 (.inr (fun e => by have := HSd.out.row_ge b e; omega)))
      have HTe := Lib.hid (OwnC.kept (OwnC.below HTd.out (bl_alloc (Below.refl _ _) _)) hd.2 (.inr (fun e => by have := HTd.out.row_ge b e; omega)))
      clear hd hj
      have ⟨k1, k2⟩ := HSe.out.atF (j := 2) (by omega)
      have hSt := HSe.out.setF hM0 2 q
      have hsep : ∀ k, rowOf A3 M3 = some k → k ≠ g := fun k hk => by have := HTe.out.row_ge k hk; omega
      have HSf := Lib.hid hSt.1.rd
      have HTf := Lib.hid (OwnC.kept HTe.out hSt.2 (by cases e : rowOf A3 M3 with
        | none => exact .inl rfl
        | some k => exact .inr (fun h => hsep k e (by injection h)))).rd
      have HBf : Hid (Below w.heap.size w (w5.setCell ⟨g, 2, none⟩ (.int .i64 q))) := Lib.hid (bl_set HD5.out.1.bel _ _ (by omega) _)
      clear hSt hsep
      go_wp2
      go_ret2
      exact ⟨_, _, _, _, _, _, _, _, rfl, HSf.out, HTf.out, HBf.out⟩
    · have hzb : (z == 0) = false := by simpa using hz0
      clear hz0
      by_cases hz1 : z = 1
      · have hzc : (z == 1) = true := by simpa using hz1
        clear hz1
        go_wp2_with fail
        refine (l01Pick_any _ A n c ys b w4.heap.size 3 [0, 2, 9] _ (HD4.out.alloc _).1 (by omega) (by omega) (by simp) (by omega) (fun j hj => by rcases j with _ | _ | _ | j <;> first | (simp; done) | omega)).mono ?_
        rintro e w5 ⟨j5, hj, rfl, hd⟩
        generalize ([0, 2, 9] : List Int).getD j5 0 = q
        have HD5 := Lib.hid (Drew.trans (HD4.out.alloc _) hd)
        have HSe := Lib.hid (OwnC.kept (OwnC.below HSd.out (bl_alloc (Below.refl _ _) _)) hd.2 (.inr (fun e => by have := HSd.out.row_ge b e; omega)))
        have HTe := Lib.hid (OwnC.kept (OwnC.below HTd.out (bl_alloc (Below.refl _ _) _)) hd.2 (.inr (fun e => by have := HTd.out.row_ge b e; omega)))
        clear hd hj
        have ⟨k1, k2⟩ := HSe.out.atF (j := 1) (by omega)
        have hSt := HSe.out.setF hM0 1 q
        have hsep : ∀ k, rowOf A3 M3 = some k → k ≠ g := fun k hk => by have := HTe.out.row_ge k hk; omega
        have HSf := Lib.hid hSt.1.rd
        have HTf := Lib.hid (OwnC.kept HTe.out hSt.2 (by cases e : rowOf A3 M3 with
          | none => exact .inl rfl
          | some k => exact .inr (fun h => hsep k e (by injection h)))).rd
        have HBf : Hid (Below w.heap.size w (w5.setCell ⟨g, 1, none⟩ (.int .i64 q))) := Lib.hid (bl_set HD5.out.1.bel _ _ (by omega) _)
        clear hSt hsep
        go_wp2
        go_ret2
        exact ⟨_, _, _, _, _, _, _, _, rfl, HSf.out, HTf.out, HBf.out⟩
      · have hzc : (z == 1) = false := by simpa using hz1
        clear hz1
        by_cases hz2 : z = 2
        · have hzd : (z == 2) = true := by simpa using hz2
          clear hz2
          go_wp2_with fail
          refine (l01Pick_any _ A n c ys b w4.heap.size 3 [61, -61, -60] _ (HD4.out.alloc _).1 (by omega) (by omega) (by simp) (by omega) (fun j hj => by rcases j with _ | _ | _ | j <;> first | (simp; done) | omega)).mono ?_
          rintro e w5 ⟨j5, hj, rfl, hd⟩
          generalize ([61, -61, -60] : List Int).getD j5 0 = q
          have HD5 := Lib.hid (Drew.trans (HD4.out.alloc _) hd)
          have HSe := Lib.hid (OwnC.kept (OwnC.below HSd.out (bl_alloc (Below.refl _ _) _)) hd.2 (.inr (fun e => by have := HSd.out.row_ge b e; omega)))
          have HTe := Lib.hid (OwnC.kept (OwnC.below HTd.out (bl_alloc (Below.refl _ _) _)) hd.2 (.inr (fun e => by have := HTd.out.row_ge b e; omega)))
          clear hd hj
          have ⟨k1, k2⟩ := HSe.out.atF (j := 0) (by omega)
          have hSt := HSe.out.setF hM0 0 q
          have hsep : ∀ k, rowOf A3 M3 = some k → k ≠ g := fun k hk => by have := HTe.out.row_ge k hk; omega
          have HSf := Lib.hid hSt.1.rd
          have HTf := Lib.hid (OwnC.kept HTe.out hSt.2 (by cases e : rowOf A3 M3 with
            | none => exact .inl rfl
            | some k => exact .inr (fun h => hsep k e (by injection h)))).rd
          have HBf : Hid (Below w.heap.size w (w5.setCell ⟨g, 0, none⟩ (.int .i64 q))) := Lib.hid (bl_set HD5.out.1.bel _ _ (by omega) _)
          clear hSt hsep
          go_wp2
          go_ret2
          exact ⟨_, _, _, _, _, _, _, _, rfl, HSf.out, HTf.out, HBf.out⟩
        · have hzd : (z == 2) = false := by simpa using hz2
          clear hz2
          have HSf := Lib.hid HSd.out.rd
          have HTf := Lib.hid HTd.out.rd
          go_wp2
          go_ret2
          exact ⟨_, _, _, _, _, _, _, _, rfl, HSf.out, HTf.out, HD4.out.1.bel⟩
  · have hMd : decide (0 < (M2 : Int)) = false := by simp; omega
    have HSf := Lib.hid HSc.out.rd
    go_wp2
    go_ret2
    exact ⟨_, _, _, _, _, _, _, _, rfl, HSf.out, HRb.out, HD3.out.1.bel⟩
end Go.Proofs.Ythdmanngjnfamaa
