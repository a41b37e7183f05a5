
/- Primes and polynomials drawn for the laws of polygons. -/
import Derived.Test.YthdmanngjnfamaaDrPr
import Derived.Test.YthdmanngjnfamaaDrP
import Derived.Test.YthdmanngjnfamaaSmallP
import Derived.Test.YthdmanngjnfamaaGcd
namespace Go.Proofs.Ythdmanngjnfamaa
open Go.RowKit Go.Joins

set_option maxHeartbeats 1600000 in
theorem l08DrawPrime_any (W : World) (A : Option Addr) (n c : Nat) (ys : List Int) (b : Nat) (w : World) (h : Sr W A n c ys b w) :
    Calls Try.prog 141 #[.pointer (some ⟨b, 0, none⟩)] w fun e w' => ∃ x, e = .returned (.int .i64 x) ∧ -3 ≤ x ∧ x ≤ 101 ∧ Drew W A n c ys b w w' := by
  have H := Lib.hid h
  clear h
  go_enter Try.func141, Try.ntmps141
  go_wp2_with fail
  refine (l01Next_any _ A n c ys b 30 _ H.out).mono ?_
  rintro e wd1 ⟨x1, rfl, hx1, hx2, hd1⟩
  have ⟨x1l, x1u⟩ := hx2 (by omega)
  have HD1 := Lib.hid hd1
  clear hx1 hx2 hd1
  by_cases hz : x1 = 0
  · have hzb : (x1 == 0) = true := by simpa using hz
    clear hz
    go_wp2_with fail
    refine (l01DrawPrime_any _ A n c ys b _ HD1.out.1).mono ?_
    rintro e wd2 ⟨y, rfl, yl, yu, hd2⟩
    have HD2 := Lib.hid (Drew.trans (HD1.out) hd2)
    clear hd2
    go_wp2
    go_ret
    exact ⟨y, rfl, yl, yu, HD2.out⟩
  · have hzb : (x1 == 0) = false := by simpa using hz
    clear hz
    go_wp2_with fail
    refine (l01Pick_any _ A n c ys b wd1.heap.size 7 [2, 3, 5, 7, 2, 3, 13] _ (HD1.out.alloc _).1 (by omega) (by omega) (by simp) (by have := HD1.out.1.lt; omega) (fun j hj => by rcases j with _ | _ | _ | _ | _ | _ | _ | j <;> first | (simp; done) | omega)).mono ?_
    rintro e wd2 ⟨i2, hi2, rfl, hd2⟩
    have HD2 := Lib.hid (Drew.trans (HD1.out.alloc _) hd2)
    obtain ⟨y, hy2⟩ : ∃ y, y = ([2, 3, 5, 7, 2, 3, 13] : List Int).getD i2 0 := ⟨_, rfl⟩
    have ⟨yl, yu⟩ : -3 ≤ y ∧ y ≤ 101 := by
      rw [hy2]; rcases i2 with _ | _ | _ | _ | _ | _ | _ | j <;> first | (simp; omega) | (simp; done) | omega
    rw [← hy2]
    clear hy2 hi2 hd2
    go_wp2
    go_ret
    exact ⟨y, rfl, yl, yu, HD2.out⟩
theorem own_below {w w' : World} {lo : Nat} {e : TypeId} {sz : Nat} {v : Value} {n : Nat} {cs : List Value} (ho : w.ownsRow lo e sz v n cs) (hb : Below w.heap.size w w') : w'.ownsRow lo e sz v n cs :=
  ho.kept (grown_of_below (r := none) hb) (by cases v.ownBlock <;> simp)
theorem np_bd {x p : Int} (x1 : -10000 ≤ x) (x2 : x ≤ 10000) (p1 : 2 ≤ p) (p2 : p ≤ 97) : -970000 ≤ x * p ∧ x * p ≤ 970000 := by
  have h : (x * p).natAbs ≤ 10000 * 97 := by
    rw [Int.natAbs_mul]
    exact Nat.mul_le_mul (by omega) (by omega)
  generalize x * p = z at *
  omega
set_option maxRecDepth 100000 in
set_option maxHeartbeats 3200000 in
theorem l13Valid_any (W : World) (A : Option Addr) (n c : Nat) (ys : List Int) (b : Nat) (p dg : Int) (w : World) (h : Sr W A n c ys b w) (p1 : 2 ≤ p) (p2 : p ≤ 97) (h0 : 0 ≤ dg) (h9 : dg ≤ 8) :
    Calls Try.prog 112 #[.pointer (some ⟨b, 0, none⟩), .int .i64 p, .int .i64 dg] w fun e w' => ∃ (B : Option Addr) (N d : Nat) (f : List Int), e = .returned (.slice B N d) ∧ OwnI w' w.heap.size B N d f ∧ (N : Int) = dg + 1 ∧ CoB f N ∧ ¬ f.getD (N - 1) 0 = 0 ∧ Drew W A n c ys b w w' := by
  obtain ⟨i0, hi, hz0, hz1, hz2⟩ := info_parts infoI64
  have HI := Lib.hid hi
  have HZ0 := Lib.hid hz0
  have HZ1 := Lib.hid hz1
  have HZ2 := Lib.hid hz2
  clear hi hz0 hz1 hz2
  obtain ⟨m, rfl⟩ : ∃ m : Nat, dg = (m : Int) := ⟨dg.toNat, by omega⟩
  have hm9 : m ≤ 8 := by omega
  have hlt := h.lt
  have hWw := h.bel.size
  have H := Lib.hid h
  clear h h0 h9
  go_enter Try.func112, Try.ntmps112
  go_wp2_with fail
  go_loopg [7, 8] m (fun g v i wr => ∃ (k : Nat) (f : List Int), g = m - k ∧ k ≤ m ∧ i = .int .i64 k ∧ Hid (CoB f k) ∧ Hid (wr.ownsRow w.heap.size 2 1 v k (f.map (Value.int .i64))) ∧ Hid (Drew W A n c ys b w wr))
  case atStart => exact ⟨0, [], by omega, Nat.zero_le _, rfl, Lib.hid ⟨rfl, fun i hi => by omega⟩, Lib.hid (emptyRow w _ 1), Lib.hid (H.out.drew0.alloc _)⟩
  case round =>
    obtain ⟨k, f, rfl, hk, rfl, HF, HO, HD⟩ := hrel
    obtain ⟨wo, rfl⟩ : ∃ wo : World, wo = wr := ⟨_, rfl⟩
    have hl1 : k + 1 ≤ maxLen := by unfold maxLen; omega
    have hl2 : (k + 1) * 8 ≤ 140737488355328 := by omega
    have hs0 := HD.out.2.size
    by_cases hltk : k < m
    · go_wp2_with fail
      refine (l01Pick_any _ A n c ys b wo.heap.size 6 [0, 1, 1, 2, -1, 3] _ (HD.out.alloc _).1 (by omega) (by omega) (by simp) (by omega) (fun j hj => by rcases j with _ | _ | _ | _ | _ | _ | j <;> first | (simp; done) | omega)).mono ?_
      rintro e w1 ⟨j1, hj, rfl, hd1⟩
      have HD1 := Lib.hid (Drew.trans (HD.out.alloc _) hd1)
      have HO1 := Lib.hid (own_drawn (HO.out.alloc _) hd1.2 hlt)
      obtain ⟨q, hq⟩ : ∃ y, y = ([0, 1, 1, 2, -1, 3] : List Int).getD j1 0 := ⟨_, rfl⟩
      have ⟨q1, q2⟩ : -10000 ≤ q ∧ q ≤ 10000 := by
        rw [hq]; rcases j1 with _ | _ | _ | _ | _ | _ | j <;> first | (simp; omega) | (simp; done) | omega
      rw [← hq]
      clear hd1 hq hj HD HO
      go_wp2_with fail
      refine (l01Next_any _ A n c ys b 5 _ HD1.out.1).mono ?_
      rintro e w2 ⟨x2, rfl, hx1, hx2, hd2⟩
      have ⟨a2, b2⟩ := hx2 (by omega)
      have HD2 := Lib.hid (Drew.trans HD1.out hd2)
      have HO2 := Lib.hid (own_drawn HO1.out hd2.2 hlt)
      clear hx1 hx2 hd2 HD1 HO1
      obtain ⟨m2, rfl⟩ : ∃ m2 : Nat, x2 = (m2 : Int) := ⟨x2.toNat, by omega⟩
      have hm2 : m2 ≤ 4 := by omega
      clear a2 b2
      go_wp2_with fail
      go_loopg [9, 10] m2 (fun g x y wr => ∃ (z : Int), g ≤ m2 ∧ y = .int .i64 g ∧ x = .int .i64 z ∧ -10000 ≤ z ∧ z ≤ 10000 ∧ Hid (Below w2.heap.size w2 wr))
      case atStart => exact ⟨q, Nat.le_refl _, rfl, rfl, q1, q2, Lib.hid (Below.refl _ _)⟩
      case round =>
        obtain ⟨z, hj, rfl, rfl, z1, z2, HB⟩ := hrel
        have ⟨zp1, zp2⟩ := np_bd z1 z2 p1 p2
        obtain ⟨t, ht⟩ : ∃ t, t = z * p := ⟨_, rfl⟩
        rw [← ht] at zp1 zp2
        have ht2 := ht.symm
        clear ht
        have HD3 := Lib.hid (HD2.out.below HB.out)
        have HO3 : Hid (wr.ownsRow w.heap.size 2 1 _ k (f.map (Value.int .i64))) := Lib.hid (own_below HO2.out HB.out)
        by_cases hj0 : 0 < gk
        · by_cases hle : (t.natAbs : Int) ≤ 10000
          · go_wp2_with (go_at_call 136; refine (l01Abs_any _ (by omega) (by omega) _).mono ?_; rintro e w' ⟨rfl, rfl⟩)
            go_roundg (gk - 1)
            case measure => omega
            case rel => exact ⟨t, by omega, by go_num, rfl, by omega, by omega, HB⟩
          · go_wp2_with (first | (go_at_call 136; refine (l01Abs_any _ (by omega) (by omega) _).mono ?_; rintro e w' ⟨rfl, rfl⟩) | (at_builtin; refine wpList_append_own _ rfl _ _ _ rfl w.heap.size 2 i0 (.int .i64 0) 1 8 Try.underlying22 HI.out HZ0.out HZ1.out HZ2.out rfl (by decide) _ k (f.map (Value.int .i64)) rfl (HO3.out.alloc _) ⟨wr.heap.size, 0, none⟩ 1 1 [.int .i64 z] rfl rfl (cell_one_new _ _ _) (ints_one [z]) hl1 hl2 (by have := HD3.out.2.size; simp; omega) ?_; intro v' w5 hown' hgrow _))
            have HO5 : Hid (w5.ownsRow w.heap.size 2 1 v' (k + 1) ((f ++ [z]).map (Value.int .i64))) := Lib.hid (by rw [List.map_append]; exact hown')
            have HD5 : Hid (Drew W A n c ys b w w5) := Lib.hid (Drew.far (HD3.out.alloc _) hgrow (fun k hk => by have := HO3.out.lt k hk; omega) hWw)
            have HF5 := Lib.hid (HF.out.snoc (show -1000000 ≤ z by omega) (show z ≤ 1000000 by omega))
            clear hown' hgrow hl1 hl2
            go_wp2
            go_roundg (m - (k + 1))
            case measure => omega
            case rel => exact ⟨k + 1, _, rfl, by omega, by go_num, HF5, HO5, HD5⟩
        · go_wp2_with ((at_builtin; refine wpList_append_own _ rfl _ _ _ rfl w.heap.size 2 i0 (.int .i64 0) 1 8 Try.underlying22 HI.out HZ0.out HZ1.out HZ2.out rfl (by decide) _ k (f.map (Value.int .i64)) rfl (HO3.out.alloc _) ⟨wr.heap.size, 0, none⟩ 1 1 [.int .i64 z] rfl rfl (cell_one_new _ _ _) (ints_one [z]) hl1 hl2 (by have := HD3.out.2.size; simp; omega) ?_; intro v' w5 hown' hgrow _))
          have HO5 : Hid (w5.ownsRow w.heap.size 2 1 v' (k + 1) ((f ++ [z]).map (Value.int .i64))) := Lib.hid (by rw [List.map_append]; exact hown')
          have HD5 : Hid (Drew W A n c ys b w w5) := Lib.hid (Drew.far (HD3.out.alloc _) hgrow (fun k hk => by have := HO3.out.lt k hk; omega) hWw)
          have HF5 := Lib.hid (HF.out.snoc (show -1000000 ≤ z by omega) (show z ≤ 1000000 by omega))
          clear hown' hgrow hl1 hl2
          go_wp2
          go_roundg (m - (k + 1))
          case measure => omega
          case rel => exact ⟨k + 1, _, rfl, by omega, by go_num, HF5, HO5, HD5⟩
    · obtain rfl : k = m := by omega
      go_wp2_with fail
      refine (l01Pick_any _ A n c ys b wo.heap.size 5 [1, 1, 1, p, 2] _ (HD.out.alloc _).1 (by omega) (by omega) (by simp) (by omega) (fun j hj => by rcases j with _ | _ | _ | _ | _ | j <;> first | (simp; done) | omega)).mono ?_
      rintro e w4 ⟨j4, hj, rfl, hd4⟩
      have HD4 := Lib.hid (Drew.trans (HD.out.alloc _) hd4)
      have HO4 := Lib.hid (own_drawn (HO.out.alloc _) hd4.2 hlt)
      obtain ⟨q, hq⟩ : ∃ y, y = ([1, 1, 1, p, 2] : List Int).getD j4 0 := ⟨_, rfl⟩
      have ⟨q1, q2, q3⟩ : -1000000 ≤ q ∧ q ≤ 1000000 ∧ ¬ q = 0 := by
        rw [hq]; rcases j4 with _ | _ | _ | _ | _ | j <;> first | (simp; omega) | (simp; done) | omega
      rw [← hq]
      clear hd4 hq hj HD HO
      have hs4 := HD4.out.2.size
      go_wp2_with (at_builtin; refine wpList_append_own _ rfl _ _ _ rfl w.heap.size 2 i0 (.int .i64 0) 1 8 Try.underlying22 HI.out HZ0.out HZ1.out HZ2.out rfl (by decide) _ k (f.map (Value.int .i64)) rfl (HO4.out.alloc _) ⟨w4.heap.size, 0, none⟩ 1 1 [.int .i64 q] rfl rfl (cell_one_new _ _ _) (ints_one [q]) hl1 hl2 (by simp; omega) ?_; intro v' w5 hown' hgrow _)
      have HO5 : Hid (w5.ownsRow w.heap.size 2 1 v' (k + 1) ((f ++ [q]).map (Value.int .i64))) := Lib.hid (by rw [List.map_append]; exact hown')
      have HD5 : Hid (Drew W A n c ys b w w5) := Lib.hid (Drew.far (HD4.out.alloc _) hgrow (fun k hk => by have := HO4.out.lt k hk; omega) hWw)
      have HF5 := Lib.hid (HF.out.snoc q1 q2)
      have HP : Hid (¬ (f ++ [q]).getD (k + 1 - 1) 0 = 0) := Lib.hid (by
        have := last_snoc f q
        rw [HF.out.1] at this
        rw [Nat.add_sub_cancel, this]; exact q3)
      clear hown' hgrow hl1 hl2 q3
      obtain ⟨A5, c5, rfl, _⟩ := own_cells HO5.out
      go_wp2
      go_ret
      exact ⟨A5, k + 1, c5, _, rfl, OwnI.of_row HO5.out, by omega, HF5.out, HP.out, HD5.out⟩
set_option maxHeartbeats 1600000 in
theorem l13Draw_any (W : World) (A : Option Addr) (n c : Nat) (ys : List Int) (b : Nat) (w : World) (h : Sr W A n c ys b w) :
    Calls Try.prog 107 #[.pointer (some ⟨b, 0, none⟩)] w fun e w' => ∃ (p : Int) (B : Option Addr) (N d : Nat) (f : List Int), e = .returned (.tuple #[.int .i64 p, .slice B N d]) ∧ OwnI w' w.heap.size B N d f ∧ N ≤ 11 ∧ Drew W A n c ys b w w' := by
  have hlt := h.lt
  have H := Lib.hid h
  clear h
  go_enter Try.func107, Try.ntmps107
  go_wp2_with fail
  refine (l08DrawPrime_any _ A n c ys b _ H.out).mono ?_
  rintro e w1 ⟨p, rfl, p1, p2, hd1⟩
  have HD1 := Lib.hid hd1
  have hs1 := hd1.2.size
  clear hd1
  by_cases hp : SP p
  · have HP := Lib.hid hp
    have hp1 : 2 ≤ p := hp.2.1
    have hp2 : p ≤ 97 := hp.1
    clear hp
    go_wp2_with (go_at_call 90; refine (l01Small_yes _ HP.out _).mono ?_; rintro e w' ⟨rfl, rfl⟩)
    refine (l01Next_any _ A n c ys b 12 _ HD1.out.1).mono ?_
    rintro e w2 ⟨z, rfl, hx1, hx2, hd2⟩
    have HD2 := Lib.hid (Drew.trans HD1.out hd2)
    have hs2 := HD2.out.2.size
    clear hx1 hx2 hd2
    by_cases hz : z = 0
    · have hzb : (z == 0) = true := by simpa using hz
      clear hz
      go_wp2_with fail
      refine (l06Draw_any _ A n c ys b _ HD2.out.1).mono ?_
      rintro e w3 ⟨B, N, d, f, rfl, ho, hN, hd3⟩
      have HO := Lib.hid (OwnC_lo ho hs2)
      have HD3 := Lib.hid (Drew.trans HD2.out hd3)
      clear ho hd3
      go_wp2
      go_ret2
      exact ⟨p, B, N, d, f, rfl, HO.out, hN, HD3.out⟩
    · have hzb : (z == 0) = false := by simpa using hz
      clear hz
      go_wp2_with fail
      refine (l01Next_any _ A n c ys b 7 _ HD2.out.1).mono ?_
      rintro e w3 ⟨x, rfl, hx1, hx2, hd3⟩
      have ⟨a1, a2⟩ := hx2 (by omega)
      have HD3 := Lib.hid (Drew.trans HD2.out hd3)
      have hs3 := HD3.out.2.size
      clear hx1 hx2 hd3
      go_wp2_with fail
      refine (l13Valid_any _ A n c ys b p x _ HD3.out.1 hp1 hp2 a1 (by omega)).mono ?_
      rintro e w4 ⟨B, N, d, f, rfl, ho, hN, _, _, hd4⟩
      have HO := Lib.hid (OwnC_lo ho hs3)
      have HD4 := Lib.hid (Drew.trans HD3.out hd4)
      clear ho hd4
      go_wp2
      go_ret2
      exact ⟨p, B, N, d, f, rfl, HO.out, by omega, HD4.out⟩
  · have HP := Lib.hid hp
    clear hp
    go_wp2_with (go_at_call 90; refine (l01Small_no _ HP.out _).mono ?_; rintro e w' ⟨rfl, rfl⟩)
    refine (l06Draw_any _ A n c ys b _ HD1.out.1).mono ?_
    rintro e w3 ⟨B, N, d, f, rfl, ho, hN, hd3⟩
    have HO := Lib.hid (OwnC_lo ho hs1)
    have HD3 := Lib.hid (Drew.trans HD1.out hd3)
    clear ho hd3
    go_wp2
    go_ret2
    exact ⟨p, B, N, d, f, rfl, HO.out, hN, HD3.out⟩
set_option maxHeartbeats 1600000 in
theorem drawPolygon_any (A : Option Addr) (n c : Nat) (ys : List Int) (w : World) (hr : Rd .u8 w A n c ys) (hb : Bys ys) :
    Calls Try.prog 51 #[.slice A n c] w fun e w' => ∃ (p : Int) (B : Option Addr) (N d : Nat) (f : List Int), e = .returned (.tuple #[.int .i64 p, .slice B N d]) ∧ Rd .i64 w' B N d f ∧ Below w.heap.size w w' := by
  have HR := Lib.hid hr
  have HBy := Lib.hid hb
  clear hr hb
  go_enter Try.func51, Try.ntmps51
  go_wp2_with fail
  refine (l01From_any A n c ys w HR.out HBy.out).mono ?_
  rintro e wd0 ⟨b, rfl, hs⟩
  have HS := Lib.hid hs
  clear hs
  go_wp2_with fail
  refine (l13Draw_any _ A n c ys b _ HS.out).mono ?_
  rintro e wd1 ⟨p, B, N, d, f, rfl, ho1, hN, hd1⟩
  have HO1 := Lib.hid (OwnI.rd ho1)
  have HD1 := Lib.hid hd1.1.bel
  clear ho1 hd1
  go_wp2
  go_ret2
  exact ⟨p, B, N, d, f, rfl, HO1.out, HD1.out⟩
set_option maxHeartbeats 1600000 in
theorem drawSlopes_any (A : Option Addr) (n c : Nat) (ys : List Int) (w : World) (hr : Rd .u8 w A n c ys) (hb : Bys ys) :
    Calls Try.prog 44 #[.slice A n c] w fun e w' => ∃ (p : Int) (B : Option Addr) (N d : Nat) (f : List Int), e = .returned (.tuple #[.int .i64 p, .slice B N d]) ∧ Rd .i64 w' B N d f ∧ Below w.heap.size w w' := by
  have HR := Lib.hid hr
  have HBy := Lib.hid hb
  clear hr hb
  go_enter Try.func44, Try.ntmps44
  go_wp2_with fail
  refine (l01From_any A n c ys w HR.out HBy.out).mono ?_
  rintro e wd0 ⟨b, rfl, hs⟩
  have HS := Lib.hid hs
  clear hs
  go_wp2_with fail
  refine (l13Draw_any _ A n c ys b _ HS.out).mono ?_
  rintro e wd1 ⟨p, B, N, d, f, rfl, ho1, hN, hd1⟩
  have HO1 := Lib.hid (OwnI.rd ho1)
  have HD1 := Lib.hid hd1.1.bel
  clear ho1 hd1
  go_wp2
  go_ret2
  exact ⟨p, B, N, d, f, rfl, HO1.out, HD1.out⟩
set_option maxHeartbeats 1600000 in
theorem drawPure_any (A : Option Addr) (n c : Nat) (ys : List Int) (w : World) (hr : Rd .u8 w A n c ys) (hb : Bys ys) :
    Calls Try.prog 65 #[.slice A n c] w fun e w' => ∃ (p : Int) (B : Option Addr) (N d : Nat) (f : List Int), e = .returned (.tuple #[.int .i64 p, .slice B N d]) ∧ Rd .i64 w' B N d f ∧ Below w.heap.size w w' := by
  have HR := Lib.hid hr
  have HBy := Lib.hid hb
  clear hr hb
  go_enter Try.func65, Try.ntmps65
  go_wp2_with fail
  refine (l01From_any A n c ys w HR.out HBy.out).mono ?_
  rintro e wd0 ⟨b, rfl, hs⟩
  have HS := Lib.hid hs
  clear hs
  go_wp2_with fail
  refine (l13Draw_any _ A n c ys b _ HS.out).mono ?_
  rintro e wd1 ⟨p, B, N, d, f, rfl, ho1, hN, hd1⟩
  have HO1 := Lib.hid (OwnI.rd ho1)
  have HD1 := Lib.hid hd1.1.bel
  clear ho1 hd1
  go_wp2
  go_ret2
  exact ⟨p, B, N, d, f, rfl, HO1.out, HD1.out⟩
set_option maxHeartbeats 1600000 in
theorem drawLattice_any (A : Option Addr) (n c : Nat) (ys : List Int) (w : World) (hr : Rd .u8 w A n c ys) (hb : Bys ys) :
    Calls Try.prog 62 #[.slice A n c] w fun e w' => ∃ (p : Int) (B : Option Addr) (N d : Nat) (f : List Int), e = .returned (.tuple #[.int .i64 p, .slice B N d]) ∧ Rd .i64 w' B N d f ∧ Below w.heap.size w w' := by
  have HR := Lib.hid hr
  have HBy := Lib.hid hb
  clear hr hb
  go_enter Try.func62, Try.ntmps62
  go_wp2_with fail
  refine (l01From_any A n c ys w HR.out HBy.out).mono ?_
  rintro e wd0 ⟨b, rfl, hs⟩
  have HS := Lib.hid hs
  clear hs
  go_wp2_with fail
  refine (l13Draw_any _ A n c ys b _ HS.out).mono ?_
  rintro e wd1 ⟨p, B, N, d, f, rfl, ho1, hN, hd1⟩
  have HO1 := Lib.hid (OwnI.rd ho1)
  have HD1 := Lib.hid hd1.1.bel
  clear ho1 hd1
  go_wp2
  go_ret2
  exact ⟨p, B, N, d, f, rfl, HO1.out, HD1.out⟩
end Go.Proofs.Ythdmanngjnfamaa
