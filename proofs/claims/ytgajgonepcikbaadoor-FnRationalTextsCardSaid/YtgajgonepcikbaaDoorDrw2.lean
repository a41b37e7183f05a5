
/- The draws of texts: a text changed a little; of the texts of rational numbers. -/
import Derived.Test.YtgajgonepcikbaaDoorDrw
import Derived.Deep.RegionHeld3
import Derived.BigQuiet
import Derived.Deep.QuietTactic
namespace Go.Proofs.YtgajgonepcikbaaDoor
open Go.RowKit Go.Joins

theorem bysT_of {w : World} {A : Option Addr} {n c : Nat} {ys : List Int} (h : IsRow .u8 w A n c ys) : Bys ys := by
  intro i hi
  have h1 := h.2.2.2.1 (ys.getD i 0) (by simp [List.getD, List.getElem?_eq_getElem hi])
  exact bounds_u8 h1
theorem bigT_any (A : Option Addr) (n c : Nat) (w : World) :
    Calls Tryd.prog 47 #[.slice A n c] w fun e w' => e = .returned (.bool (decide (4096 < (n : Int)))) ∧ w = w' := by
  go_enter Tryd.func47, Tryd.ntmps47
  go_wp2
  go_ret
  exact ⟨rfl, rfl⟩
theorem own_drawn {w w' : World} {lo b : Nat} {e : TypeId} {sz : Nat} {v : Value} {n : Nat} {cs : List Value} (ho : w.ownsRow lo e sz v n cs) (hd : w.grownBy w' (some b)) (hlo : b < lo) : w'.ownsRow lo e sz v n cs :=
  ho.kept hd (by
    cases hv : v.ownBlock with
    | none => exact .inl rfl
    | some k =>
      right
      intro e2
      injection e2 with e2
      have := (ho.lt k hv).1
      omega)
theorem ext_size (t : ByteArray) (a b : Nat) : (t.extract a b).size ≤ t.size := by
  rw [← size_data, ext_data, List.length_take, List.length_drop, size_data]; omega
theorem eight (w : World) (T : TypeId) (x0 x1 x2 x3 x4 x5 x6 x7 : UInt8) (i : Nat) (h : i < 8) :
    ∃ Y : ByteArray, Y.size = 1 ∧ (w.alloc (.cells #[.string ⟨#[x0]⟩, .string ⟨#[x1]⟩, .string ⟨#[x2]⟩, .string ⟨#[x3]⟩, .string ⟨#[x4]⟩, .string ⟨#[x5]⟩, .string ⟨#[x6]⟩, .string ⟨#[x7]⟩] T)).cell? ⟨w.heap.size, i, none⟩ = some (.string Y) := by
  rcases i with _ | _ | _ | _ | _ | _ | _ | _ | i
  · exact ⟨⟨#[x0]⟩, rfl, by simp⟩
  · exact ⟨⟨#[x1]⟩, rfl, by simp⟩
  · exact ⟨⟨#[x2]⟩, rfl, by simp⟩
  · exact ⟨⟨#[x3]⟩, rfl, by simp⟩
  · exact ⟨⟨#[x4]⟩, rfl, by simp⟩
  · exact ⟨⟨#[x5]⟩, rfl, by simp⟩
  · exact ⟨⟨#[x6]⟩, rfl, by simp⟩
  · exact ⟨⟨#[x7]⟩, rfl, by simp⟩
  · omega

set_option maxRecDepth 100000 in
set_option maxHeartbeats 3200000 in
theorem l01Damage_any (W : World) (A : Option Addr) (n c : Nat) (ys : List Int) (b : Nat) (t : ByteArray) (ht : t.size ≤ 1000000) (w : World) (h : Sr W A n c ys b w) :
    Calls Tryd.prog 96 #[.pointer (some ⟨b, 0, none⟩), .string t] w fun e w' => ∃ u : ByteArray, e = .returned (.string u) ∧ u.size ≤ 2 * t.size + 2 ∧ Drew W A n c ys b w w' := by
  have hlt := h.lt
  have H := Lib.hid h
  clear h
  go_enter Tryd.func96, Tryd.ntmps96
  go_wp2_with fail
  refine (l01Next_any _ A n c ys b _ _ H.out).mono ?_
  rintro e w1 ⟨x, rfl, hx1, hx2, hd1⟩
  obtain ⟨k, rfl, hk⟩ : ∃ k : Nat, x = (k : Int) ∧ k ≤ t.size := by
    by_cases h1 : 1 < (t.size : Int) + 1
    · have := hx2 h1; exact ⟨x.toNat, by omega, by omega⟩
    · have := hx1 (by omega); exact ⟨0, by omega, by omega⟩
  have HD1 := Lib.hid hd1
  clear hx1 hx2 hd1
  go_wp2_with fail
  refine (l01Next_any _ A n c ys b 8 _ HD1.out.1).mono ?_
  rintro e w2 ⟨z, rfl, hx1, hx2, hd2⟩
  have ⟨z1, z2⟩ := hx2 (by omega)
  have HD2 := Lib.hid (Drew.trans HD1.out hd2)
  have hs2 := HD2.out.2.size
  clear hx1 hx2 hd2
  have s1 := ext_size t 0 k
  by_cases h0 : z = 0
  · have hb0 : (z == 0) = true := by simpa using h0
    clear h0
    go_wp2
    go_ret
    exact ⟨_, rfl, by omega, HD2.out⟩
  · have hb0 : (z == 0) = false := by simpa using h0
    clear h0
    by_cases h1 : z = 1
    · have hb1 : (z == 1) = true := by simpa using h1
      have s2 := ext_size t k t.size
      clear h1
      have y1 : ¬ (t.extract 0 k).size + 1 > 9223372036854775807 := by omega
      have y2 : ¬ (t.extract 0 k).size + 1 + (t.extract k t.size).size > 9223372036854775807 := by omega
      go_wp2_with fail
      have hbne : w2.heap.size ≠ b := by omega
      go_region_with (first | (go_at_call 95; refine (l01Next_any _ A n c ys b 8 (w2.alloc (.cells #[.string ⟨#[48]⟩, .string ⟨#[35]⟩, .string ⟨#[46]⟩, .string ⟨#[47]⟩, .string ⟨#[32]⟩, .string ⟨#[97]⟩, .string ⟨#[45]⟩, .string ⟨#[10]⟩] 9)).drew ((HD2.out.alloc _).below (Below.drew (Below.refl _ _))).1).mono ?_; rintro e w4 ⟨x4, rfl, hx1, hx2, hd4⟩; obtain ⟨i, rfl, hi⟩ : ∃ i : Nat, x4 = (i : Int) ∧ i < 8 := ⟨x4.toNat, by have := hx2 (by omega); omega, by have := hx2 (by omega); omega⟩; obtain ⟨Y, hY, hYc⟩ := eight w2 9 48 35 46 47 32 97 45 10 i hi; have hc := (hd4.2.cell_far ⟨w2.heap.size, i, none⟩ (by simp) (fun e => hbne (by injection e))).trans hYc; have HD4 := Lib.hid (Drew.trans ((HD2.out.alloc _).below (Below.drew (Below.refl _ _))) hd4); clear hx1 hx2 hd4 hYc) | (go_at_call 95; refine (l01Next_any _ A n c ys b 8 w2.drew (HD2.out.below (Below.drew (Below.refl _ _))).1).mono ?_; rintro e w4 ⟨x4, rfl, hx1, hx2, hd4⟩; obtain ⟨i, rfl, hi⟩ : ∃ i : Nat, x4 = (i : Int) ∧ i < 8 := ⟨x4.toNat, by have := hx2 (by omega); omega, by have := hx2 (by omega); omega⟩; obtain ⟨Y, hY, hc⟩ := eight w4 9 48 35 46 47 32 97 45 10 i hi; have HD4 := Lib.hid (Drew.trans (HD2.out.below (Below.drew (Below.refl _ _))) hd4); clear hx1 hx2 hd4))
      all_goals
        have y3 : ¬ (t.extract 0 k).size + Y.size > 9223372036854775807 := by omega
        have y4 : ¬ (t.extract 0 k).size + Y.size + (t.extract k t.size).size > 9223372036854775807 := by omega
        go_wp2
        go_ret
        first | exact ⟨_, rfl, by rw [ByteArray.size_append, ByteArray.size_append]; omega, HD4.out⟩ | exact ⟨_, rfl, by rw [ByteArray.size_append, ByteArray.size_append]; omega, HD4.out.alloc _⟩
    · have hb1 : (z == 1) = false := by simpa using h1
      clear h1
      by_cases h2 : z = 2
      · have hb2 : (z == 2) = true := by simpa using h2
        clear h2
        by_cases hk2 : k < t.size
        · have hkd : decide ((k : Int) < (t.size : Int)) = true := by simp; omega
          have s2 := ext_size t (k + 1) t.size
          have y2 : ¬ (t.extract 0 k).size + (t.extract (k + 1) t.size).size > 9223372036854775807 := by omega
          go_wp2_with fail
          go_quiet (fail)
          go_wp2
          go_ret
          exact ⟨_, rfl, by rw [ByteArray.size_append]; omega, HD2.out.below (below_drewN (Below.refl _ _) _)⟩
        · have hkd : decide ((k : Int) < (t.size : Int)) = false := by simp; omega
          go_wp2
          go_ret
          exact ⟨t, rfl, by omega, HD2.out⟩
      · have hb2 : (z == 2) = false := by simpa using h2
        clear h2
        go_wp2
        go_ret
        exact ⟨t, rfl, by omega, HD2.out⟩

theorem ratT_len {x y : Int} (hx : B13 x) (hy : B13 y) : (ratT x y).length ≤ 43 := by
  unfold B13 at hx hy
  have h1 := itoa_len (n := x) (by omega) (by omega)
  have h2 := itoa_len (n := y) (by omega) (by omega)
  unfold ratT
  split
  · omega
  · rw [List.length_append, List.length_cons]; omega
set_option maxHeartbeats 1600000 in
theorem drawReadRational_any (A : Option Addr) (n c : Nat) (ys : List Int) (w : World) (hr : Rd .u8 w A n c ys) (hb : Bys ys) :
    Calls Tryd.prog 49 #[.slice A n c] w fun e w' => ∃ u : ByteArray, e = .returned (.string u) ∧ u.size ≤ 1000 ∧ Below w.heap.size w w' := by
  have HR := Lib.hid hr
  have HBy := Lib.hid hb
  clear hr hb
  go_enter Tryd.func49, Tryd.ntmps49
  go_wp2_with fail
  refine (l01From_any A n c ys w HR.out HBy.out).mono ?_
  rintro e w0 ⟨b, rfl, hs⟩
  have HS := Lib.hid hs
  clear hs
  go_wp2_with fail
  refine (l05Valid_any _ A n c ys b _ HS.out).mono ?_
  rintro e w1 ⟨x, y, rfl, hq, hd1⟩
  have ⟨hx, hy, hy0⟩ := hq.b13
  have HX := Lib.hid hx
  have HY := Lib.hid hy
  have HD1 := Lib.hid hd1
  obtain ⟨T, hT⟩ : ∃ T, T = bs (ratT x y) := ⟨_, rfl⟩
  have HT := Lib.hid hT
  have hz : T.size ≤ 43 := by rw [hT, bs_size]; exact ratT_len hx hy
  clear hq hx hy hd1 hT
  go_wp2_with fail
  refine (l05Text_at HT.out HX.out HY.out hy0 _).mono ?_
  rintro e w2 ⟨rfl, hb2⟩
  have HS2 := Lib.hid (HD1.out.1.below hb2)
  clear hb2
  go_wp2_with fail
  refine (l01Next_any _ A n c ys b 3 _ HS2.out).mono ?_
  rintro e w3 ⟨z, rfl, hx1, hx2, hd3⟩
  have HS3 := Lib.hid hd3.1
  clear hx1 hx2 hd3
  by_cases hz0 : z = 0
  · have hzb : (z == 0) = true := by simpa using hz0
    clear hz0
    go_wp2_with fail
    refine (l01Damage_any _ A n c ys b T (by omega) _ HS3.out).mono ?_
    rintro e w4 ⟨u, rfl, hu, hd4⟩
    have HS4 := Lib.hid hd4.1
    clear hd4
    go_wp2
    go_ret
    exact ⟨u, rfl, by omega, HS4.out.bel⟩
  · have hzb : (z == 0) = false := by simpa using hz0
    clear hz0
    go_wp2
    go_ret
    exact ⟨T, rfl, by omega, HS3.out.bel⟩
set_option maxHeartbeats 1600000 in
theorem drawRationalText_any (A : Option Addr) (n c : Nat) (ys : List Int) (w : World) (hr : Rd .u8 w A n c ys) (hb : Bys ys) :
    Calls Tryd.prog 48 #[.slice A n c] w fun e w' => ∃ x y, e = .returned (.agg #[.int .i64 x, .int .i64 y]) ∧ Below w.heap.size w w' := by
  have HR := Lib.hid hr
  have HBy := Lib.hid hb
  clear hr hb
  go_enter Tryd.func48, Tryd.ntmps48
  go_wp2_with fail
  refine (l01From_any A n c ys _ (HR.out.below (bl_alloc (Below.refl _ _) _)) HBy.out).mono ?_
  rintro e w0 ⟨b, rfl, hs⟩
  have HS := Lib.hid hs
  clear hs
  go_wp2_with fail
  refine (l05Draw_any _ A n c ys b _ HS.out).mono ?_
  rintro e w1 ⟨x, y, rfl, hd1⟩
  have hb1 := hd1.1.bel
  have HB1 : Hid (Below w.heap.size w w1) := Lib.hid (bl_trans (bl_alloc (Below.refl _ _) _) hb1)
  have r0 := keep_cell hb1 (b := w.heap.size) (o := 0) (v := .int .i64 0) (by simp [go_sem])
  have r1 := keep_cell hb1 (b := w.heap.size) (o := 1) (v := .int .i64 0) (by simp [go_sem])
  have rf0 := keep_fr hb1 (b := w.heap.size) (o := 0) (v := .int .i64 0) (by simp [go_sem]) (by simp [go_sem])
  have rf1 := keep_fr hb1 (b := w.heap.size) (o := 1) (v := .int .i64 0) (by simp [go_sem]) (by simp [go_sem])
  clear hb1 hd1
  go_wp2
  exact bodyPost_ret (v := .agg #[.int .i64 x, .int .i64 y]) (by simp [results, Tryd.results48, go_sem, r0, r1]) rfl ⟨x, y, rfl, bl_set (bl_set HB1.out _ _ (Nat.le_refl _) _) _ _ (Nat.le_refl _) _⟩
end Go.Proofs.YtgajgonepcikbaaDoor
