
/- The factors of a number: their bounds; the text of a list of pairs within bounds, by the reference; prime powers drawn. -/
import Derived.Test.YtgajgonepcikbaaDoorPwT2
import Derived.Test.YtgajgonepcikbaaDoorRdP1
import Derived.Test.YtgajgonepcikbaaDoorDrw2
namespace Go.Proofs.YtgajgonepcikbaaDoor
open Go.RowKit Go.Joins

/-- pairs within bounds -/
def PwW (zs : List Int) (n : Nat) : Prop := (∀ k, k < n → (0 ≤ pP zs k ∧ pP zs k ≤ 1000000) ∧ 0 ≤ pE zs k ∧ pE zs k ≤ 1000000) ∧ n ≤ 2000
theorem vlF_le : ∀ (f : Nat) (n p : Int), vlF f n p ≤ f
  | 0, _, _ => by simp [vlF]
  | f + 1, n, p => by
    have := vlF_le f (n.tdiv p) p
    unfold vlF
    split <;> omega
theorem snF_bd {p : Int} (hp : 2 ≤ p) : ∀ (f : Nat) (n : Int), 1 ≤ n → 1 ≤ snF f n p ∧ snF f n p ≤ n
  | 0, n, h => ⟨h, Int.le_refl _⟩
  | f + 1, n, h => by
    unfold snF
    by_cases hz : n % p = 0
    · rw [if_pos hz]
      have h1 := ediv_lt' h hp
      have h2 := ediv_ge' h hp hz
      have := snF_bd hp f (n / p) h2
      exact ⟨this.1, Int.le_trans this.2 (by generalize n / p = q at h1 ⊢; omega)⟩
    · rw [if_neg hz]; exact ⟨h, Int.le_refl _⟩
theorem facF_bd : ∀ (f : Nat) (n p : Int), 1 ≤ n → n ≤ 1000000 → 2 ≤ p → p + f ≤ 1001 → (facF f n p).length ≤ f + 1 ∧ ∀ x ∈ facF f n p, (0 ≤ x.1 ∧ x.1 ≤ 1000000) ∧ 0 ≤ x.2 ∧ x.2 ≤ 1000000
  | 0, n, p, h1, h2, _, _ => by
    unfold facF
    split
    · refine ⟨by simp, fun x hx => ?_⟩
      simp at hx
      subst hx
      simp only
      omega
    · exact ⟨by simp, fun x hx => by simp at hx⟩
  | f + 1, n, p, h1, h2, hp, hf => by
    have hs := snF_bd hp n.natAbs n h1
    have ih := facF_bd f (sn n p) (p + 1) hs.1 (Int.le_trans hs.2 h2) (by omega) (by omega)
    have hv : vl n p ≤ n.natAbs := vlF_le _ _ _
    unfold facF
    split
    · constructor
      · rw [List.length_append]
        have : (if 0 < vl n p then [(p, (vl n p : Int))] else []).length ≤ 1 := by split <;> simp
        have := ih.1
        omega
      · intro x hx
        rcases List.mem_append.1 hx with hx | hx
        · split at hx
          · simp at hx
            subst hx
            simp only
            omega
          · simp at hx
        · exact ih.2 x hx
    · split
      · refine ⟨by simp, fun x hx => ?_⟩
        simp at hx
        subst hx
        simp only
        omega
      · exact ⟨by simp, fun x hx => by simp at hx⟩
theorem facs_bd {n : Int} (h1 : 1 ≤ n) (h2 : n ≤ 1000000) : (facs n).length ≤ 1000 ∧ ∀ x ∈ facs n, (0 ≤ x.1 ∧ x.1 ≤ 1000000) ∧ 0 ≤ x.2 ∧ x.2 ≤ 1000000 := by
  have := facF_bd 999 n 2 h1 h2 (by omega) (by omega)
  exact ⟨by have h := this.1; unfold facs fac; exact h, this.2⟩
theorem pwW_fl2 {L : List (Int × Int)} (h : L.length ≤ 2000) (hb : ∀ x ∈ L, (0 ≤ x.1 ∧ x.1 ≤ 1000000) ∧ 0 ≤ x.2 ∧ x.2 ≤ 1000000) : PwW (fl2 L) L.length := by
  refine ⟨fun k hk => ?_, h⟩
  have ⟨a, b⟩ := fl2_at L hk
  have := hb (L.getD k (0, 0)) (by simp [List.getD, List.getElem?_eq_getElem hk])
  rw [a, b]
  exact this
theorem pwT_len {L : List (Int × Int)} (h : L.length ≤ 2000) (hb : ∀ x ∈ L, (0 ≤ x.1 ∧ x.1 ≤ 1000000) ∧ 0 ≤ x.2 ∧ x.2 ≤ 1000000) : (pwT L).length ≤ 88001 := by
  unfold pwT
  split
  · simp
  · have := join_len (W := L.map pwW) (b := 43) (fun l hl => by
      obtain ⟨x, hx, rfl⟩ := List.mem_map.1 hl
      have := hb x hx
      exact pwW_len (p := x.1) (q := x.2) (by omega) (by omega) (by omega) (by omega)) 42
    rw [List.length_map] at this
    omega

set_option maxRecDepth 100000 in
set_option maxHeartbeats 3200000 in
theorem l01PowersTextW_at {A : Option Addr} {n c : Nat} {zs : List Int} {T : ByteArray} (hTx : T = bs (pwT (pwL zs n))) (w : World) (hr : RdC 2 w A n c (zs.map (Value.int .i64))) (h : PwW zs n) :
    Calls Tryd.prog 68 #[.slice A n c] w fun e w' => e = .returned (.string T) ∧ Below w.heap.size w w' := by
  have HR := Lib.hid hr
  have hc := hr.2.1
  have hm := hr.2.2.1
  unfold maxLen at hm
  have hn60 : n ≤ 2000 := h.2
  have HK := Lib.hid h.1
  clear hr h
  rcases Nat.eq_zero_or_pos n with h0 | h0
  · subst h0
    obtain rfl : T = ⟨#[49]⟩ := by rw [hTx]; rfl
    clear hTx
    go_enter Tryd.func68, Tryd.ntmps68
    go_wp2
    go_ret
    exact ⟨rfl, Below.refl _ _⟩
  have HTx : Hid (T = bs (Lib.join ((pwL zs n).map pwW) [42])) := Lib.hid (by
    rw [hTx]; unfold pwT; rw [if_neg (fun e => by have := pwL_len zs n; rw [e] at this; simp at this; omega)])
  have hnz : ((n : Int) == 0) = false := by simp; omega
  clear hTx
  go_enter Tryd.func68, Tryd.ntmps68
  go_wp2
  go_loopw [3, 4] (fun v i wr => ∃ (k : Nat) (D : ByteArray), k ≤ n ∧ i = .int .i64 k ∧ v = .string D ∧ D.size ≤ 44 * k ∧ Hid (D = bs (Lib.join ((pwL zs k).map pwW) [42])) ∧ Hid (Below w.heap.size w wr)) (fun _ i _ => n - (intOf i).toNat)
  case atStart => exact ⟨0, ⟨#[]⟩, Nat.zero_le _, rfl, rfl, by show 0 ≤ 44 * 0; omega, Lib.hid rfl, Lib.hid (Below.refl _ _)⟩
  case round =>
    obtain ⟨k, D, hk, rfl, rfl, hz, HD, HB⟩ := hrel
    by_cases hlt : k < n
    · obtain ⟨b, off, rfl, hcell⟩ := (HR.out.below HB.out).atF (by omega)
      have h0 := hcell (k * 2 + 0) (fl_lt hlt (by omega))
      rw [Nat.add_zero] at h0
      have h1 := hcell (k * 2 + 1) (fl_lt hlt (by omega))
      rw [← Nat.add_assoc] at h1
      obtain ⟨p, pe⟩ : ∃ x, x = pP zs k := ⟨_, rfl⟩
      obtain ⟨q, qe⟩ : ∃ x, x = pE zs k := ⟨_, rfl⟩
      change _ = some (Value.int .i64 (pP zs k)) at h0
      change _ = some (Value.int .i64 (pE zs k)) at h1
      rw [← pe] at h0
      rw [← qe] at h1
      have hKk := HK.out k hlt
      have p1 : 0 ≤ p := by rw [pe]; exact hKk.1.1
      have p2 : p ≤ 1000000 := by rw [pe]; exact hKk.1.2
      have q1 : 0 ≤ q := by rw [qe]; exact hKk.2.1
      have q2 : q ≤ 1000000 := by rw [qe]; exact hKk.2.2
      obtain ⟨D1, hD1⟩ : ∃ D, D = bs (Lib.decDigits p.toNat) := ⟨_, rfl⟩
      have HD1 := Lib.hid hD1
      have z1 : D1.size ≤ 20 := by rw [hD1, bs_size]; exact dec_len20 (by omega)
      have HS := pwL_succ zs k
      rw [← pe, ← qe] at HS
      have HS2 : Hid ((pwL zs (k + 1)).map pwW = (pwL zs k).map pwW ++ [pwW (p, q)]) := Lib.hid (by rw [HS, List.map_append]; rfl)
      have hd1 : D1 = bs (Lib.itoa p) := by rw [hD1, itoa_dec (by omega)]
      clear hcell hKk pe qe HS hD1
      by_cases hq : q = 1
      · have hqb : (q == 1) = true := by simpa using hq
        have hqn : (q != 1) = false := by simpa using hq
        by_cases k0 : k = 0
        · have HD3 : Hid (D ++ D1 = bs (Lib.join ((pwL zs (k + 1)).map pwW) [42])) := Lib.hid (by
            rw [HS2.out, HD.out, k0, hd1]
            unfold pwW
            rw [if_pos hq]
            simp [bs_app, pwL, Lib.join])
          have y1 : ¬ D.size + D1.size > 9223372036854775807 := by omega
          have hd0 : decide (0 < k) = false := by simp; omega
          clear HD hd1 hq k0
          go_wp2_with fail
          refine (l01Dec_at HD1.out _ (by omega) (by omega)).mono ?_
          rintro e wa ⟨rfl, hbc⟩
          have HBa := Lib.hid (bl_trans HB.out hbc)
          have h1b := keep_cell hbc h1
          clear hbc h1 h0
          go_wp2
          go_roundw
          case rel => exact ⟨k + 1, D ++ D1, by omega, by go_num, rfl, by rw [ByteArray.size_append]; omega, HD3, HBa⟩
          case measure => simp [intOf]; omega
        · have HD3 : Hid (D ++ ⟨#[42]⟩ ++ D1 = bs (Lib.join ((pwL zs (k + 1)).map pwW) [42])) := Lib.hid (by
            rw [HS2.out, join_snoc 42 _ _ (fun e => by have := congrArg List.length e; rw [List.length_map, pwL_len] at this; simp at this; omega), HD.out, hd1, size1s 42]
            unfold pwW
            rw [if_pos hq]
            simp [bs_app])
          have y1 : ¬ D.size + 1 > 9223372036854775807 := by omega
          have y2 : ¬ D.size + 1 + D1.size > 9223372036854775807 := by omega
          have hd0 : decide (0 < k) = true := by simp; omega
          clear HD hd1 hq k0
          go_wp2_with fail
          refine (l01Dec_at HD1.out _ (by omega) (by omega)).mono ?_
          rintro e wa ⟨rfl, hbc⟩
          have HBa := Lib.hid (bl_trans HB.out hbc)
          have h1b := keep_cell hbc h1
          clear hbc h1 h0
          go_wp2
          go_roundw
          case rel => exact ⟨k + 1, D ++ ⟨#[42]⟩ ++ D1, by omega, by go_num, rfl, by rw [ByteArray.size_append, ByteArray.size_append, size1 42]; omega, HD3, HBa⟩
          case measure => simp [intOf]; omega
      · have hqb : (q == 1) = false := by simpa using hq
        have hqn : (q != 1) = true := by simpa using hq
        obtain ⟨D2, hD2⟩ : ∃ D, D = bs (Lib.decDigits q.toNat) := ⟨_, rfl⟩
        have HD2 := Lib.hid hD2
        have z2 : D2.size ≤ 20 := by rw [hD2, bs_size]; exact dec_len20 (by omega)
        have hd2 : D2 = bs (Lib.itoa q) := by rw [hD2, itoa_dec (by omega)]
        clear hD2
        by_cases k0 : k = 0
        · have HD3 : Hid (D ++ D1 ++ ⟨#[94]⟩ ++ D2 = bs (Lib.join ((pwL zs (k + 1)).map pwW) [42])) := Lib.hid (by
            rw [HS2.out, HD.out, k0, hd1, hd2, size1s 94]
            unfold pwW
            rw [if_neg hq]
            simp [bs_app, pwL, Lib.join])
          have y1 : ¬ D.size + D1.size > 9223372036854775807 := by omega
          have y2 : ¬ D.size + D1.size + 1 > 9223372036854775807 := by omega
          have y3 : ¬ D.size + D1.size + 1 + D2.size > 9223372036854775807 := by omega
          have hd0 : decide (0 < k) = false := by simp; omega
          clear HD hd1 hd2 hq k0
          go_wp2_with fail
          refine (l01Dec_at HD1.out _ (by omega) (by omega)).mono ?_
          rintro e wa ⟨rfl, hbc⟩
          have HBa := Lib.hid (bl_trans HB.out hbc)
          have h1b := keep_cell hbc h1
          clear hbc h1 h0
          go_wp2_with fail
          refine (l01Dec_at HD2.out _ (by omega) (by omega)).mono ?_
          rintro e wb ⟨rfl, hbc⟩
          have HBb := Lib.hid (bl_trans HBa.out hbc)
          clear hbc
          go_wp2
          go_roundw
          case rel => exact ⟨k + 1, D ++ D1 ++ ⟨#[94]⟩ ++ D2, by omega, by go_num, rfl, by rw [ByteArray.size_append, ByteArray.size_append, ByteArray.size_append, size1 94]; omega, HD3, HBb⟩
          case measure => simp [intOf]; omega
        · have HD3 : Hid (D ++ ⟨#[42]⟩ ++ D1 ++ ⟨#[94]⟩ ++ D2 = bs (Lib.join ((pwL zs (k + 1)).map pwW) [42])) := Lib.hid (by
            rw [HS2.out, join_snoc 42 _ _ (fun e => by have := congrArg List.length e; rw [List.length_map, pwL_len] at this; simp at this; omega), HD.out, hd1, hd2, size1s 42, size1s 94]
            unfold pwW
            rw [if_neg hq]
            simp [bs_app])
          have y1 : ¬ D.size + 1 > 9223372036854775807 := by omega
          have y2 : ¬ D.size + 1 + D1.size > 9223372036854775807 := by omega
          have y3 : ¬ D.size + 1 + D1.size + 1 > 9223372036854775807 := by omega
          have y4 : ¬ D.size + 1 + D1.size + 1 + D2.size > 9223372036854775807 := by omega
          have hd0 : decide (0 < k) = true := by simp; omega
          clear HD hd1 hd2 hq k0
          go_wp2_with fail
          refine (l01Dec_at HD1.out _ (by omega) (by omega)).mono ?_
          rintro e wa ⟨rfl, hbc⟩
          have HBa := Lib.hid (bl_trans HB.out hbc)
          have h1b := keep_cell hbc h1
          clear hbc h1 h0
          go_wp2_with fail
          refine (l01Dec_at HD2.out _ (by omega) (by omega)).mono ?_
          rintro e wb ⟨rfl, hbc⟩
          have HBb := Lib.hid (bl_trans HBa.out hbc)
          clear hbc
          go_wp2
          go_roundw
          case rel => exact ⟨k + 1, D ++ ⟨#[42]⟩ ++ D1 ++ ⟨#[94]⟩ ++ D2, by omega, by go_num, rfl, by rw [ByteArray.size_append, ByteArray.size_append, ByteArray.size_append, ByteArray.size_append, size1 42, size1 94]; omega, HD3, HBb⟩
          case measure => simp [intOf]; omega
    · obtain rfl : k = n := by omega
      obtain rfl : T = D := by rw [HTx.out, HD.out]
      clear HTx HD
      go_wp2
      go_ret
      exact ⟨rfl, HB.out⟩
set_option maxHeartbeats 1600000 in
theorem drawReadPowers_any (A : Option Addr) (n c : Nat) (ys : List Int) (w : World) (hr : Rd .u8 w A n c ys) (hb : Bys ys) :
    Calls Tryd.prog 51 #[.slice A n c] w fun e w' => ∃ u : ByteArray, e = .returned (.string u) ∧ u.size ≤ 200000 ∧ Below w.heap.size w w' := by
  have HR := Lib.hid hr
  have HBy := Lib.hid hb
  clear hr hb
  go_enter Tryd.func51, Tryd.ntmps51
  go_wp2_with fail
  refine (l01From_any A n c ys w HR.out HBy.out).mono ?_
  rintro e w0 ⟨b, rfl, hs⟩
  have HS := Lib.hid hs
  clear hs
  go_wp2_with fail
  refine (l01Next_any _ A n c ys b 100000 _ HS.out).mono ?_
  rintro e w1 ⟨x, rfl, hx1, hx2, hd1⟩
  have ⟨x1, x2⟩ := hx2 (by omega)
  have HS1 := Lib.hid hd1.1
  have HF := Lib.hid (facs_bd (n := 1 + x) (by omega) (by omega))
  clear hx1 hx2 hd1
  go_wp2_with fail
  refine (l01Factor_any (1 + x) (by omega) (by omega) _).mono ?_
  rintro e w2 ⟨v, rfl, ho, hb2⟩
  have HS2 := Lib.hid (HS1.out.below hb2)
  obtain ⟨A2, c2, rfl, hrd⟩ := own_cells ho
  rw [fl2_flat] at hrd
  have HRd : Hid (RdC 2 w2 A2 (facs (1 + x)).length c2 ((fl2 (facs (1 + x))).map (Value.int .i64))) := Lib.hid hrd
  obtain ⟨T, hT⟩ : ∃ T, T = bs (pwT (pwL (fl2 (facs (1 + x))) (facs (1 + x)).length)) := ⟨_, rfl⟩
  have HT := Lib.hid hT
  have hz : T.size ≤ 88001 := by rw [hT, bs_size, pwL_fl2]; exact pwT_len (by have := HF.out.1; omega) HF.out.2
  clear ho hb2 hrd hT
  go_wp2_with fail
  refine (l01PowersTextW_at HT.out _ HRd.out (pwW_fl2 (by have := HF.out.1; omega) HF.out.2)).mono ?_
  rintro e w3 ⟨rfl, hb3⟩
  have HS3 := Lib.hid (HS2.out.below hb3)
  clear hb3
  go_wp2_with fail
  refine (l01Next_any _ A n c ys b 3 _ HS3.out).mono ?_
  rintro e w4 ⟨z, rfl, hx1, hx2, hd4⟩
  have HS4 := Lib.hid hd4.1
  clear hx1 hx2 hd4
  by_cases hz0 : z = 0
  · have hzb : (z == 0) = true := by simpa using hz0
    clear hz0
    go_wp2_with fail
    refine (l01Damage_any _ A n c ys b T (by omega) _ HS4.out).mono ?_
    rintro e w5 ⟨u, rfl, hu, hd5⟩
    have HS5 := Lib.hid hd5.1
    clear hd5
    go_wp2
    go_ret
    exact ⟨u, rfl, by omega, HS5.out.bel⟩
  · have hzb : (z == 0) = false := by simpa using hz0
    clear hz0
    go_wp2
    go_ret
    exact ⟨T, rfl, by omega, HS4.out.bel⟩
end Go.Proofs.YtgajgonepcikbaaDoor
