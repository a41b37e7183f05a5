
/- Texts of prime powers in a walk: the reference's. -/
import Derived.Test.YtgajgonepcikbaaDoorPwT
import Derived.Test.YtgajgonepcikbaaDoorPolT
namespace Go.Proofs.YtgajgonepcikbaaDoor
open Go.RowKit Go.Joins

theorem join_snoc (c : UInt8) (x : List UInt8) : ∀ (W : List (List UInt8)), W ≠ [] → Lib.join (W ++ [x]) [c] = Lib.join W [c] ++ c :: x
  | [], h => absurd rfl h
  | [y], _ => by show Lib.join (y :: [x]) [c] = _; rw [Lib.join_cons, Lib.join_one]; simp [Lib.joinTail]
  | y :: z :: r, _ => by
    have ih := join_snoc c x (z :: r) (by simp)
    rw [List.cons_append, Lib.join_cons, Lib.join_cons] at ih
    rw [List.cons_append, List.cons_append, Lib.join_cons, Lib.join_cons]
    have e : ∀ t : List (List UInt8), Lib.joinTail [c] (z :: t) = c :: (z ++ Lib.joinTail [c] t) := fun t => by simp [Lib.joinTail]
    rw [e, e, ih]
    simp

theorem pwW_len {p q : Int} (p1 : 0 ≤ p) (p2 : p ≤ 1000000) (q1 : 0 ≤ q) (q2 : q ≤ 1000000) : (pwW (p, q)).length ≤ 43 := by
  have h1 := itoa_len (n := p) (by omega) (by omega)
  have h2 := itoa_len (n := q) (by omega) (by omega)
  unfold pwW
  split
  · show (Lib.itoa p).length ≤ 43; omega
  · rw [List.length_append, List.length_cons]; show (Lib.itoa p).length + ((Lib.itoa q).length + 1) ≤ 43; omega
theorem size1s (x : UInt8) : (⟨#[x]⟩ : ByteArray) = bs [x] := rfl
theorem itoa_dec {p : Int} (h : 0 ≤ p) : Lib.itoa p = Lib.decDigits p.toNat := by
  unfold Lib.itoa; rw [if_neg (by omega)]

set_option maxRecDepth 100000 in
set_option maxHeartbeats 3200000 in
theorem l01PowersText_at {A : Option Addr} {n c : Nat} {zs : List Int} {T : ByteArray} (hTx : T = bs (pwT (pwL zs n))) (w : World) (hr : RdC 2 w A n c (zs.map (Value.int .i64))) (h : PwOk zs n) :
    Calls Tryd.prog 68 #[.slice A n c] w fun e w' => e = .returned (.string T) ∧ Below w.heap.size w w' := by
  have HR := Lib.hid hr
  have hc := hr.2.1
  have hm := hr.2.2.1
  unfold maxLen at hm
  have hn60 : n ≤ 60 := h.2
  have HK := Lib.hid h.1
  clear hr h
  rcases Nat.eq_zero_or_pos n with h0 | h0
  · subst h0
    obtain rfl : T = ⟨#[49]⟩ := by rw [hTx]; rfl
    clear hTx
    go_enter Tryd.func68, Tryd.ntmps68
    go_wp2
    go_ret
    exact ⟨rfl, Below.refl _ _⟩
  have HTx : Hid (T = bs (Lib.join ((pwL zs n).map pwW) [42])) := Lib.hid (by
    rw [hTx]; unfold pwT; rw [if_neg (fun e => by have := pwL_len zs n; rw [e] at this; simp at this; omega)])
  have hnz : ((n : Int) == 0) = false := by simp; omega
  clear hTx
  go_enter Tryd.func68, Tryd.ntmps68
  go_wp2
  go_loopw [3, 4] (fun v i wr => ∃ (k : Nat) (D : ByteArray), k ≤ n ∧ i = .int .i64 k ∧ v = .string D ∧ D.size ≤ 44 * k ∧ Hid (D = bs (Lib.join ((pwL zs k).map pwW) [42])) ∧ Hid (Below w.heap.size w wr)) (fun _ i _ => n - (intOf i).toNat)
  case atStart => exact ⟨0, ⟨#[]⟩, Nat.zero_le _, rfl, rfl, by show 0 ≤ 44 * 0; omega, Lib.hid rfl, Lib.hid (Below.refl _ _)⟩
  case round =>
    obtain ⟨k, D, hk, rfl, rfl, hz, HD, HB⟩ := hrel
    by_cases hlt : k < n
    · obtain ⟨b, off, rfl, hcell⟩ := (HR.out.below HB.out).atF (by omega)
      have h0 := hcell (k * 2 + 0) (fl_lt hlt (by omega))
      rw [Nat.add_zero] at h0
      have h1 := hcell (k * 2 + 1) (fl_lt hlt (by omega))
      rw [← Nat.add_assoc] at h1
      obtain ⟨p, pe⟩ : ∃ x, x = pP zs k := ⟨_, rfl⟩
      obtain ⟨q, qe⟩ : ∃ x, x = pE zs k := ⟨_, rfl⟩
      change _ = some (Value.int .i64 (pP zs k)) at h0
      change _ = some (Value.int .i64 (pE zs k)) at h1
      rw [← pe] at h0
      rw [← qe] at h1
      have hKk := HK.out k hlt
      have p1 : 2 ≤ p := by rw [pe]; exact hKk.1.1.1
      have p2 : p ≤ 1000000 := by rw [pe]; exact hKk.1.2
      have q1 : 1 ≤ q := by rw [qe]; exact hKk.2.1.1
      have q2 : q ≤ 40 := by rw [qe]; exact hKk.2.1.2
      obtain ⟨D1, hD1⟩ : ∃ D, D = bs (Lib.decDigits p.toNat) := ⟨_, rfl⟩
      have HD1 := Lib.hid hD1
      have z1 : D1.size ≤ 20 := by rw [hD1, bs_size]; exact dec_len20 (by omega)
      have HS := pwL_succ zs k
      rw [← pe, ← qe] at HS
      have HS2 : Hid ((pwL zs (k + 1)).map pwW = (pwL zs k).map pwW ++ [pwW (p, q)]) := Lib.hid (by rw [HS, List.map_append]; rfl)
      have hd1 : D1 = bs (Lib.itoa p) := by rw [hD1, itoa_dec (by omega)]
      clear hcell hKk pe qe HS hD1
      by_cases hq : q = 1
      · have hqb : (q == 1) = true := by simpa using hq
        have hqn : (q != 1) = false := by simpa using hq
        by_cases k0 : k = 0
        · have HD3 : Hid (D ++ D1 = bs (Lib.join ((pwL zs (k + 1)).map pwW) [42])) := Lib.hid (by
            rw [HS2.out, HD.out, k0, hd1]
            unfold pwW
            rw [if_pos hq]
            simp [bs_app, pwL, Lib.join])
          have y1 : ¬ D.size + D1.size > 9223372036854775807 := by omega
          have hd0 : decide (0 < k) = false := by simp; omega
          clear HD hd1 hq k0
          go_wp2_with fail
          refine (l01Dec_at HD1.out _ (by omega) (by omega)).mono ?_
          rintro e wa ⟨rfl, hbc⟩
          have HBa := Lib.hid (bl_trans HB.out hbc)
          have h1b := keep_cell hbc h1
          clear hbc h1 h0
          go_wp2
          go_roundw
          case rel => exact ⟨k + 1, D ++ D1, by omega, by go_num, rfl, by rw [ByteArray.size_append]; omega, HD3, HBa⟩
          case measure => simp [intOf]; omega
        · have HD3 : Hid (D ++ ⟨#[42]⟩ ++ D1 = bs (Lib.join ((pwL zs (k + 1)).map pwW) [42])) := Lib.hid (by
            rw [HS2.out, join_snoc 42 _ _ (fun e => by have := congrArg List.length e; rw [List.length_map, pwL_len] at this; simp at this; omega), HD.out, hd1, size1s 42]
            unfold pwW
            rw [if_pos hq]
            simp [bs_app])
          have y1 : ¬ D.size + 1 > 9223372036854775807 := by omega
          have y2 : ¬ D.size + 1 + D1.size > 9223372036854775807 := by omega
          have hd0 : decide (0 < k) = true := by simp; omega
          clear HD hd1 hq k0
          go_wp2_with fail
          refine (l01Dec_at HD1.out _ (by omega) (by omega)).mono ?_
          rintro e wa ⟨rfl, hbc⟩
          have HBa := Lib.hid (bl_trans HB.out hbc)
          have h1b := keep_cell hbc h1
          clear hbc h1 h0
          go_wp2
          go_roundw
          case rel => exact ⟨k + 1, D ++ ⟨#[42]⟩ ++ D1, by omega, by go_num, rfl, by rw [ByteArray.size_append, ByteArray.size_append, size1 42]; omega, HD3, HBa⟩
          case measure => simp [intOf]; omega
      · have hqb : (q == 1) = false := by simpa using hq
        have hqn : (q != 1) = true := by simpa using hq
        obtain ⟨D2, hD2⟩ : ∃ D, D = bs (Lib.decDigits q.toNat) := ⟨_, rfl⟩
        have HD2 := Lib.hid hD2
        have z2 : D2.size ≤ 20 := by rw [hD2, bs_size]; exact dec_len20 (by omega)
        have hd2 : D2 = bs (Lib.itoa q) := by rw [hD2, itoa_dec (by omega)]
        clear hD2
        by_cases k0 : k = 0
        · have HD3 : Hid (D ++ D1 ++ ⟨#[94]⟩ ++ D2 = bs (Lib.join ((pwL zs (k + 1)).map pwW) [42])) := Lib.hid (by
            rw [HS2.out, HD.out, k0, hd1, hd2, size1s 94]
            unfold pwW
            rw [if_neg hq]
            simp [bs_app, pwL, Lib.join])
          have y1 : ¬ D.size + D1.size > 9223372036854775807 := by omega
          have y2 : ¬ D.size + D1.size + 1 > 9223372036854775807 := by omega
          have y3 : ¬ D.size + D1.size + 1 + D2.size > 9223372036854775807 := by omega
          have hd0 : decide (0 < k) = false := by simp; omega
          clear HD hd1 hd2 hq k0
          go_wp2_with fail
          refine (l01Dec_at HD1.out _ (by omega) (by omega)).mono ?_
          rintro e wa ⟨rfl, hbc⟩
          have HBa := Lib.hid (bl_trans HB.out hbc)
          have h1b := keep_cell hbc h1
          clear hbc h1 h0
          go_wp2_with fail
          refine (l01Dec_at HD2.out _ (by omega) (by omega)).mono ?_
          rintro e wb ⟨rfl, hbc⟩
          have HBb := Lib.hid (bl_trans HBa.out hbc)
          clear hbc
          go_wp2
          go_roundw
          case rel => exact ⟨k + 1, D ++ D1 ++ ⟨#[94]⟩ ++ D2, by omega, by go_num, rfl, by rw [ByteArray.size_append, ByteArray.size_append, ByteArray.size_append, size1 94]; omega, HD3, HBb⟩
          case measure => simp [intOf]; omega
        · have HD3 : Hid (D ++ ⟨#[42]⟩ ++ D1 ++ ⟨#[94]⟩ ++ D2 = bs (Lib.join ((pwL zs (k + 1)).map pwW) [42])) := Lib.hid (by
            rw [HS2.out, join_snoc 42 _ _ (fun e => by have := congrArg List.length e; rw [List.length_map, pwL_len] at this; simp at this; omega), HD.out, hd1, hd2, size1s 42, size1s 94]
            unfold pwW
            rw [if_neg hq]
            simp [bs_app])
          have y1 : ¬ D.size + 1 > 9223372036854775807 := by omega
          have y2 : ¬ D.size + 1 + D1.size > 9223372036854775807 := by omega
          have y3 : ¬ D.size + 1 + D1.size + 1 > 9223372036854775807 := by omega
          have y4 : ¬ D.size + 1 + D1.size + 1 + D2.size > 9223372036854775807 := by omega
          have hd0 : decide (0 < k) = true := by simp; omega
          clear HD hd1 hd2 hq k0
          go_wp2_with fail
          refine (l01Dec_at HD1.out _ (by omega) (by omega)).mono ?_
          rintro e wa ⟨rfl, hbc⟩
          have HBa := Lib.hid (bl_trans HB.out hbc)
          have h1b := keep_cell hbc h1
          clear hbc h1 h0
          go_wp2_with fail
          refine (l01Dec_at HD2.out _ (by omega) (by omega)).mono ?_
          rintro e wb ⟨rfl, hbc⟩
          have HBb := Lib.hid (bl_trans HBa.out hbc)
          clear hbc
          go_wp2
          go_roundw
          case rel => exact ⟨k + 1, D ++ ⟨#[42]⟩ ++ D1 ++ ⟨#[94]⟩ ++ D2, by omega, by go_num, rfl, by rw [ByteArray.size_append, ByteArray.size_append, ByteArray.size_append, ByteArray.size_append, size1 42, size1 94]; omega, HD3, HBb⟩
          case measure => simp [intOf]; omega
    · obtain rfl : k = n := by omega
      obtain rfl : T = D := by rw [HTx.out, HD.out]
      clear HTx HD
      go_wp2
      go_ret
      exact ⟨rfl, HB.out⟩

/-- what PowersText gives -/
noncomputable def pwTx (zs : List Int) (n : Nat) : ByteArray := if pwB zs n = true then bs (pwT (pwL zs n)) else ⟨#[]⟩
noncomputable def pwTc (zs : List Int) (n : Nat) : Int := if pwB zs n = true then 0 else 1
theorem pwB_true {zs : List Int} {n : Nat} (h : pwB zs n = true) : PwOk zs n := by
  unfold pwB at h
  exact @of_decide_eq_true _ (Classical.propDecidable _) h

set_option maxHeartbeats 800000 in
theorem implPowersText_at {A : Option Addr} {n c : Nat} {zs : List Int} {T : ByteArray} {C : Int} (hTx : T = pwTx zs n) (hC : C = pwTc zs n) (w : World) (hr : RdC 2 w A n c (zs.map (Value.int .i64))) (hT : Tb w) :
    Calls Tryd.prog 25 #[.slice A n c] w fun e w' => e = .returned (.tuple #[.string T, .int .i64 C]) ∧ Below w.heap.size w w' := by
  have HT := Lib.hid hT
  clear hT
  have HR := Lib.hid hr
  clear hr
  cases hB : pwB zs n with
  | true =>
    have H := Lib.hid (pwB_true hB)
    have HE : Hid (T = bs (pwT (pwL zs n))) := Lib.hid (by rw [hTx]; unfold pwTx; rw [if_pos hB])
    obtain rfl : C = 0 := by rw [hC]; unfold pwTc; rw [if_pos hB]
    have HBq := Lib.hid hB
    clear hB hTx hC
    go_enter Tryd.func25, Tryd.ntmps25
    go_wp2_with fail
    refine (arePowers_any _ _ _ _ _ HR.out).mono ?_
    rintro e w1 ⟨rfl, hb⟩
    have HB := Lib.hid hb
    have HR2 := Lib.hid (HR.out.below hb)
    clear hb
    rw [HBq.out]
    go_wp2_with fail
    refine (powersText_at HE.out _ HR2.out H.out (HT.out.below HB.out)).mono ?_
    rintro e w2 ⟨rfl, hb⟩
    have HB2 := Lib.hid (bl_trans HB.out hb)
    clear hb
    go_wp2
    go_ret2
    exact ⟨rfl, HB2.out⟩
  | false =>
    obtain rfl : T = ⟨#[]⟩ := by rw [hTx]; unfold pwTx; rw [if_neg (by rw [hB]; simp)]
    obtain rfl : C = 1 := by rw [hC]; unfold pwTc; rw [if_neg (by rw [hB]; simp)]
    have HBq := Lib.hid hB
    clear hB hTx hC
    go_enter Tryd.func25, Tryd.ntmps25
    go_wp2_with fail
    refine (arePowers_any _ _ _ _ _ HR.out).mono ?_
    rintro e w1 ⟨rfl, hb⟩
    have HB := Lib.hid hb
    clear hb
    rw [HBq.out]
    go_wp2
    go_ret2
    exact ⟨rfl, HB.out⟩

set_option maxHeartbeats 800000 in
theorem specPowersText_at {A : Option Addr} {n c : Nat} {zs : List Int} {T : ByteArray} {C : Int} (hTx : T = pwTx zs n) (hC : C = pwTc zs n) (w : World) (hr : RdC 2 w A n c (zs.map (Value.int .i64))) :
    Calls Tryd.prog 23 #[.slice A n c] w fun e w' => e = .returned (.tuple #[.string T, .int .i64 C]) ∧ Below w.heap.size w w' := by
  have HR := Lib.hid hr
  clear hr
  cases hB : pwB zs n with
  | true =>
    have H := Lib.hid (pwB_true hB)
    have HE : Hid (T = bs (pwT (pwL zs n))) := Lib.hid (by rw [hTx]; unfold pwTx; rw [if_pos hB])
    obtain rfl : C = 0 := by rw [hC]; unfold pwTc; rw [if_pos hB]
    have HBq := Lib.hid hB
    clear hB hTx hC
    go_enter Tryd.func23, Tryd.ntmps23
    go_wp2_with fail
    refine (l01Powers_any _ _ _ _ _ HR.out).mono ?_
    rintro e w1 ⟨rfl, hb⟩
    have HB := Lib.hid hb
    have HR2 := Lib.hid (HR.out.below hb)
    clear hb
    rw [HBq.out]
    go_wp2_with fail
    refine (l01PowersText_at HE.out _ HR2.out H.out).mono ?_
    rintro e w2 ⟨rfl, hb⟩
    have HB2 := Lib.hid (bl_trans HB.out hb)
    clear hb
    go_wp2
    go_ret2
    exact ⟨rfl, HB2.out⟩
  | false =>
    obtain rfl : T = ⟨#[]⟩ := by rw [hTx]; unfold pwTx; rw [if_neg (by rw [hB]; simp)]
    obtain rfl : C = 1 := by rw [hC]; unfold pwTc; rw [if_neg (by rw [hB]; simp)]
    have HBq := Lib.hid hB
    clear hB hTx hC
    go_enter Tryd.func23, Tryd.ntmps23
    go_wp2_with fail
    refine (l01Powers_any _ _ _ _ _ HR.out).mono ?_
    rintro e w1 ⟨rfl, hb⟩
    have HB := Lib.hid hb
    clear hb
    rw [HBq.out]
    go_wp2
    go_ret2
    exact ⟨rfl, HB.out⟩
end Go.Proofs.YtgajgonepcikbaaDoor
