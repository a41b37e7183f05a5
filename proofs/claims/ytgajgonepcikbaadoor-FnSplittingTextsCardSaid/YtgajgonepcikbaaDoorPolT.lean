
/- Texts of polynomials in a walk: the program's. -/
import Derived.Test.YtgajgonepcikbaaDoorRatT
import Derived.Test.YtgajgonepcikbaaDoorTxt3
import Derived.Test.YtgajgonepcikbaaDoorSl
namespace Go.Proofs.YtgajgonepcikbaaDoor
open Go.RowKit Go.Joins

theorem tmW_len {c i : Nat} (hc : c ≤ 1000000) (hi : i ≤ 8) : (tmW c i).length ≤ 45 := by
  have h1 := dec_len (u := c) (k := 19) (Nat.lt_of_le_of_lt (m := 9223372036854775807) (by omega) (by decide))
  have h2 := dec_len (u := i) (k := 19) (Nat.lt_of_le_of_lt (m := 9223372036854775807) (by omega) (by decide))
  unfold tmW
  rw [List.length_append]
  have : (if c = 1 ∧ ¬ i = 0 then [] else Lib.decDigits c : List UInt8).length ≤ 20 := by
    split
    · simp
    · omega
  have : (if i = 0 then [] else if i = 1 then [120] else 120 :: 94 :: Lib.decDigits i : List UInt8).length ≤ 22 := by
    split
    · simp
    · split
      · simp
      · simp; omega
  omega
theorem abs_dec {c : Int} : Lib.itoa (c.natAbs : Int) = Lib.decDigits c.natAbs := itoa_nat _

set_option maxHeartbeats 1600000 in
theorem termText1_at {i : Nat} {D : ByteArray} (hD : D = bs (tmW 1 i)) (h0 : ¬ i = 0) (hi : i ≤ 8) (w : World) (hT : Tb w) :
    Calls Tryd.prog 113 #[.int .i64 1, .int .i64 i] w fun e w' => e = .returned (.string D) ∧ Below w.heap.size w w' := by
  have HT := Lib.hid hT
  clear hT
  by_cases h1 : i = 1
  · subst h1
    obtain rfl : D = ⟨#[120]⟩ := by rw [hD]; rfl
    clear hD
    go_enter Tryd.func113, Tryd.ntmps113
    go_wp2_with (go_at_call 128; refine (abs_any _ (by omega) (by omega) _).mono ?_; rintro e w' ⟨rfl, rfl⟩)
    go_ret
    exact ⟨rfl, Below.refl _ _⟩
  · obtain ⟨E, hE⟩ : ∃ E, E = bs (Lib.itoa (i : Int)) := ⟨_, rfl⟩
    have HE := Lib.hid hE
    have HD : Hid (D = ⟨#[120, 94]⟩ ++ E) := Lib.hid (by
      rw [hD, hE, itoa_nat, show (⟨#[120, 94]⟩ : ByteArray) = bs [120, 94] from rfl, bs_app]
      unfold tmW
      rw [if_pos ⟨rfl, h0⟩, if_neg h0, if_neg h1]
      rfl)
    have hz : E.size ≤ 21 := by rw [hE, bs_size]; exact itoa_len (by omega) (by omega)
    have hns : ¬ 2 + E.size > 9223372036854775807 := by omega
    clear hD hE
    go_enter Tryd.func113, Tryd.ntmps113
    go_wp2_with (first | (go_at_call 128; refine (abs_any _ (by omega) (by omega) _).mono ?_; rintro e w' ⟨rfl, rfl⟩) | (go_at_call 109; refine (decimal_at HE.out _ (by omega) (by omega) HT.out).mono ?_; rintro e w1 ⟨rfl, hb1⟩; have HB1 := Lib.hid hb1; clear hb1))
    go_ret
    exact ⟨by rw [HD.out]; rfl, HB1.out⟩

set_option maxRecDepth 100000 in
set_option maxHeartbeats 1600000 in
theorem termText_at {c : Int} {i : Nat} {D : ByteArray} (hD : D = bs (tmW c.natAbs i)) (c1 : -1000000 ≤ c) (c2 : c ≤ 1000000) (hi : i ≤ 8) (w : World) (hT : Tb w) :
    Calls Tryd.prog 113 #[.int .i64 c, .int .i64 i] w fun e w' => e = .returned (.string D) ∧ Below w.heap.size w w' := by
  have HT := Lib.hid hT
  clear hT
  obtain ⟨E, hE⟩ : ∃ E, E = bs (Lib.itoa (c.natAbs : Int)) := ⟨_, rfl⟩
  have HE := Lib.hid hE
  have hz : E.size ≤ 21 := by rw [hE, bs_size]; exact itoa_len (by omega) (by omega)
  by_cases h0 : i = 0
  · subst h0
    have HD : Hid (D = E) := Lib.hid (by rw [hD, hE, itoa_nat]; unfold tmW; rw [if_neg (fun h => h.2 rfl), if_pos rfl, List.append_nil])
    clear hD hE
    go_enter Tryd.func113, Tryd.ntmps113
    go_wp2_with (first | (go_at_call 128; refine (abs_any _ (by omega) (by omega) _).mono ?_; rintro e w' ⟨rfl, rfl⟩) | (go_at_call 109; refine (decimal_at HE.out _ (by omega) (by omega) HT.out).mono ?_; rintro e w1 ⟨rfl, hb1⟩; have HB1 := Lib.hid hb1; clear hb1))
    go_ret
    exact ⟨by rw [HD.out]; rfl, HB1.out⟩
  · by_cases ha : c.natAbs = 1
    · by_cases h1 : i = 1
      · subst h1
        obtain rfl : D = ⟨#[120]⟩ := by rw [hD, ha]; rfl
        have hab : ((c.natAbs : Int) == 1) = true := by simp [ha]
        clear hD ha hE
        go_enter Tryd.func113, Tryd.ntmps113
        go_wp2_with (go_at_call 128; refine (abs_any _ (by omega) (by omega) _).mono ?_; rintro e w' ⟨rfl, rfl⟩)
        go_ret
        exact ⟨rfl, Below.refl _ _⟩
      · obtain ⟨E2, hE2⟩ : ∃ E, E = bs (Lib.itoa (i : Int)) := ⟨_, rfl⟩
        have HE2 := Lib.hid hE2
        have HD : Hid (D = ⟨#[120, 94]⟩ ++ E2) := Lib.hid (by
          rw [hD, hE2, itoa_nat, show (⟨#[120, 94]⟩ : ByteArray) = bs [120, 94] from rfl, bs_app]
          unfold tmW
          rw [if_pos ⟨ha, h0⟩, if_neg h0, if_neg h1]
          rfl)
        have hz2 : E2.size ≤ 21 := by rw [hE2, bs_size]; exact itoa_len (by omega) (by omega)
        have hns : ¬ 2 + E2.size > 9223372036854775807 := by omega
        have hab : ((c.natAbs : Int) == 1) = true := by simp [ha]
        clear hD hE hE2 ha
        go_enter Tryd.func113, Tryd.ntmps113
        go_wp2_with (first | (go_at_call 128; refine (abs_any _ (by omega) (by omega) _).mono ?_; rintro e w' ⟨rfl, rfl⟩) | (go_at_call 109; refine (decimal_at HE2.out _ (by omega) (by omega) HT.out).mono ?_; rintro e w1 ⟨rfl, hb1⟩; have HB1 := Lib.hid hb1; clear hb1))
        go_ret
        exact ⟨by rw [HD.out]; rfl, HB1.out⟩
    · obtain ⟨E2, hE2⟩ : ∃ E, E = bs (tmW 1 i) := ⟨_, rfl⟩
      have HE2 := Lib.hid hE2
      have HD : Hid (D = E ++ E2) := Lib.hid (by
        rw [hD, hE, hE2, itoa_nat, bs_app]
        unfold tmW
        rw [if_neg (fun h => ha h.1), if_pos (⟨rfl, h0⟩ : 1 = 1 ∧ ¬ i = 0)]
        rfl)
      have hz2 : E2.size ≤ 45 := by rw [hE2, bs_size]; exact tmW_len (by omega) hi
      have hns : ¬ E.size + E2.size > 9223372036854775807 := by omega
      have hab : ((c.natAbs : Int) == 1) = false := by simp; omega
      clear hD hE hE2 ha
      go_enter Tryd.func113, Tryd.ntmps113
      go_wp2_with (first | (go_at_call 128; refine (abs_any _ (by omega) (by omega) _).mono ?_; rintro e w' ⟨rfl, rfl⟩) | (go_at_call 109; refine (decimal_at HE.out _ (by omega) (by omega) HT.out).mono ?_; rintro e w1 ⟨rfl, hb1⟩; have HB1 := Lib.hid hb1; clear hb1) | (go_at_call 113; refine (termText1_at HE2.out h0 hi _ (HT.out.below HB1.out)).mono ?_; rintro e w2 ⟨rfl, hb2⟩; have HB2 := Lib.hid (bl_trans HB1.out hb2); clear hb2))
      go_ret
      exact ⟨by rw [HD.out]; rfl, HB2.out⟩

theorem plA_down {fs : List Int} {n m : Nat} (h : m < n) : plA fs n (n - m) = if fs.getD m 0 = 0 then plA fs n (n - (m + 1)) else plA fs n (n - (m + 1)) ++ (if fs.getD m 0 < 0 then [45] else if plA fs n (n - (m + 1)) = [] then [] else [43]) ++ tmW (fs.getD m 0).natAbs m := by
  have e : n - m = (n - (m + 1)) + 1 := by omega
  have e2 : n - 1 - (n - (m + 1)) = m := by omega
  rw [e]
  conv => lhs; unfold plA
  rw [e2]
theorem size1 (x : UInt8) : (⟨#[x]⟩ : ByteArray).size = 1 := rfl
theorem bs_nil : (⟨#[]⟩ : ByteArray) = bs [] := rfl
theorem not_nil {D : ByteArray} {l : List UInt8} (h : D = bs l) (hl : ¬ l = []) : D.toList.isEmpty = false := by
  subst h
  rw [bs_toList]
  simpa using hl

set_option maxRecDepth 100000 in
set_option maxHeartbeats 3200000 in
theorem polynomialText_at {A : Option Addr} {n c : Nat} {xs : List Int} {T : ByteArray} (hTx : T = bs (plT xs)) (w : World) (hr : Rd .i64 w A n c xs) (h : POk xs) (hT : Tb w) :
    Calls Tryd.prog 66 #[.slice A n c] w fun e w' => e = .returned (.string T) ∧ Below w.heap.size w w' := by
  obtain ⟨hl, hc, hm, hr⟩ := hr
  unfold maxLen at hm
  have HT := Lib.hid hT
  clear hT
  rcases Nat.eq_zero_or_pos n with h0 | h0
  · subst h0
    obtain rfl : xs = [] := List.eq_nil_of_length_eq_zero hl
    obtain rfl : T = ⟨#[48]⟩ := by rw [hTx]; rfl
    clear hr hTx h
    go_enter Tryd.func66, Tryd.ntmps66
    go_wp2
    refine wp_loop_rounds 1 ?_
    rw [rounds_succ]
    go_wp2
    go_ret
    exact ⟨rfl, Below.refl _ _⟩
  obtain ⟨b, off, rfl, hb, hcell⟩ := hr h0
  clear hr
  have hn9 : n ≤ 9 := by rw [← hl]; exact h.1
  have HC := Lib.hid hcell
  have HCo := Lib.hid h.2.1
  have HL := Lib.hid hl
  have HTx : Hid (T = if plA xs n n = [] then ⟨#[48]⟩ else bs (plA xs n n)) := Lib.hid (by
    rw [hTx]; unfold plT; rw [hl]
    split <;> rfl)
  clear hcell h hTx hl
  go_enter Tryd.func66, Tryd.ntmps66
  go_wp2
  go_loopw [3, 4] (fun s i wr => ∃ (k : Nat) (D : ByteArray), k ≤ n ∧ i = .int .i64 ((k : Int) - 1) ∧ s = .string D ∧ D.size + 50 * k ≤ 450 ∧ Hid (D = bs (plA xs n (n - k))) ∧ Hid (Below w.heap.size w wr)) (fun _ i _ => (intOf i + 1).toNat)
  case atStart => exact ⟨n, ⟨#[]⟩, Nat.le_refl _, rfl, rfl, by show 0 + 50 * n ≤ 450; omega, Lib.hid (by rw [Nat.sub_self]; rfl), Lib.hid (Below.refl _ _)⟩
  case round =>
    obtain ⟨k, D, hk, rfl, rfl, hz, HD, HB⟩ := hrel
    cases k with
    | zero =>
      rw [Nat.sub_zero] at HD
      by_cases he : plA xs n n = []
      · obtain rfl : T = ⟨#[48]⟩ := by rw [HTx.out, if_pos he]
        obtain rfl : D = ⟨#[]⟩ := by rw [HD.out, he]; rfl
        have he1 : (ByteArray.toList ⟨#[]⟩).isEmpty = true := by rw [bs_nil, bs_toList]; rfl
        clear HTx he HD
        go_wp2
        go_ret
        exact ⟨rfl, HB.out⟩
      · have hne := not_nil HD.out he
        obtain rfl : T = D := by rw [HTx.out, if_neg he, HD.out]
        clear HTx HD he
        go_wp2
        go_ret
        exact ⟨rfl, HB.out⟩
    | succ m =>
      have ei : ((m + 1 : Nat) : Int) - 1 = m := by omega
      rw [ei]
      have hx := keep_cell HB.out (HC.out m (by omega))
      obtain ⟨x, hxe⟩ : ∃ x, x = xs.getD m 0 := ⟨_, rfl⟩
      rw [← hxe] at hx
      have ⟨x1, x2⟩ := HCo.out m (by rw [HL.out]; omega)
      rw [← hxe] at x1 x2
      have HP := Lib.hid (plA_down (fs := xs) (n := n) (m := m) (by omega))
      rw [← hxe] at HP
      clear hxe ei
      by_cases hx0 : x = 0
      · subst hx0
        have HD2 : Hid (D = bs (plA xs n (n - m))) := Lib.hid (by rw [HP.out, if_pos rfl]; exact HD.out)
        clear HD HP
        go_wp2
        go_roundw
        case rel => exact ⟨m, D, by omega, rfl, rfl, by omega, HD2, HB⟩
        case measure => simp [intOf]
      · obtain ⟨E, hE⟩ : ∃ E, E = bs (tmW x.natAbs m) := ⟨_, rfl⟩
        have HE := Lib.hid hE
        have hz2 : E.size ≤ 45 := by rw [hE, bs_size]; exact tmW_len (by omega) (by omega)
        by_cases hneg : x < 0
        · have HD2 : Hid (D ++ ⟨#[45]⟩ ++ E = bs (plA xs n (n - m))) := Lib.hid (by
            rw [HP.out, if_neg hx0, if_pos hneg, hE, HD.out, show (⟨#[45]⟩ : ByteArray) = bs [45] from rfl, bs_app, bs_app])
          have y1 : ¬ D.size + 1 > 9223372036854775807 := by omega
          have y2 : ¬ D.size + 1 + E.size > 9223372036854775807 := by omega
          clear HD HP hE
          go_wp2_with fail
          refine (termText_at HE.out x1 x2 (by omega) _ (HT.out.below HB.out)).mono ?_
          rintro e wc ⟨rfl, hbc⟩
          have HBx := Lib.hid (bl_trans HB.out hbc)
          clear hbc
          go_wp2
          go_roundw
          case rel => exact ⟨m, D ++ ⟨#[45]⟩ ++ E, by omega, rfl, rfl, by rw [ByteArray.size_append, ByteArray.size_append, size1]; omega, HD2, HBx⟩
          case measure => simp [intOf]
        · have hpos : 0 < x := by omega
          by_cases he : plA xs n (n - (m + 1)) = []
          · have HD2 : Hid (D ++ E = bs (plA xs n (n - m))) := Lib.hid (by
              rw [HP.out, if_neg hx0, if_neg hneg, if_pos he, hE, HD.out, bs_app, List.append_nil])
            have he1 : D.toList.isEmpty = true := by rw [HD.out, he, bs_toList]; rfl
            have y2 : ¬ D.size + E.size > 9223372036854775807 := by omega
            clear HD HP hE hneg he
            go_wp2_with fail
            refine (termText_at HE.out x1 x2 (by omega) _ (HT.out.below HB.out)).mono ?_
            rintro e wc ⟨rfl, hbc⟩
            have HBx := Lib.hid (bl_trans HB.out hbc)
            clear hbc
            go_wp2
            go_roundw
            case rel => exact ⟨m, D ++ E, by omega, rfl, rfl, by simp; omega, HD2, HBx⟩
            case measure => simp [intOf]
          · have HD2 : Hid (D ++ ⟨#[43]⟩ ++ E = bs (plA xs n (n - m))) := Lib.hid (by
              rw [HP.out, if_neg hx0, if_neg hneg, if_neg he, hE, HD.out, show (⟨#[43]⟩ : ByteArray) = bs [43] from rfl, bs_app, bs_app])
            have he1 := not_nil HD.out he
            have y1 : ¬ D.size + 1 > 9223372036854775807 := by omega
            have y2 : ¬ D.size + 1 + E.size > 9223372036854775807 := by omega
            clear HD HP hE hneg he
            go_wp2_with fail
            refine (termText_at HE.out x1 x2 (by omega) _ (HT.out.below HB.out)).mono ?_
            rintro e wc ⟨rfl, hbc⟩
            have HBx := Lib.hid (bl_trans HB.out hbc)
            clear hbc
            go_wp2
            go_roundw
            case rel => exact ⟨m, D ++ ⟨#[43]⟩ ++ E, by omega, rfl, rfl, by rw [ByteArray.size_append, ByteArray.size_append, size1]; omega, HD2, HBx⟩
            case measure => simp [intOf]

instance decPOkT (xs : List Int) : Decidable (POk xs) := by unfold POk; infer_instance
/-- what PolynomialText gives -/
def ptT (xs : List Int) : ByteArray := if POk xs then bs (plT xs) else ⟨#[]⟩
def ptC (xs : List Int) : Int := if POk xs then 0 else 1
theorem ptT_yes {xs : List Int} (h : POk xs) : ptT xs = bs (plT xs) ∧ ptC xs = 0 := by unfold ptT ptC; rw [if_pos h, if_pos h]; exact ⟨rfl, rfl⟩
theorem ptT_no {xs : List Int} (h : ¬ POk xs) : ptT xs = ⟨#[]⟩ ∧ ptC xs = 1 := by unfold ptT ptC; rw [if_neg h, if_neg h]; exact ⟨rfl, rfl⟩
set_option maxHeartbeats 800000 in
theorem implPolynomialText_at {A : Option Addr} {n c : Nat} {xs : List Int} {T : ByteArray} {C : Int} (hTx : T = ptT xs) (hC : C = ptC xs) (w : World) (hr : Rd .i64 w A n c xs) (hT : Tb w) :
    Calls Tryd.prog 20 #[.slice A n c] w fun e w' => e = .returned (.tuple #[.string T, .int .i64 C]) ∧ Below w.heap.size w w' := by
  have HT := Lib.hid hT
  have HR := Lib.hid hr
  clear hT hr
  by_cases h : POk xs
  · have H := Lib.hid h
    have HE : Hid (T = bs (plT xs)) := Lib.hid (by rw [hTx, (ptT_yes h).1])
    obtain rfl : C = 0 := by rw [hC, (ptT_yes h).2]
    clear h hTx hC
    go_enter Tryd.func20, Tryd.ntmps20
    go_wp2_with (first | (go_at_call 65; refine (implIsPolynomial_yes _ _ _ _ _ HR.out H.out).mono ?_; rintro e w' ⟨rfl, rfl⟩) | (go_at_call 66; refine (polynomialText_at HE.out _ HR.out H.out HT.out).mono ?_; rintro e w1 ⟨rfl, hb⟩; have HB := Lib.hid hb; clear hb))
    go_ret2
    exact ⟨rfl, HB.out⟩
  · have H := Lib.hid h
    obtain rfl : T = ⟨#[]⟩ := by rw [hTx, (ptT_no h).1]
    obtain rfl : C = 1 := by rw [hC, (ptT_no h).2]
    clear h hTx hC
    go_enter Tryd.func20, Tryd.ntmps20
    go_wp2_with (go_at_call 65; refine (implIsPolynomial_no _ _ _ _ _ HR.out H.out).mono ?_; rintro e w' ⟨rfl, rfl⟩)
    go_ret2
    exact ⟨rfl, Below.refl _ _⟩
end Go.Proofs.YtgajgonepcikbaaDoor
