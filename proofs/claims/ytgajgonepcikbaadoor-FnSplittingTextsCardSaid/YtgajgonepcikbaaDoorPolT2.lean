
/- Texts of polynomials in a walk: the reference's. -/
import Derived.Test.YtgajgonepcikbaaDoorPolT
import Derived.Deep.LoopGhost
import Derived.Deep.CutBlock
import Derived.Deep.DeepCutAuto
namespace Go.Proofs.YtgajgonepcikbaaDoor
open Go.RowKit Go.Joins

/-- the pieces behind the sign -/
def tc (c i : Nat) : List UInt8 := if c = 1 ∧ ¬ i = 0 then [] else Lib.decDigits c
def tp (i : Nat) : List UInt8 := if i = 0 then [] else if i = 1 then [120] else 120 :: 94 :: Lib.decDigits i

theorem b45 : (⟨#[45]⟩ : ByteArray) = bs [45] := rfl
theorem b43 : (⟨#[43]⟩ : ByteArray) = bs [43] := rfl
theorem b94 : (⟨#[94]⟩ : ByteArray) = bs [94] := rfl
theorem b120 : (⟨#[120]⟩ : ByteArray) = bs [120] := rfl
theorem tmW_eq (c i : Nat) : tmW c i = tc c i ++ tp i := rfl
set_option maxRecDepth 100000 in
set_option maxHeartbeats 6400000 in
theorem l06Text_at {A : Option Addr} {n c : Nat} {xs : List Int} {T : ByteArray} (hTx : T = bs (plT xs)) (w : World) (hr : Rd .i64 w A n c xs) (h : POk xs) :
    Calls Tryd.prog 64 #[.slice A n c] w fun e w' => e = .returned (.string T) ∧ Below w.heap.size w w' := by
  obtain ⟨hl, hc, hm, hr⟩ := hr
  unfold maxLen at hm
  rcases Nat.eq_zero_or_pos n with h0 | h0
  · subst h0
    obtain rfl : xs = [] := List.eq_nil_of_length_eq_zero hl
    obtain rfl : T = ⟨#[48]⟩ := by rw [hTx]; rfl
    have he1 : (ByteArray.toList ⟨#[]⟩).isEmpty = true := by rw [bs_nil, bs_toList]; rfl
    clear hr hTx h
    go_enter Tryd.func64, Tryd.ntmps64
    go_wp2
    refine wp_loop_rounds 1 ?_
    rw [rounds_succ]
    go_wp2
    go_ret
    exact ⟨rfl, Below.refl _ _⟩
  obtain ⟨b, off, rfl, hb, hcell⟩ := hr h0
  clear hr
  have hn9 : n ≤ 9 := by rw [← hl]; exact h.1
  have HC := Lib.hid hcell
  have HCo := Lib.hid h.2.1
  have HL := Lib.hid hl
  have HTx : Hid (T = if plA xs n n = [] then ⟨#[48]⟩ else bs (plA xs n n)) := Lib.hid (by
    rw [hTx]; unfold plT; rw [hl]
    split <;> rfl)
  clear hcell h hTx hl
  go_enter Tryd.func64, Tryd.ntmps64
  go_wp2
  go_loopg [3, 4] n (fun g s i wr => ∃ (k : Nat) (D : ByteArray), g = k ∧ k ≤ n ∧ i = .int .i64 ((k : Int) - 1) ∧ s = .string D ∧ D.size + 50 * k ≤ 450 ∧ Hid (D = bs (plA xs n (n - k))) ∧ Hid (Below w.heap.size w wr))
  case atStart => exact ⟨n, ⟨#[]⟩, rfl, Nat.le_refl _, rfl, rfl, by show 0 + 50 * n ≤ 450; omega, Lib.hid (by rw [Nat.sub_self]; rfl), Lib.hid (Below.refl _ _)⟩
  case round =>
    obtain ⟨k, D, rfl, hk, rfl, rfl, hz, HD, HB⟩ := hrel
    cases gk with
    | zero =>
      rw [Nat.sub_zero] at HD
      by_cases he : plA xs n n = []
      · obtain rfl : T = ⟨#[48]⟩ := by rw [HTx.out, if_pos he]
        obtain rfl : D = ⟨#[]⟩ := by rw [HD.out, he]; rfl
        have he1 : (ByteArray.toList ⟨#[]⟩).isEmpty = true := by rw [bs_nil, bs_toList]; rfl
        clear HTx he HD
        go_wp2
        go_ret
        exact ⟨rfl, HB.out⟩
      · have hne := not_nil HD.out he
        obtain rfl : T = D := by rw [HTx.out, if_neg he, HD.out]
        clear HTx HD he
        go_wp2
        go_ret
        exact ⟨rfl, HB.out⟩
    | succ m =>
      have ei : ((m + 1 : Nat) : Int) - 1 = m := by omega
      rw [ei]
      have hx := keep_cell HB.out (HC.out m (by omega))
      obtain ⟨x, hxe⟩ : ∃ x, x = xs.getD m 0 := ⟨_, rfl⟩
      rw [← hxe] at hx
      have ⟨x1, x2⟩ := HCo.out m (by rw [HL.out]; omega)
      rw [← hxe] at x1 x2
      have HP := Lib.hid (plA_down (fs := xs) (n := n) (m := m) (by omega))
      rw [← hxe] at HP
      clear hxe ei
      by_cases hx0 : x = 0
      · subst hx0
        have HD2 : Hid (D = bs (plA xs n (n - m))) := Lib.hid (by rw [HP.out, if_pos rfl]; exact HD.out)
        clear HD HP
        go_wp2
        go_roundg m
        case measure => omega
        case rel => exact ⟨m, D, rfl, by omega, rfl, rfl, by omega, HD2, HB⟩
      · go_upto_if 20 with fail
        clear hx
        go_cut [3, 4, 5] (fun s3 s4 s5 wx => wr = wx ∧ ∃ S : ByteArray, s3 = .string S ∧ s4 = .int .i64 m ∧ s5 = .int .i64 x ∧ S.size + 50 * m ≤ 401 ∧ Hid (S ++ bs (tmW x.natAbs m) = bs (plA xs n (n - m))))
        case first =>
          by_cases hneg : x < 0
          · have HD2 : Hid (D ++ ⟨#[45]⟩ ++ bs (tmW x.natAbs m) = bs (plA xs n (n - m))) := Lib.hid (by
              rw [HP.out, if_neg hx0, if_pos hneg, HD.out, b45, bs_app, bs_app])
            have y1 : ¬ D.size + 1 > 9223372036854775807 := by omega
            clear HD HP
            go_wp2
            go_meet
            exact ⟨rfl, _, rfl, rfl, rfl, by rw [ByteArray.size_append, size1]; omega, HD2⟩
          · by_cases he : plA xs n (n - (m + 1)) = []
            · have HD2 : Hid (D ++ bs (tmW x.natAbs m) = bs (plA xs n (n - m))) := Lib.hid (by
                rw [HP.out, if_neg hx0, if_neg hneg, if_pos he, HD.out, bs_app, List.append_nil])
              have he1 : D.toList.isEmpty = true := by rw [HD.out, he, bs_toList]; rfl
              clear HD HP he
              go_wp2
              go_meet
              exact ⟨rfl, _, rfl, rfl, rfl, by omega, HD2⟩
            · have HD2 : Hid (D ++ ⟨#[43]⟩ ++ bs (tmW x.natAbs m) = bs (plA xs n (n - m))) := Lib.hid (by
                rw [HP.out, if_neg hx0, if_neg hneg, if_neg he, HD.out, b43, bs_app, bs_app])
              have he1 := not_nil HD.out he
              have y1 : ¬ D.size + 1 > 9223372036854775807 := by omega
              clear HD HP he
              go_wp2
              go_meet
              exact ⟨rfl, _, rfl, rfl, rfl, by rw [ByteArray.size_append, size1]; omega, HD2⟩
        case rest =>
          clear HD HP hz
          obtain ⟨rfl, S, rfl, rfl, rfl, hzS, HS⟩ := hcut
          obtain ⟨sh, hsh⟩ : ∃ sh : Bool, sh = decide (¬ x.natAbs = 1 ∨ m = 0) := ⟨_, rfl⟩
          have HSh := Lib.hid hsh
          clear hsh
          go_upto_region 11 with fail
          go_cut [4, 33] (fun s4 s33 wx => wr = wx ∧ s4 = .int .i64 m ∧ s33 = .bool sh)
          case first =>
            by_cases ha : x.natAbs = 1
            · by_cases hi : m = 0
              · obtain rfl : sh = true := by rw [HSh.out]; exact decide_eq_true (.inr hi)
                go_wp2_with (go_at_call 110; refine (l01Abs_any _ (by omega) (by omega) _).mono ?_; rintro e w' ⟨rfl, rfl⟩)
                go_meet
                exact ⟨rfl, by rw [hi]; rfl, rfl⟩
              · obtain rfl : sh = false := by rw [HSh.out]; exact decide_eq_false (by omega)
                have hib : ((m : Int) == 0) = false := by simp; omega
                have hab : ((x.natAbs : Int) == 1) = true := by simp; omega
                go_wp2_with (go_at_call 110; refine (l01Abs_any _ (by omega) (by omega) _).mono ?_; rintro e w' ⟨rfl, rfl⟩)
                go_meet
                exact ⟨rfl, rfl, rfl⟩
            · obtain rfl : sh = true := by rw [HSh.out]; exact decide_eq_true (.inl ha)
              have hab : ((x.natAbs : Int) == 1) = false := by simp; omega
              go_wp2_with (go_at_call 110; refine (l01Abs_any _ (by omega) (by omega) _).mono ?_; rintro e w' ⟨rfl, rfl⟩)
              go_meet
              exact ⟨rfl, rfl, rfl⟩
          case rest =>
            obtain ⟨rfl, rfl, rfl⟩ := hcut
            go_upto_if 33 with fail
            go_cut [3, 4, 5] (fun s3 s4 s5 wx => ∃ U : ByteArray, s3 = .string U ∧ s4 = .int .i64 m ∧ s5 = .int .i64 x ∧ U.size + 50 * m ≤ 421 ∧ Hid (U ++ bs (tp m) = bs (plA xs n (n - m))) ∧ Hid (Below w.heap.size w wx))
            case first =>
              by_cases hsh : ¬ x.natAbs = 1 ∨ m = 0
              · obtain rfl : sh = true := by rw [HSh.out]; exact decide_eq_true hsh
                obtain ⟨Dc, hDc⟩ : ∃ E, E = bs (Lib.decDigits ((x.natAbs : Int)).toNat) := ⟨_, rfl⟩
                have HDc := Lib.hid hDc
                have z1 : Dc.size ≤ 20 := by rw [hDc, bs_size]; exact dec_len20 (by omega)
                have HU : Hid (S ++ Dc ++ bs (tp m) = bs (plA xs n (n - m))) := Lib.hid (by
                  rw [← HS.out, tmW_eq, hDc, ByteArray.append_assoc, bs_app]
                  unfold tc
                  rw [if_neg (by omega)]
                  rfl)
                have y1 : ¬ S.size + Dc.size > 9223372036854775807 := by omega
                clear hDc hsh
                go_wp2_with (first | (go_at_call 110; refine (l01Abs_any _ (by omega) (by omega) _).mono ?_; rintro e w' ⟨rfl, rfl⟩) | (go_at_call 106; refine (l01Dec_at HDc.out _ (by omega) (by omega)).mono ?_; rintro e wa ⟨rfl, hbc⟩; have HBa := Lib.hid (bl_trans HB.out hbc); clear hbc))
                go_meet
                exact ⟨_, rfl, rfl, rfl, by rw [ByteArray.size_append]; omega, HU, HBa⟩
              · obtain rfl : sh = false := by rw [HSh.out]; exact decide_eq_false hsh
                have HU : Hid (S ++ bs (tp m) = bs (plA xs n (n - m))) := Lib.hid (by
                  rw [← HS.out, tmW_eq]
                  unfold tc
                  rw [if_pos (by omega)]
                  rfl)
                clear hsh
                go_wp2
                go_meet
                exact ⟨_, rfl, rfl, rfl, by omega, HU, HB⟩
            case rest =>
              obtain ⟨U, rfl, rfl, rfl, hzU, HU, HBu⟩ := hcut
              by_cases hi0 : m = 0
              · have HD2 : Hid (U = bs (plA xs n (n - m))) := Lib.hid (by rw [← HU.out, hi0]; exact (ByteArray.append_empty).symm)
                clear HU HS
                go_wp2
                go_roundg m
                case measure => omega
                case rel => exact ⟨m, U, rfl, by omega, by rw [hi0]; rfl, rfl, by omega, HD2, HBu⟩
              · by_cases hi1 : m = 1
                · have HD2 : Hid (U ++ ⟨#[120]⟩ = bs (plA xs n (n - m))) := Lib.hid (by rw [← HU.out, hi1]; rfl)
                  have y1 : ¬ U.size + 1 > 9223372036854775807 := by omega
                  clear HU HS
                  go_wp2
                  go_roundg m
                  case measure => omega
                  case rel => exact ⟨m, U ++ ⟨#[120]⟩, rfl, by omega, by rw [hi1]; rfl, rfl, by rw [ByteArray.size_append, size1]; omega, HD2, HBu⟩
                · obtain ⟨Di, hDi⟩ : ∃ E, E = bs (Lib.decDigits ((m : Int)).toNat) := ⟨_, rfl⟩
                  have HDi := Lib.hid hDi
                  have z2 : Di.size ≤ 20 := by rw [hDi, bs_size]; exact dec_len20 (by omega)
                  have HD2 : Hid (U ++ ⟨#[120]⟩ ++ ⟨#[94]⟩ ++ Di = bs (plA xs n (n - m))) := Lib.hid (by
                    rw [← HU.out, hDi, b120, b94, ByteArray.append_assoc, ByteArray.append_assoc, bs_app, bs_app]
                    unfold tp
                    rw [if_neg hi0, if_neg hi1]
                    rfl)
                  have y1 : ¬ U.size + 1 > 9223372036854775807 := by omega
                  have y2 : ¬ U.size + 1 + 1 > 9223372036854775807 := by omega
                  have y3 : ¬ U.size + 1 + 1 + Di.size > 9223372036854775807 := by omega
                  clear HU HS hDi
                  go_wp2_with (first | (go_at_call 106; refine (l01Dec_at HDi.out _ (by omega) (by omega)).mono ?_; rintro e wa ⟨rfl, hbc⟩; have HBa := Lib.hid (bl_trans HBu.out hbc); clear hbc))
                  go_roundg m
                  case measure => omega
                  case rel => exact ⟨m, U ++ ⟨#[120]⟩ ++ ⟨#[94]⟩ ++ Di, rfl, by omega, rfl, rfl, by rw [ByteArray.size_append, ByteArray.size_append, ByteArray.size_append, size1, size1]; omega, HD2, HBa⟩

set_option maxHeartbeats 800000 in
theorem specPolynomialText_at {A : Option Addr} {n c : Nat} {xs : List Int} {T : ByteArray} {C : Int} (hTx : T = ptT xs) (hC : C = ptC xs) (w : World) (hr : Rd .i64 w A n c xs) :
    Calls Tryd.prog 18 #[.slice A n c] w fun e w' => e = .returned (.tuple #[.string T, .int .i64 C]) ∧ Below w.heap.size w w' := by
  have HR := Lib.hid hr
  clear hr
  by_cases h : POk xs
  · have H := Lib.hid h
    have HE : Hid (T = bs (plT xs)) := Lib.hid (by rw [hTx, (ptT_yes h).1])
    obtain rfl : C = 0 := by rw [hC, (ptT_yes h).2]
    clear h hTx hC
    go_enter Tryd.func18, Tryd.ntmps18
    go_wp2_with (first | (go_at_call 63; refine (specIsPolynomial_yes _ _ _ _ _ HR.out H.out).mono ?_; rintro e w' ⟨rfl, rfl⟩) | (go_at_call 64; refine (l06Text_at HE.out _ HR.out H.out).mono ?_; rintro e w1 ⟨rfl, hb⟩; have HB := Lib.hid hb; clear hb))
    go_ret2
    exact ⟨rfl, HB.out⟩
  · have H := Lib.hid h
    obtain rfl : T = ⟨#[]⟩ := by rw [hTx, (ptT_no h).1]
    obtain rfl : C = 1 := by rw [hC, (ptT_no h).2]
    clear h hTx hC
    go_enter Tryd.func18, Tryd.ntmps18
    go_wp2_with (go_at_call 63; refine (specIsPolynomial_no _ _ _ _ _ HR.out H.out).mono ?_; rintro e w' ⟨rfl, rfl⟩)
    go_ret2
    exact ⟨rfl, Below.refl _ _⟩
end Go.Proofs.YtgajgonepcikbaaDoor
