
/- The codes of polynomials that have to be small: a list of slices of integers. -/
import Derived.Test.YthdmanngjnfamaaSmall
import Derived.Test.YthdmanngjnfamaaGiv
namespace Go.Proofs.Ythdmanngjnfamaa
open Go.RowKit

/-- the slice value '.slice A n c' holds slices that read as the lists ps -/
def RdP (w : World) (A : Option Addr) (n c : Nat) (ps : List (List Int)) : Prop :=
  ps.length = n ∧ n ≤ c ∧ c ≤ maxLen ∧ (0 < n → ∃ b off, A = some ⟨b, off, none⟩ ∧ b < w.heap.size ∧ ∀ i, i < n → ∃ Ai ci, w.cell? ⟨b, off + i, none⟩ = some (.slice Ai (ps.getD i []).length ci) ∧ Rd .i64 w Ai (ps.getD i []).length ci (ps.getD i []))
theorem RdP.keep {w w' : World} {A : Option Addr} {n c : Nat} {ps : List (List Int)} (h : RdP w A n c ps) (hk : Holds' w w') : RdP w' A n c ps := by
  refine ⟨h.1, h.2.1, h.2.2.1, fun hn => ?_⟩
  obtain ⟨b, off, e, hb, hc⟩ := h.2.2.2 hn
  refine ⟨b, off, e, Nat.lt_of_lt_of_le hb hk.1, fun i hi => ?_⟩
  obtain ⟨Ai, ci, h1, h2⟩ := hc i hi
  exact ⟨Ai, ci, hk.2 _ _ _ h1, h2.keep hk⟩
theorem RdP.below {w w' : World} {A : Option Addr} {n c : Nat} {ps : List (List Int)} (h : RdP w A n c ps) (hb : Below w.heap.size w w') : RdP w' A n c ps := h.keep (.of_below hb)
/-- the list that a call with one such argument makes -/
theorem RdP.one {w : World} {T : TypeId} {A : Option Addr} {c : Nat} {xs : List Int} (h : Rd .i64 w A xs.length c xs) : RdP (w.alloc (.cells #[.slice A xs.length c] T)) (some ⟨w.heap.size, 0, none⟩) 1 1 [xs] := by
  refine ⟨rfl, Nat.le_refl _, by unfold maxLen; omega, fun _ => ⟨_, 0, rfl, by simp, fun i hi => ?_⟩⟩
  obtain rfl : i = 0 := by omega
  exact ⟨A, c, by simp, h.keep ((Holds'.refl w).alloc _)⟩
theorem RdP.two {w : World} {T : TypeId} {A B : Option Addr} {c d : Nat} {xs ys : List Int} (h : Rd .i64 w A xs.length c xs) (h2 : Rd .i64 w B ys.length d ys) : RdP (w.alloc (.cells #[.slice A xs.length c, .slice B ys.length d] T)) (some ⟨w.heap.size, 0, none⟩) 2 2 [xs, ys] := by
  refine ⟨rfl, Nat.le_refl _, by unfold maxLen; omega, fun _ => ⟨_, 0, rfl, by simp, fun i hi => ?_⟩⟩
  rcases (show i = 0 ∨ i = 1 by omega) with rfl | rfl
  · exact ⟨A, c, by simp, h.keep ((Holds'.refl w).alloc _)⟩
  · exact ⟨B, d, by simp, h2.keep ((Holds'.refl w).alloc _)⟩
instance (xs : List Int) : Decidable (POk xs) := by unfold POk; infer_instance
instance (xs : List Int) : Decidable (SmOk xs) := by unfold SmOk; infer_instance
def npo (xs : List Int) : Bool := !decide (POk xs)
def nso (xs : List Int) : Bool := !decide (SmOk xs)
def smC (ps : List (List Int)) : Int := if ps.any npo = true then 1 else if ps.any nso = true then 2 else 0
theorem anyP_at {p : List Int → Bool} {ps : List (List Int)} {k : Nat} (hk : k < ps.length) (h : p (ps.getD k []) = true) : ps.any p = true := by
  rw [List.any_eq_true]
  exact ⟨ps[k], List.getElem_mem hk, by simpa [List.getD, List.getElem?_eq_getElem hk] using h⟩
theorem anyP_none {p : List Int → Bool} {ps : List (List Int)} (h : ∀ i, i < ps.length → p (ps.getD i []) = false) : ps.any p = false := by
  rw [List.any_eq_false]
  intro x hx
  obtain ⟨i, hi, rfl⟩ := List.getElem_of_mem hx
  have := h i hi
  simpa [List.getD, List.getElem?_eq_getElem hi] using this

theorem npo_any (A : Option Addr) (c : Nat) (xs : List Int) (w : World) (hr : Rd .i64 w A xs.length c xs) :
    Calls Try.prog 127 #[.slice A xs.length c] w fun e w' => e = .returned (.bool (npo xs)) ∧ w = w' := by
  have HR := Lib.hid hr
  clear hr
  unfold npo
  by_cases h : POk xs
  · have H := Lib.hid h
    rw [decide_eq_true h]
    clear h
    go_enter Try.func127, Try.ntmps127
    go_wp2_with (go_at_call 40; refine (implIsPolynomial_yes _ _ _ _ _ HR.out H.out).mono ?_; rintro e w' ⟨rfl, rfl⟩)
    go_ret
    exact ⟨rfl, rfl⟩
  · have H := Lib.hid h
    rw [decide_eq_false h]
    clear h
    go_enter Try.func127, Try.ntmps127
    go_wp2_with (go_at_call 40; refine (implIsPolynomial_no _ _ _ _ _ HR.out H.out).mono ?_; rintro e w' ⟨rfl, rfl⟩)
    go_ret
    exact ⟨rfl, rfl⟩

set_option maxHeartbeats 800000 in
theorem npo_index (A : Option Addr) (n c : Nat) (ps : List (List Int)) (w : World) (hr : RdP w A n c ps) (h0 : 0 < n) :
    Calls Try.prog 142 #[.slice A n c, .func (.func 127) #[] #[]] w fun e w' => (∃ j : Int, e = .returned (.int .i64 j) ∧ decide (0 ≤ j) = ps.any npo) ∧ w = w' := by
  obtain ⟨hl, hc, hm, hr⟩ := hr
  unfold maxLen at hm
  have HL := Lib.hid hl
  clear hl
  obtain ⟨b, off, rfl, hb, hcell⟩ := hr h0
  clear hr
  have HC := Lib.hid hcell
  clear hcell
  go_enter Try.func142, Try.ntmps142
  go_wp2
  go_loop [5, 8] (fun _ j => ∃ k : Nat, k ≤ n ∧ j = .int .i64 k ∧ Hid (∀ i, i < k → npo (ps.getD i []) = false)) (fun _ j => n - (intOf j).toNat)
  case atStart => exact ⟨0, Nat.zero_le _, rfl, Lib.hid (fun i hi => absurd hi (Nat.not_lt_zero _))⟩
  case round =>
    obtain ⟨k, hk, rfl, HN⟩ := hrel
    by_cases hlt : k < n
    · obtain ⟨Ai, ci, hx, hrd⟩ := HC.out k hlt
      obtain ⟨x, hxe⟩ : ∃ x, x = ps.getD k [] := ⟨_, rfl⟩
      rw [← hxe] at hx hrd
      have HX := Lib.hid hxe
      have HD := Lib.hid hrd
      clear hxe hrd
      by_cases hp : npo x = true
      · have HA : Hid (ps.any npo = true) := Lib.hid (anyP_at (k := k) (by have := HL.out; omega) (by rw [← HX.out]; exact hp))
        go_wp2_with (go_at_call 127; refine (npo_any _ _ _ _ HD.out).mono ?_; rintro e w' ⟨rfl, rfl⟩; rw [hp])
        go_ret
        exact ⟨⟨k, rfl, by rw [HA.out]; simp⟩, rfl⟩
      · have hp2 : npo x = false := by simpa using hp
        clear hp
        have HN2 : Hid (∀ i, i < k + 1 → npo (ps.getD i []) = false) := Lib.hid (fun i hi => by
          by_cases e : i = k
          · subst e; rw [← HX.out]; exact hp2
          · exact HN.out i (by omega))
        go_wp2_with (go_at_call 127; refine (npo_any _ _ _ _ HD.out).mono ?_; rintro e w' ⟨rfl, rfl⟩; rw [hp2])
        go_round
        case rel => exact ⟨k + 1, by omega, by go_num, HN2⟩
        case measure => simp [intOf]; omega
    · have HA : Hid (ps.any npo = false) := Lib.hid (anyP_none (fun i hi => HN.out i (by have := HL.out; omega)))
      go_wp2
      go_ret
      exact ⟨⟨-1, rfl, by rw [HA.out]; rfl⟩, rfl⟩

theorem npo_has {A : Option Addr} {n c : Nat} {ps : List (List Int)} {v : Bool} (hv : v = ps.any npo) (w : World) (hr : RdP w A n c ps) (h0 : 0 < n) :
    Calls Try.prog 126 #[.slice A n c, .func (.func 127) #[] #[]] w fun e w' => e = .returned (.bool v) ∧ w = w' := by
  subst hv
  have HR := Lib.hid hr
  clear hr
  go_enter Try.func126, Try.ntmps126
  go_wp2_with (go_at_call 142; refine (npo_index _ _ _ _ _ HR.out h0).mono ?_; rintro e w' ⟨⟨j, rfl, HJ⟩, rfl⟩; have HJ2 := Lib.hid HJ; clear HJ)
  go_ret
  exact ⟨ret_bool HJ2.out, rfl⟩

theorem nso_any (A : Option Addr) (c : Nat) (xs : List Int) (w : World) (hr : Rd .i64 w A xs.length c xs) :
    Calls Try.prog 128 #[.slice A xs.length c] w fun e w' => e = .returned (.bool (nso xs)) ∧ w = w' := by
  have HR := Lib.hid hr
  clear hr
  unfold nso
  by_cases h : SmOk xs
  · have H := Lib.hid h
    rw [decide_eq_true h]
    clear h
    go_enter Try.func128, Try.ntmps128
    go_wp2_with (go_at_call 129; refine (implIsSmall_yes _ _ _ _ _ HR.out H.out).mono ?_; rintro e w' ⟨rfl, rfl⟩)
    go_ret
    exact ⟨rfl, rfl⟩
  · have H := Lib.hid h
    rw [decide_eq_false h]
    clear h
    go_enter Try.func128, Try.ntmps128
    go_wp2_with (go_at_call 129; refine (implIsSmall_no _ _ _ _ _ HR.out H.out).mono ?_; rintro e w' ⟨rfl, rfl⟩)
    go_ret
    exact ⟨rfl, rfl⟩

set_option maxHeartbeats 800000 in
theorem nso_index (A : Option Addr) (n c : Nat) (ps : List (List Int)) (w : World) (hr : RdP w A n c ps) (h0 : 0 < n) :
    Calls Try.prog 142 #[.slice A n c, .func (.func 128) #[] #[]] w fun e w' => (∃ j : Int, e = .returned (.int .i64 j) ∧ decide (0 ≤ j) = ps.any nso) ∧ w = w' := by
  obtain ⟨hl, hc, hm, hr⟩ := hr
  unfold maxLen at hm
  have HL := Lib.hid hl
  clear hl
  obtain ⟨b, off, rfl, hb, hcell⟩ := hr h0
  clear hr
  have HC := Lib.hid hcell
  clear hcell
  go_enter Try.func142, Try.ntmps142
  go_wp2
  go_loop [5, 8] (fun _ j => ∃ k : Nat, k ≤ n ∧ j = .int .i64 k ∧ Hid (∀ i, i < k → nso (ps.getD i []) = false)) (fun _ j => n - (intOf j).toNat)
  case atStart => exact ⟨0, Nat.zero_le _, rfl, Lib.hid (fun i hi => absurd hi (Nat.not_lt_zero _))⟩
  case round =>
    obtain ⟨k, hk, rfl, HN⟩ := hrel
    by_cases hlt : k < n
    · obtain ⟨Ai, ci, hx, hrd⟩ := HC.out k hlt
      obtain ⟨x, hxe⟩ : ∃ x, x = ps.getD k [] := ⟨_, rfl⟩
      rw [← hxe] at hx hrd
      have HX := Lib.hid hxe
      have HD := Lib.hid hrd
      clear hxe hrd
      by_cases hp : nso x = true
      · have HA : Hid (ps.any nso = true) := Lib.hid (anyP_at (k := k) (by have := HL.out; omega) (by rw [← HX.out]; exact hp))
        go_wp2_with (go_at_call 128; refine (nso_any _ _ _ _ HD.out).mono ?_; rintro e w' ⟨rfl, rfl⟩; rw [hp])
        go_ret
        exact ⟨⟨k, rfl, by rw [HA.out]; simp⟩, rfl⟩
      · have hp2 : nso x = false := by simpa using hp
        clear hp
        have HN2 : Hid (∀ i, i < k + 1 → nso (ps.getD i []) = false) := Lib.hid (fun i hi => by
          by_cases e : i = k
          · subst e; rw [← HX.out]; exact hp2
          · exact HN.out i (by omega))
        go_wp2_with (go_at_call 128; refine (nso_any _ _ _ _ HD.out).mono ?_; rintro e w' ⟨rfl, rfl⟩; rw [hp2])
        go_round
        case rel => exact ⟨k + 1, by omega, by go_num, HN2⟩
        case measure => simp [intOf]; omega
    · have HA : Hid (ps.any nso = false) := Lib.hid (anyP_none (fun i hi => HN.out i (by have := HL.out; omega)))
      go_wp2
      go_ret
      exact ⟨⟨-1, rfl, by rw [HA.out]; rfl⟩, rfl⟩

theorem nso_has {A : Option Addr} {n c : Nat} {ps : List (List Int)} {v : Bool} (hv : v = ps.any nso) (w : World) (hr : RdP w A n c ps) (h0 : 0 < n) :
    Calls Try.prog 126 #[.slice A n c, .func (.func 128) #[] #[]] w fun e w' => e = .returned (.bool v) ∧ w = w' := by
  subst hv
  have HR := Lib.hid hr
  clear hr
  go_enter Try.func126, Try.ntmps126
  go_wp2_with (go_at_call 142; refine (nso_index _ _ _ _ _ HR.out h0).mono ?_; rintro e w' ⟨⟨j, rfl, HJ⟩, rfl⟩; have HJ2 := Lib.hid HJ; clear HJ)
  go_ret
  exact ⟨ret_bool HJ2.out, rfl⟩

theorem areSmallOnes_any {A : Option Addr} {n c : Nat} {ps : List (List Int)} {cd : Int} (hcd : cd = smC ps) (w : World) (hr : RdP w A n c ps) (h0 : 0 < n) :
    Calls Try.prog 71 #[.slice A n c] w fun e w' => e = .returned (.int .i64 cd) ∧ w = w' := by
  have HR := Lib.hid hr
  clear hr
  obtain ⟨u, hu⟩ : ∃ u, u = ps.any npo := ⟨_, rfl⟩
  obtain ⟨v, hv⟩ : ∃ v, v = ps.any nso := ⟨_, rfl⟩
  have HU := Lib.hid hu
  have HV := Lib.hid hv
  unfold smC at hcd
  rw [← hu, ← hv] at hcd
  clear hu hv
  cases u with
  | true =>
    subst hcd
    go_enter Try.func71, Try.ntmps71
    go_wp2_with fail
    refine (npo_has HU.out _ HR.out h0).mono ?_
    rintro e w' ⟨rfl, rfl⟩
    go_wp2
    go_ret
    exact ⟨rfl, rfl⟩
  | false =>
    cases v with
    | true =>
      subst hcd
      go_enter Try.func71, Try.ntmps71
      go_wp2_with fail
      refine (npo_has HU.out _ HR.out h0).mono ?_
      rintro e w' ⟨rfl, rfl⟩
      go_wp2_with fail
      refine (nso_has HV.out _ HR.out h0).mono ?_
      rintro e w' ⟨rfl, rfl⟩
      go_wp2
      go_ret
      exact ⟨rfl, rfl⟩
    | false =>
      subst hcd
      go_enter Try.func71, Try.ntmps71
      go_wp2_with fail
      refine (npo_has HU.out _ HR.out h0).mono ?_
      rintro e w' ⟨rfl, rfl⟩
      go_wp2_with fail
      refine (nso_has HV.out _ HR.out h0).mono ?_
      rintro e w' ⟨rfl, rfl⟩
      go_wp2
      go_ret
      exact ⟨rfl, rfl⟩

set_option maxHeartbeats 1600000 in
theorem l07Code_any {A : Option Addr} {n c : Nat} {ps : List (List Int)} {cd : Int} (hcd : cd = smC ps) (w : World) (hr : RdP w A n c ps) (h0 : 0 < n) :
    Calls Try.prog 69 #[.slice A n c] w fun e w' => e = .returned (.int .i64 cd) ∧ w = w' := by
  obtain ⟨hl, hc, hm, hr⟩ := hr
  unfold maxLen at hm
  have HL := Lib.hid hl
  have HCD := Lib.hid hcd
  clear hl hcd
  obtain ⟨b, off, rfl, hb, hcell⟩ := hr h0
  clear hr
  have HC := Lib.hid hcell
  clear hcell
  go_enter Try.func69, Try.ntmps69
  go_wp2
  go_loop [3] (fun j => ∃ k : Nat, k ≤ n ∧ j = .int .i64 k ∧ Hid (∀ i, i < k → npo (ps.getD i []) = false)) (fun j => n - (intOf j).toNat)
  case atStart => exact ⟨0, Nat.zero_le _, rfl, Lib.hid (fun i hi => absurd hi (Nat.not_lt_zero _))⟩
  case round =>
    obtain ⟨k, hk, rfl, HN⟩ := hrel
    by_cases hlt : k < n
    · obtain ⟨Ai, ci, hx, hrd⟩ := HC.out k hlt
      obtain ⟨x, hxe⟩ : ∃ x, x = ps.getD k [] := ⟨_, rfl⟩
      rw [← hxe] at hx hrd
      have HX := Lib.hid hxe
      have HD := Lib.hid hrd
      clear hxe hrd
      by_cases hp : POk x
      · have H := Lib.hid hp
        clear hp
        have HN2 : Hid (∀ i, i < k + 1 → npo (ps.getD i []) = false) := Lib.hid (fun i hi => by
          by_cases e : i = k
          · subst e; rw [← HX.out]; unfold npo; rw [decide_eq_true H.out]; rfl
          · exact HN.out i (by omega))
        go_wp2_with (go_at_call 41; refine (specIsPolynomial_yes _ _ _ _ _ HD.out H.out).mono ?_; rintro e w' ⟨rfl, rfl⟩)
        go_round
        case rel => exact ⟨k + 1, by omega, by go_num, HN2⟩
        case measure => simp [intOf]; omega
      · have H := Lib.hid hp
        have HA : Hid (ps.any npo = true) := Lib.hid (anyP_at (k := k) (by have := HL.out; omega) (by rw [← HX.out]; unfold npo; rw [decide_eq_false hp]; rfl))
        clear hp
        go_wp2_with (go_at_call 41; refine (specIsPolynomial_no _ _ _ _ _ HD.out H.out).mono ?_; rintro e w' ⟨rfl, rfl⟩)
        go_ret
        exact ⟨ret_int (by rw [HCD.out]; unfold smC; rw [if_pos HA.out]), rfl⟩
    · have HA0 : Hid (ps.any npo = false) := Lib.hid (anyP_none (fun i hi => HN.out i (by have := HL.out; omega)))
      clear HN
      have HA1 := HA0
      clear HA0
      go_wp2
      go_loop [4] (fun j => ∃ k : Nat, k ≤ n ∧ j = .int .i64 k ∧ Hid (∀ i, i < k → nso (ps.getD i []) = false)) (fun j => n - (intOf j).toNat)
      case atStart => exact ⟨0, Nat.zero_le _, rfl, Lib.hid (fun i hi => absurd hi (Nat.not_lt_zero _))⟩
      case round =>
        obtain ⟨k, hk, rfl, HN⟩ := hrel
        by_cases hlt : k < n
        · obtain ⟨Ai, ci, hx, hrd⟩ := HC.out k hlt
          obtain ⟨x, hxe⟩ : ∃ x, x = ps.getD k [] := ⟨_, rfl⟩
          rw [← hxe] at hx hrd
          have HX := Lib.hid hxe
          have HD := Lib.hid hrd
          clear hxe hrd
          by_cases hp : SmOk x
          · have H := Lib.hid hp
            clear hp
            have HN2 : Hid (∀ i, i < k + 1 → nso (ps.getD i []) = false) := Lib.hid (fun i hi => by
              by_cases e : i = k
              · subst e; rw [← HX.out]; unfold nso; rw [decide_eq_true H.out]; rfl
              · exact HN.out i (by omega))
            go_wp2_with (go_at_call 124; refine (specIsSmall_yes _ _ _ _ _ HD.out H.out).mono ?_; rintro e w' ⟨rfl, rfl⟩)
            go_round
            case rel => exact ⟨k + 1, by omega, by go_num, HN2⟩
            case measure => simp [intOf]; omega
          · have H := Lib.hid hp
            have HA : Hid (ps.any nso = true) := Lib.hid (anyP_at (k := k) (by have := HL.out; omega) (by rw [← HX.out]; unfold nso; rw [decide_eq_false hp]; rfl))
            clear hp
            go_wp2_with (go_at_call 124; refine (specIsSmall_no _ _ _ _ _ HD.out H.out).mono ?_; rintro e w' ⟨rfl, rfl⟩)
            go_ret
            exact ⟨ret_int (by rw [HCD.out]; unfold smC; rw [if_neg (by rw [HA1.out]; simp), if_pos HA.out]), rfl⟩
        · have HA0 : Hid (ps.any nso = false) := Lib.hid (anyP_none (fun i hi => HN.out i (by have := HL.out; omega)))
          clear HN
          go_wp2
          go_ret
          exact ⟨ret_int (by rw [HCD.out]; unfold smC; rw [if_neg (by rw [HA1.out]; simp), if_neg (by rw [HA0.out]; simp)]), rfl⟩

end Go.Proofs.Ythdmanngjnfamaa