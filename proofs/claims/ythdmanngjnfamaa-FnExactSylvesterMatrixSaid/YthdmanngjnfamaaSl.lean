
/- Words on slices of integers: a slice value that reads as a list. -/
import Derived.Test.YthdmanngjnfamaaRow
import Derived.Test.YthdmanngjnfamaaGcd
namespace Go.Proofs.Ythdmanngjnfamaa
open Go.RowKit

/-- the slice value '.slice A n c' reads as the integers xs -/
def Rd (k : IntKind) (w : World) (A : Option Addr) (n c : Nat) (xs : List Int) : Prop :=
  xs.length = n ∧ n ≤ c ∧ c ≤ maxLen ∧ (0 < n → ∃ b off, A = some ⟨b, off, none⟩ ∧ b < w.heap.size ∧ ∀ i, i < n → w.cell? ⟨b, off + i, none⟩ = some (.int k (xs.getD i 0)))

theorem IsRow.rd {k : IntKind} {w : World} {A : Option Addr} {n c : Nat} {xs : List Int} (h : IsRow k w A n c xs) : Rd k w A n c xs := ⟨h.2.2.1, h.1, h.2.1, h.2.2.2.2⟩

/-- w' holds all that w held -/
def Holds' (w w' : World) : Prop := w.heap.size ≤ w'.heap.size ∧ ∀ b o v, w.cell? ⟨b, o, none⟩ = some v → w'.cell? ⟨b, o, none⟩ = some v
theorem Holds'.refl (w : World) : Holds' w w := ⟨Nat.le_refl _, fun _ _ _ h => h⟩
theorem Holds'.trans {a b c : World} (h : Holds' a b) (h2 : Holds' b c) : Holds' a c := ⟨Nat.le_trans h.1 h2.1, fun x y z k => h2.2 x y z (h.2 x y z k)⟩
theorem Holds'.of_below {w w' : World} (h : Below w.heap.size w w') : Holds' w w' := ⟨h.size, fun _ _ _ k => keep_cell h k⟩
theorem Holds'.drewN {a b : World} (h : Holds' a b) (n : Nat) : Holds' a (b.drewN n) := h.trans (.of_below (below_drewN (Below.refl _ _) n))
theorem Holds'.alloc {a b : World} (h : Holds' a b) (o : Obj) : Holds' a (b.alloc o) := h.trans (.of_below (bl_alloc (Below.refl _ _) o))
theorem Rd.keep {k : IntKind} {w w' : World} {A : Option Addr} {n c : Nat} {xs : List Int} (h : Rd k w A n c xs) (hk : Holds' w w') : Rd k w' A n c xs := by
  refine ⟨h.1, h.2.1, h.2.2.1, fun hn => ?_⟩
  obtain ⟨b, off, e, hb, hc⟩ := h.2.2.2 hn
  exact ⟨b, off, e, Nat.lt_of_lt_of_le hb hk.1, fun i hi => hk.2 _ _ _ (hc i hi)⟩
theorem Rd.below {k : IntKind} {w w' : World} {A : Option Addr} {n c : Nat} {xs : List Int} (h : Rd k w A n c xs) (hb : Below w.heap.size w w') : Rd k w' A n c xs := h.keep (.of_below hb)
theorem Rd.of_own {k : IntKind} {w : World} {base : Nat} {e : TypeId} {A : Option Addr} {n m c : Nat} {xs : List Int} (h : w.ownsRow base e 1 (.slice A n c) m (xs.map (Value.int k))) : Rd k w A n c xs ∧ n = m := by
  obtain ⟨hl, h2⟩ := h
  simp at hl
  rcases h2 with ⟨h', rfl⟩ | ⟨g, cap, cur, h', hb, hh, hnc, hcm, hcs, htake⟩
  · simp at h'
    obtain ⟨rfl, rfl, rfl⟩ := h'
    exact ⟨⟨hl, Nat.le_refl _, by unfold maxLen; omega, fun h => absurd h (by omega)⟩, rfl⟩
  · simp at h'
    obtain ⟨rfl, rfl, rfl⟩ := h'
    refine ⟨⟨hl, hnc, hcm, fun hn => ⟨g, 0, rfl, ?_, fun i hi => ?_⟩⟩, rfl⟩
    · rcases Nat.lt_or_ge g w.heap.size with h1 | h1
      · exact h1
      · rw [Array.getElem?_eq_none h1] at hh; cases hh
    · rw [Nat.zero_add, cell_of_row w g i cur e (0, 0) hh]
      have h3 : cur.toList[i]? = some (.int k (xs.getD i 0)) := by
        have h4 : (cur.toList.take (n * 1))[i]? = (xs.map (Value.int k))[i]? := by rw [htake]
        rw [List.getElem?_take, if_pos (by omega)] at h4
        rw [h4, List.getElem?_map, List.getElem?_eq_getElem (by omega)]
        simp [List.getD, List.getElem?_eq_getElem (show i < xs.length by omega)]
      simpa using h3

/-- a valid polynomial -/
def POk (xs : List Int) : Prop := xs.length ≤ 9 ∧ (∀ i, i < xs.length → -1000000 ≤ xs.getD i 0 ∧ xs.getD i 0 ≤ 1000000) ∧ (0 < xs.length → ¬ xs.getD (xs.length - 1) 0 = 0)

theorem ret_bool {a b : Bool} (h : a = b) : Ending.returned (.bool a) = .returned (.bool b) := by rw [h]
theorem any_at {p : Int → Bool} {xs : List Int} {k : Nat} (hk : k < xs.length) (h : p (xs.getD k 0) = true) : xs.any p = true := by
  rw [List.any_eq_true]
  exact ⟨xs[k], List.getElem_mem hk, by simpa [List.getD, List.getElem?_eq_getElem hk] using h⟩
theorem any_none {p : Int → Bool} {xs : List Int} (h : ∀ i, i < xs.length → p (xs.getD i 0) = false) : xs.any p = false := by
  rw [List.any_eq_false]
  intro x hx
  obtain ⟨i, hi, rfl⟩ := List.getElem_of_mem hx
  have := h i hi
  simpa [List.getD, List.getElem?_eq_getElem hi] using this

def npl (x : Int) : Bool := !(decide (-1000000 ≤ x) && decide (x ≤ 1000000))
theorem npl_any (x : Int) (w : World) :
    Calls Try.prog 106 #[.int .i64 x] w fun e w' => e = .returned (.bool (npl x)) ∧ w = w' := by
  unfold npl
  by_cases h : -1000000 ≤ x <;> by_cases h2 : x ≤ 1000000
  all_goals
    go_enter Try.func106, Try.ntmps106
    go_wp2_with (go_at_call 92; refine (within_any _ _ _ _).mono ?_; rintro e w' ⟨rfl, rfl⟩)
    go_ret
    exact ⟨by simp [h, h2], rfl⟩

set_option maxHeartbeats 400000 in
theorem npl_index (A : Option Addr) (n c : Nat) (xs : List Int) (w : World) (hr : Rd .i64 w A n c xs) :
    Calls Try.prog 140 #[.slice A n c, .func (.func 106) #[] #[]] w fun e w' => (∃ j : Int, e = .returned (.int .i64 j) ∧ decide (0 ≤ j) = xs.any npl) ∧ w = w' := by
  obtain ⟨hl, hc, hm, hr⟩ := hr
  unfold maxLen at hm
  have HL := Lib.hid hl
  clear hl
  rcases Nat.eq_zero_or_pos n with h0 | h0
  · subst h0
    clear hr
    go_enter Try.func140, Try.ntmps140
    go_wp2
    refine wp_loop_rounds 1 ?_
    rw [rounds_succ]
    go_wp2
    go_ret
    exact ⟨⟨-1, rfl, by rw [List.eq_nil_of_length_eq_zero HL.out]; rfl⟩, rfl⟩
  obtain ⟨b, off, rfl, hb, hcell⟩ := hr h0
  clear hr
  have HC := Lib.hid hcell
  clear hcell
  go_enter Try.func140, Try.ntmps140
  go_wp2
  go_loop [5, 8] (fun _ j => ∃ k : Nat, k ≤ n ∧ j = .int .i64 k ∧ Hid (∀ i, i < k → npl (xs.getD i 0) = false)) (fun _ j => n - (intOf j).toNat)
  case atStart => exact ⟨0, Nat.zero_le _, rfl, Lib.hid (fun i hi => absurd hi (Nat.not_lt_zero _))⟩
  case round =>
    obtain ⟨k, hk, rfl, HN⟩ := hrel
    by_cases hlt : k < n
    · have hx := HC.out k hlt
      obtain ⟨x, hxe⟩ : ∃ x, x = xs.getD k 0 := ⟨_, rfl⟩
      rw [← hxe] at hx
      have HX := Lib.hid hxe
      clear hxe
      by_cases hp : npl x = true
      · have HA : Hid (xs.any npl = true) := Lib.hid (any_at (k := k) (by have := HL.out; omega) (by rw [← HX.out]; exact hp))
        go_wp2_with (go_at_call 106; refine (npl_any _ _).mono ?_; rintro e w' ⟨rfl, rfl⟩; rw [hp])
        go_ret
        exact ⟨⟨k, rfl, by rw [HA.out]; simp⟩, rfl⟩
      · have hp2 : npl x = false := by simpa using hp
        clear hp
        have HN2 : Hid (∀ i, i < k + 1 → npl (xs.getD i 0) = false) := Lib.hid (fun i hi => by
          by_cases e : i = k
          · subst e; rw [← HX.out]; exact hp2
          · exact HN.out i (by omega))
        go_wp2_with (go_at_call 106; refine (npl_any _ _).mono ?_; rintro e w' ⟨rfl, rfl⟩; rw [hp2])
        go_round
        case rel => exact ⟨k + 1, by omega, by go_num, HN2⟩
        case measure => simp [intOf]; omega
    · have HA : Hid (xs.any npl = false) := Lib.hid (any_none (fun i hi => HN.out i (by have := HL.out; omega)))
      go_wp2
      go_ret
      exact ⟨⟨-1, rfl, by rw [HA.out]; rfl⟩, rfl⟩

theorem npl_has (A : Option Addr) (n c : Nat) (xs : List Int) (w : World) (hr : Rd .i64 w A n c xs) :
    Calls Try.prog 105 #[.slice A n c, .func (.func 106) #[] #[]] w fun e w' => e = .returned (.bool (xs.any npl)) ∧ w = w' := by
  have HR := Lib.hid hr
  clear hr
  go_enter Try.func105, Try.ntmps105
  go_wp2_with (go_at_call 140; refine (npl_index _ _ _ _ _ HR.out).mono ?_; rintro e w' ⟨⟨j, rfl, HJ⟩, rfl⟩; have HJ2 := Lib.hid HJ; clear HJ)
  go_ret
  exact ⟨ret_bool HJ2.out, rfl⟩

theorem pok_any {xs : List Int} (h : POk xs) : xs.any npl = false := any_none (fun i hi => by
  have := h.2.1 i hi
  simp only [npl, Bool.not_eq_false', Bool.and_eq_true, decide_eq_true_eq]; exact this)
theorem pok_any' {xs : List Int} (h : xs.any npl = false) : ∀ i, i < xs.length → -1000000 ≤ xs.getD i 0 ∧ xs.getD i 0 ≤ 1000000 := by
  intro i hi
  apply Decidable.byContradiction
  intro hn
  rw [any_at (k := i) hi (by unfold npl; simp only [Bool.not_eq_true', Bool.and_eq_false_iff, decide_eq_false_iff_not]; omega)] at h
  cases h

set_option maxHeartbeats 800000 in
theorem specIsPolynomial_yes (A : Option Addr) (n c : Nat) (xs : List Int) (w : World) (hr : Rd .i64 w A n c xs) (h : POk xs) :
    Calls Try.prog 41 #[.slice A n c] w fun e w' => e = .returned (.bool true) ∧ w = w' := by
  obtain ⟨hl, hc, hm, hr⟩ := hr
  unfold maxLen at hm
  have HH := Lib.hid h
  have HL := Lib.hid hl
  clear hl h
  rcases Nat.eq_zero_or_pos n with h0 | h0
  · subst h0
    clear hr
    go_enter Try.func41, Try.ntmps41
    go_wp2
    refine wp_loop_rounds 1 ?_
    rw [rounds_succ]
    go_wp2
    go_ret
    exact ⟨rfl, rfl⟩
  obtain ⟨b, off, rfl, hb, hcell⟩ := hr h0
  clear hr
  have HC := Lib.hid hcell
  have hn9 : n ≤ 9 := by have := HH.out.1; have := HL.out; omega
  have hlast := hcell (n - 1) (by omega)
  have hne : (xs.getD (n - 1) 0 != 0) = true := by have := HH.out.2.2 (by have := HL.out; omega); rw [HL.out] at this; simpa using this
  obtain ⟨y, hy⟩ : ∃ y, y = xs.getD (n - 1) 0 := ⟨_, rfl⟩
  rw [← hy] at hlast hne
  clear hy hcell
  have ea : ((n : Int) - 1).toNat = n - 1 := by omega
  have ea0 : 0 ≤ (n : Int) - 1 := by omega
  have EA := Lib.hid ea
  clear ea
  go_enter Try.func41, Try.ntmps41
  go_wp2
  go_loop [3] (fun j => ∃ k : Nat, k ≤ n ∧ j = .int .i64 k) (fun j => n - (intOf j).toNat)
  case atStart => exact ⟨0, Nat.zero_le _, rfl⟩
  case round =>
    obtain ⟨k, hk, rfl⟩ := hrel
    by_cases hlt : k < n
    · have hx := HC.out k hlt
      have hbd := HH.out.2.1 k (by have := HL.out; omega)
      obtain ⟨x, hxe⟩ : ∃ x, x = xs.getD k 0 := ⟨_, rfl⟩
      rw [← hxe] at hx hbd
      obtain ⟨x1, x2⟩ := hbd
      clear hxe
      go_wp2_with (first | (go_at_call 94; refine (l01In_any _ _ _ _).mono ?_; rintro e w' ⟨rfl, rfl⟩))
      go_round
      case rel => exact ⟨k + 1, by omega, by go_num⟩
      case measure => simp [intOf]; omega
    · go_wp2
      go_ret
      exact ⟨rfl, rfl⟩

set_option maxHeartbeats 800000 in
theorem specIsPolynomial_no (A : Option Addr) (n c : Nat) (xs : List Int) (w : World) (hr : Rd .i64 w A n c xs) (h : ¬ POk xs) :
    Calls Try.prog 41 #[.slice A n c] w fun e w' => e = .returned (.bool false) ∧ w = w' := by
  obtain ⟨hl, hc, hm, hr⟩ := hr
  unfold maxLen at hm
  have HH := Lib.hid h
  have HL := Lib.hid hl
  clear hl h
  rcases Nat.eq_zero_or_pos n with h0 | h0
  · exact absurd ⟨by have := HL.out; omega, fun i hi => absurd hi (by have := HL.out; omega), fun hi => absurd hi (by have := HL.out; omega)⟩ HH.out
  obtain ⟨b, off, rfl, hb, hcell⟩ := hr h0
  clear hr
  have HC := Lib.hid hcell
  have hlast := hcell (n - 1) (by omega)
  obtain ⟨y, hy⟩ : ∃ y, y = xs.getD (n - 1) 0 := ⟨_, rfl⟩
  rw [← hy] at hlast
  have HY := Lib.hid hy
  clear hy hcell
  have ea0 : 0 ≤ (n : Int) - 1 := by omega
  go_enter Try.func41, Try.ntmps41
  go_wp2
  go_loop [3] (fun j => ∃ k : Nat, k ≤ n ∧ j = .int .i64 k ∧ Hid (∀ i, i < k → -1000000 ≤ xs.getD i 0 ∧ xs.getD i 0 ≤ 1000000)) (fun j => n - (intOf j).toNat)
  case atStart => exact ⟨0, Nat.zero_le _, rfl, Lib.hid (fun i hi => absurd hi (Nat.not_lt_zero _))⟩
  case round =>
    obtain ⟨k, hk, rfl, HN⟩ := hrel
    by_cases hlt : k < n
    · have hx := HC.out k hlt
      obtain ⟨x, hxe⟩ : ∃ x, x = xs.getD k 0 := ⟨_, rfl⟩
      rw [← hxe] at hx
      have HX := Lib.hid hxe
      clear hxe
      by_cases hin : -1000000 ≤ x ∧ x ≤ 1000000
      · have HN2 : Hid (∀ i, i < k + 1 → -1000000 ≤ xs.getD i 0 ∧ xs.getD i 0 ≤ 1000000) := Lib.hid (fun i hi => by
          by_cases e : i = k
          · subst e; rw [← HX.out]; exact hin
          · exact HN.out i (by omega))
        obtain ⟨x1, x2⟩ := hin
        go_wp2_with (first | (go_at_call 94; refine (l01In_any _ _ _ _).mono ?_; rintro e w' ⟨rfl, rfl⟩))
        go_round
        case rel => exact ⟨k + 1, by omega, by go_num, HN2⟩
        case measure => simp [intOf]; omega
      · have hd : (decide (-1000000 ≤ x) && decide (x ≤ 1000000)) = false := by simp only [Bool.and_eq_false_iff, decide_eq_false_iff_not]; omega
        clear hin
        go_wp2_with (first | (go_at_call 94; refine (l01In_any _ _ _ _).mono ?_; rintro e w' ⟨rfl, rfl⟩))
        go_ret
        exact ⟨rfl, rfl⟩
    · by_cases hn9 : n ≤ 9
      · have hy0 : y = 0 := by
          apply Decidable.byContradiction
          intro hn
          exact HH.out ⟨by have := HL.out; omega, fun i hi => HN.out i (by have := HL.out; omega), fun _ => by rw [HL.out, ← HY.out]; exact hn⟩
        have hyz : (y != 0) = false := by rw [hy0]; rfl
        clear hy0
        have hn0 : ((n : Int) == 0) = false := by simp; omega
        go_wp2
        go_ret
        exact ⟨rfl, rfl⟩
      · go_wp2
        go_ret
        exact ⟨rfl, rfl⟩

set_option maxHeartbeats 800000 in
theorem implIsPolynomial_yes (A : Option Addr) (n c : Nat) (xs : List Int) (w : World) (hr : Rd .i64 w A n c xs) (h : POk xs) :
    Calls Try.prog 40 #[.slice A n c] w fun e w' => e = .returned (.bool true) ∧ w = w' := by
  have HR := Lib.hid hr
  obtain ⟨hl, hc, hm, hr⟩ := hr
  unfold maxLen at hm
  have HH := Lib.hid h
  have HL := Lib.hid hl
  clear hl h
  rcases Nat.eq_zero_or_pos n with h0 | h0
  · subst h0
    clear hr
    have HA := Lib.hid (pok_any HH.out)
    go_enter Try.func40, Try.ntmps40
    go_wp2_with (first | (go_at_call 105; refine (npl_has _ _ _ _ _ HR.out).mono ?_; rintro e w' ⟨rfl, rfl⟩; rw [HA.out]))
    go_ret
    exact ⟨rfl, rfl⟩
  obtain ⟨b, off, rfl, hb, hcell⟩ := hr h0
  clear hr
  have hn9 : n ≤ 9 := by have := HH.out.1; have := HL.out; omega
  have HA := Lib.hid (pok_any HH.out)
  have hlast := hcell (n - 1) (by omega)
  have hne : (xs.getD (n - 1) 0 != 0) = true := by have := HH.out.2.2 (by have := HL.out; omega); rw [HL.out] at this; simpa using this
  obtain ⟨y, hy⟩ : ∃ y, y = xs.getD (n - 1) 0 := ⟨_, rfl⟩
  rw [← hy] at hlast hne
  clear hy hcell
  have ea0 : 0 ≤ (n : Int) - 1 := by omega
  go_enter Try.func40, Try.ntmps40
  go_wp2_with (first | (go_at_call 105; refine (npl_has _ _ _ _ _ HR.out).mono ?_; rintro e w' ⟨rfl, rfl⟩; rw [HA.out]))
  go_ret
  exact ⟨rfl, rfl⟩

set_option maxHeartbeats 800000 in
theorem implIsPolynomial_no (A : Option Addr) (n c : Nat) (xs : List Int) (w : World) (hr : Rd .i64 w A n c xs) (h : ¬ POk xs) :
    Calls Try.prog 40 #[.slice A n c] w fun e w' => e = .returned (.bool false) ∧ w = w' := by
  have HR := Lib.hid hr
  obtain ⟨hl, hc, hm, hr⟩ := hr
  unfold maxLen at hm
  have HH := Lib.hid h
  have HL := Lib.hid hl
  clear hl h
  rcases Nat.eq_zero_or_pos n with h0 | h0
  · exact absurd ⟨by have := HL.out; omega, fun i hi => absurd hi (by have := HL.out; omega), fun hi => absurd hi (by have := HL.out; omega)⟩ HH.out
  obtain ⟨b, off, rfl, hb, hcell⟩ := hr h0
  clear hr
  have hlast := hcell (n - 1) (by omega)
  obtain ⟨y, hy⟩ : ∃ y, y = xs.getD (n - 1) 0 := ⟨_, rfl⟩
  rw [← hy] at hlast
  have HY := Lib.hid hy
  clear hy hcell
  have ea0 : 0 ≤ (n : Int) - 1 := by omega
  by_cases hn9 : n ≤ 9
  · cases hA : xs.any npl with
    | true =>
      have HA := Lib.hid hA
      clear hA
      go_enter Try.func40, Try.ntmps40
      go_wp2_with (first | (go_at_call 105; refine (npl_has _ _ _ _ _ HR.out).mono ?_; rintro e w' ⟨rfl, rfl⟩; rw [HA.out]))
      go_ret
      exact ⟨rfl, rfl⟩
    | false =>
      have HA := Lib.hid hA
      have hy0 : y = 0 := by
        apply Decidable.byContradiction
        intro hn
        exact HH.out ⟨by have := HL.out; omega, pok_any' hA, fun _ => by rw [HL.out, ← HY.out]; exact hn⟩
      clear hA
      have hyz : (y != 0) = false := by rw [hy0]; rfl
      have hn0 : ((n : Int) == 0) = false := by simp; omega
      clear hy0
      go_enter Try.func40, Try.ntmps40
      go_wp2_with (first | (go_at_call 105; refine (npl_has _ _ _ _ _ HR.out).mono ?_; rintro e w' ⟨rfl, rfl⟩; rw [HA.out]))
      go_ret
      exact ⟨rfl, rfl⟩
  · go_enter Try.func40, Try.ntmps40
    go_wp2_with fail
    go_ret
    exact ⟨rfl, rfl⟩

end Go.Proofs.Ythdmanngjnfamaa