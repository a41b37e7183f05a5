/- The walks of IsModular. -/
import Derived.Test.YtjipalcceflkfaaSl
import Derived.Test.YtjipalcceflkfaaSmallP
namespace Go.Proofs.Ytjipalcceflkfaa
open Go.RowKit

/-- a valid polynomial by p -/
def MOk (p : Int) (xs : List Int) : Prop := SP p ∧ xs.length ≤ 9 ∧ (∀ i, i < xs.length → 0 ≤ xs.getD i 0 ∧ xs.getD i 0 ≤ p - 1) ∧ (0 < xs.length → ¬ xs.getD (xs.length - 1) 0 = 0)
instance (p : Int) (xs : List Int) : Decidable (MOk p xs) := by unfold MOk; infer_instance
def nmo (p x : Int) : Bool := !(decide (0 ≤ x) && decide (x ≤ p - 1))
theorem nmo_any (x p : Int) (g : Nat) (p1 : 2 ≤ p) (p2 : p ≤ 97) (w : World) (hc : w.cell? ⟨g, 0, none⟩ = some (.int .i64 p)) :
    Calls Try.prog 110 #[.int .i64 x, .pointer (some ⟨g, 0, none⟩)] w fun e w' => e = .returned (.bool (nmo p x)) ∧ w = w' := by
  unfold nmo
  by_cases h : 0 ≤ x <;> by_cases h2 : x ≤ p - 1
  all_goals
    go_enter Try.func110, Try.ntmps110
    go_wp2_with (go_at_call 89; refine (within_any _ _ _ _).mono ?_; rintro e w' ⟨rfl, rfl⟩)
    go_ret
    exact ⟨by simp [h, h2], rfl⟩

set_option maxHeartbeats 400000 in
theorem nmo_index (p : Int) (g : Nat) (p1 : 2 ≤ p) (p2 : p ≤ 97) (A : Option Addr) (n c : Nat) (xs : List Int) (w : World) (hr : Rd .i64 w A n c xs) (hcap : w.cell? ⟨g, 0, none⟩ = some (.int .i64 p)) :
    Calls Try.prog 127 #[.slice A n c, .func (.func 110) #[] #[.pointer (some ⟨g, 0, none⟩)]] w fun e w' => (∃ j : Int, e = .returned (.int .i64 j) ∧ decide (0 ≤ j) = xs.any (nmo p)) ∧ w = w' := by
  obtain ⟨hl, hc, hm, hr⟩ := hr
  unfold maxLen at hm
  have HL := Lib.hid hl
  clear hl
  rcases Nat.eq_zero_or_pos n with h0 | h0
  · subst h0
    clear hr
    go_enter Try.func127, Try.ntmps127
    go_wp2
    refine wp_loop_rounds 1 ?_
    rw [rounds_succ]
    go_wp2
    go_ret
    exact ⟨⟨-1, rfl, by rw [List.eq_nil_of_length_eq_zero HL.out]; rfl⟩, rfl⟩
  obtain ⟨b, off, rfl, hb, hcell⟩ := hr h0
  clear hr
  have HC := Lib.hid hcell
  clear hcell
  go_enter Try.func127, Try.ntmps127
  go_wp2
  go_loop [5, 8] (fun _ j => ∃ k : Nat, k ≤ n ∧ j = .int .i64 k ∧ Hid (∀ i, i < k → (nmo p) (xs.getD i 0) = false)) (fun _ j => n - (intOf j).toNat)
  case atStart => exact ⟨0, Nat.zero_le _, rfl, Lib.hid (fun i hi => absurd hi (Nat.not_lt_zero _))⟩
  case round =>
    obtain ⟨k, hk, rfl, HN⟩ := hrel
    by_cases hlt : k < n
    · have hx := HC.out k hlt
      obtain ⟨x, hxe⟩ : ∃ x, x = xs.getD k 0 := ⟨_, rfl⟩
      rw [← hxe] at hx
      have HX := Lib.hid hxe
      clear hxe
      by_cases hp : nmo p x = true
      · have HA : Hid (xs.any (nmo p) = true) := Lib.hid (any_at (k := k) (by have := HL.out; omega) (by rw [← HX.out]; exact hp))
        go_wp2_with (go_at_call 110; refine (nmo_any _ _ _ p1 p2 _ hcap).mono ?_; rintro e w' ⟨rfl, rfl⟩; rw [hp])
        go_ret
        exact ⟨⟨k, rfl, by rw [HA.out]; simp⟩, rfl⟩
      · have hp2 : nmo p x = false := by simpa using hp
        clear hp
        have HN2 : Hid (∀ i, i < k + 1 → (nmo p) (xs.getD i 0) = false) := Lib.hid (fun i hi => by
          by_cases e : i = k
          · subst e; rw [← HX.out]; exact hp2
          · exact HN.out i (by omega))
        go_wp2_with (go_at_call 110; refine (nmo_any _ _ _ p1 p2 _ hcap).mono ?_; rintro e w' ⟨rfl, rfl⟩; rw [hp2])
        go_round
        case rel => exact ⟨k + 1, by omega, by go_num, HN2⟩
        case measure => simp [intOf]; omega
    · have HA : Hid (xs.any (nmo p) = false) := Lib.hid (any_none (fun i hi => HN.out i (by have := HL.out; omega)))
      go_wp2
      go_ret
      exact ⟨⟨-1, rfl, by rw [HA.out]; rfl⟩, rfl⟩

theorem nmo_has (p : Int) (g : Nat) (p1 : 2 ≤ p) (p2 : p ≤ 97) (A : Option Addr) (n c : Nat) (xs : List Int) (w : World) (hr : Rd .i64 w A n c xs) (hcap : w.cell? ⟨g, 0, none⟩ = some (.int .i64 p)) :
    Calls Try.prog 92 #[.slice A n c, .func (.func 110) #[] #[.pointer (some ⟨g, 0, none⟩)]] w fun e w' => e = .returned (.bool (xs.any (nmo p))) ∧ w = w' := by
  have HR := Lib.hid hr
  clear hr
  go_enter Try.func92, Try.ntmps92
  go_wp2_with (go_at_call 127; refine (nmo_index _ _ p1 p2 _ _ _ _ _ HR.out hcap).mono ?_; rintro e w' ⟨⟨j, rfl, HJ⟩, rfl⟩; have HJ2 := Lib.hid HJ; clear HJ)
  go_ret
  exact ⟨ret_bool HJ2.out, rfl⟩

theorem mok_any {p : Int} {xs : List Int} (h : MOk p xs) : xs.any (nmo p) = false := any_none (fun i hi => by
  have := h.2.2.1 i hi
  simp only [nmo, Bool.not_eq_false', Bool.and_eq_true, decide_eq_true_eq]; exact this)
theorem mok_any' {p : Int} {xs : List Int} (h : xs.any (nmo p) = false) : ∀ i, i < xs.length → 0 ≤ xs.getD i 0 ∧ xs.getD i 0 ≤ p - 1 := by
  intro i hi
  apply Decidable.byContradiction
  intro hn
  rw [any_at (k := i) hi (by unfold nmo; simp only [Bool.not_eq_true', Bool.and_eq_false_iff, decide_eq_false_iff_not]; omega)] at h
  cases h

set_option maxHeartbeats 800000 in
theorem specIsModular_yes (p : Int) (A : Option Addr) (n c : Nat) (xs : List Int) (w : World) (hr : Rd .i64 w A n c xs) (h : MOk p xs) :
    Calls Try.prog 61 #[.int .i64 p, .slice A n c] w fun e w' => e = .returned (.bool true) ∧ w = w' := by
  have HR := Lib.hid hr
  obtain ⟨hl, hc, hm, hr⟩ := hr
  unfold maxLen at hm
  have HH := Lib.hid h
  have HL := Lib.hid hl
  clear hl h
  have HS := Lib.hid HH.out.1
  have p1 := HH.out.1.2.1
  have p2 := HH.out.1.1
  have hn9 : n ≤ 9 := by have := HH.out.2.1; have := HL.out; omega
  rcases Nat.eq_zero_or_pos n with h0 | h0
  · subst h0
    clear hr
    go_enter Try.func61, Try.ntmps61
    go_wp2_with (first | (go_at_call 75; refine (l01Small_yes _ HS.out _).mono ?_; rintro e w' ⟨rfl, rfl⟩))
    refine wp_loop_rounds 1 ?_
    rw [rounds_succ]
    go_wp2
    go_ret
    exact ⟨rfl, rfl⟩
  obtain ⟨b, off, rfl, hb, hcell⟩ := hr h0
  clear hr
  have HC := Lib.hid hcell
  have hlast := hcell (n - 1) (by omega)
  obtain ⟨y, hy⟩ : ∃ y, y = xs.getD (n - 1) 0 := ⟨_, rfl⟩
  rw [← hy] at hlast
  have HY := Lib.hid hy
  clear hy hcell
  have ea0 : 0 ≤ (n : Int) - 1 := by omega
  have hn0 : ((n : Int) == 0) = false := by simp; omega

  have hyz : (y != 0) = true := by have := HH.out.2.2.2 (by have := HL.out; omega); rw [HL.out, ← HY.out] at this; simpa using this
  go_enter Try.func61, Try.ntmps61
  go_wp2_with (first | (go_at_call 75; refine (l01Small_yes _ HS.out _).mono ?_; rintro e w' ⟨rfl, rfl⟩))
  go_loop [5] (fun j => ∃ k : Nat, k ≤ n ∧ j = .int .i64 k) (fun j => n - (intOf j).toNat)
  case atStart => exact ⟨0, Nat.zero_le _, rfl⟩
  case round =>
    obtain ⟨k, hk, rfl⟩ := hrel
    by_cases hlt : k < n
    · have hx := HC.out k hlt
      have hbd := HH.out.2.2.1 k (by have := HL.out; omega)
      obtain ⟨x, hxe⟩ : ∃ x, x = xs.getD k 0 := ⟨_, rfl⟩
      rw [← hxe] at hx hbd
      obtain ⟨x1, x2⟩ := hbd
      clear hxe
      go_wp2_with (first | (go_at_call 86; refine (l01In_any _ _ _ _).mono ?_; rintro e w' ⟨rfl, rfl⟩))
      go_round
      case rel => exact ⟨k + 1, by omega, by go_num⟩
      case measure => simp [intOf]; omega
    · go_wp2
      go_ret
      exact ⟨rfl, rfl⟩

set_option maxHeartbeats 800000 in
theorem specIsModular_no (p : Int) (A : Option Addr) (n c : Nat) (xs : List Int) (w : World) (hr : Rd .i64 w A n c xs) (h : ¬ MOk p xs) :
    Calls Try.prog 61 #[.int .i64 p, .slice A n c] w fun e w' => e = .returned (.bool false) ∧ w = w' := by
  have HR := Lib.hid hr
  obtain ⟨hl, hc, hm, hr⟩ := hr
  unfold maxLen at hm
  have HH := Lib.hid h
  have HL := Lib.hid hl
  clear hl h
  by_cases hs : SP p
  · have HS := Lib.hid hs
    have p1 := hs.2.1
    have p2 := hs.1
    clear hs
    by_cases hn9 : n ≤ 9
    · rcases Nat.eq_zero_or_pos n with h0 | h0
      · exact absurd ⟨HS.out, by have := HL.out; omega, fun i hi => absurd hi (by have := HL.out; omega), fun hi => absurd hi (by have := HL.out; omega)⟩ HH.out
      obtain ⟨b, off, rfl, hb, hcell⟩ := hr h0
      clear hr
      have HC := Lib.hid hcell
      have hlast := hcell (n - 1) (by omega)
      obtain ⟨y, hy⟩ : ∃ y, y = xs.getD (n - 1) 0 := ⟨_, rfl⟩
      rw [← hy] at hlast
      have HY := Lib.hid hy
      clear hy hcell
      have ea0 : 0 ≤ (n : Int) - 1 := by omega
      have hn0 : ((n : Int) == 0) = false := by simp; omega

      go_enter Try.func61, Try.ntmps61
      go_wp2_with (first | (go_at_call 75; refine (l01Small_yes _ HS.out _).mono ?_; rintro e w' ⟨rfl, rfl⟩))
      go_loop [5] (fun j => ∃ k : Nat, k ≤ n ∧ j = .int .i64 k ∧ Hid (∀ i, i < k → 0 ≤ xs.getD i 0 ∧ xs.getD i 0 ≤ p - 1)) (fun j => n - (intOf j).toNat)
      case atStart => exact ⟨0, Nat.zero_le _, rfl, Lib.hid (fun i hi => absurd hi (Nat.not_lt_zero _))⟩
      case round =>
        obtain ⟨k, hk, rfl, HN⟩ := hrel
        by_cases hlt : k < n
        · have hx := HC.out k hlt
          obtain ⟨x, hxe⟩ : ∃ x, x = xs.getD k 0 := ⟨_, rfl⟩
          rw [← hxe] at hx
          have HX := Lib.hid hxe
          clear hxe
          by_cases hin : 0 ≤ x ∧ x ≤ p - 1
          · have HN2 : Hid (∀ i, i < k + 1 → 0 ≤ xs.getD i 0 ∧ xs.getD i 0 ≤ p - 1) := Lib.hid (fun i hi => by
              by_cases e : i = k
              · subst e; rw [← HX.out]; exact hin
              · exact HN.out i (by omega))
            obtain ⟨x1, x2⟩ := hin
            go_wp2_with (first | (go_at_call 86; refine (l01In_any _ _ _ _).mono ?_; rintro e w' ⟨rfl, rfl⟩))
            go_round
            case rel => exact ⟨k + 1, by omega, by go_num, HN2⟩
            case measure => simp [intOf]; omega
          · have hd : (decide (0 ≤ x) && decide (x ≤ p - 1)) = false := by simp only [Bool.and_eq_false_iff, decide_eq_false_iff_not]; omega
            clear hin
            go_wp2_with (first | (go_at_call 86; refine (l01In_any _ _ _ _).mono ?_; rintro e w' ⟨rfl, rfl⟩))
            go_ret
            exact ⟨rfl, rfl⟩
        · have hy0 : y = 0 := by
            apply Decidable.byContradiction
            intro hn
            exact HH.out ⟨HS.out, by have := HL.out; omega, fun i hi => HN.out i (by have := HL.out; omega), fun _ => by rw [HL.out, ← HY.out]; exact hn⟩
          have hyz : (y != 0) = false := by rw [hy0]; rfl
          clear hy0
          go_wp2
          go_ret
          exact ⟨rfl, rfl⟩
    · go_enter Try.func61, Try.ntmps61
      go_wp2_with (first | (go_at_call 75; refine (l01Small_yes _ HS.out _).mono ?_; rintro e w' ⟨rfl, rfl⟩))
      go_ret
      exact ⟨rfl, rfl⟩
  · have HS := Lib.hid hs
    clear hs
    go_enter Try.func61, Try.ntmps61
    go_wp2_with (first | (go_at_call 75; refine (l01Small_no _ HS.out _).mono ?_; rintro e w' ⟨rfl, rfl⟩))
    go_ret
    exact ⟨rfl, rfl⟩

set_option maxHeartbeats 800000 in
theorem implIsModular_yes (p : Int) (A : Option Addr) (n c : Nat) (xs : List Int) (w : World) (hr : Rd .i64 w A n c xs) (h : MOk p xs) :
    Calls Try.prog 63 #[.int .i64 p, .slice A n c] w fun e w' => e = .returned (.bool true) ∧ Below w.heap.size w w' := by
  have HR := Lib.hid hr
  obtain ⟨hl, hc, hm, hr⟩ := hr
  unfold maxLen at hm
  have HH := Lib.hid h
  have HL := Lib.hid hl
  clear hl h
  have HS := Lib.hid HH.out.1
  have p1 := HH.out.1.2.1
  have p2 := HH.out.1.1
  have hn9 : n ≤ 9 := by have := HH.out.2.1; have := HL.out; omega
  have HA := Lib.hid (mok_any HH.out)
  rcases Nat.eq_zero_or_pos n with h0 | h0
  · subst h0
    clear hr
    have HR2 : Hid (Rd .i64 (w.alloc (.cells #[.int .i64 p] 2)) _ 0 c xs) := Lib.hid (HR.out.below (bl_alloc (Below.refl _ _) _))
    have hcap : (w.alloc (.cells #[.int .i64 p] 2)).cell? ⟨w.heap.size, 0, none⟩ = some (.int .i64 p) := by simp [go_sem]
    have hmf : ∀ (fn : Fn) (first cap : Array Value) (w : World), (Instr.makeFunc fn first cap).run Try.prog w = .ok (.func fn first cap) w := fun _ _ _ _ => rfl

    go_enter Try.func63, Try.ntmps63
    go_wp2_with (first | (go_at_call 78; refine (isSmallPrime_yes _ HS.out _).mono ?_; rintro e w' ⟨rfl, rfl⟩) | (go_at_call 92; refine (nmo_has _ _ p1 p2 _ _ _ _ _ HR2.out hcap).mono ?_; rintro e w' ⟨rfl, rfl⟩; rw [HA.out]))
    go_ret
    exact ⟨rfl, bl_alloc (Below.refl _ _) _⟩
  obtain ⟨b, off, rfl, hb, hcell⟩ := hr h0
  clear hr
  have HC := Lib.hid hcell
  have hlast := hcell (n - 1) (by omega)
  obtain ⟨y, hy⟩ : ∃ y, y = xs.getD (n - 1) 0 := ⟨_, rfl⟩
  rw [← hy] at hlast
  have HY := Lib.hid hy
  clear hy hcell
  have ea0 : 0 ≤ (n : Int) - 1 := by omega
  have hn0 : ((n : Int) == 0) = false := by simp; omega

  have hyz : (y != 0) = true := by have := HH.out.2.2.2 (by have := HL.out; omega); rw [HL.out, ← HY.out] at this; simpa using this
  have HR2 : Hid (Rd .i64 (w.alloc (.cells #[.int .i64 p] 2)) _ n c xs) := Lib.hid (HR.out.below (bl_alloc (Below.refl _ _) _))
  have hcap : (w.alloc (.cells #[.int .i64 p] 2)).cell? ⟨w.heap.size, 0, none⟩ = some (.int .i64 p) := by simp [go_sem]
  have hmf : ∀ (fn : Fn) (first cap : Array Value) (w : World), (Instr.makeFunc fn first cap).run Try.prog w = .ok (.func fn first cap) w := fun _ _ _ _ => rfl

  go_enter Try.func63, Try.ntmps63
  go_wp2_with (first | (go_at_call 78; refine (isSmallPrime_yes _ HS.out _).mono ?_; rintro e w' ⟨rfl, rfl⟩) | (go_at_call 92; refine (nmo_has _ _ p1 p2 _ _ _ _ _ HR2.out hcap).mono ?_; rintro e w' ⟨rfl, rfl⟩; rw [HA.out]))
  go_ret
  exact ⟨rfl, bl_alloc (Below.refl _ _) _⟩

set_option maxHeartbeats 800000 in
theorem implIsModular_no (p : Int) (A : Option Addr) (n c : Nat) (xs : List Int) (w : World) (hr : Rd .i64 w A n c xs) (h : ¬ MOk p xs) :
    Calls Try.prog 63 #[.int .i64 p, .slice A n c] w fun e w' => e = .returned (.bool false) ∧ Below w.heap.size w w' := by
  have HR := Lib.hid hr
  obtain ⟨hl, hc, hm, hr⟩ := hr
  unfold maxLen at hm
  have HH := Lib.hid h
  have HL := Lib.hid hl
  clear hl h
  by_cases hs : SP p
  · have HS := Lib.hid hs
    have p1 := hs.2.1
    have p2 := hs.1
    clear hs
    by_cases hn9 : n ≤ 9
    · rcases Nat.eq_zero_or_pos n with h0 | h0
      · exact absurd ⟨HS.out, by have := HL.out; omega, fun i hi => absurd hi (by have := HL.out; omega), fun hi => absurd hi (by have := HL.out; omega)⟩ HH.out
      obtain ⟨b, off, rfl, hb, hcell⟩ := hr h0
      clear hr
      have HC := Lib.hid hcell
      have hlast := hcell (n - 1) (by omega)
      obtain ⟨y, hy⟩ : ∃ y, y = xs.getD (n - 1) 0 := ⟨_, rfl⟩
      rw [← hy] at hlast
      have HY := Lib.hid hy
      clear hy hcell
      have ea0 : 0 ≤ (n : Int) - 1 := by omega
      have hn0 : ((n : Int) == 0) = false := by simp; omega

      have HR2 : Hid (Rd .i64 (w.alloc (.cells #[.int .i64 p] 2)) _ n c xs) := Lib.hid (HR.out.below (bl_alloc (Below.refl _ _) _))
      have hcap : (w.alloc (.cells #[.int .i64 p] 2)).cell? ⟨w.heap.size, 0, none⟩ = some (.int .i64 p) := by simp [go_sem]
      have hmf : ∀ (fn : Fn) (first cap : Array Value) (w : World), (Instr.makeFunc fn first cap).run Try.prog w = .ok (.func fn first cap) w := fun _ _ _ _ => rfl

      cases hA : xs.any (nmo p) with
      | true =>
        have HA := Lib.hid hA
        clear hA
        go_enter Try.func63, Try.ntmps63
        go_wp2_with (first | (go_at_call 78; refine (isSmallPrime_yes _ HS.out _).mono ?_; rintro e w' ⟨rfl, rfl⟩) | (go_at_call 92; refine (nmo_has _ _ p1 p2 _ _ _ _ _ HR2.out hcap).mono ?_; rintro e w' ⟨rfl, rfl⟩; rw [HA.out]))
        go_ret
        exact ⟨rfl, bl_alloc (Below.refl _ _) _⟩
      | false =>
        have HA := Lib.hid hA
        have hy0 : y = 0 := by
          apply Decidable.byContradiction
          intro hn
          exact HH.out ⟨HS.out, by have := HL.out; omega, mok_any' hA, fun _ => by rw [HL.out, ← HY.out]; exact hn⟩
        clear hA
        have hyz : (y != 0) = false := by rw [hy0]; rfl
        clear hy0
        go_enter Try.func63, Try.ntmps63
        go_wp2_with (first | (go_at_call 78; refine (isSmallPrime_yes _ HS.out _).mono ?_; rintro e w' ⟨rfl, rfl⟩) | (go_at_call 92; refine (nmo_has _ _ p1 p2 _ _ _ _ _ HR2.out hcap).mono ?_; rintro e w' ⟨rfl, rfl⟩; rw [HA.out]))
        go_ret
        exact ⟨rfl, bl_alloc (Below.refl _ _) _⟩
    · clear hr
      go_enter Try.func63, Try.ntmps63
      go_wp2_with (first | (go_at_call 78; refine (isSmallPrime_yes _ HS.out _).mono ?_; rintro e w' ⟨rfl, rfl⟩))
      go_ret
      exact ⟨rfl, bl_alloc (Below.refl _ _) _⟩
  · have HS := Lib.hid hs
    clear hs hr
    go_enter Try.func63, Try.ntmps63
    go_wp2_with (first | (go_at_call 78; refine (isSmallPrime_no _ HS.out _).mono ?_; rintro e w' ⟨rfl, rfl⟩))
    go_ret
    exact ⟨rfl, bl_alloc (Below.refl _ _) _⟩

end Go.Proofs.Ytjipalcceflkfaa