
/- Copies and trims of []int64: plain lists and the walks. -/
import Derived.Test.YthdmanngjnfamaaOwn
import Derived.Test.YthdmanngjnfamaaCopy
import Derived.Laws.AppendOwnNone
namespace Go.Proofs.Ythdmanngjnfamaa
open Go.RowKit

/-- the length without the zeros at the end of the first n -/
def tlen (xs : List Int) : Nat → Nat
  | 0 => 0
  | n + 1 => if xs.getD n 0 = 0 then tlen xs n else n + 1
/-- the list without zeros at its end -/
def trimL (xs : List Int) : List Int := xs.take (tlen xs xs.length)
theorem tlen_le (xs : List Int) (n : Nat) : tlen xs n ≤ n := by
  induction n with
  | zero => exact Nat.le_refl _
  | succ n ih =>
    unfold tlen
    by_cases h : xs.getD n 0 = 0
    · rw [if_pos h]; omega
    · rw [if_neg h]; exact Nat.le_refl _
theorem tlen_last (xs : List Int) (n : Nat) (h : 0 < tlen xs n) : ¬ xs.getD (tlen xs n - 1) 0 = 0 := by
  induction n with
  | zero => simp [tlen] at h
  | succ n ih =>
    unfold tlen at h ⊢
    by_cases h0 : xs.getD n 0 = 0
    · rw [if_pos h0] at h ⊢; exact ih h
    · rw [if_neg h0]; simpa using h0
theorem tlen_full (xs : List Int) (n : Nat) (h : 0 < n → ¬ xs.getD (n - 1) 0 = 0) : tlen xs n = n := by
  cases n with
  | zero => rfl
  | succ n => unfold tlen; rw [if_neg (by simpa using h (by omega))]
theorem trimL_len (xs : List Int) : (trimL xs).length = tlen xs xs.length := by
  unfold trimL
  rw [List.length_take]
  have := tlen_le xs xs.length
  omega
theorem trimL_le (xs : List Int) : (trimL xs).length ≤ xs.length := by rw [trimL_len]; exact tlen_le _ _
theorem getD_take (xs : List Int) (n i : Nat) (h : i < n) : (xs.take n).getD i 0 = xs.getD i 0 := by
  simp [List.getD, h]
theorem trimL_at (xs : List Int) (i : Nat) (h : i < (trimL xs).length) : (trimL xs).getD i 0 = xs.getD i 0 := by
  rw [trimL_len] at h
  exact getD_take _ _ _ h
theorem trimL_last (xs : List Int) (h : 0 < (trimL xs).length) : ¬ (trimL xs).getD ((trimL xs).length - 1) 0 = 0 := by
  rw [trimL_at _ _ (by omega), trimL_len]
  rw [trimL_len] at h
  exact tlen_last _ _ h
theorem trimL_same {xs : List Int} (h : 0 < xs.length → ¬ xs.getD (xs.length - 1) 0 = 0) : trimL xs = xs := by
  unfold trimL
  rw [tlen_full _ _ h, List.take_length]
theorem trimL_trimL (xs : List Int) : trimL (trimL xs) = trimL xs := trimL_same (trimL_last xs)

theorem Rd.take {k : IntKind} {w : World} {A : Option Addr} {n c : Nat} {xs : List Int} (h : Rd k w A n c xs) {m : Nat} (hm : m ≤ n) : Rd k w A m c (xs.take m) := by
  refine ⟨by rw [List.length_take, h.1]; omega, by have := h.2.1; omega, h.2.2.1, fun h0 => ?_⟩
  obtain ⟨b, off, e, hb, hc⟩ := h.2.2.2 (by omega)
  exact ⟨b, off, e, hb, fun i hi => by rw [getD_take _ _ _ hi]; exact hc i (by omega)⟩
theorem Rd.news {w : World} {ad : Addr} {n c : Nat} {xs : List Int} (h : Rd .i64 w (some ad) n c xs) : ∀ j u, (xs.map (Value.int .i64))[j]? = some u → w.cell? (ad.add j) = some u := by
  intro j u hj
  rw [List.getElem?_map] at hj
  have hl : j < xs.length := by
    rcases Nat.lt_or_ge j xs.length with h1 | h1
    · exact h1
    · rw [List.getElem?_eq_none h1] at hj; cases hj
  obtain ⟨b, off, e, hb, hc⟩ := h.2.2.2 (by have := h.1; omega)
  simp at e
  subst e
  have h1 := hc j (by have := h.1; omega)
  rw [List.getElem?_eq_getElem hl] at hj
  simp at hj
  subst hj
  rw [add_none rfl]
  rw [h1]
  simp [List.getD, List.getElem?_eq_getElem hl]
theorem ints_one (xs : List Int) : ∀ u ∈ xs.map (Value.int .i64), u.oneCell' = true := by
  intro u hu
  rw [List.mem_map] at hu
  obtain ⟨x, _, rfl⟩ := hu
  rfl
theorem base_alloc' (w : World) (o : Obj) : w.heap.size ≤ (w.alloc o).heap.size := by simp
theorem own_made (w : World) : (w.alloc (.cells #[] 2)).ownsRow w.heap.size 2 1 (.slice (some ⟨w.heap.size, 0, none⟩) 0 0) 0 [] :=
  ⟨rfl, .inr ⟨w.heap.size, 0, #[], rfl, Nat.le_refl _, heap_alloc_new w _, Nat.le_refl _, by unfold maxLen; omega, rfl, rfl⟩⟩

set_option maxHeartbeats 400000 in
theorem clone_any (A : Option Addr) (n c : Nat) (xs : List Int) (w : World) (hr : Rd .i64 w A n c xs) (hn : n ≤ 1048576) :
    Calls Try.prog 145 #[.slice A n c] w fun e w' => ∃ A' c', e = .returned (.slice A' n c') ∧ OwnI w' w.heap.size A' n c' xs ∧ Below w.heap.size w w' := by
  obtain ⟨i0, hi, hz0, hz1, hz2⟩ := info_parts infoI64
  have hq := fun (w : World) (a : Option Addr) (n c n' c' : Nat) => Lib.run_eql_slice_nil (P := Try.prog) w 22 2 a n c n' c' Try.underlying22
  have HL := Lib.hid hr.1
  rcases A with _ | ad
  · have h0 : n = 0 := by
      rcases Nat.eq_zero_or_pos n with h | h
      · exact h
      · obtain ⟨b, off, e, _⟩ := hr.2.2.2 h; cases e
    subst h0
    have hx : xs = [] := List.eq_nil_of_length_eq_zero HL.out
    subst hx
    clear hr hi hz0 hz1 hz2
    go_enter Try.func145, Try.ntmps145
    go_wp2
    go_ret
    exact ⟨none, 0, rfl, OwnC.nil (by unfold maxLen; omega), Below.refl _ _⟩
  · have HN := Lib.hid (Rd.news (hr.keep ((Holds'.refl w).alloc (.cells #[] 2))))
    have hb1 : 0 + n ≤ maxLen := by unfold maxLen; omega
    have hb2 : (0 + n) * 8 ≤ 140737488355328 := by omega
    have HB := Lib.hid (bl_alloc (Below.refl w.heap.size w) (.cells #[] 2))
    clear hr
    go_enter Try.func145, Try.ntmps145
    go_wp2_with (at_builtin; refine wpList_append_own _ rfl _ _ _ rfl w.heap.size 2 i0 (.int .i64 0) 1 8 Try.underlying22 hi hz0 hz1 hz2 rfl (by decide) _ _ _ rfl (own_made w) ad n c (xs.map (Value.int .i64)) rfl (by rw [List.length_map, HL.out, Nat.mul_one]) HN.out (ints_one _) hb1 hb2 (base_alloc' _ _) ?_; intro v' w1 hown hg _)
    obtain ⟨A', c', rfl, hr'⟩ := own_cells hown
    rw [Nat.zero_add, List.nil_append] at hown
    rw [Nat.zero_add]
    have HO := Lib.hid hown
    have HB1 := Lib.hid (HB.out.grown hg (base_alloc' _ _) (fun k hk => Nat.le_of_eq (Option.some.inj hk)))
    clear hown hg hr' hi hz0 hz1 hz2 hq
    go_wp2
    go_ret
    exact ⟨A', c', rfl, OwnI.of_row HO.out, HB1.out⟩

set_option maxHeartbeats 400000 in
theorem l01Own_any (A : Option Addr) (n c : Nat) (xs : List Int) (w : World) (hr : Rd .i64 w A n c xs) (hn : n ≤ 1048576) :
    Calls Try.prog 146 #[.slice A n c] w fun e w' => ∃ A' c', e = .returned (.slice A' n c') ∧ OwnI w' w.heap.size A' n c' xs ∧ Below w.heap.size w w' := by
  obtain ⟨i0, hi, hz0, hz1, hz2⟩ := info_parts infoI64
  have HL := Lib.hid hr.1
  have HB := Lib.hid (bl_alloc (Below.refl w.heap.size w) (.cells #[] 2))
  rcases A with _ | ad
  · have h0 : n = 0 := by
      rcases Nat.eq_zero_or_pos n with h | h
      · exact h
      · obtain ⟨b, off, e, _⟩ := hr.2.2.2 h; cases e
    subst h0
    have hx : xs = [] := List.eq_nil_of_length_eq_zero HL.out
    subst hx
    clear hr
    go_enter Try.func146, Try.ntmps146
    go_wp2
    go_ret
    exact ⟨_, 0, rfl, OwnC.nil (by unfold maxLen; omega), HB.out⟩
  · have HN := Lib.hid (Rd.news (hr.keep ((Holds'.refl w).alloc (.cells #[] 2))))
    have hb1 : 0 + n ≤ maxLen := by unfold maxLen; omega
    have hb2 : (0 + n) * 8 ≤ 140737488355328 := by omega
    clear hr
    go_enter Try.func146, Try.ntmps146
    go_wp2_with (at_builtin; refine wpList_append_own _ rfl _ _ _ rfl w.heap.size 2 i0 (.int .i64 0) 1 8 Try.underlying22 hi hz0 hz1 hz2 rfl (by decide) _ _ _ rfl (own_made w) ad n c (xs.map (Value.int .i64)) rfl (by rw [List.length_map, HL.out, Nat.mul_one]) HN.out (ints_one _) hb1 hb2 (base_alloc' _ _) ?_; intro v' w1 hown hg _)
    obtain ⟨A', c', rfl, hr'⟩ := own_cells hown
    rw [Nat.zero_add, List.nil_append] at hown
    rw [Nat.zero_add]
    have HO := Lib.hid hown
    have HB1 := Lib.hid (HB.out.grown hg (base_alloc' _ _) (fun k hk => Nat.le_of_eq (Option.some.inj hk)))
    clear hown hg hr' hi hz0 hz1 hz2
    go_wp2
    go_ret
    exact ⟨A', c', rfl, OwnI.of_row HO.out, HB1.out⟩

set_option maxHeartbeats 400000 in
theorem trim_any (A : Option Addr) (n c : Nat) (xs : List Int) (w : World) (hr : Rd .i64 w A n c xs) (hn : n ≤ 1048576) :
    Calls Try.prog 137 #[.slice A n c] w fun e w' => ∃ A' c', e = .returned (.slice A' (trimL xs).length c') ∧ OwnI w' w.heap.size A' (trimL xs).length c' (trimL xs) ∧ Below w.heap.size w w' := by
  have HR := Lib.hid hr
  have hc := hr.2.1
  have hm := hr.2.2.1
  unfold maxLen at hm
  have HL := Lib.hid hr.1
  clear hr
  go_enter Try.func137, Try.ntmps137
  go_wp2
  go_loop [3] (fun j => ∃ m : Nat, m ≤ n ∧ j = .int .i64 m ∧ Hid (tlen xs m = (trimL xs).length)) (fun j => (intOf j).toNat)
  case atStart => exact ⟨n, Nat.le_refl _, rfl, Lib.hid (by rw [trimL_len, HL.out])⟩
  case round =>
    obtain ⟨m, hm2, rfl, HT⟩ := hrel
    rcases Nat.eq_zero_or_pos m with h0 | h0
    · subst h0
      have HE : Hid (0 = (trimL xs).length) := HT
      have R := Lib.hid (Rd.take HR.out (m := 0) hm2)
      have HX : Hid (xs.take 0 = trimL xs) := Lib.hid (by rw [List.eq_nil_of_length_eq_zero HE.out.symm]; rfl)
      go_wp2_with (go_at_call 145; refine (clone_any _ _ _ _ _ R.out (by omega)).mono ?_; rintro e w1 ⟨A', c', rfl, ho, hb⟩)
      go_ret
      exact ⟨A', c', by rw [← HE.out]; rfl, by rw [← HX.out]; exact ho, hb⟩
    · obtain ⟨b, off, rfl, hb, hcell⟩ := HR.out.2.2.2 (by omega)
      have hx := hcell (m - 1) (by omega)
      obtain ⟨y, hy⟩ : ∃ y, y = xs.getD (m - 1) 0 := ⟨_, rfl⟩
      rw [← hy] at hx
      have HY := Lib.hid hy
      clear hy hcell
      have e0 : 0 ≤ (m : Int) - 1 := by omega
      by_cases hz : y = 0
      · have hz2 : (y == 0) = true := by simpa using hz
        have HT2 : Hid (tlen xs (m - 1) = (trimL xs).length) := Lib.hid (by
          have h1 := HT.out
          obtain ⟨k, rfl⟩ : ∃ k, m = k + 1 := ⟨m - 1, by omega⟩
          unfold tlen at h1
          rw [if_pos (show xs.getD k 0 = 0 from HY.out.symm.trans hz)] at h1
          exact h1)
        clear hz HT
        go_wp2
        go_round
        case rel => exact ⟨m - 1, by omega, by go_num, HT2⟩
        case measure => simp [intOf]; omega
      · have hz2 : (y == 0) = false := by simpa using hz
        have HE : Hid (m = (trimL xs).length) := Lib.hid (by
          have h1 := HT.out
          rw [tlen_full _ _ (fun _ => by rw [← HY.out]; exact hz)] at h1
          exact h1)
        have HX : Hid (xs.take m = trimL xs) := Lib.hid (by
          have h1 := HE.out
          rw [trimL_len] at h1
          unfold trimL
          rw [← h1])
        have R := Lib.hid (Rd.take HR.out (m := m) hm2)
        clear hz HT
        go_wp2_with (go_at_call 145; refine (clone_any _ _ _ _ _ R.out (by omega)).mono ?_; rintro e w1 ⟨A', c', rfl, ho, hb⟩)
        go_ret
        exact ⟨A', c', by rw [← HE.out]; rfl, by rw [← HE.out, ← HX.out]; exact ho, hb⟩

set_option maxHeartbeats 400000 in
theorem l06Trim_any (A : Option Addr) (n c : Nat) (xs : List Int) (w : World) (hr : Rd .i64 w A n c xs) (hn : n ≤ 1048576) :
    Calls Try.prog 138 #[.slice A n c] w fun e w' => ∃ A' c', e = .returned (.slice A' (trimL xs).length c') ∧ OwnI w' w.heap.size A' (trimL xs).length c' (trimL xs) ∧ Below w.heap.size w w' := by
  have HR := Lib.hid hr
  have hc := hr.2.1
  have hm := hr.2.2.1
  unfold maxLen at hm
  have HL := Lib.hid hr.1
  clear hr
  go_enter Try.func138, Try.ntmps138
  go_wp2
  go_loop [3] (fun j => ∃ m : Nat, m ≤ n ∧ j = .int .i64 m ∧ Hid (tlen xs m = (trimL xs).length)) (fun j => (intOf j).toNat)
  case atStart => exact ⟨n, Nat.le_refl _, rfl, Lib.hid (by rw [trimL_len, HL.out])⟩
  case round =>
    obtain ⟨m, hm2, rfl, HT⟩ := hrel
    rcases Nat.eq_zero_or_pos m with h0 | h0
    · subst h0
      have HE : Hid (0 = (trimL xs).length) := HT
      have R := Lib.hid (Rd.take HR.out (m := 0) hm2)
      have HX : Hid (xs.take 0 = trimL xs) := Lib.hid (by rw [List.eq_nil_of_length_eq_zero HE.out.symm]; rfl)
      go_wp2_with (go_at_call 146; refine (l01Own_any _ _ _ _ _ R.out (by omega)).mono ?_; rintro e w1 ⟨A', c', rfl, ho, hb⟩)
      go_ret
      exact ⟨A', c', by rw [← HE.out]; rfl, by rw [← HX.out]; exact ho, hb⟩
    · obtain ⟨b, off, rfl, hb, hcell⟩ := HR.out.2.2.2 (by omega)
      have hx := hcell (m - 1) (by omega)
      obtain ⟨y, hy⟩ : ∃ y, y = xs.getD (m - 1) 0 := ⟨_, rfl⟩
      rw [← hy] at hx
      have HY := Lib.hid hy
      clear hy hcell
      have e0 : 0 ≤ (m : Int) - 1 := by omega
      by_cases hz : y = 0
      · have hz2 : (y == 0) = true := by simpa using hz
        have HT2 : Hid (tlen xs (m - 1) = (trimL xs).length) := Lib.hid (by
          have h1 := HT.out
          obtain ⟨k, rfl⟩ : ∃ k, m = k + 1 := ⟨m - 1, by omega⟩
          unfold tlen at h1
          rw [if_pos (show xs.getD k 0 = 0 from HY.out.symm.trans hz)] at h1
          exact h1)
        clear hz HT
        go_wp2
        go_round
        case rel => exact ⟨m - 1, by omega, by go_num, HT2⟩
        case measure => simp [intOf]; omega
      · have hz2 : (y == 0) = false := by simpa using hz
        have HE : Hid (m = (trimL xs).length) := Lib.hid (by
          have h1 := HT.out
          rw [tlen_full _ _ (fun _ => by rw [← HY.out]; exact hz)] at h1
          exact h1)
        have HX : Hid (xs.take m = trimL xs) := Lib.hid (by
          have h1 := HE.out
          rw [trimL_len] at h1
          unfold trimL
          rw [← h1])
        have R := Lib.hid (Rd.take HR.out (m := m) hm2)
        clear hz HT
        go_wp2_with (go_at_call 146; refine (l01Own_any _ _ _ _ _ R.out (by omega)).mono ?_; rintro e w1 ⟨A', c', rfl, ho, hb⟩)
        go_ret
        exact ⟨A', c', by rw [← HE.out]; rfl, by rw [← HE.out, ← HX.out]; exact ho, hb⟩
end Go.Proofs.Ythdmanngjnfamaa
