/- The walks of NumberOf, and of the law over it. -/
import Derived.Test.YtjipalcceflkfaaModu
import Derived.Test.YtjipalcceflkfaaOwn
import Derived.Test.YtjipalcceflkfaaCopy
namespace Go.Proofs.Ytjipalcceflkfaa
open Go.RowKit

/-- the number of a polynomial by p -/
def nb (p : Int) : List Int → Int
  | [] => 0
  | c :: cs => nb p cs * p + c
theorem nb_drop {xs : List Int} {k : Nat} (h : k < xs.length) : xs.drop k = xs.getD k 0 :: xs.drop (k + 1) := by
  rw [List.drop_eq_getElem_cons h]
  simp [List.getD, h]
theorem nb_step {p : Int} {xs : List Int} {k : Nat} (h : k < xs.length) : nb p (xs.drop k) = nb p (xs.drop (k + 1)) * p + xs.getD k 0 := by
  rw [nb_drop h]; rfl
theorem nb_bd {p : Int} {xs : List Int} (h : MOk p xs) : ∀ d k, k + d = xs.length → 0 ≤ nb p (xs.drop k) ∧ nb p (xs.drop k) + 1 ≤ 97 ^ d := by
  have p1 := h.1.2.1
  have p2 := h.1.1
  intro d
  induction d with
  | zero => intro k hk; rw [List.drop_of_length_le (by omega)]; unfold nb; omega
  | succ d ih =>
    intro k hk
    rw [nb_step (by omega)]
    have ⟨h1, h2⟩ := ih (k + 1) (by omega)
    have h3 := h.2.2.1 k (by omega)
    generalize nb p (xs.drop (k + 1)) = z at *
    have h4 : (z + 1) * p ≤ 97 ^ d * 97 := Int.mul_le_mul h2 p2 (by omega) (by omega)
    rw [Int.add_mul] at h4
    have h5 : 0 ≤ z * p := Int.mul_nonneg h1 (by omega)
    rw [Int.pow_succ]
    generalize z * p = q at *
    generalize (97 : Int) ^ d * 97 = r at *
    omega
theorem nb_small {p : Int} {xs : List Int} (h : MOk p xs) {k : Nat} (hk : k ≤ xs.length) (h0 : 0 < k) : 0 ≤ nb p (xs.drop k) * p ∧ nb p (xs.drop k) * p ≤ 760231058654565120 := by
  have p1 := h.1.2.1
  have p2 := h.1.1
  have ⟨h1, h2⟩ := nb_bd h (xs.length - k) k (by omega)
  have hl := h.2.1
  have h3 : (97 : Int) ^ (xs.length - k) ≤ 97 ^ 8 := by
    have : (97 : Nat) ^ (xs.length - k) ≤ 97 ^ 8 := Nat.pow_le_pow_right (by omega) (by omega)
    exact_mod_cast this
  have h6 : nb p (xs.drop k) ≤ 7837433594376960 := by
    generalize (97 : Int) ^ (xs.length - k) = e at *
    omega
  have h4 : nb p (xs.drop k) * p ≤ 7837433594376960 * 97 := Int.mul_le_mul h6 p2 (by omega) (by omega)
  exact ⟨Int.mul_nonneg h1 (by omega), Int.le_trans h4 (by decide)⟩
def noV (p : Int) (xs : List Int) : Int := if MOk p xs then (if nb p xs ≤ 1000000000 then nb p xs else 0) else 0
def noC (p : Int) (xs : List Int) : Int := if MOk p xs then (if nb p xs ≤ 1000000000 then 0 else 3) else 1
def ot (n : Int) : Int × Int := if n ≤ 1000000000 then (n, 0) else (0, 3)

theorem l10Result_any (n : Int) (w : World) :
    Calls Try.prog 62 #[.int .i64 n] w fun e w' => e = .returned (.tuple #[.int .i64 (ot n).1, .int .i64 (ot n).2]) ∧ w = w' := by
  by_cases h : n ≤ 1000000000
  all_goals
    unfold ot
    first | rw [if_pos h] | rw [if_neg h]
    go_enter Try.func62, Try.ntmps62
    go_wp2
    go_ret2
    exact ⟨rfl, rfl⟩

theorem orTooMany_any (n : Int) (w : World) :
    Calls Try.prog 64 #[.int .i64 n] w fun e w' => e = .returned (.tuple #[.int .i64 (ot n).1, .int .i64 (ot n).2]) ∧ w = w' := by
  by_cases h : n ≤ 1000000000
  all_goals
    unfold ot
    first | rw [if_pos h] | rw [if_neg h]
    go_enter Try.func64, Try.ntmps64
    go_wp2
    go_ret2
    exact ⟨rfl, rfl⟩

set_option maxHeartbeats 800000 in
theorem numberOf_any (p : Int) (A : Option Addr) (n c : Nat) (xs : List Int) (w : World) (hr : Rd .i64 w A n c xs) (h : MOk p xs) :
    Calls Try.prog 65 #[.int .i64 p, .slice A n c] w fun e w' => e = .returned (.int .i64 (nb p xs)) ∧ w = w' := by
  have HR := Lib.hid hr
  have HL := Lib.hid hr.1
  have H := Lib.hid h
  have hn : n ≤ 9 := by have := h.2.1; have := hr.1; omega
  have p1 := h.1.2.1
  have p2 := h.1.1

  clear hr h
  go_enter Try.func65, Try.ntmps65
  go_wp2
  go_loop [5, 6] (fun s i => ∃ (k : Nat) (z : Int), k ≤ n ∧ i = .int .i64 (k - 1) ∧ s = .int .i64 z ∧ Hid (z = nb p (xs.drop k))) (fun _ i => (intOf i + 1).toNat)
  case atStart => exact ⟨n, 0, Nat.le_refl _, by go_num, rfl, Lib.hid (by rw [List.drop_of_length_le (by have := HL.out; omega)]; rfl)⟩
  case round =>
    obtain ⟨k, z, hk, rfl, rfl, HZ⟩ := hrel
    rcases Nat.eq_zero_or_pos k with h0 | h0
    · subst h0
      have HZ2 : Hid (z = nb p xs) := HZ
      go_wp2
      go_ret
      exact ⟨by rw [HZ2.out]; rfl, rfl⟩
    · obtain ⟨j, hj⟩ : ∃ j, j = k - 1 := ⟨_, rfl⟩
      have hkj : (k : Int) - 1 = (j : Int) := by omega
      have hjn : j < n := by omega
      obtain ⟨b, off, rfl, hb, hcell⟩ := HR.out.2.2.2 (by omega)
      have hy := hcell j hjn
      have hy0 := H.out.2.2.1 j (by have := HL.out; omega)
      obtain ⟨y, hye⟩ : ∃ y, y = xs.getD j 0 := ⟨_, rfl⟩
      rw [← hye] at hy hy0
      obtain ⟨y1, y2⟩ := hy0
      have ⟨m1, m2⟩ := nb_small H.out (k := k) (by have := HL.out; omega) h0
      rw [← HZ.out] at m1 m2
      have HN : Hid (z * p + y = nb p (xs.drop j)) := Lib.hid (by rw [nb_step (by have := HL.out; omega), ← hye, ← show k = j + 1 by omega, ← HZ.out])
      clear hye hcell hj HZ
      rw [hkj]
      clear hkj
      go_wp2
      go_round
      case rel => exact ⟨j, z * p + y, by omega, by go_num, rfl, HN⟩
      case measure => simp only [intOf]; omega

set_option maxHeartbeats 800000 in
theorem specNumberOf_any (p : Int) (A : Option Addr) (n c : Nat) (xs : List Int) (w : World) (hr : Rd .i64 w A n c xs) :
    Calls Try.prog 20 #[.int .i64 p, .slice A n c] w fun e w' => e = .returned (.tuple #[.int .i64 (noV p xs), .int .i64 (noC p xs)]) ∧ Below w.heap.size w w' := by
  by_cases h : MOk p xs
  · have HE : Hid (noV p xs = (ot (nb p xs)).1 ∧ noC p xs = (ot (nb p xs)).2) := Lib.hid (by unfold noV noC ot; rw [if_pos h, if_pos h]; by_cases h2 : nb p xs ≤ 1000000000 <;> simp [h2])
    have HR := Lib.hid hr
    have HL := Lib.hid hr.1
    have H := Lib.hid h
    have hn : n ≤ 9 := by have := h.2.1; have := hr.1; omega
    have p1 := h.1.2.1
    have p2 := h.1.1
    clear hr h
    go_enter Try.func20, Try.ntmps20
    go_wp2_with (first | (go_at_call 61; refine (specIsModular_yes _ _ _ _ _ _ HR.out H.out).mono ?_; rintro e w' ⟨rfl, rfl⟩))
    go_loop [6, 7] (fun s i => ∃ (k : Nat) (z : Int), k ≤ n ∧ i = .int .i64 (k - 1) ∧ s = .int .i64 z ∧ Hid (z = nb p (xs.drop k))) (fun _ i => (intOf i + 1).toNat)
    case atStart => exact ⟨n, 0, Nat.le_refl _, by go_num, rfl, Lib.hid (by rw [List.drop_of_length_le (by have := HL.out; omega)]; rfl)⟩
    case round =>
      obtain ⟨k, z, hk, rfl, rfl, HZ⟩ := hrel
      rcases Nat.eq_zero_or_pos k with h0 | h0
      · subst h0
        have HZ2 : Hid (z = nb p xs) := HZ
        go_wp2_with (first | (go_at_call 62; refine (l10Result_any _ _).mono ?_; rintro e w' ⟨rfl, rfl⟩))
        go_ret2
        exact ⟨by rw [HE.out.1, HE.out.2, ← HZ2.out]; rfl, Below.refl _ _⟩
      · obtain ⟨j, hj⟩ : ∃ j, j = k - 1 := ⟨_, rfl⟩
        have hkj : (k : Int) - 1 = (j : Int) := by omega
        have hjn : j < n := by omega
        obtain ⟨b, off, rfl, hb, hcell⟩ := HR.out.2.2.2 (by omega)
        have hy := hcell j hjn
        have hy0 := H.out.2.2.1 j (by have := HL.out; omega)
        obtain ⟨y, hye⟩ : ∃ y, y = xs.getD j 0 := ⟨_, rfl⟩
        rw [← hye] at hy hy0
        obtain ⟨y1, y2⟩ := hy0
        have ⟨m1, m2⟩ := nb_small H.out (k := k) (by have := HL.out; omega) h0
        rw [← HZ.out] at m1 m2
        have HN : Hid (z * p + y = nb p (xs.drop j)) := Lib.hid (by rw [nb_step (by have := HL.out; omega), ← hye, ← show k = j + 1 by omega, ← HZ.out])
        clear hye hcell hj HZ
        rw [hkj]
        clear hkj
        go_wp2
        go_round
        case rel => exact ⟨j, z * p + y, by omega, by go_num, rfl, HN⟩
        case measure => simp only [intOf]; omega
  · have HR := Lib.hid hr
    have H := Lib.hid h
    have HE : Hid (noV p xs = 0 ∧ noC p xs = 1) := Lib.hid (by unfold noV noC; rw [if_neg h, if_neg h]; exact ⟨rfl, rfl⟩)
    clear hr h
    go_enter Try.func20, Try.ntmps20
    go_wp2_with (first | (go_at_call 61; refine (specIsModular_no _ _ _ _ _ _ HR.out H.out).mono ?_; rintro e w' ⟨rfl, rfl⟩))
    go_ret2
    exact ⟨by rw [HE.out.1, HE.out.2]; rfl, Below.refl _ _⟩

set_option maxHeartbeats 800000 in
theorem implNumberOf_any (p : Int) (A : Option Addr) (n c : Nat) (xs : List Int) (w : World) (hr : Rd .i64 w A n c xs) :
    Calls Try.prog 22 #[.int .i64 p, .slice A n c] w fun e w' => e = .returned (.tuple #[.int .i64 (noV p xs), .int .i64 (noC p xs)]) ∧ Below w.heap.size w w' := by
  by_cases h : MOk p xs
  · have HE : Hid (noV p xs = (ot (nb p xs)).1 ∧ noC p xs = (ot (nb p xs)).2) := Lib.hid (by unfold noV noC ot; rw [if_pos h, if_pos h]; by_cases h2 : nb p xs ≤ 1000000000 <;> simp [h2])
    have HR := Lib.hid hr
    have H := Lib.hid h
    clear hr h
    go_enter Try.func22, Try.ntmps22
    go_wp2_with (first | (go_at_call 63; refine (implIsModular_yes _ _ _ _ _ _ HR.out H.out).mono ?_; rintro e w0 ⟨rfl, hb0⟩; have HB0 := Lib.hid hb0; have HR0 := Lib.hid (HR.out.below hb0); clear hb0) | (go_at_call 65; refine (numberOf_any _ _ _ _ _ _ HR0.out H.out).mono ?_; rintro e w' ⟨rfl, rfl⟩) | (go_at_call 64; refine (orTooMany_any _ _).mono ?_; rintro e w' ⟨rfl, rfl⟩))
    go_ret2
    exact ⟨by rw [HE.out.1, HE.out.2]; rfl, HB0.out⟩
  · have HR := Lib.hid hr
    have H := Lib.hid h
    have HE : Hid (noV p xs = 0 ∧ noC p xs = 1) := Lib.hid (by unfold noV noC; rw [if_neg h, if_neg h]; exact ⟨rfl, rfl⟩)
    clear hr h
    go_enter Try.func22, Try.ntmps22
    go_wp2_with (first | (go_at_call 63; refine (implIsModular_no _ _ _ _ _ _ HR.out H.out).mono ?_; rintro e w0 ⟨rfl, hb0⟩; have HB0 := Lib.hid hb0; have HR0 := Lib.hid (HR.out.below hb0); clear hb0))
    go_ret2
    exact ⟨by rw [HE.out.1, HE.out.2]; rfl, HB0.out⟩

set_option maxHeartbeats 4000000 in
theorem lawExactNumberOf (a0 : Int) (A1 : Option Addr) (n1 c1 : Nat) (xs1 : List Int) (v cd : Int) (w : World) (hr1 : Rd .i64 w A1 n1 c1 xs1) (hn1 : n1 ≤ 1048576)
    (hs : ∀ (B1 : Option Addr) (d1 : Nat) (w : World), Rd .i64 w B1 n1 d1 xs1 → Calls Try.prog 20 #[.int .i64 a0, .slice B1 n1 d1] w fun e w' => e = .returned (.tuple #[.int .i64 v, .int .i64 cd]) ∧ Below w.heap.size w w')
    (hi : ∀ (B1 : Option Addr) (d1 : Nat) (w : World), Rd .i64 w B1 n1 d1 xs1 → Calls Try.prog 22 #[.int .i64 a0, .slice B1 n1 d1] w fun e w' => e = .returned (.tuple #[.int .i64 v, .int .i64 cd]) ∧ Below w.heap.size w w') :
    Calls Try.prog 4 #[.int .i64 a0, .slice A1 n1 c1] w fun e w' => e = .returned (.bool true) ∧ Below w.heap.size w w' := by
  have HR1 := Lib.hid hr1
  have HS := Lib.hid hs
  have HI := Lib.hid hi
  have HB0 := Lib.hid (Below.refl w.heap.size w)
  clear hs hi hr1
  go_enter Try.func4, Try.ntmps4
  go_wp2_with fail
  refine (toInt64S_any _ _ _ _ _ (HR1.out.below HB0.out) hn1).mono ?_
  rintro e w1 ⟨rfl, ho0, hb⟩
  have HB1 := Lib.hid (bl_trans HB0.out hb)
  have G_s1 : Hid (∀ k, rowOf _ _ = some k → w.heap.size ≤ k) := Lib.hid (fun k hk => Nat.le_trans HB0.out.size ((OwnC.row_ge (OwnI.of_row ho0)) k hk).1)
  have O_s1_1 := Lib.hid (OwnI.of_row ho0)
  clear hb ho0
  go_wp2_with fail
  refine (HS.out _ _ _ O_s1_1.out.rd).mono ?_
  rintro e w2 ⟨rfl, hb⟩
  have HB2 := Lib.hid (bl_trans HB1.out hb)
  have O_s1_2 := Lib.hid (O_s1_1.out.below hb)
  clear hb HB1 O_s1_1
  clear O_s1_2
  go_wp2_with fail
  refine (toInt64S_any _ _ _ _ _ (HR1.out.below HB2.out) hn1).mono ?_
  rintro e w3 ⟨rfl, ho0, hb⟩
  have HB3 := Lib.hid (bl_trans HB2.out hb)
  have G_x1 : Hid (∀ k, rowOf _ _ = some k → w.heap.size ≤ k) := Lib.hid (fun k hk => Nat.le_trans HB2.out.size ((OwnC.row_ge (OwnI.of_row ho0)) k hk).1)
  have O_x1_3 := Lib.hid (OwnI.of_row ho0)
  clear hb HB2 ho0
  go_wp2_with fail
  refine (HI.out _ _ _ O_x1_3.out.rd).mono ?_
  rintro e w4 ⟨rfl, hb⟩
  have HB4 := Lib.hid (bl_trans HB3.out hb)
  have O_x1_4 := Lib.hid (O_x1_3.out.below hb)
  clear hb HB3 O_x1_3
  go_wp2_with fail
  refine (toInt64S_any _ _ _ _ _ (HR1.out.below HB4.out) hn1).mono ?_
  rintro e w5 ⟨rfl, ho0, hb⟩
  have HB5 := Lib.hid (bl_trans HB4.out hb)
  have S_x1_t1 := Lib.hid (own_sep O_x1_4.out (OwnI.of_row ho0) (Nat.le_refl _))
  have O_x1_5 := Lib.hid (O_x1_4.out.below hb)
  have G_t1 : Hid (∀ k, rowOf _ _ = some k → w.heap.size ≤ k) := Lib.hid (fun k hk => Nat.le_trans HB4.out.size ((OwnC.row_ge (OwnI.of_row ho0)) k hk).1)
  have O_t1_5 := Lib.hid (OwnI.of_row ho0)
  clear hb HB4 O_x1_4 ho0
  go_wp2_with fail
  refine ((eqInt64S_any _ _ _ _ _ _ _ O_x1_5.out.rd O_t1_5.out.rd).mono fun _ _ h => drawn_below h).mono ?_
  rintro e w6 ⟨rfl, hb⟩
  have HB6 := Lib.hid (bl_trans HB5.out hb)
  have O_x1_6 := Lib.hid (O_x1_5.out.below hb)
  have O_t1_6 := Lib.hid (O_t1_5.out.below hb)
  clear hb HB5 O_x1_5 O_t1_5
  clear O_t1_6
  go_wp2
  go_ret
  exact ⟨rfl, HB6.out⟩

theorem walkExactNumberOf (a0 : Int) (A1 : Option Addr) (n1 c1 : Nat) (xs1 : List Int) (w : World) (_ : (Lit.int .i64 a0).wf = true) (hr1 : IsRow .i64 w A1 n1 c1 xs1) :
    Calls Try.prog 4 #[.int .i64 a0, .slice A1 n1 c1] w fun e w' => e = .returned (.bool true) ∧ Below w.heap.size w w' := by
  have hm1 := hr1.2.1
  have hc1 := hr1.1
  unfold maxLen at hm1
  have R1 := Lib.hid hr1.rd
  clear hr1
  by_cases hn1 : n1 ≤ 1048576
  · exact lawExactNumberOf a0 A1 n1 c1 xs1 (noV a0 xs1) (noC a0 xs1)  w R1.out hn1 
      (fun _ _ _ h => specNumberOf_any _ _ _ _ _ _ h)
      (fun _ _ _ h => implNumberOf_any _ _ _ _ _ _ h)
  · go_enter Try.func4, Try.ntmps4
    go_wp2
    go_ret
    exact ⟨rfl, Below.refl _ _⟩

end Go.Proofs.Ytjipalcceflkfaa