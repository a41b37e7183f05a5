/- The walks of the reversed polynomial, and of the law over ReversePolynomial. -/
import Derived.Test.YthnnihjiojhbiaaAdd
import Derived.Test.YthnnihjiojhbiaaDer
import Derived.Test.YthnnihjiojhbiaaAbsReversePolynomial
namespace Go.Proofs.Ythnnihjiojhbiaa
open Go.RowKit

def revL (xs : List Int) : List Int := tab xs.length (fun i => xs.getD (xs.length - 1 - i) 0)
/-- the state behind i exchanges -/
def revS (xs : List Int) (i m : Nat) : Int := if m < i ∨ xs.length - 1 - i < m then xs.getD (xs.length - 1 - m) 0 else xs.getD m 0
theorem revS_zero (xs : List Int) {m : Nat} (h : m < xs.length) : revS xs 0 m = xs.getD m 0 := by
  unfold revS; rw [if_neg (by omega)]
theorem revS_all (xs : List Int) {i m : Nat} (h : m < xs.length) (hi : xs.length - 1 - i ≤ i) : revS xs i m = xs.getD (xs.length - 1 - m) 0 := by
  unfold revS
  by_cases h1 : m < i ∨ xs.length - 1 - i < m
  · rw [if_pos h1]
  · rw [if_neg h1, show xs.length - 1 - m = m by omega]
theorem revS_step (xs : List Int) {n i m : Nat} (hn : xs.length = n) (h : m < n) (hij : i < n - 1 - i) :
    (if m = n - 1 - i then xs.getD i 0 else if m = i then xs.getD (n - 1 - i) 0 else revS xs i m) = revS xs (i + 1) m := by
  unfold revS
  rw [hn]
  by_cases h1 : m = n - 1 - i
  · subst h1
    rw [if_pos rfl, if_pos (by omega), show n - 1 - (n - 1 - i) = i by omega]
  · rw [if_neg h1]
    by_cases h2 : m = i
    · subst h2
      rw [if_pos rfl, if_pos (by omega)]
    · rw [if_neg h2]
      by_cases h3 : m < i ∨ n - 1 - i < m
      · rw [if_pos h3, if_pos (by omega)]
      · rw [if_neg h3, if_neg (by omega)]
theorem revL_at {xs : List Int} {i : Nat} (h : i < xs.length) : (revL xs).getD i 0 = xs.getD (xs.length - 1 - i) 0 := tab_at h
theorem revL_len (xs : List Int) : (revL xs).length = xs.length := tab_len _ _
theorem rev_pok {xs : List Int} (h : POk xs) : POk (trimL (revL xs)) := by
  refine ⟨by have := trimL_le (revL xs); rw [revL_len] at this; have := h.1; omega, fun i hi => ?_, trimL_last _⟩
  rw [trimL_at _ _ hi]
  have h2 := trimL_le (revL xs)
  rw [revL_len] at h2
  rw [revL_at (by omega)]
  exact h.2.1 _ (by omega)

set_option maxHeartbeats 1600000 in
theorem reverse_any (lo : Nat) (A : Option Addr) (n c : Nat) (xs : List Int) (w : World) (h : OwnI w lo A n c xs) (hn : n ≤ 1048576) :
    Calls Try.prog 79 #[.slice A n c] w fun e w' => e = .returned (.tuple #[]) ∧ OwnI w' lo A n c (revL xs) ∧ w.grownBy w' (rowOf A n) := by
  have HO := Lib.hid h
  have hl := Lib.hid h.len
  clear h
  rcases Nat.eq_zero_or_pos n with h0 | h0
  · subst h0
    have HX : Hid (revL xs = xs) := Lib.hid (by rw [List.eq_nil_of_length_eq_zero hl.out]; rfl)
    go_enter Try.func79, Try.ntmps79
    go_wp2
    refine wp_loop_rounds 1 ?_
    rw [rounds_succ]
    go_wp2
    go_end0
    exact ⟨rfl, by rw [HX.out]; exact HO.out, grown_refl _ _⟩
  obtain ⟨g, rfl, hg1, hg2⟩ := OwnC.form HO.out h0
  have HR : Hid (rowOf (some ⟨g, 0, none⟩) n = some g) := Lib.hid (by unfold rowOf; rw [if_neg (by omega)]; rfl)
  have HT : Hid (OwnI w lo (some ⟨g, 0, none⟩) n c (tab n (revS xs 0))) := Lib.hid (by
    have e : tab n (revS xs 0) = xs := by
      rw [tab_ext (h' := fun m => xs.getD m 0) (fun m hm => revS_zero xs (by rw [hl.out]; exact hm)), ← hl.out]
      exact tab_list xs
    rw [e]
    exact HO.out)
  go_enter Try.func79, Try.ntmps79
  go_wp2
  go_loopw [2, 3] (fun a b wr => ∃ i : Nat, i ≤ n ∧ a = .int .i64 i ∧ b = .int .i64 (n - 1 - i) ∧ Hid (OwnI wr lo (some ⟨g, 0, none⟩) n c (tab n (revS xs i))) ∧ Hid (w.grownBy wr (some g))) (fun a _ _ => n - (intOf a).toNat)
  case atStart => exact ⟨0, Nat.zero_le _, rfl, by go_num, HT, Lib.hid (grown_refl _ _)⟩
  case round =>
    obtain ⟨i, hi, rfl, rfl, HW, HG⟩ := hrel
    by_cases hlt : (i : Int) < (n : Int) - 1 - i
    · obtain ⟨j, hj⟩ : ∃ j, j = n - 1 - i := ⟨_, rfl⟩
      have hjn : (n : Int) - 1 - i = (j : Int) := by omega
      have hij : i < j := by omega
      have hjl : j < n := by omega
      have ⟨ho1, hf1⟩ := own_cell HW.out (show i < n by omega)
      have ⟨ho2, hf2⟩ := own_cell HW.out hjl
      have e1 : revS xs i i = xs.getD i 0 := by unfold revS; rw [hl.out, if_neg (by omega)]
      have e2 : revS xs i j = xs.getD j 0 := by unfold revS; rw [hl.out, if_neg (by omega)]
      rw [e1] at ho1
      rw [e2] at ho2
      obtain ⟨x, hxe⟩ : ∃ x, x = xs.getD i 0 := ⟨_, rfl⟩
      obtain ⟨y, hye⟩ : ∃ y, y = xs.getD j 0 := ⟨_, rfl⟩
      rw [← hxe] at ho1
      rw [← hye] at ho2
      have HX := Lib.hid hxe
      have HY := Lib.hid hye
      have HJ := Lib.hid hj
      clear hxe hye hj e1 e2 HO HT
      rw [hjn]
      clear hjn
      have hlt2 : (i : Int) < (j : Int) := by omega
      clear hlt
      go_wp2
      go_region
      go_wp2
      go_roundw
      case rel => exact ⟨i + 1, by omega, by go_num, by have := HJ.out; go_num, Lib.hid (by
        have := own_store (own_store HW.out i y) j x
        rw [tab_ext (h' := revS xs (i + 1)) (fun m hm => by rw [HJ.out, HX.out, HY.out, HJ.out]; exact revS_step xs hl.out hm (by have := HJ.out; omega))] at this
        exact this), Lib.hid (grown_trans (grown_trans (grown_trans HG.out ((HW.out.set_ i y).2 h0)) (((HW.out.set_ i y).1.set_ j x).2 h0)) ⟨rfl, rfl, rfl, Nat.le_refl _, fun _ _ _ => rfl⟩)⟩
      case measure => simp [intOf]; omega
    · have HE : Hid (tab n (revS xs i) = revL xs) := Lib.hid (by
        unfold revL
        rw [hl.out]
        exact tab_ext (fun m hm => by have := revS_all xs (i := i) (m := m) (by rw [hl.out]; exact hm) (by rw [hl.out]; omega); rw [hl.out] at this; exact this))
      go_wp2
      go_end0
      exact ⟨rfl, by rw [← HE.out]; exact HW.out, by rw [HR.out]; exact HG.out⟩

/-- what ReversePolynomial gives -/
def revR (xs : List Int) : List Int × Int := if POk xs then (trimL (revL xs), 0) else ([], 1)
theorem revR_len (xs : List Int) : (revR xs).1.length ≤ 1048576 := by
  unfold revR
  by_cases h : POk xs
  · rw [if_pos h]; have := (rev_pok h).1; show (trimL (revL xs)).length ≤ _; omega
  · rw [if_neg h]; simp

set_option maxHeartbeats 800000 in
theorem implReversePolynomial_any (A : Option Addr) (n c : Nat) (xs : List Int) (w : World) (hr : Rd .i64 w A n c xs) :
    Calls Try.prog 43 #[.slice A n c] w (Gives (revR xs) w) := by
  have HR := Lib.hid hr
  have hl := hr.1
  clear hr
  by_cases h : POk xs
  · have H := Lib.hid h
    have HE : Hid (revR xs = (trimL (revL xs), 0)) := Lib.hid (by unfold revR; rw [if_pos h])
    have hn : n ≤ 9 := by have := h.1; omega
    clear h hl
    go_enter Try.func43, Try.ntmps43
    go_wp2_with (first | (go_at_call 56; refine (implIsPolynomial_yes _ _ _ _ _ HR.out H.out).mono ?_; rintro e w' ⟨rfl, rfl⟩) | (go_at_call 78; refine (clone_any _ _ _ _ _ HR.out (by omega)).mono ?_; rintro e w1 ⟨A', c', rfl, ho, hb⟩; have HO := Lib.hid ho; have HB := Lib.hid hb; clear ho hb) | (go_at_call 79; refine (reverse_any _ _ _ _ _ _ HO.out (by omega)).mono ?_; rintro e w2 ⟨rfl, ho2, hg2⟩; have HO2 := Lib.hid ho2; have HB2 := Lib.hid (below_mark HB.out hg2 (fun k hk => (OwnC.row_ge HO.out k hk).1)); clear ho2 hg2) | (go_at_call 80; refine (trim_any _ _ _ _ _ HO2.out.rd (by omega)).mono ?_; rintro e w3 ⟨A3, c3, rfl, ho3, hb3⟩; have HO3 := Lib.hid ho3; have HB3 := Lib.hid hb3; clear ho3 hb3))
    go_ret2
    exact ⟨A3, c3, by rw [HE.out]; rfl, by rw [HE.out]; exact own_lo HO3.out HB2.out.size, bl_trans HB2.out HB3.out⟩
  · have H := Lib.hid h
    have HE : Hid (revR xs = ([], 1)) := Lib.hid (by unfold revR; rw [if_neg h])
    clear h hl
    go_enter Try.func43, Try.ntmps43
    go_wp2_with (first | (go_at_call 56; refine (implIsPolynomial_no _ _ _ _ _ HR.out H.out).mono ?_; rintro e w' ⟨rfl, rfl⟩))
    go_ret2
    exact ⟨none, 0, by rw [HE.out]; rfl, by rw [HE.out]; exact OwnI.nil _ _, Below.refl _ _⟩

def revP (xs : List Int) (k : Nat) : List Int := tab k (fun i => xs.getD (xs.length - 1 - i) 0)
theorem revP_succ (xs : List Int) (k : Nat) : revP xs (k + 1) = revP xs k ++ [xs.getD (xs.length - 1 - k) 0] := by
  unfold revP tab; rw [List.range_succ, List.map_append]; rfl
set_option maxHeartbeats 1600000 in
theorem specReversePolynomial_any (A : Option Addr) (n c : Nat) (xs : List Int) (w : World) (hr : Rd .i64 w A n c xs) :
    Calls Try.prog 42 #[.slice A n c] w (Gives (revR xs) w) := by
  obtain ⟨i0, hi, hz0, hz1, hz2⟩ := info_parts infoI64
  have HI := Lib.hid hi
  have HZ0 := Lib.hid hz0
  have HZ1 := Lib.hid hz1
  have HZ2 := Lib.hid hz2
  clear hi hz0 hz1 hz2
  have HR := Lib.hid hr
  have HL := Lib.hid hr.1
  clear hr
  by_cases h : POk xs
  · have H := Lib.hid h
    have HE : Hid (revR xs = resOf (revL xs)) := Lib.hid (by unfold revR resOf; rw [if_pos h, if_pos (rev_pok h)])
    have hn : n ≤ 9 := by have := h.1; have := HL.out; omega
    clear h
    go_enter Try.func42, Try.ntmps42
    go_wp2_with (first | (go_at_call 54; refine (specIsPolynomial_yes _ _ _ _ _ HR.out H.out).mono ?_; rintro e w' ⟨rfl, rfl⟩))
    go_loopw [4, 5] (fun v i wr => ∃ (k : Nat) (L : List Int), k ≤ n ∧ i = .int .i64 (n - 1 - k) ∧ L.length = k ∧ Hid (L = revP xs k) ∧ Hid (wr.ownsRow w.heap.size 2 1 v L.length (L.map (Value.int .i64))) ∧ Hid (Below w.heap.size w wr)) (fun _ i _ => (intOf i + 1).toNat)
    case atStart => exact ⟨0, [], by omega, by go_num, rfl, Lib.hid rfl, Lib.hid (own_made w), Lib.hid (bl_alloc (Below.refl _ _) _)⟩
    case round =>
      obtain ⟨k, L, hk, rfl, hkl, HLk, HO, HB⟩ := hrel
      by_cases hlt : k < n
      · obtain ⟨b, off, rfl, hb, hcell⟩ := HR.out.2.2.2 (by omega)
        obtain ⟨j, hj⟩ : ∃ j, j = n - 1 - k := ⟨_, rfl⟩
        have hjn : (n : Int) - 1 - k = (j : Int) := by omega
        have hjl : j < n := by omega
        have hx := keep_cell HB.out (hcell j hjl)
        obtain ⟨x, hxe⟩ : ∃ x, x = xs.getD j 0 := ⟨_, rfl⟩
        rw [← hxe] at hx
        have HX : Hid (x = xs.getD (n - 1 - k) 0) := Lib.hid (by rw [← hj]; exact hxe)
        have HJ := Lib.hid hj
        have HK := Lib.hid hkl
        have hl1 : L.length + 1 ≤ maxLen := by unfold maxLen; omega
        have hl2 : (L.length + 1) * 8 ≤ 140737488355328 := by omega
        rw [hjn]
        clear hxe hj hjn hcell hkl
        go_wp2_with (at_builtin; refine wpList_append_own _ rfl _ _ _ rfl w.heap.size 2 i0 (.int .i64 0) 1 8 Try.underlying22 HI.out HZ0.out HZ1.out HZ2.out rfl (by decide) _ L.length (L.map (Value.int .i64)) rfl (HO.out.alloc _) ⟨wr.heap.size, 0, none⟩ 1 1 [.int .i64 x] rfl rfl (cell_one_new _ _ _) (ints_one [x]) hl1 hl2 (base_alloc2 HB.out _) ?_; intro v' w1 hown' hgrow _)
        have HO2 := Lib.hid (own_snoc hown')
        have HE2 : Hid (L ++ [x] = revP xs (k + 1)) := Lib.hid (by rw [revP_succ, ← HLk.out, HL.out, ← HX.out])
        have HB2 : Hid (Below w.heap.size w w1) := Lib.hid ((bl_alloc HB.out _).grown hgrow (base_alloc2 HB.out _) (fun k hk => (HO.out.lt k hk).1))
        clear hown' hgrow HO HB hl1 hl2
        go_wp2
        go_roundw
        case rel => exact ⟨k + 1, L ++ [x], by omega, by have := HJ.out; go_num, by have := HK.out; rw [List.length_append]; simp; omega, HE2, HO2, HB2⟩
        case measure => first | (simp [intOf]; done) | (simp [intOf]; omega)
      · obtain ⟨A', c', rfl, _⟩ := own_cells HO.out
        subst hkl
        have HF : Hid (L = revL xs) := Lib.hid (by
          have e : revP xs L.length = revL xs := by unfold revL revP; rw [HL.out, show L.length = n by omega]
          exact HLk.out.trans e)
        have HRD : Hid (Rd .i64 wr A' L.length c' (revL xs)) := Lib.hid (by rw [← HF.out]; exact (OwnI.of_row HO.out).rd)
        go_wp2_with (go_at_call 74; refine (l06Result_any _ _ _ _ _ HRD.out (by omega)).mono ?_; rintro e w3 ⟨A3, c3, rfl, ho3, hb3⟩; have HO3 := Lib.hid ho3; have HB3 := Lib.hid hb3; clear ho3 hb3)
        go_ret2
        exact ⟨A3, c3, by rw [HE.out]; rfl, by rw [HE.out]; exact own_lo HO3.out HB.out.size, bl_trans HB.out HB3.out⟩
  · have H := Lib.hid h
    have HE : Hid (revR xs = ([], 1)) := Lib.hid (by unfold revR; rw [if_neg h])
    clear h
    go_enter Try.func42, Try.ntmps42
    go_wp2_with (first | (go_at_call 54; refine (specIsPolynomial_no _ _ _ _ _ HR.out H.out).mono ?_; rintro e w' ⟨rfl, rfl⟩))
    go_ret2
    exact ⟨none, 0, by rw [HE.out]; rfl, by rw [HE.out]; exact OwnI.nil _ _, Below.refl _ _⟩

theorem walkExactReversePolynomial (A0 : Option Addr) (n0 c0 : Nat) (xs0 : List Int) (w : World) (hr0 : IsRow .i64 w A0 n0 c0 xs0) :
    Calls Try.prog 12 #[.slice A0 n0 c0] w fun e w' => e = .returned (.bool true) ∧ Below w.heap.size w w' := by
  have hm0 := hr0.2.1
  have hc0 := hr0.1
  unfold maxLen at hm0
  have R0 := Lib.hid hr0.rd
  clear hr0
  by_cases hn0 : n0 ≤ 1048576
  · exact lawExactReversePolynomial A0 n0 c0 xs0 (revR xs0).1 (revR xs0).2 w R0.out hn0 (revR_len _)
      (fun _ _ _ h => specReversePolynomial_any _ _ _ _ _ h)
      (fun _ _ _ h => implReversePolynomial_any _ _ _ _ _ h)
  · go_enter Try.func12, Try.ntmps12
    go_wp2
    go_ret
    exact ⟨rfl, Below.refl _ _⟩

end Go.Proofs.Ythnnihjiojhbiaa