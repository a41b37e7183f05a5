
/- The polygon lies below all points and touches them at its corners. -/
import Derived.Test.YthdmanngjnfamaaRtl
import Derived.Test.YthdmanngjnfamaaLat
namespace Go.Proofs.Ythdmanngjnfamaa

theorem rd_mul {y d : Int} (hd : 0 < d) : rdN (y * d) d = y ∧ rdD (y * d) d = 1 := by
  have hg : ((Int.gcd (y * d) d : Nat) : Int) = d := by
    show ((Nat.gcd (y * d).natAbs d.natAbs : Nat) : Int) = d
    rw [Int.natAbs_mul, Nat.gcd_mul_left_left]
    omega
  unfold rdN rdD
  rw [hg, if_neg (by omega), if_neg (by omega), Int.mul_tdiv_cancel _ (by omega), Int.tdiv_self (by omega)]
  exact ⟨rfl, rfl⟩
/-- the piece in which a height is read off -/
theorem ht_find {C : List (Int × Int)} {x : Int} (x2 : x ≤ pX C (C.length - 1)) : ∀ f k, C.length - k ≤ f → k + 1 < C.length → pX C k ≤ x → (k = 0 ∨ pX C k < x) →
    ∃ j, j + 1 < C.length ∧ pX C j ≤ x ∧ x ≤ pX C (j + 1) ∧ (j = 0 ∨ pX C j < x) ∧
      htF ((C.getD 0 (0, 0)).2, 1) (C.drop k) x = (pY C j * (pX C (j + 1) - pX C j) + (pY C (j + 1) - pY C j) * (x - pX C j), pX C (j + 1) - pX C j)
  | 0, k, hf, hk, _, _ => by omega
  | f + 1, k, hf, hk, h1, h2 => by
    by_cases hx : x ≤ pX C (k + 1)
    · exact ⟨k, hk, h1, hx, h2, htF_yes hk hx⟩
    · have hk2 : k + 2 < C.length := by
        rcases Nat.lt_or_ge (k + 2) C.length with h | h
        · exact h
        · have e : C.length - 1 = k + 1 := by omega
          rw [e] at x2
          exact absurd x2 hx
      rw [htF_no hk hx]
      exact ht_find x2 f (k + 1) (by omega) hk2 (by omega) (.inr (by omega))
theorem inc_le {X : Nat → Int} {n i j : Nat} (h : Inc X n) (hi : i < n) (_ : j < n) (hx : X i ≤ X j) : i ≤ j := by
  rcases Nat.lt_or_ge j i with h1 | h1
  · have := h j i h1 hi; omega
  · exact h1
/-- the height at a corner -/
theorem ht_corner {C : List (Int × Int)} (hi : Inc (pX C) C.length) {k : Nat} (hk : k < C.length) : ∃ d : Int, 0 < d ∧ htL C (pX C k) = (pY C k * d, d) := by
  by_cases h1 : 1 < C.length
  · have a1 : pX C 0 ≤ pX C k := by
      rcases Nat.eq_zero_or_pos k with h | h
      · rw [h]; omega
      · exact Int.le_of_lt (hi 0 k h hk)
    have a2 : pX C k ≤ pX C (C.length - 1) := by
      rcases Nat.lt_or_ge k (C.length - 1) with h | h
      · exact Int.le_of_lt (hi k _ h (by omega))
      · rw [show k = C.length - 1 by omega]; omega
    obtain ⟨j, j1, j2, j3, j4, e⟩ := ht_find a2 C.length 0 (by omega) (by omega) a1 (.inl rfl)
    rw [List.drop_zero] at e
    have hd := hi j (j + 1) (by omega) j1
    refine ⟨pX C (j + 1) - pX C j, by omega, ?_⟩
    unfold htL
    rw [e]
    have hjk := inc_le hi (by omega) hk j2
    have hkj := inc_le hi hk j1 j3
    rcases (show k = j ∨ k = j + 1 by omega) with rfl | rfl
    · rw [Int.sub_self, Int.mul_zero, Int.add_zero]
    · generalize pX C (j + 1) - pX C j = u
      refine congrArg (fun z => (z, u)) ?_
      grind
  · have hk0 : k = 0 := by omega
    subst hk0
    refine ⟨1, by omega, ?_⟩
    unfold htL
    have e := htF_end (d := ((C.getD 0 (0, 0)).2, 1)) (cs := C) (k := 0) (x := pX C 0) (by omega)
    rw [List.drop_zero] at e
    rw [e, Int.mul_one]
    rfl
/-- no point lies below the height -/
theorem ht_point {l : List (Int × Int)} (h0 : 0 < l.length) (hl : l.Pairwise (fun a b => a.1 < b.1)) {i : Nat} (hi : i < l.length) :
    hIn (hullP l) (pX l i) ∧ ∃ n d : Int, 0 < d ∧ htL (hullP l) (pX l i) = (n, d) ∧ n ≤ pY l i * d := by
  have hI := pw_inc hl
  have hH := pw_inc (hullP_inc h0 hl)
  have hlen := hullP_len h0 hl
  have hf : pX (hullP l) 0 = pX l 0 := by unfold pX; rw [hullP_first h0 hl]
  have hlst : pX (hullP l) ((hullP l).length - 1) = pX l (l.length - 1) := by unfold pX; rw [hullP_last h0 hl]
  have a1 : pX (hullP l) 0 ≤ pX l i := by
    rw [hf]
    rcases Nat.eq_zero_or_pos i with h | h
    · rw [h]; omega
    · exact Int.le_of_lt (hI 0 i h hi)
  have a2 : pX l i ≤ pX (hullP l) ((hullP l).length - 1) := by
    rw [hlst]
    rcases Nat.lt_or_ge i (l.length - 1) with h | h
    · exact Int.le_of_lt (hI i _ h (by omega))
    · rw [show i = l.length - 1 by omega]; omega
  refine ⟨⟨a1, a2⟩, ?_⟩
  by_cases h1 : 1 < (hullP l).length
  · obtain ⟨j, j1, j2, j3, _, e⟩ := ht_find a2 (hullP l).length 0 (by omega) (by omega) a1 (.inl rfl)
    rw [List.drop_zero] at e
    have hd := hH j (j + 1) (by omega) j1
    have hface := pieces_face h0 hl (t := j) j1 (a := pY (hullP l) (j + 1) - pY (hullP l) j) (b := pX (hullP l) (j + 1) - pX (hullP l) j) (d := 1) (by omega) (by rw [Int.mul_one]; rfl) (by rw [Int.mul_one]; rfl)
    have hw := hface.lo (l.getD i (0, 0)) (getD_mem2 hi)
    have hw2 : (pX (hullP l) (j + 1) - pX (hullP l) j) * pY (hullP l) j - (pY (hullP l) (j + 1) - pY (hullP l) j) * pX (hullP l) j ≤ (pX (hullP l) (j + 1) - pX (hullP l) j) * pY l i - (pY (hullP l) (j + 1) - pY (hullP l) j) * pX l i := hw
    refine ⟨_, _, ?_, e, ?_⟩
    · omega
    · generalize pX (hullP l) (j + 1) - pX (hullP l) j = u at *
      generalize pY (hullP l) (j + 1) - pY (hullP l) j = v at *
      have e1 : v * (pX l i - pX (hullP l) j) = v * pX l i - v * pX (hullP l) j := Int.mul_sub _ _ _
      rw [e1, Int.mul_comm (pY (hullP l) j) u, Int.mul_comm (pY l i) u]
      omega
  · have hk : (hullP l).length - 1 = 0 := by omega
    rw [hk] at a2 hlst
    have hx : pX l i = pX (hullP l) 0 := by omega
    have hil := inc_le hI (show l.length - 1 < l.length by omega) h0 (by omega)
    have hi0 : i = 0 := by omega
    obtain ⟨d, d1, d2⟩ := ht_corner hH (k := 0) (by omega)
    refine ⟨_, _, d1, by rw [hx]; exact d2, ?_⟩
    have hy : pY (hullP l) 0 = pY l 0 := by unfold pY; rw [hullP_first h0 hl]
    rw [hi0, hy]
    omega
theorem rd_le {n d y : Int} (hd : 0 < d) (h : n ≤ y * d) : rdN n d ≤ y * rdD n d := by
  obtain ⟨g, hg, e1, e2⟩ := rd_split (N := n) (D := d) (by omega)
  have hp := rdD_pos n d (by omega)
  have hg0 : 0 < g := by
    rcases Int.lt_trichotomy g 0 with h1 | h1 | h1
    · have := Int.mul_neg_of_pos_of_neg (show 0 < rdD n d by omega) h1; omega
    · omega
    · exact h1
  refine mcan' hg0 ?_
  have e3 : y * d = g * (y * rdD n d) := by
    calc y * d = y * (rdD n d * g) := by rw [← e2]
      _ = g * (y * rdD n d) := by grind
  rw [Int.mul_comm g (rdN n d), ← e1, ← e3]
  exact h
theorem ho_point {p : Int} {xs : List Int} (h : pgC p xs = 0) {i : Nat} (hi : i < (ptL p xs).length) :
    hoC p xs (pX (ptL p xs) i) = 0 ∧ hoN p xs (pX (ptL p xs) i) ≤ pY (ptL p xs) i * hoD p xs (pX (ptL p xs) i) := by
  have ⟨hp, hx, h0⟩ := pgC_zero h
  obtain ⟨hin, n, d, d1, e, hle⟩ := ht_point (ptL_pos (p := p) hx h0) (ptL_inc p xs) hi
  have hc : hoC p xs (pX (ptL p xs) i) = 0 := by unfold hoC; rw [if_pos h]; exact if_pos hin
  refine ⟨hc, ?_⟩
  unfold hoN hoD
  rw [if_pos hc, if_pos hc]
  unfold plL
  rw [e]
  exact rd_le d1 hle
theorem ho_corner {p : Int} {xs : List Int} (h : pgC p xs = 0) {k : Nat} (hk : k < (plL p xs).length) :
    hoC p xs (pX (plL p xs) k) = 0 ∧ hoD p xs (pX (plL p xs) k) = 1 ∧ hoN p xs (pX (plL p xs) k) = pY (plL p xs) k := by
  have ⟨hp, hx, h0⟩ := pgC_zero h
  have hI := pw_inc (plL_inc (p := p) hx h0)
  obtain ⟨d, d1, e⟩ := ht_corner hI hk
  have hin : hIn (plL p xs) (pX (plL p xs) k) := by
    constructor
    · rcases Nat.eq_zero_or_pos k with h | h
      · rw [h]; omega
      · exact Int.le_of_lt (hI 0 k h hk)
    · rcases Nat.lt_or_ge k ((plL p xs).length - 1) with h | h
      · exact Int.le_of_lt (hI k _ h (by omega))
      · rw [show k = (plL p xs).length - 1 by omega]; omega
  have hc : hoC p xs (pX (plL p xs) k) = 0 := by unfold hoC; rw [if_pos h]; exact if_pos hin
  have ⟨r1, r2⟩ := rd_mul (y := pY (plL p xs) k) d1
  refine ⟨hc, ?_, ?_⟩
  · unfold hoD; rw [if_pos hc, e]; exact r2
  · unfold hoN; rw [if_pos hc, e]; exact r1
theorem ho_den {p : Int} {xs : List Int} {x : Int} (h : pgC p xs = 0) (hx : hoC p xs x = 0) : 1 ≤ hoD p xs x ∧ hoD p xs x ≤ 8 := by
  have ⟨hp, hk, h0⟩ := pgC_zero h
  have hin : hIn (plL p xs) x := by
    unfold hoC at hx
    rw [if_pos h] at hx
    by_cases hh : hIn (plL p xs) x
    · exact hh
    · rw [if_neg hh] at hx; cases hx
  have hl := hullP_len (ptL_pos (p := p) hk h0) (ptL_inc p xs)
  have hd := ht_ok (plL_bd hp hk h0) (pw_inc (plL_inc (p := p) hk h0)) (by unfold plL; omega) (x := x) (plL p xs).length 0 (by omega) hin.1
  rw [List.drop_zero] at hd
  have ⟨_, d1, d2⟩ := hd
  unfold hoD
  rw [if_pos hx]
  have d1' : 1 ≤ (htL (plL p xs) x).2 := d1
  have d2' : (htL (plL p xs) x).2 ≤ 8 := d2
  generalize (htL (plL p xs) x).2 = D at *
  generalize (htL (plL p xs) x).1 = N at *
  obtain ⟨g, hg, e1, e2⟩ := rd_split (N := N) (D := D) (by omega)
  have hr := rdD_pos N D (by omega)
  have hg0 : 0 < g := by
    rcases Int.lt_trichotomy g 0 with h1 | h1 | h1
    · have := Int.mul_neg_of_pos_of_neg (show 0 < rdD N D by omega) h1; omega
    · omega
    · exact h1
  have hle : rdD N D * 1 ≤ rdD N D * g := Int.mul_le_mul_of_nonneg_left (by omega) (by omega)
  omega
end Go.Proofs.Ythdmanngjnfamaa
