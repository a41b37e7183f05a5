
/- Valuations, plain: of products and sums. -/
import Derived.Test.YthdmanngjnfamaaVal
import Derived.Test.YthdmanngjnfamaaDumas
namespace Go.Proofs.Ythdmanngjnfamaa
open Go.RowKit

theorem tmod_dvd {n p : Int} : n.tmod p = 0 ↔ p ∣ n := ⟨Int.dvd_of_tmod_eq_zero, Int.tmod_eq_zero_of_dvd⟩
theorem vl_dvd {p : Int} (hp : 2 ≤ p) : ∀ (f : Nat) (n : Int), n ≠ 0 → n.natAbs ≤ f → ∀ k, k ≤ vl n p ↔ p ^ k ∣ n := by
  intro f
  induction f with
  | zero => intro n hn hf; omega
  | succ f ih =>
    intro n hn hf k
    by_cases hz : n.tmod p = 0
    · rw [vl_yes hn hp hz]
      have h1 := tdiv_lt hn hp
      have h2 := tdiv_ne hn hz
      have h3 := ih _ h2 (by omega)
      have e : n = p * n.tdiv p := by
        have := Int.mul_tdiv_add_tmod n p
        rw [hz] at this
        omega
      cases k with
      | zero => simp
      | succ k =>
        have h4 := h3 k
        generalize n.tdiv p = m at *
        subst e
        rw [Int.pow_succ, Int.mul_comm (p ^ k) p]
        constructor
        · intro h
          exact Int.mul_dvd_mul_left p (h4.1 (by omega))
        · intro h
          have := h4.2 (Int.dvd_of_mul_dvd_mul_left (by omega) h)
          omega
    · rw [vl_no hn hz]
      cases k with
      | zero => simp
      | succ k =>
        constructor
        · intro h; omega
        · intro h
          exfalso
          apply hz
          rw [tmod_dvd]
          rw [Int.pow_succ] at h
          exact Int.dvd_trans (Int.dvd_mul_left _ _) h
theorem vl_iff {n p : Int} (hn : n ≠ 0) (hp : 2 ≤ p) (k : Nat) : k ≤ vl n p ↔ p ^ k ∣ n := vl_dvd hp _ n hn (Nat.le_refl _) k
theorem pr_dvd {p : Int} (h : Pr p) {g : Nat} (hg : (g : Int) ∣ p) : g = 1 ∨ (g : Int) = p := by
  have h2 := h.1
  obtain ⟨e, he⟩ := hg
  apply Decidable.byContradiction
  intro hn
  have n1 : g ≠ 1 := fun x => hn (.inl x)
  have n2 : (g : Int) ≠ p := fun x => hn (.inr x)
  have g0 : g ≠ 0 := by rintro rfl; simp at he; omega
  have e1 : 1 ≤ e := by
    apply Decidable.byContradiction
    intro hh
    have := Int.mul_nonpos_of_nonneg_of_nonpos (show 0 ≤ (g : Int) by omega) (show e ≤ 0 by omega)
    omega
  have e2 : e ≠ 1 := by rintro rfl; rw [Int.mul_one] at he; exact n2 he.symm
  rcases Int.le_total (g : Int) e with hl | hl
  · refine h.2 g (by omega) ?_ ?_
    · rw [he]; exact Int.mul_le_mul_of_nonneg_left hl (by omega)
    · rw [he]; exact Int.mul_emod_right _ _
  · refine h.2 e (by omega) ?_ ?_
    · rw [he]; exact Int.mul_le_mul_of_nonneg_right hl (by omega)
    · rw [he]; exact Int.mul_emod_left _ _
theorem pr_mul {p x y : Int} (h : Pr p) (hd : p ∣ x * y) : p ∣ x ∨ p ∣ y := by
  rcases pr_dvd h (g := Int.gcd x p) (Int.gcd_dvd_right ..) with h1 | h1
  · exact .inr (cop_dvd h1 hd)
  · left
    rw [← h1]
    exact Int.gcd_dvd_left ..
/-- n without its factors p -/
theorem vl_split {n p : Int} (hn : n ≠ 0) (hp : 2 ≤ p) : ∃ m, n = p ^ vl n p * m ∧ ¬ p ∣ m := by
  obtain ⟨m, hm⟩ := (vl_iff hn hp (vl n p)).1 (Nat.le_refl _)
  refine ⟨m, hm, fun hd => ?_⟩
  have h1 : p ^ (vl n p + 1) ∣ n := by
    rw [Int.pow_succ]
    conv => rhs; rw [hm]
    exact Int.mul_dvd_mul_left _ hd
  have := (vl_iff hn hp _).2 h1
  omega
theorem pow_pos' {p : Int} (hp : 2 ≤ p) (k : Nat) : 0 < p ^ k := Int.pow_pos (by omega)
theorem vl_mul {p x y : Int} (h : Pr p) (hx : x ≠ 0) (hy : y ≠ 0) : vl (x * y) p = vl x p + vl y p := by
  have hp := h.1
  have hxy : x * y ≠ 0 := Int.mul_ne_zero hx hy
  obtain ⟨m, hm, nm⟩ := vl_split hx hp
  obtain ⟨k, hk, nk⟩ := vl_split hy hp
  have e : x * y = p ^ (vl x p + vl y p) * (m * k) := by
    rw [Int.pow_add]
    conv => lhs; rw [hm, hk]
    grind
  have h1 := (vl_iff hxy hp (vl x p + vl y p)).2 ⟨m * k, e⟩
  have h2 : ¬ vl x p + vl y p + 1 ≤ vl (x * y) p := by
    intro hl
    have h3 := (vl_iff hxy hp _).1 hl
    rw [e, Int.pow_succ] at h3
    have h4 := Int.dvd_of_mul_dvd_mul_left (by have := pow_pos' hp (vl x p + vl y p); omega) h3
    rcases pr_mul h h4 with h5 | h5
    · exact nm h5
    · exact nk h5
  omega
theorem vl_val {p : Int} (h : Pr p) : IsVal (fun c => vl c p) := by
  have hp := h.1
  refine ⟨fun x y hx hy => vl_mul h hx hy, fun x y hx hy hs => ?_, fun x y hx hy hl => ?_⟩
  · rcases Nat.le_total (vl x p) (vl y p) with hl | hl
    · left
      exact (vl_iff hs hp _).2 (Int.dvd_add ((vl_iff hx hp _).1 (Nat.le_refl _)) ((vl_iff hy hp _).1 hl))
    · right
      exact (vl_iff hs hp _).2 (Int.dvd_add ((vl_iff hx hp _).1 hl) ((vl_iff hy hp _).1 (Nat.le_refl _)))
  · have hl : vl x p < vl y p := hl
    have n1 : ¬ p ^ (vl x p + 1) ∣ x := fun hd => by have := (vl_iff hx hp _).2 hd; omega
    have y1 : p ^ (vl x p + 1) ∣ y := (vl_iff hy hp _).1 (by omega)
    have n2 : ¬ p ^ (vl x p + 1) ∣ x + y := fun hd => n1 ((Int.dvd_add_left y1).1 hd)
    have hs : ¬ x + y = 0 := fun e => n2 (by rw [e]; exact Int.dvd_zero _)
    refine ⟨hs, ?_⟩
    have h1 := (vl_iff hs hp (vl x p)).2 (Int.dvd_add ((vl_iff hx hp _).1 (Nat.le_refl _)) ((vl_iff hy hp _).1 (by omega)))
    have h2 : ¬ vl x p + 1 ≤ vl (x + y) p := fun hd => n2 ((vl_iff hs hp _).1 hd)
    show vl (x + y) p = vl x p
    omega
theorem pr3 : Pr 3 := by
  refine ⟨by omega, fun d h1 h2 => ?_⟩
  have : 2 * 2 ≤ d * d := Int.mul_le_mul h1 h1 (by omega) (by omega)
  omega
end Go.Proofs.Ythdmanngjnfamaa
