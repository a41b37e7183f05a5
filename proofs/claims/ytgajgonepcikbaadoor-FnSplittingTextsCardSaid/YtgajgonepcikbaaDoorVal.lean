
/- The walks of valuations and of square residues; plain laws on them. -/
import Derived.Test.YtgajgonepcikbaaDoorSmallP
namespace Go.Proofs.YtgajgonepcikbaaDoor
open Go.RowKit
def vlF : Nat → Int → Int → Nat
  | 0, _, _ => 0
  | f + 1, n, p => if n.tmod p = 0 then 1 + vlF f (n.tdiv p) p else 0
def vl (n p : Int) : Nat := vlF n.natAbs n p

theorem tdiv_lt {n p : Int} (hn : n ≠ 0) (hp : 2 ≤ p) : (n.tdiv p).natAbs < n.natAbs := by
  rw [Int.natAbs_tdiv]
  exact Nat.div_lt_self (by omega) (by omega)
theorem tdiv_ne {n p : Int} (hn : n ≠ 0) (hz : n.tmod p = 0) : n.tdiv p ≠ 0 := by
  intro h
  have := Int.mul_tdiv_add_tmod n p
  rw [h, hz] at this
  simp at this
  exact hn this.symm
theorem vlF_eq {p : Int} (hp : 2 ≤ p) : ∀ (f : Nat) (n : Int), n ≠ 0 → n.natAbs ≤ f → vlF f n p = vlF n.natAbs n p := by
  intro f
  induction f using Nat.strongRecOn with
  | ind f ih =>
    intro n hn hf
    obtain ⟨g, rfl⟩ : ∃ g, f = g + 1 := ⟨f - 1, by omega⟩
    obtain ⟨k, hk⟩ : ∃ k, n.natAbs = k + 1 := ⟨n.natAbs - 1, by omega⟩
    rw [hk]
    unfold vlF
    by_cases hz : n.tmod p = 0
    · rw [if_pos hz, if_pos hz]
      have h1 := tdiv_lt hn hp
      have h2 := tdiv_ne hn hz
      rw [ih g (by omega) _ h2 (by omega), ih k (by omega) _ h2 (by omega)]
    · rw [if_neg hz, if_neg hz]
theorem vl_yes {n p : Int} (hn : n ≠ 0) (hp : 2 ≤ p) (hz : n.tmod p = 0) : vl n p = 1 + vl (n.tdiv p) p := by
  obtain ⟨k, hk⟩ : ∃ k, n.natAbs = k + 1 := ⟨n.natAbs - 1, by omega⟩
  have h1 := tdiv_lt hn hp
  unfold vl
  rw [hk]
  conv => lhs; unfold vlF
  rw [if_pos hz, vlF_eq hp k _ (tdiv_ne hn hz) (by omega)]
theorem vl_no {n p : Int} (hn : n ≠ 0) (hz : ¬ n.tmod p = 0) : vl n p = 0 := by
  obtain ⟨k, hk⟩ : ∃ k, n.natAbs = k + 1 := ⟨n.natAbs - 1, by omega⟩
  unfold vl
  rw [hk]
  unfold vlF
  rw [if_neg hz]
theorem vl_le {p : Int} (hp : 2 ≤ p) : ∀ (f : Nat) (n : Int), n ≠ 0 → n.natAbs ≤ f → 2 ^ vl n p ≤ n.natAbs := by
  intro f
  induction f using Nat.strongRecOn with
  | ind f ih =>
    intro n hn hf
    by_cases hz : n.tmod p = 0
    · rw [vl_yes hn hp hz]
      have h1 := tdiv_lt hn hp
      have h2 := tdiv_ne hn hz
      have h3 := ih _ (by omega) _ h2 (Nat.le_refl _)
      have h4 : 2 * (n.tdiv p).natAbs ≤ n.natAbs := by
        rw [Int.natAbs_tdiv]
        show 2 * (n.natAbs / p.natAbs) ≤ _
        have a : p.natAbs * (n.natAbs / p.natAbs) ≤ n.natAbs := Nat.mul_div_le _ _
        have b : 2 * (n.natAbs / p.natAbs) ≤ p.natAbs * (n.natAbs / p.natAbs) := Nat.mul_le_mul_right _ (by omega)
        omega
      rw [Nat.pow_add]
      generalize 2 ^ vl (n.tdiv p) p = X at *
      generalize (n.tdiv p).natAbs = Y at *
      omega
    · rw [vl_no hn hz, Nat.pow_zero]
      omega
theorem vl_39 {n p : Int} (hn : n ≠ 0) (hp : 2 ≤ p) (h : V n) : vl n p ≤ 39 := by
  have h1 := vl_le hp n.natAbs n hn (Nat.le_refl _)
  apply Nat.not_lt.1
  intro h2
  have h3 : 2 ^ 40 ≤ 2 ^ vl n p := Nat.pow_le_pow_right (by omega) h2
  have h4 : (2 : Nat) ^ 40 = 1099511627776 := by decide
  unfold V at h
  omega

end Go.Proofs.YtgajgonepcikbaaDoor
