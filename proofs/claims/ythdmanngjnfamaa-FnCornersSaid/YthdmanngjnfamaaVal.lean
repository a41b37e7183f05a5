
/- The walks of valuations and of square residues; plain laws on them. -/
import Derived.Test.YthdmanngjnfamaaSmallP
namespace Go.Proofs.Ythdmanngjnfamaa
open Go.RowKit
def vlF : Nat → Int → Int → Nat
  | 0, _, _ => 0
  | f + 1, n, p => if n.tmod p = 0 then 1 + vlF f (n.tdiv p) p else 0
def vl (n p : Int) : Nat := vlF n.natAbs n p

theorem tdiv_lt {n p : Int} (hn : n ≠ 0) (hp : 2 ≤ p) : (n.tdiv p).natAbs < n.natAbs := by
  rw [Int.natAbs_tdiv]
  exact Nat.div_lt_self (by omega) (by omega)
theorem tdiv_ne {n p : Int} (hn : n ≠ 0) (hz : n.tmod p = 0) : n.tdiv p ≠ 0 := by
  intro h
  have := Int.mul_tdiv_add_tmod n p
  rw [h, hz] at this
  simp at this
  exact hn this.symm
theorem vlF_eq {p : Int} (hp : 2 ≤ p) : ∀ (f : Nat) (n : Int), n ≠ 0 → n.natAbs ≤ f → vlF f n p = vlF n.natAbs n p := by
  intro f
  induction f using Nat.strongRecOn with
  | ind f ih =>
    intro n hn hf
    obtain ⟨g, rfl⟩ : ∃ g, f = g + 1 := ⟨f - 1, by omega⟩
    obtain ⟨k, hk⟩ : ∃ k, n.natAbs = k + 1 := ⟨n.natAbs - 1, by omega⟩
    rw [hk]
    unfold vlF
    by_cases hz : n.tmod p = 0
    · rw [if_pos hz, if_pos hz]
      have h1 := tdiv_lt hn hp
      have h2 := tdiv_ne hn hz
      rw [ih g (by omega) _ h2 (by omega), ih k (by omega) _ h2 (by omega)]
    · rw [if_neg hz, if_neg hz]
theorem vl_yes {n p : Int} (hn : n ≠ 0) (hp : 2 ≤ p) (hz : n.tmod p = 0) : vl n p = 1 + vl (n.tdiv p) p := by
  obtain ⟨k, hk⟩ : ∃ k, n.natAbs = k + 1 := ⟨n.natAbs - 1, by omega⟩
  have h1 := tdiv_lt hn hp
  unfold vl
  rw [hk]
  conv => lhs; unfold vlF
  rw [if_pos hz, vlF_eq hp k _ (tdiv_ne hn hz) (by omega)]
theorem vl_no {n p : Int} (hn : n ≠ 0) (hz : ¬ n.tmod p = 0) : vl n p = 0 := by
  obtain ⟨k, hk⟩ : ∃ k, n.natAbs = k + 1 := ⟨n.natAbs - 1, by omega⟩
  unfold vl
  rw [hk]
  unfold vlF
  rw [if_neg hz]
theorem vl_le {p : Int} (hp : 2 ≤ p) : ∀ (f : Nat) (n : Int), n ≠ 0 → n.natAbs ≤ f → 2 ^ vl n p ≤ n.natAbs := by
  intro f
  induction f using Nat.strongRecOn with
  | ind f ih =>
    intro n hn hf
    by_cases hz : n.tmod p = 0
    · rw [vl_yes hn hp hz]
      have h1 := tdiv_lt hn hp
      have h2 := tdiv_ne hn hz
      have h3 := ih _ (by omega) _ h2 (Nat.le_refl _)
      have h4 : 2 * (n.tdiv p).natAbs ≤ n.natAbs := by
        rw [Int.natAbs_tdiv]
        show 2 * (n.natAbs / p.natAbs) ≤ _
        have a : p.natAbs * (n.natAbs / p.natAbs) ≤ n.natAbs := Nat.mul_div_le _ _
        have b : 2 * (n.natAbs / p.natAbs) ≤ p.natAbs * (n.natAbs / p.natAbs) := Nat.mul_le_mul_right _ (by omega)
        omega
      rw [Nat.pow_add]
      generalize 2 ^ vl (n.tdiv p) p = X at *
      generalize (n.tdiv p).natAbs = Y at *
      omega
    · rw [vl_no hn hz, Nat.pow_zero]
      omega
theorem vl_39 {n p : Int} (hn : n ≠ 0) (hp : 2 ≤ p) (h : V n) : vl n p ≤ 39 := by
  have h1 := vl_le hp n.natAbs n hn (Nat.le_refl _)
  apply Nat.not_lt.1
  intro h2
  have h3 : 2 ^ 40 ≤ 2 ^ vl n p := Nat.pow_le_pow_right (by omega) h2
  have h4 : (2 : Nat) ^ 40 = 1099511627776 := by decide
  unfold V at h
  omega

set_option maxHeartbeats 400000 in
theorem l01Valuation_any (n p : Int) (hn : n ≠ 0) (hV : V n) (hp : 2 ≤ p) (hp2 : p ≤ 97) (w : World) :
    Calls Try.prog 91 #[.int .i64 n, .int .i64 p] w fun e w' => e = .returned (.int .i64 (vl n p)) ∧ w = w' := by
  obtain ⟨v1, v2⟩ := hV
  go_enter Try.func91, Try.ntmps91
  go_wp2
  go_loop [0, 5] (fun x y => ∃ (m : Int) (k : Nat), ¬ m = 0 ∧ m.natAbs + k ≤ n.natAbs ∧ Hid (k + vl m p = vl n p) ∧ x = .int .i64 m ∧ y = .int .i64 k) (fun x _ => (intOf x).natAbs)
  case atStart => exact ⟨n, 0, hn, by omega, Lib.hid (by omega), rfl, rfl⟩
  case round =>
    obtain ⟨m, k, hm, hk, HV, rfl, rfl⟩ := hrel
    by_cases hz : m.tmod p = 0
    · have hz2 : (m.tmod p == 0) = true := by simpa using hz
      have H1 := Lib.hid (vl_yes hm hp hz)
      have H2 := Lib.hid (tdiv_ne hm hz)
      have h3 := tdiv_lt hm hp
      have h4 : -1000000000000 ≤ m.tdiv p ∧ m.tdiv p ≤ 1000000000000 := by omega
      obtain ⟨h5, h6⟩ := h4
      have h7 : (k : Int) ≤ 1000000000000 := by omega
      clear hz
      go_wp2
      go_round
      case rel => exact ⟨m.tdiv p, k + 1, H2.out, by omega, Lib.hid (by have := H1.out; have := HV.out; omega), rfl, by go_num⟩
      case measure => exact h3
    · have hz2 : (m.tmod p == 0) = false := by simpa using hz
      have H1 := Lib.hid (vl_no (p := p) hm hz)
      clear hz
      go_wp2
      go_ret
      exact ⟨ret_int (by have := H1.out; have := HV.out; omega), rfl⟩

set_option maxHeartbeats 400000 in
theorem valuation_any (n p : Int) (hn : n ≠ 0) (hV : V n) (hp : 2 ≤ p) (hp2 : p ≤ 97) (w : World) :
    Calls Try.prog 89 #[.int .i64 n, .int .i64 p] w fun e w' => e = .returned (.int .i64 (vl n p)) ∧ w = w' := by
  obtain ⟨v1, v2⟩ := hV
  go_enter Try.func89, Try.ntmps89
  go_wp2
  go_loop [0, 5] (fun x y => ∃ (m : Int) (k : Nat), ¬ m = 0 ∧ m.natAbs + k ≤ n.natAbs ∧ Hid (k + vl m p = vl n p) ∧ x = .int .i64 m ∧ y = .int .i64 k) (fun x _ => (intOf x).natAbs)
  case atStart => exact ⟨n, 0, hn, by omega, Lib.hid (by omega), rfl, rfl⟩
  case round =>
    obtain ⟨m, k, hm, hk, HV, rfl, rfl⟩ := hrel
    by_cases hz : m.tmod p = 0
    · have hz2 : (m.tmod p == 0) = true := by simpa using hz
      have H1 := Lib.hid (vl_yes hm hp hz)
      have H2 := Lib.hid (tdiv_ne hm hz)
      have h3 := tdiv_lt hm hp
      have h4 : -1000000000000 ≤ m.tdiv p ∧ m.tdiv p ≤ 1000000000000 := by omega
      obtain ⟨h5, h6⟩ := h4
      have h7 : (k : Int) ≤ 1000000000000 := by omega
      clear hz
      go_wp2
      go_round
      case rel => exact ⟨m.tdiv p, k + 1, H2.out, by omega, Lib.hid (by have := H1.out; have := HV.out; omega), rfl, by go_num⟩
      case measure => exact h3
    · have hz2 : (m.tmod p == 0) = false := by simpa using hz
      have H1 := Lib.hid (vl_no (p := p) hm hz)
      clear hz
      go_wp2
      go_ret
      exact ⟨ret_int (by have := H1.out; have := HV.out; omega), rfl⟩
end Go.Proofs.Ythdmanngjnfamaa
