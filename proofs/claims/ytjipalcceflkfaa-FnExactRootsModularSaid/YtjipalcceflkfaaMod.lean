/- The walk of the reference's remainder of at least 0. -/
import Derived.Test.YtjipalcceflkfaaSmallP
namespace Go.Proofs.Ytjipalcceflkfaa
open Go.RowKit
theorem tmod_add_emod (a m : Int) : (a.tmod m + m) % m = a % m := by
  rw [Int.add_emod_right]
  have h := Int.mul_tdiv_add_tmod a m
  conv => rhs; rw [← h, Int.add_comm, Int.add_mul_emod_self_left]
theorem tmod_bd (a m : Int) (hm : 0 < m) : -m < a.tmod m ∧ a.tmod m < m := by
  have : (a.tmod m).natAbs < m.natAbs := by rw [Int.natAbs_tmod]; exact Nat.mod_lt _ (by omega)
  omega

theorem l01Mod_any (a m : Int) (hm : 1 ≤ m) (hm2 : m ≤ 1000000000000) (w : World) :
    Calls Try.prog 114 #[.int .i64 a, .int .i64 m] w fun e w' => e = .returned (.int .i64 (a % m)) ∧ w = w' := by
  have ⟨b1, b2⟩ := tmod_bd a m (by omega)
  have b3 : 0 ≤ a.tmod m + m := by omega
  have HE := Lib.hid (tmod_add_emod a m)
  go_enter Try.func114, Try.ntmps114
  go_wp2
  go_ret
  exact ⟨ret_int HE.out, rfl⟩

theorem tmod_zero_iff {p a : Int} : a.tmod p = 0 ↔ a % p = 0 :=
  ⟨fun h => Int.emod_eq_zero_of_dvd (Int.dvd_of_tmod_eq_zero h), fun h => Int.tmod_eq_zero_of_dvd (Int.dvd_of_emod_eq_zero h)⟩
end Go.Proofs.Ytjipalcceflkfaa
