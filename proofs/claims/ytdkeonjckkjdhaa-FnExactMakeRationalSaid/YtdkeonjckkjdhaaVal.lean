/- The walks of valuations and of square residues; plain laws on them. -/
import Derived.Test.YtdkeonjckkjdhaaRing
namespace Go.Proofs.Ytdkeonjckkjdhaa
open Go.RowKit

/-- how often p divides n, with fuel -/
def vlF : Nat → Int → Int → Nat
  | 0, _, _ => 0
  | f + 1, n, p => if n.tmod p = 0 then 1 + vlF f (n.tdiv p) p else 0
/-- how often p divides n (n not 0, p at least 2) -/
def vl (n p : Int) : Nat := vlF n.natAbs n p

theorem tdiv_lt {n p : Int} (hn : n ≠ 0) (hp : 2 ≤ p) : (n.tdiv p).natAbs < n.natAbs := by
  rw [Int.natAbs_tdiv]
  exact Nat.div_lt_self (by omega) (by omega)
theorem tdiv_ne {n p : Int} (hn : n ≠ 0) (hz : n.tmod p = 0) : n.tdiv p ≠ 0 := by
  intro h
  have := Int.mul_tdiv_add_tmod n p
  rw [h, hz] at this
  simp at this
  exact hn this.symm
theorem vlF_eq {p : Int} (hp : 2 ≤ p) : ∀ (f : Nat) (n : Int), n ≠ 0 → n.natAbs ≤ f → vlF f n p = vlF n.natAbs n p := by
  intro f
  induction f using Nat.strongRecOn with
  | ind f ih =>
    intro n hn hf
    obtain ⟨g, rfl⟩ : ∃ g, f = g + 1 := ⟨f - 1, by omega⟩
    obtain ⟨k, hk⟩ : ∃ k, n.natAbs = k + 1 := ⟨n.natAbs - 1, by omega⟩
    rw [hk]
    unfold vlF
    by_cases hz : n.tmod p = 0
    · rw [if_pos hz, if_pos hz]
      have h1 := tdiv_lt hn hp
      have h2 := tdiv_ne hn hz
      rw [ih g (by omega) _ h2 (by omega), ih k (by omega) _ h2 (by omega)]
    · rw [if_neg hz, if_neg hz]
theorem vl_yes {n p : Int} (hn : n ≠ 0) (hp : 2 ≤ p) (hz : n.tmod p = 0) : vl n p = 1 + vl (n.tdiv p) p := by
  obtain ⟨k, hk⟩ : ∃ k, n.natAbs = k + 1 := ⟨n.natAbs - 1, by omega⟩
  have h1 := tdiv_lt hn hp
  unfold vl
  rw [hk]
  conv => lhs; unfold vlF
  rw [if_pos hz, vlF_eq hp k _ (tdiv_ne hn hz) (by omega)]
theorem vl_no {n p : Int} (hn : n ≠ 0) (hz : ¬ n.tmod p = 0) : vl n p = 0 := by
  obtain ⟨k, hk⟩ : ∃ k, n.natAbs = k + 1 := ⟨n.natAbs - 1, by omega⟩
  unfold vl
  rw [hk]
  unfold vlF
  rw [if_neg hz]
theorem vl_le {p : Int} (hp : 2 ≤ p) : ∀ (f : Nat) (n : Int), n ≠ 0 → n.natAbs ≤ f → 2 ^ vl n p ≤ n.natAbs := by
  intro f
  induction f using Nat.strongRecOn with
  | ind f ih =>
    intro n hn hf
    by_cases hz : n.tmod p = 0
    · rw [vl_yes hn hp hz]
      have h1 := tdiv_lt hn hp
      have h2 := tdiv_ne hn hz
      have h3 := ih _ (by omega) _ h2 (Nat.le_refl _)
      have h4 : 2 * (n.tdiv p).natAbs ≤ n.natAbs := by
        rw [Int.natAbs_tdiv]
        show 2 * (n.natAbs / p.natAbs) ≤ _
        have a : p.natAbs * (n.natAbs / p.natAbs) ≤ n.natAbs := Nat.mul_div_le _ _
        have b : 2 * (n.natAbs / p.natAbs) ≤ p.natAbs * (n.natAbs / p.natAbs) := Nat.mul_le_mul_right _ (by omega)
        omega
      rw [Nat.pow_add]
      generalize 2 ^ vl (n.tdiv p) p = X at *
      generalize (n.tdiv p).natAbs = Y at *
      omega
    · rw [vl_no hn hz, Nat.pow_zero]
      omega
theorem vl_39 {n p : Int} (hn : n ≠ 0) (hp : 2 ≤ p) (h : V n) : vl n p ≤ 39 := by
  have h1 := vl_le hp n.natAbs n hn (Nat.le_refl _)
  apply Nat.not_lt.1
  intro h2
  have h3 : 2 ^ 40 ≤ 2 ^ vl n p := Nat.pow_le_pow_right (by omega) h2
  have h4 : (2 : Nat) ^ 40 = 1099511627776 := by decide
  unfold V at h
  omega

set_option maxHeartbeats 400000 in
theorem l01Valuation_any (n p : Int) (hn : n ≠ 0) (hV : V n) (hp : 2 ≤ p) (hp2 : p ≤ 97) (w : World) :
    Calls Try.prog 57 #[.int .i64 n, .int .i64 p] w fun e w' => e = .returned (.int .i64 (vl n p)) ∧ w = w' := by
  obtain ⟨v1, v2⟩ := hV
  go_enter Try.func57, Try.ntmps57
  go_wp2
  go_loop [0, 5] (fun x y => ∃ (m : Int) (k : Nat), ¬ m = 0 ∧ m.natAbs + k ≤ n.natAbs ∧ Hid (k + vl m p = vl n p) ∧ x = .int .i64 m ∧ y = .int .i64 k) (fun x _ => (intOf x).natAbs)
  case atStart => exact ⟨n, 0, hn, by omega, Lib.hid (by omega), rfl, rfl⟩
  case round =>
    obtain ⟨m, k, hm, hk, HV, rfl, rfl⟩ := hrel
    by_cases hz : m.tmod p = 0
    · have hz2 : (m.tmod p == 0) = true := by simpa using hz
      have H1 := Lib.hid (vl_yes hm hp hz)
      have H2 := Lib.hid (tdiv_ne hm hz)
      have h3 := tdiv_lt hm hp
      have h4 : -1000000000000 ≤ m.tdiv p ∧ m.tdiv p ≤ 1000000000000 := by omega
      obtain ⟨h5, h6⟩ := h4
      have h7 : (k : Int) ≤ 1000000000000 := by omega
      clear hz
      go_wp2
      go_round
      case rel => exact ⟨m.tdiv p, k + 1, H2.out, by omega, Lib.hid (by have := H1.out; have := HV.out; omega), rfl, by go_num⟩
      case measure => exact h3
    · have hz2 : (m.tmod p == 0) = false := by simpa using hz
      have H1 := Lib.hid (vl_no (p := p) hm hz)
      clear hz
      go_wp2
      go_ret
      exact ⟨ret_int (by have := H1.out; have := HV.out; omega), rfl⟩

set_option maxHeartbeats 400000 in
theorem valuation_any (n p : Int) (hn : n ≠ 0) (hV : V n) (hp : 2 ≤ p) (hp2 : p ≤ 97) (w : World) :
    Calls Try.prog 58 #[.int .i64 n, .int .i64 p] w fun e w' => e = .returned (.int .i64 (vl n p)) ∧ w = w' := by
  obtain ⟨v1, v2⟩ := hV
  go_enter Try.func58, Try.ntmps58
  go_wp2
  go_loop [0, 5] (fun x y => ∃ (m : Int) (k : Nat), ¬ m = 0 ∧ m.natAbs + k ≤ n.natAbs ∧ Hid (k + vl m p = vl n p) ∧ x = .int .i64 m ∧ y = .int .i64 k) (fun x _ => (intOf x).natAbs)
  case atStart => exact ⟨n, 0, hn, by omega, Lib.hid (by omega), rfl, rfl⟩
  case round =>
    obtain ⟨m, k, hm, hk, HV, rfl, rfl⟩ := hrel
    by_cases hz : m.tmod p = 0
    · have hz2 : (m.tmod p == 0) = true := by simpa using hz
      have H1 := Lib.hid (vl_yes hm hp hz)
      have H2 := Lib.hid (tdiv_ne hm hz)
      have h3 := tdiv_lt hm hp
      have h4 : -1000000000000 ≤ m.tdiv p ∧ m.tdiv p ≤ 1000000000000 := by omega
      obtain ⟨h5, h6⟩ := h4
      have h7 : (k : Int) ≤ 1000000000000 := by omega
      clear hz
      go_wp2
      go_round
      case rel => exact ⟨m.tdiv p, k + 1, H2.out, by omega, Lib.hid (by have := H1.out; have := HV.out; omega), rfl, by go_num⟩
      case measure => exact h3
    · have hz2 : (m.tmod p == 0) = false := by simpa using hz
      have H1 := Lib.hid (vl_no (p := p) hm hz)
      clear hz
      go_wp2
      go_ret
      exact ⟨ret_int (by have := H1.out; have := HV.out; omega), rfl⟩

theorem tmod_add_emod (a m : Int) : (a.tmod m + m) % m = a % m := by
  rw [Int.add_emod_right]
  have h := Int.mul_tdiv_add_tmod a m
  conv => rhs; rw [← h, Int.add_comm, Int.add_mul_emod_self_left]
theorem tmod_bd (a m : Int) (hm : 0 < m) : -m < a.tmod m ∧ a.tmod m < m := by
  have : (a.tmod m).natAbs < m.natAbs := by rw [Int.natAbs_tmod]; exact Nat.mod_lt _ (by omega)
  omega

theorem l01Mod_any (a m : Int) (hm : 1 ≤ m) (hm2 : m ≤ 1000000000000) (w : World) :
    Calls Try.prog 70 #[.int .i64 a, .int .i64 m] w fun e w' => e = .returned (.int .i64 (a % m)) ∧ w = w' := by
  have ⟨b1, b2⟩ := tmod_bd a m (by omega)
  have b3 : 0 ≤ a.tmod m + m := by omega
  have HE := Lib.hid (tmod_add_emod a m)
  go_enter Try.func70, Try.ntmps70
  go_wp2
  go_ret
  exact ⟨ret_int HE.out, rfl⟩

/-- a is a square by p other than 0 by p -/
def Sq (p a : Int) : Prop := ∃ x : Int, 1 ≤ x ∧ x < p ∧ (x * x) % p = a % p

theorem dvd_iff_sq {p a x : Int} : (x * x - a).tmod p = 0 ↔ (x * x) % p = a % p := by
  rw [Int.emod_eq_emod_iff_emod_sub_eq_zero]
  constructor
  · intro h; exact Int.emod_eq_zero_of_dvd (Int.dvd_of_tmod_eq_zero h)
  · intro h; exact Int.tmod_eq_zero_of_dvd (Int.dvd_of_emod_eq_zero h)
theorem tmod_zero_iff {p a : Int} : a.tmod p = 0 ↔ a % p = 0 :=
  ⟨fun h => Int.emod_eq_zero_of_dvd (Int.dvd_of_tmod_eq_zero h), fun h => Int.tmod_eq_zero_of_dvd (Int.dvd_of_emod_eq_zero h)⟩
theorem sqr_bd {x : Int} (h1 : 1 ≤ x) (h2 : x ≤ 97) : 1 ≤ x * x ∧ x * x ≤ 9409 := by
  have a : 1 * 1 ≤ x * x := Int.mul_le_mul h1 h1 (by omega) (by omega)
  have b : x * x ≤ 97 * 97 := Int.mul_le_mul h2 h2 (by omega) (by omega)
  omega

/-- the answer of the square test, by cases -/
def LegIs (p a v : Int) : Prop := (a % p = 0 ∧ v = 0) ∨ (¬ a % p = 0 ∧ Sq p a ∧ v = 1) ∨ (¬ a % p = 0 ∧ ¬ Sq p a ∧ v = -1)
theorem legIs_one (p a u v : Int) (hu : LegIs p a u) (hv : LegIs p a v) : u = v := by
  unfold LegIs at *
  rcases hu with ⟨h1, h2⟩ | ⟨h1, h3, h2⟩ | ⟨h1, h3, h2⟩ <;> rcases hv with ⟨g1, g2⟩ | ⟨g1, g3, g2⟩ | ⟨g1, g3, g2⟩ <;> first | omega | contradiction

set_option maxHeartbeats 400000 in
theorem l02Legendre_any (a p : Int) (hV : V a) (hp : 2 ≤ p) (hp2 : p ≤ 97) (w : World) :
    Calls Try.prog 61 #[.int .i64 a, .int .i64 p] w fun e w' => (∃ v, e = .returned (.int .i64 v) ∧ LegIs p a v) ∧ w = w' := by
  obtain ⟨v1, v2⟩ := hV
  have m1 : 0 ≤ a % p := Int.emod_nonneg _ (by omega)
  have m2 : a % p < p := Int.emod_lt_of_pos _ (by omega)
  obtain ⟨r, hr⟩ : ∃ r, r = a % p := ⟨_, rfl⟩
  rw [← hr] at m1 m2
  have HR := Lib.hid hr
  clear hr
  by_cases hz : r = 0
  · have HZ := Lib.hid hz
    have hz2 : (r == 0) = true := by simpa using hz
    clear hz
    go_enter Try.func61, Try.ntmps61
    go_wp2_with (go_at_call 70; refine (l01Mod_any _ _ (by omega) (by omega) _).mono ?_; rintro e w' ⟨rfl, rfl⟩; rw [← HR.out])
    go_ret
    exact ⟨⟨0, rfl, .inl ⟨by rw [← HR.out]; exact HZ.out, rfl⟩⟩, rfl⟩
  · have HZ := Lib.hid hz
    have hz2 : (r == 0) = false := by simpa using hz
    clear hz
    go_enter Try.func61, Try.ntmps61
    go_wp2_with (go_at_call 70; refine (l01Mod_any _ _ (by omega) (by omega) _).mono ?_; rintro e w' ⟨rfl, rfl⟩; rw [← HR.out])
    go_loop [5] (fun x => ∃ k : Int, 1 ≤ k ∧ k ≤ p ∧ Hid (∀ j : Int, 1 ≤ j → j < k → ¬ (j * j) % p = r) ∧ x = .int .i64 k) (fun x => (p - intOf x).toNat)
    case atStart => exact ⟨1, by omega, by omega, Lib.hid (fun _ _ _ => by omega), rfl⟩
    case round =>
      obtain ⟨k, k1, k2, HK, rfl⟩ := hrel
      have ⟨s1, s2⟩ := sqr_bd k1 (by omega : k ≤ 97)
      by_cases hk : k < p
      · by_cases he : (k * k) % p = r
        · have HS : Hid (Sq p a) := Lib.hid ⟨k, k1, hk, he.trans HR.out⟩
          have he2 : ((k * k) % p == r) = true := by simpa using he
          clear he
          go_wp2
          go_ret
          exact ⟨⟨1, rfl, .inr (.inl ⟨by rw [← HR.out]; exact HZ.out, HS.out, rfl⟩)⟩, rfl⟩
        · have he2 : ((k * k) % p == r) = false := by simpa using he
          have HK2 : Hid (∀ j : Int, 1 ≤ j → j < k + 1 → ¬ (j * j) % p = r) := Lib.hid (fun j a b => by
            by_cases e : j = k
            · subst e; exact he
            · exact HK.out j a (by omega))
          clear he
          go_wp2
          go_round
          case rel => exact ⟨k + 1, by omega, by omega, HK2, rfl⟩
          case measure => simp [intOf]; omega
      · have HS : Hid (¬ Sq p a) := Lib.hid (fun ⟨x, x1, x2, x3⟩ => HK.out x x1 (by omega) (x3.trans HR.out.symm))
        go_wp2
        go_ret
        exact ⟨⟨-1, rfl, .inr (.inr ⟨by rw [← HR.out]; exact HZ.out, HS.out, rfl⟩)⟩, rfl⟩

set_option maxHeartbeats 400000 in
theorem squareSign_any (p a : Int) (hV : V a) (hp : 2 ≤ p) (hp2 : p ≤ 97) (w : World) :
    Calls Try.prog 62 #[.int .i64 p, .int .i64 a] w fun e w' => (∃ v, e = .returned (.int .i64 v) ∧ LegIs p a v) ∧ w = w' := by
  obtain ⟨v1, v2⟩ := hV
  by_cases hz : a.tmod p = 0
  · have HZ := Lib.hid (tmod_zero_iff.1 hz)
    have hz2 : (a.tmod p == 0) = true := by simpa using hz
    clear hz
    go_enter Try.func62, Try.ntmps62
    go_wp2
    go_ret
    exact ⟨⟨0, rfl, .inl ⟨HZ.out, rfl⟩⟩, rfl⟩
  · have HZ : Hid (¬ a % p = 0) := Lib.hid (fun h => hz (tmod_zero_iff.2 h))
    have hz2 : (a.tmod p == 0) = false := by simpa using hz
    clear hz
    go_enter Try.func62, Try.ntmps62
    go_wp2
    go_loop [5] (fun x => ∃ k : Int, 1 ≤ k ∧ k ≤ p ∧ Hid (∀ j : Int, 1 ≤ j → j < k → ¬ (j * j) % p = a % p) ∧ x = .int .i64 k) (fun x => (p - intOf x).toNat)
    case atStart => exact ⟨1, by omega, by omega, Lib.hid (fun _ _ _ => by omega), rfl⟩
    case round =>
      obtain ⟨k, k1, k2, HK, rfl⟩ := hrel
      have ⟨s1, s2⟩ := sqr_bd k1 (by omega : k ≤ 97)
      by_cases hk : k < p
      · by_cases he : (k * k - a).tmod p = 0
        · have HS : Hid (Sq p a) := Lib.hid ⟨k, k1, hk, dvd_iff_sq.1 he⟩
          have he2 : ((k * k - a).tmod p == 0) = true := by simpa using he
          clear he
          go_wp2
          go_ret
          exact ⟨⟨1, rfl, .inr (.inl ⟨HZ.out, HS.out, rfl⟩)⟩, rfl⟩
        · have he2 : ((k * k - a).tmod p == 0) = false := by simpa using he
          have HK2 : Hid (∀ j : Int, 1 ≤ j → j < k + 1 → ¬ (j * j) % p = a % p) := Lib.hid (fun j a b => by
            by_cases e : j = k
            · subst e; exact fun h => he (dvd_iff_sq.2 h)
            · exact HK.out j a (by omega))
          clear he
          go_wp2
          go_round
          case rel => exact ⟨k + 1, by omega, by omega, HK2, rfl⟩
          case measure => simp [intOf]; omega
      · have HS : Hid (¬ Sq p a) := Lib.hid (fun ⟨x, x1, x2, x3⟩ => HK.out x x1 (by omega) x3)
        go_wp2
        go_ret
        exact ⟨⟨-1, rfl, .inr (.inr ⟨HZ.out, HS.out, rfl⟩)⟩, rfl⟩

theorem walkExactConstants (w : World) :
    Calls Try.prog 3 #[] w fun e w' => e = .returned (.bool true) ∧ Below w.heap.size w w' := by
  go_enter Try.func3, Try.ntmps3
  go_wp2
  go_ret
  exact ⟨rfl, Below.refl _ _⟩

theorem walkExactIsSquareResidue (p a : Int) (w : World) (_ : (Lit.int .i64 p).wf = true) (_ : (Lit.int .i64 a).wf = true) :
    Calls Try.prog 13 #[.int .i64 p, .int .i64 a] w fun e w' => e = .returned (.bool true) ∧ Below w.heap.size w w' := by
  by_cases hp : SP p
  · have HP := Lib.hid hp
    have hp1 := hp.2.1
    have hp2 := hp.1
    clear hp
    by_cases hv : V a
    · have HV := Lib.hid hv
      obtain ⟨v1, v2⟩ := hv
      go_enter Try.func13, Try.ntmps13
      go_wp2_with (first | (go_at_call 38; go_in) | (go_at_call 39; go_in) | (go_at_call 52; refine (l01Small_yes _ HP.out _).mono ?_; rintro e w' ⟨rfl, rfl⟩) | (go_at_call 54; refine (isSmallPrime_yes _ HP.out _).mono ?_; rintro e w' ⟨rfl, rfl⟩) | (go_at_call 45; refine (l01Is_any _ _).mono ?_; rintro e w' ⟨rfl, rfl⟩) | (go_at_call 47; refine (isValue_any _ _).mono ?_; rintro e w' ⟨rfl, rfl⟩) | (go_at_call 61; refine (l02Legendre_any _ _ HV.out hp1 hp2 _).mono ?_; rintro e w' ⟨⟨v, rfl, HL0⟩, rfl⟩; have HL := Lib.hid HL0; clear HL0) | (go_at_call 62; refine (squareSign_any _ _ HV.out hp1 hp2 _).mono ?_; rintro e w' ⟨⟨u, rfl, HU⟩, rfl⟩; obtain rfl := legIs_one _ _ _ _ HL.out HU; clear HL HU))
      go_ret
      exact ⟨rfl, Below.refl _ _⟩
    · have hd := V_dec hv
      clear hv
      go_enter Try.func13, Try.ntmps13
      go_wp2_with (first | (go_at_call 38; go_in) | (go_at_call 39; go_in) | (go_at_call 52; refine (l01Small_yes _ HP.out _).mono ?_; rintro e w' ⟨rfl, rfl⟩) | (go_at_call 54; refine (isSmallPrime_yes _ HP.out _).mono ?_; rintro e w' ⟨rfl, rfl⟩) | (go_at_call 45; refine (l01Is_any _ _).mono ?_; rintro e w' ⟨rfl, rfl⟩) | (go_at_call 47; refine (isValue_any _ _).mono ?_; rintro e w' ⟨rfl, rfl⟩))
      go_ret
      exact ⟨rfl, Below.refl _ _⟩
  · have HP := Lib.hid hp
    clear hp
    go_enter Try.func13, Try.ntmps13
    go_wp2_with (first | (go_at_call 38; go_in) | (go_at_call 39; go_in) | (go_at_call 52; refine (l01Small_no _ HP.out _).mono ?_; rintro e w' ⟨rfl, rfl⟩) | (go_at_call 54; refine (isSmallPrime_no _ HP.out _).mono ?_; rintro e w' ⟨rfl, rfl⟩))
    go_ret
    exact ⟨rfl, Below.refl _ _⟩
end Go.Proofs.Ytdkeonjckkjdhaa
