/- The walks of reductions by a prime. -/
import Derived.Test.YtjipalcceflkfaaGiv
import Derived.Test.YtjipalcceflkfaaMod
namespace Go.Proofs.Ytjipalcceflkfaa
open Go.RowKit

theorem mod_any (a m : Int) (hm : 1 ≤ m) (hm2 : m ≤ 1000000000000) (w : World) :
    Calls Try.prog 117 #[.int .i64 a, .int .i64 m] w fun e w' => e = .returned (.int .i64 (a % m)) ∧ w = w' := by
  have ⟨b1, b2⟩ := tmod_bd a m (by omega)
  have b3 : 0 ≤ a.tmod m + m := by omega
  have HE := Lib.hid (tmod_add_emod a m)
  go_enter Try.func117, Try.ntmps117
  go_wp2
  go_ret
  exact ⟨ret_int HE.out, rfl⟩
/-- the remainders of the first k coefficients -/
def rdP (p : Int) (xs : List Int) (k : Nat) : List Int := (xs.take k).map (· % p)
theorem rdP_zero (p : Int) (xs : List Int) : rdP p xs 0 = [] := by unfold rdP; simp
theorem rdP_succ (p : Int) (xs : List Int) {k : Nat} (h : k < xs.length) : rdP p xs (k + 1) = rdP p xs k ++ [xs.getD k 0 % p] := by
  unfold rdP
  rw [List.take_add_one, List.map_append, List.getElem?_eq_getElem h]
  simp [List.getD, h]
theorem rdP_all (p : Int) {xs : List Int} {k : Nat} (h : xs.length = k) : rdP p xs k = xs.map (· % p) := by
  unfold rdP; rw [List.take_of_length_le (by omega)]
/-- the polynomial by p -/
def redL (p : Int) (xs : List Int) : List Int := trimL (xs.map (· % p))
theorem redL_len (p : Int) (xs : List Int) : (redL p xs).length ≤ xs.length := by
  unfold redL; have := trimL_le (xs.map (· % p)); rwa [List.length_map] at this

set_option maxHeartbeats 800000 in
theorem l08Reduce_any (p : Int) (A : Option Addr) (n c : Nat) (xs : List Int) (w : World) (p1 : 2 ≤ p) (p2 : p ≤ 97) (hr : Rd .i64 w A n c xs) (hn : n ≤ 1000000) :
    Calls Try.prog 77 #[.int .i64 p, .slice A n c] w fun e w' => ∃ A' c', e = .returned (.slice A' (redL p xs).length c') ∧ OwnI w' w.heap.size A' (redL p xs).length c' (redL p xs) ∧ Below w.heap.size w w' := by
  obtain ⟨i0, hi, hz0, hz1, hz2⟩ := info_parts infoI64
  have HI := Lib.hid hi
  have HZ0 := Lib.hid hz0
  have HZ1 := Lib.hid hz1
  have HZ2 := Lib.hid hz2
  clear hi hz0 hz1 hz2
  have HR := Lib.hid hr
  have HL := Lib.hid hr.1
  have hc0 := hr.2.1
  have hc1 := hr.2.2.1
  unfold maxLen at hc1
  clear hr
  go_enter Try.func77, Try.ntmps77
  go_wp2
  go_loopw [5, 6] (fun v i wr => ∃ (k : Nat) (L : List Int), k ≤ n ∧ i = .int .i64 k ∧ L.length = k ∧ Hid (L = rdP p xs k) ∧ Hid (wr.ownsRow w.heap.size 2 1 v L.length (L.map (Value.int .i64))) ∧ Hid (Below w.heap.size w wr)) (fun _ i _ => n - (intOf i).toNat)
  case atStart => exact ⟨0, [], by omega, rfl, rfl, Lib.hid (rdP_zero _ _).symm, Lib.hid (own_made w), Lib.hid (bl_alloc (Below.refl _ _) _)⟩
  case round =>
    obtain ⟨k, L, hk, rfl, hkl, HE, HO, HB⟩ := hrel
    by_cases hlt : k < n
    · obtain ⟨b, off, rfl, hb, hcell⟩ := HR.out.2.2.2 (by omega)
      have hx := keep_cell HB.out (hcell k hlt)
      obtain ⟨x, hxe⟩ : ∃ x, x = xs.getD k 0 := ⟨_, rfl⟩
      rw [← hxe] at hx
      have HX := Lib.hid hxe
      have HK := Lib.hid hkl
      have hl1 : L.length + 1 ≤ maxLen := by unfold maxLen; omega
      have hl2 : (L.length + 1) * 8 ≤ 140737488355328 := by omega
      clear hxe hcell hkl
      go_wp2_with (first | (go_at_call 114; refine (l01Mod_any _ _ (by omega) (by omega) _).mono ?_; rintro e w' ⟨rfl, rfl⟩) | (at_builtin; refine wpList_append_own _ rfl _ _ _ rfl w.heap.size 2 i0 (.int .i64 0) 1 8 Try.underlying22 HI.out HZ0.out HZ1.out HZ2.out rfl (by decide) _ L.length (L.map (Value.int .i64)) rfl (HO.out.alloc _) ⟨wr.heap.size, 0, none⟩ 1 1 [.int .i64 (x % p)] rfl rfl (cell_one_new _ _ _) (ints_one [x % p]) hl1 hl2 (base_alloc2 HB.out _) ?_; intro v' w1 hown' hgrow _))
      have HO2 := Lib.hid (own_snoc hown')
      have HE2 : Hid (L ++ [x % p] = rdP p xs (k + 1)) := Lib.hid (by rw [rdP_succ _ _ (by rw [HL.out]; exact hlt), ← HE.out, ← HX.out])
      have HB2 : Hid (Below w.heap.size w w1) := Lib.hid ((bl_alloc HB.out _).grown hgrow (base_alloc2 HB.out _) (fun k hk => (HO.out.lt k hk).1))
      clear hown' hgrow HO HB hl1 hl2
      go_wp2
      go_roundw
      case rel => exact ⟨k + 1, L ++ [x % p], by omega, by go_num, by have := HK.out; rw [List.length_append]; simp; omega, HE2, HO2, HB2⟩
      case measure => simp [intOf]; omega
    · obtain ⟨A', c', rfl, _⟩ := own_cells HO.out
      have HF : Hid (L = xs.map (· % p)) := Lib.hid (by rw [HE.out, rdP_all]; have := HL.out; omega)
      have HO2 : Hid (OwnI wr w.heap.size A' L.length c' (xs.map (· % p))) := Lib.hid (by rw [← HF.out]; exact OwnI.of_row HO.out)
      have hL9 : L.length ≤ 1048576 := by omega
      clear hkl
      go_wp2_with (first | (go_at_call 115; refine (l06Trim_any _ _ _ _ _ HO2.out.rd hL9).mono ?_; rintro e w1 ⟨A2, c2, rfl, ho, hb⟩; have HO3 := Lib.hid ho; have HB3 := Lib.hid hb; clear ho hb))
      go_ret
      exact ⟨A2, c2, rfl, own_lo HO3.out HB.out.size, bl_trans HB.out HB3.out⟩

set_option maxHeartbeats 800000 in
theorem reduce_any (p : Int) (A : Option Addr) (n c : Nat) (xs : List Int) (w : World) (p1 : 2 ≤ p) (p2 : p ≤ 97) (hr : Rd .i64 w A n c xs) (hn : n ≤ 1000000) :
    Calls Try.prog 80 #[.int .i64 p, .slice A n c] w fun e w' => ∃ A' c', e = .returned (.slice A' (redL p xs).length c') ∧ OwnI w' w.heap.size A' (redL p xs).length c' (redL p xs) ∧ Below w.heap.size w w' := by
  obtain ⟨i0, hi, hz0, hz1, hz2⟩ := info_parts infoI64
  have HI := Lib.hid hi
  have HZ0 := Lib.hid hz0
  have HZ1 := Lib.hid hz1
  have HZ2 := Lib.hid hz2
  clear hi hz0 hz1 hz2
  have HR := Lib.hid hr
  have HL := Lib.hid hr.1
  have hc0 := hr.2.1
  have hc1 := hr.2.2.1
  unfold maxLen at hc1
  clear hr
  go_enter Try.func80, Try.ntmps80
  go_wp2
  go_loopw [5, 7, 10] (fun v _ i wr => ∃ (k : Nat) (L : List Int), k ≤ n ∧ i = .int .i64 k ∧ L.length = k ∧ Hid (L = rdP p xs k) ∧ Hid (wr.ownsRow w.heap.size 2 1 v L.length (L.map (Value.int .i64))) ∧ Hid (Below w.heap.size w wr)) (fun _ _ i _ => n - (intOf i).toNat)
  case atStart => exact ⟨0, [], by omega, rfl, rfl, Lib.hid (rdP_zero _ _).symm, Lib.hid (World.ownsRow_nil _ _ _ _), Lib.hid (Below.refl _ _)⟩
  case round =>
    obtain ⟨k, L, hk, rfl, hkl, HE, HO, HB⟩ := hrel
    by_cases hlt : k < n
    · obtain ⟨b, off, rfl, hb, hcell⟩ := HR.out.2.2.2 (by omega)
      have hx := keep_cell HB.out (hcell k hlt)
      obtain ⟨x, hxe⟩ : ∃ x, x = xs.getD k 0 := ⟨_, rfl⟩
      rw [← hxe] at hx
      have HX := Lib.hid hxe
      have HK := Lib.hid hkl
      have hl1 : L.length + 1 ≤ maxLen := by unfold maxLen; omega
      have hl2 : (L.length + 1) * 8 ≤ 140737488355328 := by omega
      clear hxe hcell hkl
      go_wp2_with (first | (go_at_call 117; refine (mod_any _ _ (by omega) (by omega) _).mono ?_; rintro e w' ⟨rfl, rfl⟩) | (at_builtin; refine wpList_append_own _ rfl _ _ _ rfl w.heap.size 2 i0 (.int .i64 0) 1 8 Try.underlying22 HI.out HZ0.out HZ1.out HZ2.out rfl (by decide) _ L.length (L.map (Value.int .i64)) rfl (HO.out.alloc _) ⟨wr.heap.size, 0, none⟩ 1 1 [.int .i64 (x % p)] rfl rfl (cell_one_new _ _ _) (ints_one [x % p]) hl1 hl2 (base_alloc2 HB.out _) ?_; intro v' w1 hown' hgrow _))
      have HO2 := Lib.hid (own_snoc hown')
      have HE2 : Hid (L ++ [x % p] = rdP p xs (k + 1)) := Lib.hid (by rw [rdP_succ _ _ (by rw [HL.out]; exact hlt), ← HE.out, ← HX.out])
      have HB2 : Hid (Below w.heap.size w w1) := Lib.hid ((bl_alloc HB.out _).grown hgrow (base_alloc2 HB.out _) (fun k hk => (HO.out.lt k hk).1))
      clear hown' hgrow HO HB hl1 hl2
      go_wp2
      go_roundw
      case rel => exact ⟨k + 1, L ++ [x % p], by omega, by go_num, by have := HK.out; rw [List.length_append]; simp; omega, HE2, HO2, HB2⟩
      case measure => simp [intOf]; omega
    · obtain ⟨A', c', rfl, _⟩ := own_cells HO.out
      have HF : Hid (L = xs.map (· % p)) := Lib.hid (by rw [HE.out, rdP_all]; have := HL.out; omega)
      have HO2 : Hid (OwnI wr w.heap.size A' L.length c' (xs.map (· % p))) := Lib.hid (by rw [← HF.out]; exact OwnI.of_row HO.out)
      have hL9 : L.length ≤ 1048576 := by omega
      clear hkl
      go_wp2_with (first | (go_at_call 118; refine (trim_any _ _ _ _ _ HO2.out.rd hL9).mono ?_; rintro e w1 ⟨A2, c2, rfl, ho, hb⟩; have HO3 := Lib.hid ho; have HB3 := Lib.hid hb; clear ho hb))
      go_ret
      exact ⟨A2, c2, rfl, own_lo HO3.out HB.out.size, bl_trans HB.out HB3.out⟩

end Go.Proofs.Ytjipalcceflkfaa