
/- The walks of the laws' helpers on []int64: copy, compare. -/
import Derived.Test.YthdmanngjnfamaaSl
namespace Go.Proofs.Ythdmanngjnfamaa
open Go.RowKit

theorem same_below {w w' : World} {e : Ending} {v : Ending} (h : e = v ∧ w = w') : e = v ∧ Below w.heap.size w w' := ⟨h.1, by rw [← h.2]; exact Below.refl _ _⟩
theorem drawn_below {w w' : World} {e : Ending} {v : Ending} (h : e = v ∧ ∃ n, w' = w.drewN n) : e = v ∧ Below w.heap.size w w' := ⟨h.1, by obtain ⟨n, hn⟩ := h.2; rw [hn]; exact below_drewN (Below.refl _ _) _⟩

theorem infoI64 : (Try.prog.info? 2).map (fun i => (i.zero, i.size, i.bytes)) = some (some (.int .i64 0), 1, 8) := by kernel_rfl

/-- a copy under way: k cells done -/
def half (xs : List Int) (k : Nat) : List Value := (xs.take k ++ List.replicate (xs.length - k) 0).map (Value.int .i64)
theorem made_one (v : Value) (n : Nat) : (madeCells #[v] n).toList = List.replicate n v := by
  apply List.ext_getElem
  · simp [madeCells]
  · intro i h1 h2
    simp [madeCells, Nat.mod_one]
theorem half_zero (xs : List Int) : half xs 0 = List.replicate xs.length (.int .i64 0) := by
  unfold half
  simp
theorem half_set {xs : List Int} {k : Nat} (h : k < xs.length) : (half xs k).set k (.int .i64 (xs.getD k 0)) = half xs (k + 1) := by
  unfold half
  have e1 : xs.length - k = (xs.length - (k + 1)) + 1 := by omega
  rw [e1, List.replicate_succ, ← List.map_set]
  congr 1
  rw [List.set_append_right _ _ (by rw [List.length_take]; omega)]
  have e2 : k - (xs.take k).length = 0 := by rw [List.length_take]; omega
  have e3 : xs.getD k 0 = xs[k] := by simp [List.getD, List.getElem?_eq_getElem h]
  rw [e2, List.set_cons_zero, List.take_succ_eq_append_getElem h, e3, List.append_assoc]
  rfl
theorem half_done {xs : List Int} {k : Nat} (h : xs.length ≤ k) : half xs k = xs.map (Value.int .i64) := by
  unfold half
  rw [List.take_of_length_le h, show xs.length - k = 0 by omega]
  simp
theorem half_at {xs : List Int} {k : Nat} (h : k < xs.length) : (half xs k)[k]? = some (.int .i64 0) := by
  unfold half
  rw [List.getElem?_map, List.getElem?_append_right (by rw [List.length_take]; omega)]
  have e2 : k - (xs.take k).length = 0 := by rw [List.length_take]; omega
  rw [e2]
  simp [List.getElem?_replicate]; omega

set_option maxHeartbeats 800000 in
theorem toInt64S_any (A : Option Addr) (n c : Nat) (xs : List Int) (w : World) (hr : Rd .i64 w A n c xs) (hn : n ≤ 1048576) :
    Calls Try.prog 9 #[.slice A n c] w fun e w' => e = .returned (.slice (some ⟨w.heap.size, 0, none⟩) n n) ∧ w'.ownsRow w.heap.size 2 1 (.slice (some ⟨w.heap.size, 0, none⟩) n n) n (xs.map (.int .i64)) ∧ Below w.heap.size w w' := by
  obtain ⟨hl, hc, hm, hr⟩ := hr
  obtain ⟨i0, hi, hz0, hz1, hz2⟩ := info_parts infoI64
  have HL := Lib.hid hl
  clear hl
  go_enter Try.func9, Try.ntmps9
  go_wp2_with (at_make; refine wpList_make_full _ rfl _ _ _ rfl w.heap.size 2 i0 (.int .i64 0) 1 Try.underlying22 hi hz0 hz1 .i64 .i64 n n n rfl rfl rfl rfl ?c1 ?c2 ?c3 ?_)
  case c1 => rw [hz2]; omega
  case c2 => unfold maxLen; omega
  case c3 => exact Nat.le_refl _
  intro w1 hown hg
  have hnx : Below w.heap.size w w1 := (Below.refl _ _).grown hg (Nat.le_refl _) (by simp)
  have HO : Hid (w1.ownsRow w.heap.size 2 1 (.slice (some ⟨w.heap.size, 0, none⟩) n n) n (half xs 0)) := Lib.hid (by
    rw [half_zero, HL.out]
    have := hown
    simp only [made_one] at this
    exact this)
  clear hown hg hi hz0 hz1 hz2
  have HX := Lib.hid hnx
  clear hnx
  go_wp2
  go_loopw [4] (fun j wr => ∃ k : Nat, k ≤ n ∧ j = .int .i64 k ∧ Hid (wr.ownsRow w.heap.size 2 1 (.slice (some ⟨w.heap.size, 0, none⟩) n n) n (half xs k)) ∧ Hid (Below w.heap.size w wr)) (fun j _ => n - (intOf j).toNat)
  case atStart => exact ⟨0, Nat.zero_le _, rfl, HO, HX⟩
  case round =>
    obtain ⟨k, hk, rfl, HW, HB⟩ := hrel
    by_cases hlt : k < n
    · obtain ⟨b, off, rfl, hb, hcell⟩ := hr (by omega)
      have hx := keep_cell HB.out (hcell k hlt)
      have ho := (HW.out.cellAt k (by omega)).trans (half_at (by have := HL.out; omega))
      have hf := HW.out.frozenAt k
      have HS := Lib.hid (HW.out.stored k (.int .i64 (xs.getD k 0)))
      obtain ⟨x, hxe⟩ : ∃ x, x = xs.getD k 0 := ⟨_, rfl⟩
      have HE : Hid (x = xs.getD k 0) := Lib.hid hxe
      rw [← hxe] at hx
      clear hxe hcell hr HO HX
      go_wp2
      go_roundw
      case rel => exact ⟨k + 1, by omega, by go_num, Lib.hid (by rw [← half_set (by have := HL.out; omega)]; rw [HE.out]; exact HS.out.1), Lib.hid (bl_set HB.out _ _ (Nat.le_refl _) _)⟩
      case measure => simp [intOf]; omega
    · have hkn : k = n := by omega
      go_wp2
      go_ret
      exact ⟨rfl, by have := HW.out; rw [half_done (by have := HL.out; omega)] at this; exact this, HB.out⟩

set_option maxHeartbeats 800000 in
theorem eqInt64S_any (A : Option Addr) (n c : Nat) (A' : Option Addr) (c' : Nat) (xs : List Int) (w : World) (hr : Rd .i64 w A n c xs) (hr' : Rd .i64 w A' n c' xs) :
    Calls Try.prog 12 #[.slice A n c, .slice A' n c'] w fun e w' => e = .returned (.bool true) ∧ ∃ m, w' = w.drewN m := by
  obtain ⟨hl, hc, hm, hr⟩ := hr
  obtain ⟨_, hc', hm', hr'⟩ := hr'
  unfold maxLen at hm hm'
  have hself : ((n : Int) != (n : Int)) = false := by simp
  go_enter Try.func12, Try.ntmps12
  go_wp2
  go_loopw [5] (fun j wr => ∃ k m : Nat, k ≤ n ∧ j = .int .i64 k ∧ wr = w.drewN m) (fun j _ => n - (intOf j).toNat)
  case atStart => exact ⟨0, 0, Nat.zero_le _, rfl, rfl⟩
  case round =>
    obtain ⟨k, m, hk, rfl, rfl⟩ := hrel
    by_cases hlt : k < n
    · obtain ⟨b, off, rfl, hb, hcell⟩ := hr (by omega)
      obtain ⟨b', off', rfl, hb', hcell'⟩ := hr' (by omega)
      have hx := hcell k hlt
      have hx' := hcell' k hlt
      obtain ⟨x, hxe⟩ : ∃ x, x = xs.getD k 0 := ⟨_, rfl⟩
      rw [← hxe] at hx hx'
      clear hxe hcell hr hcell' hr'
      go_wp2
      go_region
      go_wp2
      go_roundw
      case rel => exact ⟨k + 1, m + 1, by omega, by go_num, rfl⟩
      case measure => simp [intOf]; omega
    · go_wp2
      go_ret
      exact ⟨rfl, m, rfl⟩
end Go.Proofs.Ythdmanngjnfamaa
