
/- The walks of the laws' helpers on []int64: mark, held. -/
import Derived.Test.YthdmanngjnfamaaOwn
import Derived.Test.YthdmanngjnfamaaCopy
namespace Go.Proofs.Ythdmanngjnfamaa
open Go.RowKit

/-- what the marker writes -/
def mk (k : Int) (n : Nat) : List Int := (List.range n).map fun (i : Nat) => k + (i : Int)
theorem mk_len (k : Int) (n : Nat) : (mk k n).length = n := by simp [mk]
theorem mk_at {k : Int} {n i : Nat} (h : i < n) : (mk k n).getD i 0 = k + i := by
  unfold mk
  simp [List.getD, List.getElem?_map, List.getElem?_range h]
def mixed (xs : List Int) (k : Int) (j : Nat) : List Int := mk k j ++ xs.drop j
theorem mixed_zero (xs : List Int) (k : Int) : mixed xs k 0 = xs := by simp [mixed, mk]
theorem mixed_all {xs : List Int} {k : Int} {j : Nat} (h : xs.length = j) : mixed xs k j = mk k j := by
  unfold mixed
  rw [List.drop_of_length_le (by omega), List.append_nil]
theorem mixed_set {xs : List Int} {k : Int} {j : Nat} (h : j < xs.length) : (mixed xs k j).set j (k + j) = mixed xs k (j + 1) := by
  unfold mixed
  rw [List.set_append_right _ _ (by rw [mk_len]; exact Nat.le_refl _), mk_len, Nat.sub_self, List.drop_eq_getElem_cons h, List.set_cons_zero]
  have e : mk k (j + 1) = mk k j ++ [k + j] := by
    unfold mk
    rw [List.range_succ, List.map_append]
    rfl
  rw [e, List.append_assoc]
  rfl

set_option maxHeartbeats 800000 in
theorem mark_any (lo : Nat) (A : Option Addr) (n c : Nat) (xs : List Int) (k : Int) (w : World) (h : OwnI w lo A n c xs) (hn : n ≤ 1048576) (hk : 0 ≤ k) (hk2 : k ≤ 1073741824) :
    Calls Try.prog 13 #[.slice A n c, .int .i64 k] w fun e w' => e = .returned (.int .i64 (k + n)) ∧ OwnI w' lo A n c (mk k n) ∧ w.grownBy w' (rowOf A n) := by
  have HO := Lib.hid h
  have hl := Lib.hid h.len
  clear h
  rcases Nat.eq_zero_or_pos n with h0 | h0
  · subst h0
    go_enter Try.func13, Try.ntmps13
    go_wp2
    refine wp_loop_rounds 1 ?_
    rw [rounds_succ]
    go_wp2
    go_ret
    exact ⟨ret_int (by omega), (OwnC.nil HO.out.2.2.1 : OwnI _ _ _ 0 _ []), grown_refl _ _⟩
  obtain ⟨g, rfl, hg1, hg2⟩ := OwnC.form HO.out h0
  have HR : Hid (rowOf (some ⟨g, 0, none⟩) n = some g) := Lib.hid (by unfold rowOf; rw [if_neg (by omega)]; rfl)
  go_enter Try.func13, Try.ntmps13
  go_wp2
  go_loopw [1, 5] (fun kk i wr => ∃ j : Nat, j ≤ n ∧ kk = .int .i64 (k + j) ∧ i = .int .i64 j ∧ Hid (OwnI wr lo (some ⟨g, 0, none⟩) n c (mixed xs k j)) ∧ Hid (w.grownBy wr (some g))) (fun _ i _ => n - (intOf i).toNat)
  case atStart => exact ⟨0, Nat.zero_le _, by go_num, rfl, Lib.hid (by rw [mixed_zero]; exact HO.out), Lib.hid (grown_refl _ _)⟩
  case round =>
    obtain ⟨j, hj, rfl, rfl, HW, HG⟩ := hrel
    by_cases hlt : j < n
    · have ⟨ho, hf⟩ := HW.out.at_ hlt
      have HS := Lib.hid (HW.out.set_ j (k + j))
      obtain ⟨x, hxe⟩ : ∃ x, x = (mixed xs k j).getD j 0 := ⟨_, rfl⟩
      rw [← hxe] at ho
      clear hxe
      go_wp2
      go_roundw
      case rel => exact ⟨j + 1, by omega, by go_num, by go_num, Lib.hid (by rw [← mixed_set (by rw [hl.out]; exact hlt)]; exact HS.out.1), Lib.hid (grown_trans HG.out (HS.out.2 h0))⟩
      case measure => simp [intOf]; omega
    · have hjn : j = n := by omega
      subst hjn
      go_wp2
      go_ret
      exact ⟨rfl, by have := HW.out; rw [mixed_all hl.out] at this; exact this, by rw [HR.out]; exact HG.out⟩

set_option maxHeartbeats 800000 in
theorem held_any (A : Option Addr) (n c : Nat) (k : Int) (w : World) (h : Rd .i64 w A n c (mk k n)) (hn : n ≤ 1048576) (hk : 0 ≤ k) (hk2 : k ≤ 1073741824) :
    Calls Try.prog 73 #[.slice A n c, .int .i64 k] w fun e w' => e = .returned (.int .i64 (k + n)) ∧ ∃ m, w' = w.drewN m := by
  have HR := Lib.hid h.2.2.2
  clear h
  go_enter Try.func73, Try.ntmps73
  go_wp2
  go_loopw [1, 5] (fun kk i wr => ∃ j m : Nat, j ≤ n ∧ kk = .int .i64 (k + j) ∧ i = .int .i64 j ∧ wr = w.drewN m) (fun _ i _ => n - (intOf i).toNat)
  case atStart => exact ⟨0, 0, Nat.zero_le _, by go_num, rfl, rfl⟩
  case round =>
    obtain ⟨j, m, hj, rfl, rfl, rfl⟩ := hrel
    by_cases hlt : j < n
    · obtain ⟨b, off, rfl, hb, hcell⟩ := HR.out (by omega)
      have hx := hcell j hlt
      rw [mk_at hlt] at hx
      clear hcell
      go_wp2
      go_roundw
      case rel => exact ⟨j + 1, m, by omega, by go_num, by go_num, rfl⟩
      case measure => simp [intOf]; omega
    · have hjn : j = n := by omega
      subst hjn
      go_wp2
      go_ret
      exact ⟨rfl, m, rfl⟩
end Go.Proofs.Ythdmanngjnfamaa
