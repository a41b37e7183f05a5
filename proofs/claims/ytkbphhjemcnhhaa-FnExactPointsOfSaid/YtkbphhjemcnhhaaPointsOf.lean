/- The walks of PointsOf, and of the law over it. -/
import Derived.Test.YtkbphhjemcnhhaaPolyg
import Derived.Test.YtkbphhjemcnhhaaGs
import Derived.Test.YtkbphhjemcnhhaaAbsPointsOf
namespace Go.Proofs.Ytkbphhjemcnhhaa
open Go.RowKit

/-- what PointsOf gives -/
noncomputable def poR (p : Int) (xs : List Int) : Nat × List Int × Int := if pgC p xs = 0 then ((ptL p xs).length, flatI (ptL p xs), 0) else (0, [], pgC p xs)
theorem poR_len (p : Int) (xs : List Int) : (poR p xs).1 ≤ 1048576 := by
  unfold poR
  by_cases h : pgC p xs = 0
  · rw [if_pos h]
    have ⟨hp, hx, h0⟩ := pgC_zero h
    have := ptL_len (p := p) hx
    show (ptL p xs).length ≤ _; omega
  · rw [if_neg h]; simp

set_option maxHeartbeats 800000 in
theorem specPointsOf_any (p : Int) (A : Option Addr) (n c : Nat) (xs : List Int) (w : World) (hr : Rd .i64 w A n c xs) :
    Calls Try.prog 18 #[.int .i64 p, .slice A n c] w (GivesS 80 2 (poR p xs) w) := by
  have HR := Lib.hid hr
  clear hr
  obtain ⟨k, hk⟩ : ∃ k, k = pgC p xs := ⟨_, rfl⟩
  have HK := Lib.hid hk
  by_cases hz : k = 0
  · subst hz
    have ⟨hp, hx, h0⟩ := pgC_zero hk.symm
    have HP := Lib.hid hp
    have HX := Lib.hid hx
    have H0 := Lib.hid h0
    have HE : Hid (poR p xs = ((ptL p xs).length, flatI (ptL p xs), 0)) := Lib.hid (by unfold poR; rw [← hk, if_pos rfl])
    clear hk hp hx h0
    go_enter Try.func18, Try.ntmps18
    go_wp2_with (first | (go_at_call 77; refine (l13Code_at _ HR.out HK.out).mono ?_; rintro e w' ⟨rfl, rfl⟩) | (go_at_call 81; refine (l13Points_any _ _ _ _ _ _ HR.out HP.out HX.out).mono ?_; rintro e w1 ⟨A1, c1, rfl, ho, hb⟩; have HO := Lib.hid ho; have HB := Lib.hid hb; clear ho hb))
    go_ret2
    exact ⟨A1, c1, by rw [HE.out]; rfl, by rw [HE.out]; exact HO.out, HB.out⟩
  · have hk2 : (k != 0) = true := by simpa using hz
    have HE : Hid (poR p xs = (0, [], k)) := Lib.hid (by unfold poR; rw [← hk, if_neg hz])
    clear hk hz
    go_enter Try.func18, Try.ntmps18
    go_wp2_with (go_at_call 77; refine (l13Code_at _ HR.out HK.out).mono ?_; rintro e w' ⟨rfl, rfl⟩)
    go_ret2
    exact ⟨none, 0, by rw [HE.out]; rfl, by rw [HE.out]; exact OwnC.nil (by unfold maxLen; omega), Below.refl _ _⟩

set_option maxHeartbeats 800000 in
theorem implPointsOf_any (p : Int) (A : Option Addr) (n c : Nat) (xs : List Int) (w : World) (hr : Rd .i64 w A n c xs) :
    Calls Try.prog 19 #[.int .i64 p, .slice A n c] w (GivesS 80 2 (poR p xs) w) := by
  have HR := Lib.hid hr
  clear hr
  obtain ⟨k, hk⟩ : ∃ k, k = pgC p xs := ⟨_, rfl⟩
  have HK := Lib.hid hk
  by_cases hz : k = 0
  · subst hz
    have ⟨hp, hx, h0⟩ := pgC_zero hk.symm
    have HP := Lib.hid hp
    have HX := Lib.hid hx
    have H0 := Lib.hid h0
    have HE : Hid (poR p xs = ((ptL p xs).length, flatI (ptL p xs), 0)) := Lib.hid (by unfold poR; rw [← hk, if_pos rfl])
    clear hk hp hx h0
    go_enter Try.func19, Try.ntmps19
    go_wp2_with (first | (go_at_call 79; refine (polygonal_at _ HR.out HK.out).mono ?_; rintro e w' ⟨rfl, rfl⟩) | (go_at_call 82; refine (points_any _ _ _ _ _ _ HR.out HP.out HX.out).mono ?_; rintro e w1 ⟨A1, c1, rfl, ho, hb⟩; have HO := Lib.hid ho; have HB := Lib.hid hb; clear ho hb))
    go_ret2
    exact ⟨A1, c1, by rw [HE.out]; rfl, by rw [HE.out]; exact HO.out, HB.out⟩
  · have hk2 : (k != 0) = true := by simpa using hz
    have HE : Hid (poR p xs = (0, [], k)) := Lib.hid (by unfold poR; rw [← hk, if_neg hz])
    clear hk hz
    go_enter Try.func19, Try.ntmps19
    go_wp2_with (go_at_call 79; refine (polygonal_at _ HR.out HK.out).mono ?_; rintro e w' ⟨rfl, rfl⟩)
    go_ret2
    exact ⟨none, 0, by rw [HE.out]; rfl, by rw [HE.out]; exact OwnC.nil (by unfold maxLen; omega), Below.refl _ _⟩

theorem walkExactPointsOf (a0 : Int) (A1 : Option Addr) (n1 c1 : Nat) (xs1 : List Int) (w : World) (_ : (Lit.int .i64 a0).wf = true) (hr1 : IsRow .i64 w A1 n1 c1 xs1) :
    Calls Try.prog 4 #[.int .i64 a0, .slice A1 n1 c1] w fun e w' => e = .returned (.bool true) ∧ Below w.heap.size w w' := by
  have hm1 := hr1.2.1
  have hc1 := hr1.1
  unfold maxLen at hm1
  have R1 := Lib.hid hr1.rd
  clear hr1
  by_cases hn1 : n1 ≤ 1048576
  · exact lawExactPointsOf a0 A1 n1 c1 xs1 (poR a0 xs1).1 (poR a0 xs1).2.1 (poR a0 xs1).2.2 w R1.out hn1 (poR_len _ _)
      (fun _ _ _ h => specPointsOf_any _ _ _ _ _ _ h)
      (fun _ _ _ h => implPointsOf_any _ _ _ _ _ _ h)
  · go_enter Try.func4, Try.ntmps4
    go_wp2
    go_ret
    exact ⟨rfl, Below.refl _ _⟩

end Go.Proofs.Ytkbphhjemcnhhaa