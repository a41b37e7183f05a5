
/- The walks of PointsOf, and of the law over it. -/
import Derived.Test.YthdmanngjnfamaaPolyg
import Derived.Test.YthdmanngjnfamaaGs
import Derived.Test.YthdmanngjnfamaaAbsPointsOf
namespace Go.Proofs.Ythdmanngjnfamaa
open Go.RowKit

/-- what PointsOf gives -/
noncomputable def poR (p : Int) (xs : List Int) : Nat × List Int × Int := if pgC p xs = 0 then ((ptL p xs).length, flatI (ptL p xs), 0) else (0, [], pgC p xs)
theorem poR_len (p : Int) (xs : List Int) : (poR p xs).1 ≤ 1048576 := by
  unfold poR
  by_cases h : pgC p xs = 0
  · rw [if_pos h]
    have ⟨hp, hx, h0⟩ := pgC_zero h
    have := ptL_len (p := p) hx
    show (ptL p xs).length ≤ _; omega
  · rw [if_neg h]; simp

set_option maxHeartbeats 800000 in
theorem specPointsOf_any (p : Int) (A : Option Addr) (n c : Nat) (xs : List Int) (w : World) (hr : Rd .i64 w A n c xs) :
    Calls Try.prog 55 #[.int .i64 p, .slice A n c] w (GivesS 79 2 (poR p xs) w) := by
  have HR := Lib.hid hr
  clear hr
  obtain ⟨k, hk⟩ : ∃ k, k = pgC p xs := ⟨_, rfl⟩
  have HK := Lib.hid hk
  by_cases hz : k = 0
  · subst hz
    have ⟨hp, hx, h0⟩ := pgC_zero hk.symm
    have HP := Lib.hid hp
    have HX := Lib.hid hx
    have H0 := Lib.hid h0
    have HE : Hid (poR p xs = ((ptL p xs).length, flatI (ptL p xs), 0)) := Lib.hid (by unfold poR; rw [← hk, if_pos rfl])
    clear hk hp hx h0
    go_enter Try.func55, Try.ntmps55
    go_wp2_with (first | (go_at_call 110; refine (l13Code_at _ HR.out HK.out).mono ?_; rintro e w' ⟨rfl, rfl⟩) | (go_at_call 119; refine (l13Points_any _ _ _ _ _ _ HR.out HP.out HX.out).mono ?_; rintro e w1 ⟨A1, c1, rfl, ho, hb⟩; have HO := Lib.hid ho; have HB := Lib.hid hb; clear ho hb))
    go_ret2
    exact ⟨A1, c1, by rw [HE.out]; rfl, by rw [HE.out]; exact HO.out, HB.out⟩
  · have hk2 : (k != 0) = true := by simpa using hz
    have HE : Hid (poR p xs = (0, [], k)) := Lib.hid (by unfold poR; rw [← hk, if_neg hz])
    clear hk hz
    go_enter Try.func55, Try.ntmps55
    go_wp2_with (go_at_call 110; refine (l13Code_at _ HR.out HK.out).mono ?_; rintro e w' ⟨rfl, rfl⟩)
    go_ret2
    exact ⟨none, 0, by rw [HE.out]; rfl, by rw [HE.out]; exact OwnC.nil (by unfold maxLen; omega), Below.refl _ _⟩

set_option maxHeartbeats 800000 in
theorem implPointsOf_any (p : Int) (A : Option Addr) (n c : Nat) (xs : List Int) (w : World) (hr : Rd .i64 w A n c xs) :
    Calls Try.prog 54 #[.int .i64 p, .slice A n c] w (GivesS 79 2 (poR p xs) w) := by
  have HR := Lib.hid hr
  clear hr
  obtain ⟨k, hk⟩ : ∃ k, k = pgC p xs := ⟨_, rfl⟩
  have HK := Lib.hid hk
  by_cases hz : k = 0
  · subst hz
    have ⟨hp, hx, h0⟩ := pgC_zero hk.symm
    have HP := Lib.hid hp
    have HX := Lib.hid hx
    have H0 := Lib.hid h0
    have HE : Hid (poR p xs = ((ptL p xs).length, flatI (ptL p xs), 0)) := Lib.hid (by unfold poR; rw [← hk, if_pos rfl])
    clear hk hp hx h0
    go_enter Try.func54, Try.ntmps54
    go_wp2_with (first | (go_at_call 108; refine (polygonal_at _ HR.out HK.out).mono ?_; rintro e w' ⟨rfl, rfl⟩) | (go_at_call 118; refine (points_any _ _ _ _ _ _ HR.out HP.out HX.out).mono ?_; rintro e w1 ⟨A1, c1, rfl, ho, hb⟩; have HO := Lib.hid ho; have HB := Lib.hid hb; clear ho hb))
    go_ret2
    exact ⟨A1, c1, by rw [HE.out]; rfl, by rw [HE.out]; exact HO.out, HB.out⟩
  · have hk2 : (k != 0) = true := by simpa using hz
    have HE : Hid (poR p xs = (0, [], k)) := Lib.hid (by unfold poR; rw [← hk, if_neg hz])
    clear hk hz
    go_enter Try.func54, Try.ntmps54
    go_wp2_with (go_at_call 108; refine (polygonal_at _ HR.out HK.out).mono ?_; rintro e w' ⟨rfl, rfl⟩)
    go_ret2
    exact ⟨none, 0, by rw [HE.out]; rfl, by rw [HE.out]; exact OwnC.nil (by unfold maxLen; omega), Below.refl _ _⟩

end Go.Proofs.Ythdmanngjnfamaa