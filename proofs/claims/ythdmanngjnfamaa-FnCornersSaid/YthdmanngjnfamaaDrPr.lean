
/- Primes drawn. -/
import Derived.Test.YthdmanngjnfamaaDrB
namespace Go.Proofs.Ythdmanngjnfamaa
open Go.RowKit Go.Joins

set_option maxHeartbeats 1600000 in
theorem l01DrawPrime_any (W : World) (A : Option Addr) (n c : Nat) (ys : List Int) (b : Nat) (w : World) (h : Sr W A n c ys b w) :
    Calls Try.prog 87 #[.pointer (some ⟨b, 0, none⟩)] w fun e w' => ∃ x, e = .returned (.int .i64 x) ∧ -3 ≤ x ∧ x ≤ 101 ∧ Drew W A n c ys b w w' := by
  have H := Lib.hid h
  clear h
  go_enter Try.func87, Try.ntmps87
  go_wp2_with fail
  refine (l01Next_any _ A n c ys b 24 _ H.out).mono ?_
  rintro e wd1 ⟨x1, rfl, hx1, hx2, hd1⟩
  have ⟨x1l, x1u⟩ := hx2 (by omega)
  have HD1 := Lib.hid hd1
  clear hx1 hx2 hd1
  by_cases hz : x1 = 0
  · have hzb : (x1 == 0) = true := by simpa using hz
    clear hz
    go_wp2_with fail
    refine (l01Pick_any _ A n c ys b wd1.heap.size 7 [1, 4, 0, 97, 101, -3, 9] _ (HD1.out.alloc _).1 (by omega) (by omega) (by simp) (by have := HD1.out.1.lt; omega) (fun j hj => by rcases j with _ | _ | _ | _ | _ | _ | _ | j <;> first | (simp; done) | omega)).mono ?_
    rintro e wd2 ⟨i2, hi2, rfl, hd2⟩
    have HD2 := Lib.hid (Drew.trans (HD1.out.alloc _) hd2)
    obtain ⟨y, hy2⟩ : ∃ y, y = ([1, 4, 0, 97, 101, -3, 9] : List Int).getD i2 0 := ⟨_, rfl⟩
    have ⟨yl, yu⟩ : -3 ≤ y ∧ y ≤ 101 := by
      rw [hy2]; rcases i2 with _ | _ | _ | _ | _ | _ | _ | j <;> first | (simp; omega) | (simp; done) | omega
    rw [← hy2]
    clear hy2 hi2 hd2
    go_wp2
    go_ret
    exact ⟨y, rfl, yl, yu, HD2.out⟩
  · have hzb : (x1 == 0) = false := by simpa using hz
    clear hz
    go_wp2_with fail
    refine (l01Pick_any _ A n c ys b wd1.heap.size 11 [2, 3, 5, 7, 2, 3, 5, 11, 13, 17, 31] _ (HD1.out.alloc _).1 (by omega) (by omega) (by simp) (by have := HD1.out.1.lt; omega) (fun j hj => by rcases j with _ | _ | _ | _ | _ | _ | _ | _ | _ | _ | _ | j <;> first | (simp; done) | omega)).mono ?_
    rintro e wd2 ⟨i2, hi2, rfl, hd2⟩
    have HD2 := Lib.hid (Drew.trans (HD1.out.alloc _) hd2)
    obtain ⟨y, hy2⟩ : ∃ y, y = ([2, 3, 5, 7, 2, 3, 5, 11, 13, 17, 31] : List Int).getD i2 0 := ⟨_, rfl⟩
    have ⟨yl, yu⟩ : -3 ≤ y ∧ y ≤ 101 := by
      rw [hy2]; rcases i2 with _ | _ | _ | _ | _ | _ | _ | _ | _ | _ | _ | j <;> first | (simp; omega) | (simp; done) | omega
    rw [← hy2]
    clear hy2 hi2 hd2
    go_wp2
    go_ret
    exact ⟨y, rfl, yl, yu, HD2.out⟩
end Go.Proofs.Ythdmanngjnfamaa
