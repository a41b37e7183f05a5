/- The walks of IsEisenstein, and of the law over it. -/
import Derived.Test.YtjipalcceflkfaaEisQ
namespace Go.Proofs.Ytjipalcceflkfaa
open Go.RowKit

theorem ext_len {p : Int} {xs : List Int} (h : exC p xs = 0) : 2 ≤ xs.length ∧ xs.length ≤ 9 ∧ 2 ≤ p ∧ p ≤ 97 := by
  unfold exC at h
  by_cases h1 : SP p ∧ POk xs
  · rw [if_pos h1] at h
    by_cases h2 : 2 ≤ xs.length ∧ xs.getD (xs.length - 1) 0 = 1
    · exact ⟨h2.1, h1.2.1, h1.1.2.1, h1.1.1⟩
    · rw [if_neg h2] at h; omega
  · rw [if_neg h1] at h; omega
def ieV (p : Int) (xs : List Int) : Bool := exC p xs == 0 && eis p xs
def ieC (p : Int) (xs : List Int) : Int := exC p xs
def itC (p : Int) (xs : List Int) : Int := if exC p xs = 0 then (if eis p xs = true then 0 else 4) else exC p xs
def itV (p : Int) (xs : List Int) : Bool := itC p xs == 0 && (((xs.length : Int) - 1).tmod p != 0)
theorem specExt_at {p : Int} {A : Option Addr} {n c : Nat} {xs : List Int} {k : Int} (w : World) (hr : Rd .i64 w A n c xs) (hk : k = exC p xs) :
    Calls Try.prog 68 #[.int .i64 p, .slice A n c] w fun e w' => e = .returned (.int .i64 k) ∧ w = w' := by
  subst hk; exact specExt_any _ _ _ _ _ _ hr
theorem implExt_at {p : Int} {A : Option Addr} {n c : Nat} {xs : List Int} {k : Int} (w : World) (hr : Rd .i64 w A n c xs) (hk : k = exC p xs) :
    Calls Try.prog 70 #[.int .i64 p, .slice A n c] w fun e w' => e = .returned (.int .i64 k) ∧ w = w' := by
  subst hk; exact implExt_any _ _ _ _ _ _ hr
theorem specEis_at {p : Int} {A : Option Addr} {n c : Nat} {xs : List Int} {k : Bool} (w : World) (hr : Rd .i64 w A n c xs) (hk : k = eis p xs) (h : exC p xs = 0) :
    Calls Try.prog 69 #[.int .i64 p, .slice A n c] w fun e w' => e = .returned (.bool k) ∧ w = w' := by
  have ⟨a, b, c', d⟩ := ext_len h
  rw [hr.1] at a b
  subst hk; exact l15Eisenstein_any _ _ _ _ _ _ hr c' d a b
theorem implEis_at {p : Int} {A : Option Addr} {n c : Nat} {xs : List Int} {k : Bool} (w : World) (hr : Rd .i64 w A n c xs) (hk : k = eis p xs) (h : exC p xs = 0) :
    Calls Try.prog 71 #[.int .i64 p, .slice A n c] w fun e w' => e = .returned (.bool k) ∧ w = w' := by
  have ⟨a, b, c', d⟩ := ext_len h
  rw [hr.1] at a b
  subst hk; exact isEisenstein_any _ _ _ _ _ _ hr c' d a b

set_option maxHeartbeats 800000 in
theorem specIsEisenstein_any (p : Int) (A : Option Addr) (n c : Nat) (xs : List Int) (w : World) (hr : Rd .i64 w A n c xs) :
    Calls Try.prog 25 #[.int .i64 p, .slice A n c] w fun e w' => e = .returned (.tuple #[.bool (ieV p xs), .int .i64 (ieC p xs)]) ∧ Below w.heap.size w w' := by
  have HR := Lib.hid hr
  clear hr
  obtain ⟨k, hk⟩ : ∃ k, k = exC p xs := ⟨_, rfl⟩
  have HK := Lib.hid hk
  by_cases hz : k = 0
  · subst hz
    obtain ⟨v, hv⟩ : ∃ v, v = eis p xs := ⟨_, rfl⟩
    have HV := Lib.hid hv
    have HZ := Lib.hid hk.symm
    have HE : Hid (ieV p xs = v ∧ ieC p xs = 0) := Lib.hid (by unfold ieV ieC; rw [← hk, ← hv]; exact ⟨rfl, rfl⟩)
    clear hk hv
    go_enter Try.func25, Try.ntmps25
    go_wp2_with (first | (go_at_call 68; refine (specExt_at _ HR.out HK.out).mono ?_; rintro e w' ⟨rfl, rfl⟩) | (go_at_call 69; refine (specEis_at _ HR.out HV.out HZ.out).mono ?_; rintro e w' ⟨rfl, rfl⟩))
    go_ret2
    exact ⟨by rw [HE.out.1, HE.out.2]; rfl, Below.refl _ _⟩
  · have hk2 : (k != 0) = true := by simpa using hz
    have HE : Hid (ieV p xs = false ∧ ieC p xs = k) := Lib.hid (by unfold ieV ieC; rw [← hk]; simp [hz])
    clear hk hz
    go_enter Try.func25, Try.ntmps25
    go_wp2_with (first | (go_at_call 68; refine (specExt_at _ HR.out HK.out).mono ?_; rintro e w' ⟨rfl, rfl⟩))
    go_ret2
    exact ⟨by rw [HE.out.1, HE.out.2]; rfl, Below.refl _ _⟩

set_option maxHeartbeats 800000 in
theorem implIsEisenstein_any (p : Int) (A : Option Addr) (n c : Nat) (xs : List Int) (w : World) (hr : Rd .i64 w A n c xs) :
    Calls Try.prog 26 #[.int .i64 p, .slice A n c] w fun e w' => e = .returned (.tuple #[.bool (ieV p xs), .int .i64 (ieC p xs)]) ∧ Below w.heap.size w w' := by
  have HR := Lib.hid hr
  clear hr
  obtain ⟨k, hk⟩ : ∃ k, k = exC p xs := ⟨_, rfl⟩
  have HK := Lib.hid hk
  by_cases hz : k = 0
  · subst hz
    obtain ⟨v, hv⟩ : ∃ v, v = eis p xs := ⟨_, rfl⟩
    have HV := Lib.hid hv
    have HZ := Lib.hid hk.symm
    have HE : Hid (ieV p xs = v ∧ ieC p xs = 0) := Lib.hid (by unfold ieV ieC; rw [← hk, ← hv]; exact ⟨rfl, rfl⟩)
    clear hk hv
    go_enter Try.func26, Try.ntmps26
    go_wp2_with (first | (go_at_call 70; refine (implExt_at _ HR.out HK.out).mono ?_; rintro e w' ⟨rfl, rfl⟩) | (go_at_call 71; refine (implEis_at _ HR.out HV.out HZ.out).mono ?_; rintro e w' ⟨rfl, rfl⟩))
    go_ret2
    exact ⟨by rw [HE.out.1, HE.out.2]; rfl, Below.refl _ _⟩
  · have hk2 : (k != 0) = true := by simpa using hz
    have HE : Hid (ieV p xs = false ∧ ieC p xs = k) := Lib.hid (by unfold ieV ieC; rw [← hk]; simp [hz])
    clear hk hz
    go_enter Try.func26, Try.ntmps26
    go_wp2_with (first | (go_at_call 70; refine (implExt_at _ HR.out HK.out).mono ?_; rintro e w' ⟨rfl, rfl⟩))
    go_ret2
    exact ⟨by rw [HE.out.1, HE.out.2]; rfl, Below.refl _ _⟩

set_option maxHeartbeats 4000000 in
theorem lawExactIsEisenstein (a0 : Int) (A1 : Option Addr) (n1 c1 : Nat) (xs1 : List Int) (v : Bool) (cd : Int) (w : World) (hr1 : Rd .i64 w A1 n1 c1 xs1) (hn1 : n1 ≤ 1048576)
    (hs : ∀ (B1 : Option Addr) (d1 : Nat) (w : World), Rd .i64 w B1 n1 d1 xs1 → Calls Try.prog 25 #[.int .i64 a0, .slice B1 n1 d1] w fun e w' => e = .returned (.tuple #[.bool v, .int .i64 cd]) ∧ Below w.heap.size w w')
    (hi : ∀ (B1 : Option Addr) (d1 : Nat) (w : World), Rd .i64 w B1 n1 d1 xs1 → Calls Try.prog 26 #[.int .i64 a0, .slice B1 n1 d1] w fun e w' => e = .returned (.tuple #[.bool v, .int .i64 cd]) ∧ Below w.heap.size w w') :
    Calls Try.prog 6 #[.int .i64 a0, .slice A1 n1 c1] w fun e w' => e = .returned (.bool true) ∧ Below w.heap.size w w' := by
  have HR1 := Lib.hid hr1
  have HS := Lib.hid hs
  have HI := Lib.hid hi
  have HB0 := Lib.hid (Below.refl w.heap.size w)
  clear hs hi hr1
  go_enter Try.func6, Try.ntmps6
  go_wp2_with fail
  refine (toInt64S_any _ _ _ _ _ (HR1.out.below HB0.out) hn1).mono ?_
  rintro e w1 ⟨rfl, ho0, hb⟩
  have HB1 := Lib.hid (bl_trans HB0.out hb)
  have G_s1 : Hid (∀ k, rowOf _ _ = some k → w.heap.size ≤ k) := Lib.hid (fun k hk => Nat.le_trans HB0.out.size ((OwnC.row_ge (OwnI.of_row ho0)) k hk).1)
  have O_s1_1 := Lib.hid (OwnI.of_row ho0)
  clear hb ho0
  go_wp2_with fail
  refine (HS.out _ _ _ O_s1_1.out.rd).mono ?_
  rintro e w2 ⟨rfl, hb⟩
  have HB2 := Lib.hid (bl_trans HB1.out hb)
  have O_s1_2 := Lib.hid (O_s1_1.out.below hb)
  clear hb HB1 O_s1_1
  clear O_s1_2
  go_wp2_with fail
  refine (toInt64S_any _ _ _ _ _ (HR1.out.below HB2.out) hn1).mono ?_
  rintro e w3 ⟨rfl, ho0, hb⟩
  have HB3 := Lib.hid (bl_trans HB2.out hb)
  have G_x1 : Hid (∀ k, rowOf _ _ = some k → w.heap.size ≤ k) := Lib.hid (fun k hk => Nat.le_trans HB2.out.size ((OwnC.row_ge (OwnI.of_row ho0)) k hk).1)
  have O_x1_3 := Lib.hid (OwnI.of_row ho0)
  clear hb HB2 ho0
  go_wp2_with fail
  refine (HI.out _ _ _ O_x1_3.out.rd).mono ?_
  rintro e w4 ⟨rfl, hb⟩
  have HB4 := Lib.hid (bl_trans HB3.out hb)
  have O_x1_4 := Lib.hid (O_x1_3.out.below hb)
  clear hb HB3 O_x1_3
  go_wp2_with fail
  refine (toInt64S_any _ _ _ _ _ (HR1.out.below HB4.out) hn1).mono ?_
  rintro e w5 ⟨rfl, ho0, hb⟩
  have HB5 := Lib.hid (bl_trans HB4.out hb)
  have S_x1_t1 := Lib.hid (own_sep O_x1_4.out (OwnI.of_row ho0) (Nat.le_refl _))
  have O_x1_5 := Lib.hid (O_x1_4.out.below hb)
  have G_t1 : Hid (∀ k, rowOf _ _ = some k → w.heap.size ≤ k) := Lib.hid (fun k hk => Nat.le_trans HB4.out.size ((OwnC.row_ge (OwnI.of_row ho0)) k hk).1)
  have O_t1_5 := Lib.hid (OwnI.of_row ho0)
  clear hb HB4 O_x1_4 ho0
  go_wp2_with fail
  refine ((eqInt64S_any _ _ _ _ _ _ _ O_x1_5.out.rd O_t1_5.out.rd).mono fun _ _ h => drawn_below h).mono ?_
  rintro e w6 ⟨rfl, hb⟩
  have HB6 := Lib.hid (bl_trans HB5.out hb)
  have O_x1_6 := Lib.hid (O_x1_5.out.below hb)
  have O_t1_6 := Lib.hid (O_t1_5.out.below hb)
  clear hb HB5 O_x1_5 O_t1_5
  clear O_t1_6
  go_wp2
  go_ret
  exact ⟨rfl, HB6.out⟩

theorem walkExactIsEisenstein (a0 : Int) (A1 : Option Addr) (n1 c1 : Nat) (xs1 : List Int) (w : World) (_ : (Lit.int .i64 a0).wf = true) (hr1 : IsRow .i64 w A1 n1 c1 xs1) :
    Calls Try.prog 6 #[.int .i64 a0, .slice A1 n1 c1] w fun e w' => e = .returned (.bool true) ∧ Below w.heap.size w w' := by
  have hm1 := hr1.2.1
  have hc1 := hr1.1
  unfold maxLen at hm1
  have R1 := Lib.hid hr1.rd
  clear hr1
  by_cases hn1 : n1 ≤ 1048576
  · exact lawExactIsEisenstein a0 A1 n1 c1 xs1 (ieV a0 xs1) (ieC a0 xs1)  w R1.out hn1 
      (fun _ _ _ h => specIsEisenstein_any _ _ _ _ _ _ h)
      (fun _ _ _ h => implIsEisenstein_any _ _ _ _ _ _ h)
  · go_enter Try.func6, Try.ntmps6
    go_wp2
    go_ret
    exact ⟨rfl, Below.refl _ _⟩

end Go.Proofs.Ytjipalcceflkfaa