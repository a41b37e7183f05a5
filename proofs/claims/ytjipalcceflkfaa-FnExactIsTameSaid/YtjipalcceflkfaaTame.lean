/- The walks of IsTame, and of the law over it. -/
import Derived.Test.YtjipalcceflkfaaEist
namespace Go.Proofs.Ytjipalcceflkfaa
open Go.RowKit

set_option maxHeartbeats 800000 in
theorem specOwn_any (p : Int) (A : Option Addr) (n c : Nat) (xs : List Int) (w : World) (hr : Rd .i64 w A n c xs) :
    Calls Try.prog 72 #[.int .i64 p, .slice A n c] w fun e w' => e = .returned (.int .i64 (itC p xs)) ∧ w = w' := by
  have HR := Lib.hid hr
  clear hr
  obtain ⟨k, hk⟩ : ∃ k, k = exC p xs := ⟨_, rfl⟩
  have HK := Lib.hid hk
  by_cases hz : k = 0
  · subst hz
    obtain ⟨v, hv⟩ : ∃ v, v = eis p xs := ⟨_, rfl⟩
    have HV := Lib.hid hv
    have HZ := Lib.hid hk.symm
    have HE : Hid (itC p xs = if v = true then 0 else 4) := Lib.hid (by unfold itC; rw [← hk, ← hv, if_pos rfl])
    clear hk hv
    cases v
    all_goals
      go_enter Try.func72, Try.ntmps72
      go_wp2_with (first | (go_at_call 68; refine (specExt_at _ HR.out HK.out).mono ?_; rintro e w' ⟨rfl, rfl⟩) | (go_at_call 69; refine (specEis_at _ HR.out HV.out HZ.out).mono ?_; rintro e w' ⟨rfl, rfl⟩))
      go_ret
      exact ⟨by rw [HE.out]; rfl, rfl⟩
  · have hk2 : (k == 0) = false := by simpa using hz
    have HE : Hid (itC p xs = k) := Lib.hid (by unfold itC; rw [← hk, if_neg hz])
    clear hk hz
    go_enter Try.func72, Try.ntmps72
    go_wp2_with (first | (go_at_call 68; refine (specExt_at _ HR.out HK.out).mono ?_; rintro e w' ⟨rfl, rfl⟩))
    go_ret
    exact ⟨by rw [HE.out]; rfl, rfl⟩
theorem specOwn_at {p : Int} {A : Option Addr} {n c : Nat} {xs : List Int} {k : Int} (w : World) (hr : Rd .i64 w A n c xs) (hk : k = itC p xs) :
    Calls Try.prog 72 #[.int .i64 p, .slice A n c] w fun e w' => e = .returned (.int .i64 k) ∧ w = w' := by
  subst hk; exact specOwn_any _ _ _ _ _ _ hr

theorem specIt_len {p : Int} {xs : List Int} (h : itC p xs = 0) : 2 ≤ xs.length ∧ xs.length ≤ 9 ∧ 2 ≤ p ∧ p ≤ 97 := by
  apply ext_len
  unfold itC at h
  by_cases h0 : exC p xs = 0
  · exact h0
  · rw [if_neg h0] at h; exact h
set_option maxHeartbeats 800000 in
theorem specIsTame_any (p : Int) (A : Option Addr) (n c : Nat) (xs : List Int) (w : World) (hr : Rd .i64 w A n c xs) :
    Calls Try.prog 27 #[.int .i64 p, .slice A n c] w fun e w' => e = .returned (.tuple #[.bool (itV p xs), .int .i64 (itC p xs)]) ∧ Below w.heap.size w w' := by
  have HR := Lib.hid hr
  have hl := hr.1
  have hc0 := hr.2.1
  have hc1 := hr.2.2.1
  unfold maxLen at hc1
  clear hr
  obtain ⟨k, hk⟩ : ∃ k, k = itC p xs := ⟨_, rfl⟩
  have HK := Lib.hid hk
  by_cases hz : k = 0
  · subst hz
    have ⟨a1, a2, a3, a4⟩ := specIt_len hk.symm
    rw [hl] at a1 a2
    obtain ⟨v, hv⟩ : ∃ v, v = (((n : Int) - 1).tmod p != 0) := ⟨_, rfl⟩
    have HE : Hid (itV p xs = v ∧ itC p xs = 0) := Lib.hid (by unfold itV; rw [← hk, hl, ← hv]; exact ⟨rfl, rfl⟩)
    have he : ((n : Int) - 1).tmod p = ((n : Int) - 1) % p := Int.tmod_eq_emod_of_nonneg (by omega)
    rw [he] at hv
    have hv2 := hv.symm
    clear hk hv hl he
    go_enter Try.func27, Try.ntmps27
    go_wp2_with (first | (go_at_call 72; refine (specOwn_at _ HR.out HK.out).mono ?_; rintro e w' ⟨rfl, rfl⟩))
    go_ret2
    exact ⟨by rw [HE.out.1, HE.out.2]; rfl, Below.refl _ _⟩
  · have hk2 : (k != 0) = true := by simpa using hz
    have HE : Hid (itV p xs = false ∧ itC p xs = k) := Lib.hid (by unfold itV; rw [← hk]; simp [hz])
    clear hk hz hl
    go_enter Try.func27, Try.ntmps27
    go_wp2_with (first | (go_at_call 72; refine (specOwn_at _ HR.out HK.out).mono ?_; rintro e w' ⟨rfl, rfl⟩))
    go_ret2
    exact ⟨by rw [HE.out.1, HE.out.2]; rfl, Below.refl _ _⟩

set_option maxHeartbeats 800000 in
theorem implOwn_any (p : Int) (A : Option Addr) (n c : Nat) (xs : List Int) (w : World) (hr : Rd .i64 w A n c xs) :
    Calls Try.prog 73 #[.int .i64 p, .slice A n c] w fun e w' => e = .returned (.int .i64 (itC p xs)) ∧ w = w' := by
  have HR := Lib.hid hr
  clear hr
  obtain ⟨k, hk⟩ : ∃ k, k = exC p xs := ⟨_, rfl⟩
  have HK := Lib.hid hk
  by_cases hz : k = 0
  · subst hz
    obtain ⟨v, hv⟩ : ∃ v, v = eis p xs := ⟨_, rfl⟩
    have HV := Lib.hid hv
    have HZ := Lib.hid hk.symm
    have HE : Hid (itC p xs = if v = true then 0 else 4) := Lib.hid (by unfold itC; rw [← hk, ← hv, if_pos rfl])
    clear hk hv
    cases v
    all_goals
      go_enter Try.func73, Try.ntmps73
      go_wp2_with (first | (go_at_call 70; refine (implExt_at _ HR.out HK.out).mono ?_; rintro e w' ⟨rfl, rfl⟩) | (go_at_call 71; refine (implEis_at _ HR.out HV.out HZ.out).mono ?_; rintro e w' ⟨rfl, rfl⟩))
      go_ret
      exact ⟨by rw [HE.out]; rfl, rfl⟩
  · have hk2 : (k != 0) = true := by simpa using hz
    have HE : Hid (itC p xs = k) := Lib.hid (by unfold itC; rw [← hk, if_neg hz])
    clear hk hz
    go_enter Try.func73, Try.ntmps73
    go_wp2_with (first | (go_at_call 70; refine (implExt_at _ HR.out HK.out).mono ?_; rintro e w' ⟨rfl, rfl⟩))
    go_ret
    exact ⟨by rw [HE.out]; rfl, rfl⟩
theorem implOwn_at {p : Int} {A : Option Addr} {n c : Nat} {xs : List Int} {k : Int} (w : World) (hr : Rd .i64 w A n c xs) (hk : k = itC p xs) :
    Calls Try.prog 73 #[.int .i64 p, .slice A n c] w fun e w' => e = .returned (.int .i64 k) ∧ w = w' := by
  subst hk; exact implOwn_any _ _ _ _ _ _ hr

theorem implIt_len {p : Int} {xs : List Int} (h : itC p xs = 0) : 2 ≤ xs.length ∧ xs.length ≤ 9 ∧ 2 ≤ p ∧ p ≤ 97 := by
  apply ext_len
  unfold itC at h
  by_cases h0 : exC p xs = 0
  · exact h0
  · rw [if_neg h0] at h; exact h
set_option maxHeartbeats 800000 in
theorem implIsTame_any (p : Int) (A : Option Addr) (n c : Nat) (xs : List Int) (w : World) (hr : Rd .i64 w A n c xs) :
    Calls Try.prog 28 #[.int .i64 p, .slice A n c] w fun e w' => e = .returned (.tuple #[.bool (itV p xs), .int .i64 (itC p xs)]) ∧ Below w.heap.size w w' := by
  have HR := Lib.hid hr
  have hl := hr.1
  have hc0 := hr.2.1
  have hc1 := hr.2.2.1
  unfold maxLen at hc1
  clear hr
  obtain ⟨k, hk⟩ : ∃ k, k = itC p xs := ⟨_, rfl⟩
  have HK := Lib.hid hk
  by_cases hz : k = 0
  · subst hz
    have ⟨a1, a2, a3, a4⟩ := implIt_len hk.symm
    rw [hl] at a1 a2
    obtain ⟨v, hv⟩ : ∃ v, v = (((n : Int) - 1).tmod p != 0) := ⟨_, rfl⟩
    have HE : Hid (itV p xs = v ∧ itC p xs = 0) := Lib.hid (by unfold itV; rw [← hk, hl, ← hv]; exact ⟨rfl, rfl⟩)
    have he : ((n : Int) - 1).tmod p = ((n : Int) - 1) % p := Int.tmod_eq_emod_of_nonneg (by omega)
    rw [he] at hv
    have hv2 := hv.symm
    clear hk hv hl he
    go_enter Try.func28, Try.ntmps28
    go_wp2_with (first | (go_at_call 73; refine (implOwn_at _ HR.out HK.out).mono ?_; rintro e w' ⟨rfl, rfl⟩) | (go_at_call 74; go_in) | (go_at_call 113; go_in))
    go_ret2
    exact ⟨by rw [HE.out.1, HE.out.2]; rfl, Below.refl _ _⟩
  · have hk2 : (k != 0) = true := by simpa using hz
    have HE : Hid (itV p xs = false ∧ itC p xs = k) := Lib.hid (by unfold itV; rw [← hk]; simp [hz])
    clear hk hz hl
    go_enter Try.func28, Try.ntmps28
    go_wp2_with (first | (go_at_call 73; refine (implOwn_at _ HR.out HK.out).mono ?_; rintro e w' ⟨rfl, rfl⟩))
    go_ret2
    exact ⟨by rw [HE.out.1, HE.out.2]; rfl, Below.refl _ _⟩

set_option maxHeartbeats 4000000 in
theorem lawExactIsTame (a0 : Int) (A1 : Option Addr) (n1 c1 : Nat) (xs1 : List Int) (v : Bool) (cd : Int) (w : World) (hr1 : Rd .i64 w A1 n1 c1 xs1) (hn1 : n1 ≤ 1048576)
    (hs : ∀ (B1 : Option Addr) (d1 : Nat) (w : World), Rd .i64 w B1 n1 d1 xs1 → Calls Try.prog 27 #[.int .i64 a0, .slice B1 n1 d1] w fun e w' => e = .returned (.tuple #[.bool v, .int .i64 cd]) ∧ Below w.heap.size w w')
    (hi : ∀ (B1 : Option Addr) (d1 : Nat) (w : World), Rd .i64 w B1 n1 d1 xs1 → Calls Try.prog 28 #[.int .i64 a0, .slice B1 n1 d1] w fun e w' => e = .returned (.tuple #[.bool v, .int .i64 cd]) ∧ Below w.heap.size w w') :
    Calls Try.prog 7 #[.int .i64 a0, .slice A1 n1 c1] w fun e w' => e = .returned (.bool true) ∧ Below w.heap.size w w' := by
  have HR1 := Lib.hid hr1
  have HS := Lib.hid hs
  have HI := Lib.hid hi
  have HB0 := Lib.hid (Below.refl w.heap.size w)
  clear hs hi hr1
  go_enter Try.func7, Try.ntmps7
  go_wp2_with fail
  refine (toInt64S_any _ _ _ _ _ (HR1.out.below HB0.out) hn1).mono ?_
  rintro e w1 ⟨rfl, ho0, hb⟩
  have HB1 := Lib.hid (bl_trans HB0.out hb)
  have G_s1 : Hid (∀ k, rowOf _ _ = some k → w.heap.size ≤ k) := Lib.hid (fun k hk => Nat.le_trans HB0.out.size ((OwnC.row_ge (OwnI.of_row ho0)) k hk).1)
  have O_s1_1 := Lib.hid (OwnI.of_row ho0)
  clear hb ho0
  go_wp2_with fail
  refine (HS.out _ _ _ O_s1_1.out.rd).mono ?_
  rintro e w2 ⟨rfl, hb⟩
  have HB2 := Lib.hid (bl_trans HB1.out hb)
  have O_s1_2 := Lib.hid (O_s1_1.out.below hb)
  clear hb HB1 O_s1_1
  clear O_s1_2
  go_wp2_with fail
  refine (toInt64S_any _ _ _ _ _ (HR1.out.below HB2.out) hn1).mono ?_
  rintro e w3 ⟨rfl, ho0, hb⟩
  have HB3 := Lib.hid (bl_trans HB2.out hb)
  have G_x1 : Hid (∀ k, rowOf _ _ = some k → w.heap.size ≤ k) := Lib.hid (fun k hk => Nat.le_trans HB2.out.size ((OwnC.row_ge (OwnI.of_row ho0)) k hk).1)
  have O_x1_3 := Lib.hid (OwnI.of_row ho0)
  clear hb HB2 ho0
  go_wp2_with fail
  refine (HI.out _ _ _ O_x1_3.out.rd).mono ?_
  rintro e w4 ⟨rfl, hb⟩
  have HB4 := Lib.hid (bl_trans HB3.out hb)
  have O_x1_4 := Lib.hid (O_x1_3.out.below hb)
  clear hb HB3 O_x1_3
  go_wp2_with fail
  refine (toInt64S_any _ _ _ _ _ (HR1.out.below HB4.out) hn1).mono ?_
  rintro e w5 ⟨rfl, ho0, hb⟩
  have HB5 := Lib.hid (bl_trans HB4.out hb)
  have S_x1_t1 := Lib.hid (own_sep O_x1_4.out (OwnI.of_row ho0) (Nat.le_refl _))
  have O_x1_5 := Lib.hid (O_x1_4.out.below hb)
  have G_t1 : Hid (∀ k, rowOf _ _ = some k → w.heap.size ≤ k) := Lib.hid (fun k hk => Nat.le_trans HB4.out.size ((OwnC.row_ge (OwnI.of_row ho0)) k hk).1)
  have O_t1_5 := Lib.hid (OwnI.of_row ho0)
  clear hb HB4 O_x1_4 ho0
  go_wp2_with fail
  refine ((eqInt64S_any _ _ _ _ _ _ _ O_x1_5.out.rd O_t1_5.out.rd).mono fun _ _ h => drawn_below h).mono ?_
  rintro e w6 ⟨rfl, hb⟩
  have HB6 := Lib.hid (bl_trans HB5.out hb)
  have O_x1_6 := Lib.hid (O_x1_5.out.below hb)
  have O_t1_6 := Lib.hid (O_t1_5.out.below hb)
  clear hb HB5 O_x1_5 O_t1_5
  clear O_t1_6
  go_wp2
  go_ret
  exact ⟨rfl, HB6.out⟩

theorem walkExactIsTame (a0 : Int) (A1 : Option Addr) (n1 c1 : Nat) (xs1 : List Int) (w : World) (_ : (Lit.int .i64 a0).wf = true) (hr1 : IsRow .i64 w A1 n1 c1 xs1) :
    Calls Try.prog 7 #[.int .i64 a0, .slice A1 n1 c1] w fun e w' => e = .returned (.bool true) ∧ Below w.heap.size w w' := by
  have hm1 := hr1.2.1
  have hc1 := hr1.1
  unfold maxLen at hm1
  have R1 := Lib.hid hr1.rd
  clear hr1
  by_cases hn1 : n1 ≤ 1048576
  · exact lawExactIsTame a0 A1 n1 c1 xs1 (itV a0 xs1) (itC a0 xs1)  w R1.out hn1 
      (fun _ _ _ h => specIsTame_any _ _ _ _ _ _ h)
      (fun _ _ _ h => implIsTame_any _ _ _ _ _ _ h)
  · go_enter Try.func7, Try.ntmps7
    go_wp2
    go_ret
    exact ⟨rfl, Below.refl _ _⟩

end Go.Proofs.Ytjipalcceflkfaa