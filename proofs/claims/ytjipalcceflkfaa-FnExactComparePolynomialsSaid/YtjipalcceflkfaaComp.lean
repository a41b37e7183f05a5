/- The walks of ComparePolynomials, and of the law over it. -/
import Derived.Test.YtjipalcceflkfaaModu
import Derived.Test.YtjipalcceflkfaaOwn
import Derived.Test.YtjipalcceflkfaaCopy
import Derived.Deep.QuietTactic
import Derived.BigQuiet
import Derived.Deep.RegionWith
namespace Go.Proofs.Ytjipalcceflkfaa
open Go.RowKit

def cmp3 (a b : Int) : Int := if a < b then -1 else if b < a then 1 else 0
/-- the first k coefficients compared, the last one first -/
def cmF (xs ys : List Int) : Nat → Int
  | 0 => 0
  | k + 1 => if xs.getD k 0 = ys.getD k 0 then cmF xs ys k else cmp3 (xs.getD k 0) (ys.getD k 0)
def cmL (xs ys : List Int) : Int := if xs.length = ys.length then cmF xs ys xs.length else cmp3 xs.length ys.length
theorem cmF_eq {xs ys : List Int} {k : Nat} (h : xs.getD k 0 = ys.getD k 0) : cmF xs ys (k + 1) = cmF xs ys k := by
  conv => lhs; unfold cmF
  rw [if_pos h]
theorem cmF_ne {xs ys : List Int} {k : Nat} (h : ¬ xs.getD k 0 = ys.getD k 0) : cmF xs ys (k + 1) = cmp3 (xs.getD k 0) (ys.getD k 0) := by
  conv => lhs; unfold cmF
  rw [if_neg h]
theorem cmp3_lt {a b : Int} (h : a < b) : cmp3 a b = -1 := by unfold cmp3; rw [if_pos h]
theorem cmp3_gt {a b : Int} (h : b < a) : cmp3 a b = 1 := by unfold cmp3; rw [if_neg (by omega), if_pos h]
theorem cmp3_eq (a : Int) : cmp3 a a = 0 := by unfold cmp3; rw [if_neg (by omega), if_neg (by omega)]

set_option maxHeartbeats 800000 in
theorem cmp_int_any (a b : Int) (w : World) :
    Calls Try.prog 111 #[.int .i64 a, .int .i64 b] w fun e w' => e = .returned (.int .i64 (cmp3 a b)) ∧ w = w' := by
  have ha : (a != a) = false := by simp
  have hb : (b != b) = false := by simp
  rcases Int.lt_trichotomy a b with h | h | h
  · have HE := Lib.hid (cmp3_lt h)
    go_enter Try.func111, Try.ntmps111
    go_wp2_with (first | (go_at_call 134; go_in))
    go_ret
    exact ⟨by rw [HE.out]; rfl, rfl⟩
  · subst h
    have HE := Lib.hid (cmp3_eq a)
    go_enter Try.func111, Try.ntmps111
    go_wp2_with (first | (go_at_call 134; go_in))
    go_ret
    exact ⟨by rw [HE.out]; rfl, rfl⟩
  · have HE := Lib.hid (cmp3_gt h)
    go_enter Try.func111, Try.ntmps111
    go_wp2_with (first | (go_at_call 134; go_in))
    go_ret
    exact ⟨by rw [HE.out]; rfl, rfl⟩

set_option maxHeartbeats 800000 in
theorem cmp_int64_any (a b : Int) (w : World) :
    Calls Try.prog 112 #[.int .i64 a, .int .i64 b] w fun e w' => e = .returned (.int .i64 (cmp3 a b)) ∧ w = w' := by
  have ha : (a != a) = false := by simp
  have hb : (b != b) = false := by simp
  rcases Int.lt_trichotomy a b with h | h | h
  · have HE := Lib.hid (cmp3_lt h)
    go_enter Try.func112, Try.ntmps112
    go_wp2_with (first | (go_at_call 135; go_in))
    go_ret
    exact ⟨by rw [HE.out]; rfl, rfl⟩
  · subst h
    have HE := Lib.hid (cmp3_eq a)
    go_enter Try.func112, Try.ntmps112
    go_wp2_with (first | (go_at_call 135; go_in))
    go_ret
    exact ⟨by rw [HE.out]; rfl, rfl⟩
  · have HE := Lib.hid (cmp3_gt h)
    go_enter Try.func112, Try.ntmps112
    go_wp2_with (first | (go_at_call 135; go_in))
    go_ret
    exact ⟨by rw [HE.out]; rfl, rfl⟩

set_option maxRecDepth 100000 in
set_option maxHeartbeats 1600000 in
theorem l09Compare_any (A : Option Addr) (n c : Nat) (xs : List Int) (B : Option Addr) (m d : Nat) (ys : List Int) (w : World) (hr : Rd .i64 w A n c xs) (hs : Rd .i64 w B m d ys) (hn : n ≤ 9) (hm : m ≤ 9) :
    Calls Try.prog 66 #[.slice A n c, .slice B m d] w fun e w' => e = .returned (.int .i64 (cmL xs ys)) ∧ Below w.heap.size w w' := by
  have HR := Lib.hid hr
  have HS := Lib.hid hs
  have HL := Lib.hid hr.1
  have HM := Lib.hid hs.1
  clear hr hs
  by_cases hnm : n = m
  · subst hnm
    have hself : ((n : Int) != (n : Int)) = false := by simp
    have HE0 : Hid (cmL xs ys = cmF xs ys n) := Lib.hid (by unfold cmL; rw [if_pos (by rw [HL.out, HM.out]), HL.out])
    go_enter Try.func66, Try.ntmps66
    go_wp2
    go_loopw [5] (fun i wr => ∃ k : Nat, k ≤ n ∧ i = .int .i64 (k - 1) ∧ Hid (Below w.heap.size w wr) ∧ Hid (cmL xs ys = cmF xs ys k)) (fun i _ => (intOf i + 1).toNat)
    case atStart => exact ⟨n, Nat.le_refl _, by go_num, Lib.hid (Below.refl _ _), HE0⟩
    case round =>
      obtain ⟨k, hk, rfl, HB, HE⟩ := hrel
      rcases Nat.eq_zero_or_pos k with h0 | h0
      · subst h0
        go_wp2
        go_ret
        exact ⟨by rw [HE.out]; rfl, HB.out⟩
      · obtain ⟨j, rfl⟩ : ∃ j, k = j + 1 := ⟨k - 1, by omega⟩
        have hkj : ((j + 1 : Nat) : Int) - 1 = (j : Int) := by omega
        have hjn : j < n := by omega
        have hjz : (0 : Int) ≤ (j : Int) := by omega
        have hji : (j : Int) < (n : Int) := by omega
        obtain ⟨b, off, rfl, hb, hcell⟩ := HR.out.2.2.2 (by omega)
        obtain ⟨b', off', rfl, hb', hcell'⟩ := HS.out.2.2.2 (by omega)
        have hx := keep_cell HB.out (hcell j hjn)
        have hy := keep_cell HB.out (hcell' j hjn)
        obtain ⟨x, hxe⟩ : ∃ x, x = xs.getD j 0 := ⟨_, rfl⟩
        obtain ⟨y, hye⟩ : ∃ y, y = ys.getD j 0 := ⟨_, rfl⟩
        rw [← hxe] at hx
        rw [← hye] at hy
        rw [hkj]
        clear hcell hcell' hkj
        by_cases he : x = y
        · have HE2 : Hid (cmL xs ys = cmF xs ys j) := Lib.hid (by rw [HE.out, cmF_eq (by rw [← hxe, ← hye]; exact he)])
          subst he
          clear hxe hye HE
          have hself2 : (x != x) = false := by simp
          go_wp2_with fail
          go_quiet (fail)
          go_wp2_with fail
          go_quiet (fail)
          go_wp2
          go_roundw
          case rel => exact ⟨j, by omega, by go_num, Lib.hid (by repeat (first | exact HB.out | exact HBq.out | apply below_drewN)), HE2⟩
          case measure => simp only [intOf]; omega
        · have HE2 : Hid (cmL xs ys = cmp3 x y) := Lib.hid (by rw [HE.out, cmF_ne (by rw [← hxe, ← hye]; exact he), hxe, hye])
          clear hxe hye HE
          rcases Int.lt_trichotomy x y with hxy | hxy | hxy
          · have HE3 := Lib.hid (HE2.out.trans (cmp3_lt hxy))
            go_wp2_with fail
            go_quiet (fail)
            go_wp2
            go_ret
            exact ⟨by rw [HE3.out]; rfl, (by repeat (first | exact HB.out | exact HBq.out | apply below_drewN))⟩
          · exact absurd hxy he
          · have HE3 := Lib.hid (HE2.out.trans (cmp3_gt hxy))
            go_wp2_with fail
            go_quiet (fail)
            go_wp2_with fail
            go_quiet (fail)
            go_wp2
            go_ret
            exact ⟨by rw [HE3.out]; rfl, (by repeat (first | exact HB.out | exact HBq.out | apply below_drewN))⟩
  · have HE0 : Hid (cmL xs ys = cmp3 (n : Int) (m : Int)) := Lib.hid (by unfold cmL; rw [if_neg (by rw [HL.out, HM.out]; exact hnm), HL.out, HM.out])
    by_cases hlt : n < m
    · have HE1 : Hid (cmL xs ys = -1) := Lib.hid (by rw [HE0.out, cmp3_lt (by omega)])
      go_enter Try.func66, Try.ntmps66
      go_wp2
      go_ret
      exact ⟨by rw [HE1.out]; rfl, Below.refl _ _⟩
    · have HE1 : Hid (cmL xs ys = 1) := Lib.hid (by rw [HE0.out, cmp3_gt (by omega)])
      have hgt : m < n := by omega
      go_enter Try.func66, Try.ntmps66
      go_wp2
      go_ret
      exact ⟨by rw [HE1.out]; rfl, Below.refl _ _⟩

set_option maxRecDepth 100000 in
set_option maxHeartbeats 1600000 in
theorem comparePolynomials_any (A : Option Addr) (n c : Nat) (xs : List Int) (B : Option Addr) (m d : Nat) (ys : List Int) (w : World) (hr : Rd .i64 w A n c xs) (hs : Rd .i64 w B m d ys) (hn : n ≤ 9) (hm : m ≤ 9) :
    Calls Try.prog 67 #[.slice A n c, .slice B m d] w fun e w' => e = .returned (.int .i64 (cmL xs ys)) ∧ Below w.heap.size w w' := by
  have HR := Lib.hid hr
  have HS := Lib.hid hs
  have HL := Lib.hid hr.1
  have HM := Lib.hid hs.1
  clear hr hs
  by_cases hnm : n = m
  · subst hnm
    have hself : ((n : Int) != (n : Int)) = false := by simp
    have HE0 : Hid (cmL xs ys = cmF xs ys n) := Lib.hid (by unfold cmL; rw [if_pos (by rw [HL.out, HM.out]), HL.out])
    go_enter Try.func67, Try.ntmps67
    go_wp2
    go_loopw [5] (fun i wr => ∃ k : Nat, k ≤ n ∧ i = .int .i64 (k - 1) ∧ Hid (Below w.heap.size w wr) ∧ Hid (cmL xs ys = cmF xs ys k)) (fun i _ => (intOf i + 1).toNat)
    case atStart => exact ⟨n, Nat.le_refl _, by go_num, Lib.hid (Below.refl _ _), HE0⟩
    case round =>
      obtain ⟨k, hk, rfl, HB, HE⟩ := hrel
      rcases Nat.eq_zero_or_pos k with h0 | h0
      · subst h0
        go_wp2
        go_ret
        exact ⟨by rw [HE.out]; rfl, HB.out⟩
      · obtain ⟨j, rfl⟩ : ∃ j, k = j + 1 := ⟨k - 1, by omega⟩
        have hkj : ((j + 1 : Nat) : Int) - 1 = (j : Int) := by omega
        have hjn : j < n := by omega
        have hjz : (0 : Int) ≤ (j : Int) := by omega
        have hji : (j : Int) < (n : Int) := by omega
        obtain ⟨b, off, rfl, hb, hcell⟩ := HR.out.2.2.2 (by omega)
        obtain ⟨b', off', rfl, hb', hcell'⟩ := HS.out.2.2.2 (by omega)
        have hx := keep_cell HB.out (hcell j hjn)
        have hy := keep_cell HB.out (hcell' j hjn)
        obtain ⟨x, hxe⟩ : ∃ x, x = xs.getD j 0 := ⟨_, rfl⟩
        obtain ⟨y, hye⟩ : ∃ y, y = ys.getD j 0 := ⟨_, rfl⟩
        rw [← hxe] at hx
        rw [← hye] at hy
        rw [hkj]
        clear hcell hcell' hkj
        by_cases he : x = y
        · have HE2 : Hid (cmL xs ys = cmF xs ys j) := Lib.hid (by rw [HE.out, cmF_eq (by rw [← hxe, ← hye]; exact he)])
          subst he
          clear hxe hye HE
          have hself2 : (x != x) = false := by simp
          go_wp2_with fail
          go_quiet (fail)
          go_wp2
          go_roundw
          case rel => exact ⟨j, by omega, by go_num, Lib.hid (by repeat (first | exact HB.out | exact HBq.out | apply below_drewN)), HE2⟩
          case measure => simp only [intOf]; omega
        · have HE2 : Hid (cmL xs ys = cmp3 x y) := Lib.hid (by rw [HE.out, cmF_ne (by rw [← hxe, ← hye]; exact he), hxe, hye])
          clear hxe hye HE
          have hne : (x != y) = true := by simpa using he
          go_wp2_with fail
          go_region
          obtain ⟨w2, hw2⟩ : ∃ w2, w2 = wr.drew := ⟨_, rfl⟩
          rw [← hw2]
          have hx2 := keep_cell (hw2 ▸ Below.drew (Below.refl _ _) : Below wr.heap.size wr w2) hx
          have hy2 := keep_cell (hw2 ▸ Below.drew (Below.refl _ _) : Below wr.heap.size wr w2) hy
          have HBq : Hid (Below w.heap.size w w2) := Lib.hid (hw2 ▸ Below.drew HB.out)
          clear hw2
          go_wp2_with fail
          go_quiet ((go_at_call 112; exact Calls.quiet_of_same ((cmp_int64_any _ _ _).mono fun _ _ h => ⟨h.1, h.2.symm⟩)))
          go_wp2
          go_ret
          exact ⟨by rw [HE2.out]; rfl, (by repeat (first | exact HB.out | exact HBq.out | apply below_drewN))⟩
  · have HE0 : Hid (cmL xs ys = cmp3 (n : Int) (m : Int)) := Lib.hid (by unfold cmL; rw [if_neg (by rw [HL.out, HM.out]; exact hnm), HL.out, HM.out])
    have hne : ((n : Int) != (m : Int)) = true := bne_iff_ne.2 (by omega)
    go_enter Try.func67, Try.ntmps67
    go_wp2_with (go_at_call 111; refine (cmp_int_any _ _ _).mono ?_; rintro e w' ⟨rfl, rfl⟩)
    go_ret
    exact ⟨by rw [HE0.out]; rfl, Below.refl _ _⟩

def cpV (p : Int) (xs ys : List Int) : Int := if MOk p xs then (if MOk p ys then cmL xs ys else 0) else 0
def cpC (p : Int) (xs ys : List Int) : Int := if MOk p xs then (if MOk p ys then 0 else 1) else 1

set_option maxHeartbeats 1600000 in
theorem specComparePolynomials_any (p : Int) (A0 : Option Addr) (n0 c0 : Nat) (xs0 : List Int) (A1 : Option Addr) (n1 c1 : Nat) (xs1 : List Int) (w : World) (hr0 : Rd .i64 w A0 n0 c0 xs0) (hr1 : Rd .i64 w A1 n1 c1 xs1) :
    Calls Try.prog 23 #[.int .i64 p, .slice A0 n0 c0, .slice A1 n1 c1] w fun e w' => e = .returned (.tuple #[.int .i64 (cpV p xs0 xs1), .int .i64 (cpC p xs0 xs1)]) ∧ Below w.heap.size w w' := by
  by_cases h0 : MOk p xs0
  · by_cases h1 : MOk p xs1
    · have HE : Hid (cpV p xs0 xs1 = cmL xs0 xs1 ∧ cpC p xs0 xs1 = 0) := Lib.hid (by unfold cpV cpC; rw [if_pos h0, if_pos h0, if_pos h1, if_pos h1]; exact ⟨rfl, rfl⟩)
      have H0 := Lib.hid h0
      have H1 := Lib.hid h1
      have hn : n0 ≤ 9 := by have := h0.2.1; have := hr0.1; omega
      have hm : n1 ≤ 9 := by have := h1.2.1; have := hr1.1; omega
      have HR0 := Lib.hid hr0
      have HR1 := Lib.hid hr1
      clear hr0 hr1 h0 h1
      go_enter Try.func23, Try.ntmps23
      go_wp2_with (first | (go_at_call_of 61 (Value.slice A0 n0 c0); refine (specIsModular_yes _ _ _ _ _ _ HR0.out H0.out).mono ?_; rintro e w' ⟨rfl, rfl⟩) | (go_at_call_of 61 (Value.slice A1 n1 c1); refine (specIsModular_yes _ _ _ _ _ _ HR1.out H1.out).mono ?_; rintro e w' ⟨rfl, rfl⟩) | (go_at_call 66; refine (l09Compare_any _ _ _ _ _ _ _ _ _ HR0.out HR1.out hn hm).mono ?_; rintro e w2 ⟨rfl, hbc⟩; have HBC := Lib.hid hbc; clear hbc))
      go_ret2
      exact ⟨by rw [HE.out.1, HE.out.2]; rfl, HBC.out⟩
    · have HE : Hid (cpV p xs0 xs1 = 0 ∧ cpC p xs0 xs1 = 1) := Lib.hid (by unfold cpV cpC; rw [if_pos h0, if_pos h0, if_neg h1, if_neg h1]; exact ⟨rfl, rfl⟩)
      have H0 := Lib.hid h0
      have H1 := Lib.hid h1
      have HR0 := Lib.hid hr0
      have HR1 := Lib.hid hr1
      clear hr0 hr1 h0 h1
      go_enter Try.func23, Try.ntmps23
      go_wp2_with (first | (go_at_call_of 61 (Value.slice A0 n0 c0); refine (specIsModular_yes _ _ _ _ _ _ HR0.out H0.out).mono ?_; rintro e w' ⟨rfl, rfl⟩) | (go_at_call_of 61 (Value.slice A1 n1 c1); refine (specIsModular_no _ _ _ _ _ _ HR1.out H1.out).mono ?_; rintro e w' ⟨rfl, rfl⟩))
      go_ret2
      exact ⟨by rw [HE.out.1, HE.out.2]; rfl, Below.refl _ _⟩
  · have HE : Hid (cpV p xs0 xs1 = 0 ∧ cpC p xs0 xs1 = 1) := Lib.hid (by unfold cpV cpC; rw [if_neg h0, if_neg h0]; exact ⟨rfl, rfl⟩)
    have H0 := Lib.hid h0
    have HR0 := Lib.hid hr0
    clear hr0 hr1 h0
    go_enter Try.func23, Try.ntmps23
    go_wp2_with (first | (go_at_call 61; refine (specIsModular_no _ _ _ _ _ _ HR0.out H0.out).mono ?_; rintro e w' ⟨rfl, rfl⟩))
    go_ret2
    exact ⟨by rw [HE.out.1, HE.out.2]; rfl, Below.refl _ _⟩

set_option maxHeartbeats 1600000 in
theorem implComparePolynomials_any (p : Int) (A0 : Option Addr) (n0 c0 : Nat) (xs0 : List Int) (A1 : Option Addr) (n1 c1 : Nat) (xs1 : List Int) (w : World) (hr0 : Rd .i64 w A0 n0 c0 xs0) (hr1 : Rd .i64 w A1 n1 c1 xs1) :
    Calls Try.prog 24 #[.int .i64 p, .slice A0 n0 c0, .slice A1 n1 c1] w fun e w' => e = .returned (.tuple #[.int .i64 (cpV p xs0 xs1), .int .i64 (cpC p xs0 xs1)]) ∧ Below w.heap.size w w' := by
  by_cases h0 : MOk p xs0
  · by_cases h1 : MOk p xs1
    · have HE : Hid (cpV p xs0 xs1 = cmL xs0 xs1 ∧ cpC p xs0 xs1 = 0) := Lib.hid (by unfold cpV cpC; rw [if_pos h0, if_pos h0, if_pos h1, if_pos h1]; exact ⟨rfl, rfl⟩)
      have H0 := Lib.hid h0
      have H1 := Lib.hid h1
      have hn : n0 ≤ 9 := by have := h0.2.1; have := hr0.1; omega
      have hm : n1 ≤ 9 := by have := h1.2.1; have := hr1.1; omega
      have HR0 := Lib.hid hr0
      have HR1 := Lib.hid hr1
      clear hr0 hr1 h0 h1
      go_enter Try.func24, Try.ntmps24
      go_wp2_with (first | (go_at_call_of 63 (Value.slice A0 n0 c0); refine (implIsModular_yes _ _ _ _ _ _ (HR0.out) H0.out).mono ?_; rintro e v0 ⟨rfl, hb0⟩; have HB0 := Lib.hid hb0; clear hb0) | (go_at_call_of 63 (Value.slice A1 n1 c1); refine (implIsModular_yes _ _ _ _ _ _ (HR1.out.below HB0.out) H1.out).mono ?_; rintro e v1 ⟨rfl, hb1⟩; have HB1 := Lib.hid hb1; clear hb1) | (go_at_call 67; refine (comparePolynomials_any _ _ _ _ _ _ _ _ _ (HR0.out.below (bl_trans HB0.out HB1.out)) (HR1.out.below (bl_trans HB0.out HB1.out)) hn hm).mono ?_; rintro e w2 ⟨rfl, hbc⟩; have HBC := Lib.hid hbc; clear hbc))
      go_ret2
      exact ⟨by rw [HE.out.1, HE.out.2]; rfl, bl_trans (bl_trans HB0.out HB1.out) HBC.out⟩
    · have HE : Hid (cpV p xs0 xs1 = 0 ∧ cpC p xs0 xs1 = 1) := Lib.hid (by unfold cpV cpC; rw [if_pos h0, if_pos h0, if_neg h1, if_neg h1]; exact ⟨rfl, rfl⟩)
      have H0 := Lib.hid h0
      have H1 := Lib.hid h1
      have HR0 := Lib.hid hr0
      have HR1 := Lib.hid hr1
      clear hr0 hr1 h0 h1
      go_enter Try.func24, Try.ntmps24
      go_wp2_with (first | (go_at_call_of 63 (Value.slice A0 n0 c0); refine (implIsModular_yes _ _ _ _ _ _ (HR0.out) H0.out).mono ?_; rintro e v0 ⟨rfl, hb0⟩; have HB0 := Lib.hid hb0; clear hb0) | (go_at_call_of 63 (Value.slice A1 n1 c1); refine (implIsModular_no _ _ _ _ _ _ (HR1.out.below HB0.out) H1.out).mono ?_; rintro e v1 ⟨rfl, hb1⟩; have HB1 := Lib.hid hb1; clear hb1))
      go_ret2
      exact ⟨by rw [HE.out.1, HE.out.2]; rfl, bl_trans HB0.out HB1.out⟩
  · have HE : Hid (cpV p xs0 xs1 = 0 ∧ cpC p xs0 xs1 = 1) := Lib.hid (by unfold cpV cpC; rw [if_neg h0, if_neg h0]; exact ⟨rfl, rfl⟩)
    have H0 := Lib.hid h0
    have HR0 := Lib.hid hr0
    clear hr0 hr1 h0
    go_enter Try.func24, Try.ntmps24
    go_wp2_with (first | (go_at_call_of 63 (Value.slice A0 n0 c0); refine (implIsModular_no _ _ _ _ _ _ (HR0.out) H0.out).mono ?_; rintro e v0 ⟨rfl, hb0⟩; have HB0 := Lib.hid hb0; clear hb0))
    go_ret2
    exact ⟨by rw [HE.out.1, HE.out.2]; rfl, HB0.out⟩

set_option maxHeartbeats 4000000 in
theorem lawExactComparePolynomials (a0 : Int) (A1 : Option Addr) (n1 c1 : Nat) (xs1 : List Int) (A2 : Option Addr) (n2 c2 : Nat) (xs2 : List Int) (v cd : Int) (w : World) (hr1 : Rd .i64 w A1 n1 c1 xs1) (hn1 : n1 ≤ 1048576) (hr2 : Rd .i64 w A2 n2 c2 xs2) (hn2 : n2 ≤ 1048576)
    (hs : ∀ (B1 : Option Addr) (d1 : Nat) (B2 : Option Addr) (d2 : Nat) (w : World), Rd .i64 w B1 n1 d1 xs1 → Rd .i64 w B2 n2 d2 xs2 → Calls Try.prog 23 #[.int .i64 a0, .slice B1 n1 d1, .slice B2 n2 d2] w fun e w' => e = .returned (.tuple #[.int .i64 v, .int .i64 cd]) ∧ Below w.heap.size w w')
    (hi : ∀ (B1 : Option Addr) (d1 : Nat) (B2 : Option Addr) (d2 : Nat) (w : World), Rd .i64 w B1 n1 d1 xs1 → Rd .i64 w B2 n2 d2 xs2 → Calls Try.prog 24 #[.int .i64 a0, .slice B1 n1 d1, .slice B2 n2 d2] w fun e w' => e = .returned (.tuple #[.int .i64 v, .int .i64 cd]) ∧ Below w.heap.size w w') :
    Calls Try.prog 5 #[.int .i64 a0, .slice A1 n1 c1, .slice A2 n2 c2] w fun e w' => e = .returned (.bool true) ∧ Below w.heap.size w w' := by
  have HR1 := Lib.hid hr1
  have HR2 := Lib.hid hr2
  have HS := Lib.hid hs
  have HI := Lib.hid hi
  have HB0 := Lib.hid (Below.refl w.heap.size w)
  clear hs hi hr1 hr2
  go_enter Try.func5, Try.ntmps5
  go_wp2_with fail
  refine (toInt64S_any _ _ _ _ _ (HR1.out.below HB0.out) hn1).mono ?_
  rintro e w1 ⟨rfl, ho0, hb⟩
  have HB1 := Lib.hid (bl_trans HB0.out hb)
  have G_s1 : Hid (∀ k, rowOf _ _ = some k → w.heap.size ≤ k) := Lib.hid (fun k hk => Nat.le_trans HB0.out.size ((OwnC.row_ge (OwnI.of_row ho0)) k hk).1)
  have O_s1_1 := Lib.hid (OwnI.of_row ho0)
  clear hb ho0
  go_wp2_with fail
  refine (toInt64S_any _ _ _ _ _ (HR2.out.below HB1.out) hn2).mono ?_
  rintro e w2 ⟨rfl, ho0, hb⟩
  have HB2 := Lib.hid (bl_trans HB1.out hb)
  have S_s1_s2 := Lib.hid (own_sep O_s1_1.out (OwnI.of_row ho0) (Nat.le_refl _))
  have O_s1_2 := Lib.hid (O_s1_1.out.below hb)
  have G_s2 : Hid (∀ k, rowOf _ _ = some k → w.heap.size ≤ k) := Lib.hid (fun k hk => Nat.le_trans HB1.out.size ((OwnC.row_ge (OwnI.of_row ho0)) k hk).1)
  have O_s2_2 := Lib.hid (OwnI.of_row ho0)
  clear hb HB1 O_s1_1 ho0
  go_wp2_with fail
  refine (HS.out _ _ _ _ _ O_s1_2.out.rd O_s2_2.out.rd).mono ?_
  rintro e w3 ⟨rfl, hb⟩
  have HB3 := Lib.hid (bl_trans HB2.out hb)
  have O_s1_3 := Lib.hid (O_s1_2.out.below hb)
  have O_s2_3 := Lib.hid (O_s2_2.out.below hb)
  clear hb HB2 O_s1_2 O_s2_2
  clear O_s1_3
  clear O_s2_3
  go_wp2_with fail
  refine (toInt64S_any _ _ _ _ _ (HR1.out.below HB3.out) hn1).mono ?_
  rintro e w4 ⟨rfl, ho0, hb⟩
  have HB4 := Lib.hid (bl_trans HB3.out hb)
  have G_x1 : Hid (∀ k, rowOf _ _ = some k → w.heap.size ≤ k) := Lib.hid (fun k hk => Nat.le_trans HB3.out.size ((OwnC.row_ge (OwnI.of_row ho0)) k hk).1)
  have O_x1_4 := Lib.hid (OwnI.of_row ho0)
  clear hb HB3 ho0
  go_wp2_with fail
  refine (toInt64S_any _ _ _ _ _ (HR2.out.below HB4.out) hn2).mono ?_
  rintro e w5 ⟨rfl, ho0, hb⟩
  have HB5 := Lib.hid (bl_trans HB4.out hb)
  have S_x1_x2 := Lib.hid (own_sep O_x1_4.out (OwnI.of_row ho0) (Nat.le_refl _))
  have O_x1_5 := Lib.hid (O_x1_4.out.below hb)
  have G_x2 : Hid (∀ k, rowOf _ _ = some k → w.heap.size ≤ k) := Lib.hid (fun k hk => Nat.le_trans HB4.out.size ((OwnC.row_ge (OwnI.of_row ho0)) k hk).1)
  have O_x2_5 := Lib.hid (OwnI.of_row ho0)
  clear hb HB4 O_x1_4 ho0
  go_wp2_with fail
  refine (HI.out _ _ _ _ _ O_x1_5.out.rd O_x2_5.out.rd).mono ?_
  rintro e w6 ⟨rfl, hb⟩
  have HB6 := Lib.hid (bl_trans HB5.out hb)
  have O_x1_6 := Lib.hid (O_x1_5.out.below hb)
  have O_x2_6 := Lib.hid (O_x2_5.out.below hb)
  clear hb HB5 O_x1_5 O_x2_5
  go_wp2_with fail
  refine (toInt64S_any _ _ _ _ _ (HR1.out.below HB6.out) hn1).mono ?_
  rintro e w7 ⟨rfl, ho0, hb⟩
  have HB7 := Lib.hid (bl_trans HB6.out hb)
  have S_x1_t1 := Lib.hid (own_sep O_x1_6.out (OwnI.of_row ho0) (Nat.le_refl _))
  have S_x2_t1 := Lib.hid (own_sep O_x2_6.out (OwnI.of_row ho0) (Nat.le_refl _))
  have O_x1_7 := Lib.hid (O_x1_6.out.below hb)
  have O_x2_7 := Lib.hid (O_x2_6.out.below hb)
  have G_t1 : Hid (∀ k, rowOf _ _ = some k → w.heap.size ≤ k) := Lib.hid (fun k hk => Nat.le_trans HB6.out.size ((OwnC.row_ge (OwnI.of_row ho0)) k hk).1)
  have O_t1_7 := Lib.hid (OwnI.of_row ho0)
  clear hb HB6 O_x1_6 O_x2_6 ho0
  go_wp2_with fail
  refine ((eqInt64S_any _ _ _ _ _ _ _ O_x1_7.out.rd O_t1_7.out.rd).mono fun _ _ h => drawn_below h).mono ?_
  rintro e w8 ⟨rfl, hb⟩
  have HB8 := Lib.hid (bl_trans HB7.out hb)
  have O_x1_8 := Lib.hid (O_x1_7.out.below hb)
  have O_x2_8 := Lib.hid (O_x2_7.out.below hb)
  have O_t1_8 := Lib.hid (O_t1_7.out.below hb)
  clear hb HB7 O_x1_7 O_x2_7 O_t1_7
  clear O_t1_8
  go_wp2_with fail
  refine (toInt64S_any _ _ _ _ _ (HR2.out.below HB8.out) hn2).mono ?_
  rintro e w9 ⟨rfl, ho0, hb⟩
  have HB9 := Lib.hid (bl_trans HB8.out hb)
  have S_x1_t2 := Lib.hid (own_sep O_x1_8.out (OwnI.of_row ho0) (Nat.le_refl _))
  have S_x2_t2 := Lib.hid (own_sep O_x2_8.out (OwnI.of_row ho0) (Nat.le_refl _))
  have O_x1_9 := Lib.hid (O_x1_8.out.below hb)
  have O_x2_9 := Lib.hid (O_x2_8.out.below hb)
  have G_t2 : Hid (∀ k, rowOf _ _ = some k → w.heap.size ≤ k) := Lib.hid (fun k hk => Nat.le_trans HB8.out.size ((OwnC.row_ge (OwnI.of_row ho0)) k hk).1)
  have O_t2_9 := Lib.hid (OwnI.of_row ho0)
  clear hb HB8 O_x1_8 O_x2_8 ho0
  go_wp2_with fail
  refine ((eqInt64S_any _ _ _ _ _ _ _ O_x2_9.out.rd O_t2_9.out.rd).mono fun _ _ h => drawn_below h).mono ?_
  rintro e w10 ⟨rfl, hb⟩
  have HB10 := Lib.hid (bl_trans HB9.out hb)
  have O_x1_10 := Lib.hid (O_x1_9.out.below hb)
  have O_x2_10 := Lib.hid (O_x2_9.out.below hb)
  have O_t2_10 := Lib.hid (O_t2_9.out.below hb)
  clear hb HB9 O_x1_9 O_x2_9 O_t2_9
  clear O_t2_10
  go_wp2
  go_ret
  exact ⟨rfl, HB10.out⟩

theorem walkExactComparePolynomials (a0 : Int) (A1 : Option Addr) (n1 c1 : Nat) (xs1 : List Int) (A2 : Option Addr) (n2 c2 : Nat) (xs2 : List Int) (w : World) (_ : (Lit.int .i64 a0).wf = true) (hr1 : IsRow .i64 w A1 n1 c1 xs1) (hr2 : IsRow .i64 w A2 n2 c2 xs2) :
    Calls Try.prog 5 #[.int .i64 a0, .slice A1 n1 c1, .slice A2 n2 c2] w fun e w' => e = .returned (.bool true) ∧ Below w.heap.size w w' := by
  have hm1 := hr1.2.1
  have hc1 := hr1.1
  unfold maxLen at hm1
  have R1 := Lib.hid hr1.rd
  clear hr1
  have hm2 := hr2.2.1
  have hc2 := hr2.1
  unfold maxLen at hm2
  have R2 := Lib.hid hr2.rd
  clear hr2
  by_cases hn1 : n1 ≤ 1048576
  · by_cases hn2 : n2 ≤ 1048576
    · exact lawExactComparePolynomials a0 A1 n1 c1 xs1 A2 n2 c2 xs2 (cpV a0 xs1 xs2) (cpC a0 xs1 xs2)  w R1.out hn1 R2.out hn2 
        (fun _ _ _ _ _ h h2 => specComparePolynomials_any _ _ _ _ _ _ _ _ _ _ h h2)
        (fun _ _ _ _ _ h h2 => implComparePolynomials_any _ _ _ _ _ _ _ _ _ _ h h2)
    · go_enter Try.func5, Try.ntmps5
      go_wp2
      go_ret
      exact ⟨rfl, Below.refl _ _⟩
  · go_enter Try.func5, Try.ntmps5
    go_wp2
    go_ret
    exact ⟨rfl, Below.refl _ _⟩

end Go.Proofs.Ytjipalcceflkfaa