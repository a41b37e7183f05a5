
/- The walks of RationalValuation, and of the law over it. -/
import Derived.Test.YthdmanngjnfamaaRatEq
import Derived.Test.YthdmanngjnfamaaVal
import Derived.Test.YthdmanngjnfamaaSmallP
import Derived.Deep.QuietTactic
import Derived.BigQuiet
import Derived.Deep.RegionWith
namespace Go.Proofs.Ythdmanngjnfamaa
open Go.RowKit

open Classical in
/-- what RationalValuation returns -/
noncomputable def rvR (n d p : Int) : Int × Int := if QOk n d ∧ SP p then (if n = 0 then (0, 5) else ((vl n p : Int) - vl d p, 0)) else (0, 1)
theorem l01Val_at (n p : Int) (x : Nat) (hx : x = vl n p) (hn : n ≠ 0) (hV : V n) (hp : 2 ≤ p) (hp2 : p ≤ 97) (w : World) :
    Calls Try.prog 91 #[.int .i64 n, .int .i64 p] w fun e w' => e = .returned (.int .i64 x) ∧ w = w' := by
  subst hx; exact l01Valuation_any n p hn hV hp hp2 w
theorem val_at (n p : Int) (x : Nat) (hx : x = vl n p) (hn : n ≠ 0) (hV : V n) (hp : 2 ≤ p) (hp2 : p ≤ 97) (w : World) :
    Calls Try.prog 89 #[.int .i64 n, .int .i64 p] w fun e w' => e = .returned (.int .i64 x) ∧ w = w' := by
  subst hx; exact valuation_any n p hn hV hp hp2 w

set_option maxRecDepth 100000 in
set_option maxHeartbeats 800000 in
theorem specRationalValuation_any (n d p : Int) (w : World) :
    Calls Try.prog 28 #[.agg #[.int .i64 n, .int .i64 d], .int .i64 p] w fun e w' => e = .returned (.tuple #[.int .i64 (rvR n d p).1, .int .i64 (rvR n d p).2]) ∧ Below w.heap.size w w' := by
  by_cases hq : QOk n d
  · by_cases hp : SP p
    · by_cases hn : n = 0
      · have HE : Hid (rvR n d p = (0, 5)) := Lib.hid (by unfold rvR; rw [if_pos ⟨hq, hp⟩, if_pos hn])
        have HQ := Lib.hid hq
        have HP := Lib.hid hp
        clear hq hp
        subst hn
        go_enter Try.func28, Try.ntmps28
        go_wp2_with (first | (go_at_call 30; refine (specIsRational_yes _ _ HQ.out _).mono ?_; rintro e w1 ⟨rfl, hb1⟩; obtain ⟨hc, hz1, hb1'⟩ := cell_al hb1; have c0 := hc 0; have c1 := hc 1; simp at c0 c1; have HB := Lib.hid hb1'; clear hc hb1 hb1' hz1) | (go_at_call 90; refine (l01Small_yes _ HP.out _).mono ?_; rintro e w' ⟨rfl, rfl⟩))
        go_ret2
        exact ⟨by rw [HE.out]; rfl, HB.out⟩
      · have HE : Hid (rvR n d p = ((vl n p : Int) - vl d p, 0)) := Lib.hid (by unfold rvR; rw [if_pos ⟨hq, hp⟩, if_neg hn])
        have HQ := Lib.hid hq
        have HP := Lib.hid hp
        have HN := Lib.hid hn
        have hn2 : (n == 0) = false := by simpa using hn
        have HD : Hid (d ≠ 0 ∧ V d) := Lib.hid (by have := hq.2.1; have := hq.2.2.1; unfold V; omega)
        have v1 := vl_39 hn hp.2.1 hq.1
        have v2 := vl_39 HD.out.1 hp.2.1 HD.out.2
        obtain ⟨x, hx⟩ : ∃ x, x = vl n p := ⟨_, rfl⟩
        obtain ⟨y, hy⟩ : ∃ y, y = vl d p := ⟨_, rfl⟩
        rw [← hx] at v1
        rw [← hy] at v2
        have hw : IntKind.i64.wrap ((x : Int) - (y : Int)) = (x : Int) - (y : Int) := IntWalk.i64_in _ (by omega)
        have HX := Lib.hid hx
        have HY := Lib.hid hy
        have HE2 : Hid (rvR n d p = ((x : Int) - (y : Int), 0)) := Lib.hid (by rw [hx, hy]; exact HE.out)
        clear hq hp hn hx hy HE v1 v2
        go_enter Try.func28, Try.ntmps28
        go_wp2_with (first | (go_at_call 30; refine (specIsRational_yes _ _ HQ.out _).mono ?_; rintro e w1 ⟨rfl, hb1⟩; obtain ⟨hc, hz1, hb1'⟩ := cell_al hb1; have c0 := hc 0; have c1 := hc 1; simp at c0 c1; have HB := Lib.hid hb1'; clear hc hb1 hb1' hz1) | (go_at_call 90; refine (l01Small_yes _ HP.out _).mono ?_; rintro e w' ⟨rfl, rfl⟩))
        go_quiet (first | ((go_at_call_of 91 (Value.int .i64 n); exact Calls.quiet_of_same ((l01Val_at n p x HX.out HN.out HQ.out.1 HP.out.2.1 HP.out.1 _).mono fun _ _ h => ⟨h.1, h.2.symm⟩))) | ((go_at_call_of 91 (Value.int .i64 d); exact Calls.quiet_of_same ((l01Val_at d p y HY.out HD.out.1 HD.out.2 HP.out.2.1 HP.out.1 _).mono fun _ _ h => ⟨h.1, h.2.symm⟩))))
        go_wp2
        go_ret2
        exact ⟨by rw [HE2.out]; rfl, below_drewN HB.out _⟩
    · have HE : Hid (rvR n d p = (0, 1)) := Lib.hid (by unfold rvR; rw [if_neg (fun h => hp h.2)])
      have HQ := Lib.hid hq
      have HP := Lib.hid hp
      clear hq hp
      go_enter Try.func28, Try.ntmps28
      go_wp2_with (first | (go_at_call 30; refine (specIsRational_yes _ _ HQ.out _).mono ?_; rintro e w1 ⟨rfl, hb1⟩; obtain ⟨hc, hz1, hb1'⟩ := cell_al hb1; have c0 := hc 0; have c1 := hc 1; simp at c0 c1; have HB := Lib.hid hb1'; clear hc hb1 hb1' hz1) | (go_at_call 90; refine (l01Small_no _ HP.out _).mono ?_; rintro e w' ⟨rfl, rfl⟩))
      go_ret2
      exact ⟨by rw [HE.out]; rfl, HB.out⟩
  · have HE : Hid (rvR n d p = (0, 1)) := Lib.hid (by unfold rvR; rw [if_neg (fun h => hq h.1)])
    have HQ := Lib.hid hq
    clear hq
    go_enter Try.func28, Try.ntmps28
    go_wp2_with (first | (go_at_call 30; refine (specIsRational_no _ _ HQ.out _).mono ?_; rintro e w1 ⟨rfl, hb1⟩; obtain ⟨hc, hz1, hb1'⟩ := cell_al hb1; have c0 := hc 0; have c1 := hc 1; simp at c0 c1; have HB := Lib.hid hb1'; clear hc hb1 hb1' hz1))
    go_ret2
    exact ⟨by rw [HE.out]; rfl, HB.out⟩

set_option maxRecDepth 100000 in
set_option maxHeartbeats 800000 in
theorem implRationalValuation_any (n d p : Int) (w : World) :
    Calls Try.prog 27 #[.agg #[.int .i64 n, .int .i64 d], .int .i64 p] w fun e w' => e = .returned (.tuple #[.int .i64 (rvR n d p).1, .int .i64 (rvR n d p).2]) ∧ Below w.heap.size w w' := by
  by_cases hq : QOk n d
  · by_cases hp : SP p
    · by_cases hn : n = 0
      · have HE : Hid (rvR n d p = (0, 5)) := Lib.hid (by unfold rvR; rw [if_pos ⟨hq, hp⟩, if_pos hn])
        have HQ := Lib.hid hq
        have HP := Lib.hid hp
        clear hq hp
        subst hn
        go_enter Try.func27, Try.ntmps27
        go_wp2_with (first | (go_at_call 29; refine (implIsRational_yes _ _ HQ.out _).mono ?_; rintro e w1 ⟨rfl, hb1⟩; obtain ⟨hc, hz1, hb1'⟩ := cell_al hb1; have c0 := hc 0; have c1 := hc 1; simp at c0 c1; have HB := Lib.hid hb1'; clear hc hb1 hb1' hz1) | (go_at_call 88; refine (isSmallPrime_yes _ HP.out _).mono ?_; rintro e w' ⟨rfl, rfl⟩))
        go_ret2
        exact ⟨by rw [HE.out]; rfl, HB.out⟩
      · have HE : Hid (rvR n d p = ((vl n p : Int) - vl d p, 0)) := Lib.hid (by unfold rvR; rw [if_pos ⟨hq, hp⟩, if_neg hn])
        have HQ := Lib.hid hq
        have HP := Lib.hid hp
        have HN := Lib.hid hn
        have hn2 : (n == 0) = false := by simpa using hn
        have HD : Hid (d ≠ 0 ∧ V d) := Lib.hid (by have := hq.2.1; have := hq.2.2.1; unfold V; omega)
        have v1 := vl_39 hn hp.2.1 hq.1
        have v2 := vl_39 HD.out.1 hp.2.1 HD.out.2
        obtain ⟨x, hx⟩ : ∃ x, x = vl n p := ⟨_, rfl⟩
        obtain ⟨y, hy⟩ : ∃ y, y = vl d p := ⟨_, rfl⟩
        rw [← hx] at v1
        rw [← hy] at v2
        have hw : IntKind.i64.wrap ((x : Int) - (y : Int)) = (x : Int) - (y : Int) := IntWalk.i64_in _ (by omega)
        have HX := Lib.hid hx
        have HY := Lib.hid hy
        have HE2 : Hid (rvR n d p = ((x : Int) - (y : Int), 0)) := Lib.hid (by rw [hx, hy]; exact HE.out)
        clear hq hp hn hx hy HE v1 v2
        go_enter Try.func27, Try.ntmps27
        go_wp2_with (first | (go_at_call 29; refine (implIsRational_yes _ _ HQ.out _).mono ?_; rintro e w1 ⟨rfl, hb1⟩; obtain ⟨hc, hz1, hb1'⟩ := cell_al hb1; have c0 := hc 0; have c1 := hc 1; simp at c0 c1; have HB := Lib.hid hb1'; clear hc hb1 hb1' hz1) | (go_at_call 88; refine (isSmallPrime_yes _ HP.out _).mono ?_; rintro e w' ⟨rfl, rfl⟩))
        go_quiet (first | ((go_at_call_of 89 (Value.int .i64 n); exact Calls.quiet_of_same ((val_at n p x HX.out HN.out HQ.out.1 HP.out.2.1 HP.out.1 _).mono fun _ _ h => ⟨h.1, h.2.symm⟩))) | ((go_at_call_of 89 (Value.int .i64 d); exact Calls.quiet_of_same ((val_at d p y HY.out HD.out.1 HD.out.2 HP.out.2.1 HP.out.1 _).mono fun _ _ h => ⟨h.1, h.2.symm⟩))))
        go_wp2
        go_ret2
        exact ⟨by rw [HE2.out]; rfl, below_drewN HB.out _⟩
    · have HE : Hid (rvR n d p = (0, 1)) := Lib.hid (by unfold rvR; rw [if_neg (fun h => hp h.2)])
      have HQ := Lib.hid hq
      have HP := Lib.hid hp
      clear hq hp
      go_enter Try.func27, Try.ntmps27
      go_wp2_with (first | (go_at_call 29; refine (implIsRational_yes _ _ HQ.out _).mono ?_; rintro e w1 ⟨rfl, hb1⟩; obtain ⟨hc, hz1, hb1'⟩ := cell_al hb1; have c0 := hc 0; have c1 := hc 1; simp at c0 c1; have HB := Lib.hid hb1'; clear hc hb1 hb1' hz1) | (go_at_call 88; refine (isSmallPrime_no _ HP.out _).mono ?_; rintro e w' ⟨rfl, rfl⟩))
      go_ret2
      exact ⟨by rw [HE.out]; rfl, HB.out⟩
  · have HE : Hid (rvR n d p = (0, 1)) := Lib.hid (by unfold rvR; rw [if_neg (fun h => hq h.1)])
    have HQ := Lib.hid hq
    clear hq
    go_enter Try.func27, Try.ntmps27
    go_wp2_with (first | (go_at_call 29; refine (implIsRational_no _ _ HQ.out _).mono ?_; rintro e w1 ⟨rfl, hb1⟩; obtain ⟨hc, hz1, hb1'⟩ := cell_al hb1; have c0 := hc 0; have c1 := hc 1; simp at c0 c1; have HB := Lib.hid hb1'; clear hc hb1 hb1' hz1))
    go_ret2
    exact ⟨by rw [HE.out]; rfl, HB.out⟩

end Go.Proofs.Ythdmanngjnfamaa