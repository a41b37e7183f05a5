/- The walks of Bezout's functions. -/
import Derived.Test.YtjipalcceflkfaaGcd
namespace Go.Proofs.Ytjipalcceflkfaa
open Go.RowKit

/-- the loop of Bezout, with fuel: r, x, y behind it -/
def bezF : Nat → Int → Int → Int → Int → Int → Int → Int × Int × Int
  | 0, r, x, y, _, _, _ => (r, x, y)
  | f + 1, r, x, y, s, u, v => if s = 0 then (r, x, y) else bezF f s u v (r.tmod s) (wrap64 (x - wrap64 (r.tdiv s * u))) (wrap64 (y - wrap64 (r.tdiv s * v)))
def bez (a b : Int) : Int × Int × Int := bezF (b.natAbs + 1) a 1 0 b 0 1
theorem bezF_done (f : Nat) (r x y u v : Int) : bezF f r x y 0 u v = (r, x, y) := by cases f <;> simp [bezF]
theorem bezF_step {f : Nat} {r x y s u v : Int} (h : ¬ s = 0) (hf : s.natAbs < f) :
    ∃ g, (r.tmod s).natAbs < g ∧ bezF f r x y s u v = bezF g s u v (r.tmod s) (wrap64 (x - wrap64 (r.tdiv s * u))) (wrap64 (y - wrap64 (r.tdiv s * v))) := by
  obtain ⟨g, rfl⟩ : ∃ g, f = g + 1 := ⟨f - 1, by omega⟩
  refine ⟨g, ?_, ?_⟩
  · have := tmod_dec r s h
    generalize (r.tmod s).natAbs = t at *
    omega
  · conv => lhs; unfold bezF
    rw [if_neg h]
/-- x, y as they are handed back -/
def bezX (a b : Int) : Int := if (bez a b).1 < 0 then wrap64 (-(bez a b).2.1) else (bez a b).2.1
def bezY (a b : Int) : Int := if (bez a b).1 < 0 then wrap64 (-(bez a b).2.2) else (bez a b).2.2

theorem quo_bd (r s : Int) (h1 : -1000000000000 ≤ r) (h2 : r ≤ 1000000000000) :
    (-1000000000000 ≤ r.tdiv s ∧ r.tdiv s ≤ 1000000000000) ∧ (-2000000000000 ≤ r.tdiv s * s ∧ r.tdiv s * s ≤ 2000000000000) ∧ r - r.tdiv s * s = r.tmod s := by
  have h3 : (r.tdiv s).natAbs ≤ r.natAbs := by rw [Int.natAbs_tdiv]; exact Nat.div_le_self _ _
  have h4 := Int.tmod_add_mul_tdiv r s
  have h5 := tmod_lo r s h1 h2
  rw [Int.mul_comm] at h4
  generalize r.tdiv s * s = X at *
  generalize r.tdiv s = Q at *
  generalize r.tmod s = M at *
  omega
theorem val_int {a b : Int} (h : a = b) : Value.int .i64 a = .int .i64 b := by rw [h]
theorem ret_int2 {k l : IntKind} {a b c d : Int} (h : a = b) (h2 : c = d) : Ending.returned (.tuple #[.int k a, .int l c]) = .returned (.tuple #[.int k b, .int l d]) := by rw [h, h2]
theorem ret_int3 {k l m : IntKind} {a b c d e f : Int} (h : a = b) (h2 : c = d) (h3 : e = f) : Ending.returned (.tuple #[.int k a, .int l c, .int m e]) = .returned (.tuple #[.int k b, .int l d, .int m f]) := by rw [h, h2, h3]
theorem bez_neg {a b r x y : Int} (h : bez a b = (r, x, y)) (hr : r < 0) : wrap64 (-x) = bezX a b ∧ wrap64 (-y) = bezY a b := by
  simp only [bezX, bezY, h]; rw [if_pos hr, if_pos hr]; exact ⟨rfl, rfl⟩
theorem bez_pos {a b r x y : Int} (h : bez a b = (r, x, y)) (hr : ¬ r < 0) : x = bezX a b ∧ y = bezY a b := by
  simp only [bezX, bezY, h]; rw [if_neg hr, if_neg hr]; exact ⟨rfl, rfl⟩

set_option maxHeartbeats 400000 in
theorem l01Bezout_any (a b : Int) (ha : V a) (hb : V b) (w : World) :
    Calls Try.prog 103 #[.int .i64 a, .int .i64 b] w fun e w' => e = .returned (.tuple #[.int .i64 (bezX a b), .int .i64 (bezY a b)]) ∧ w = w' := by
  obtain ⟨ha1, ha2⟩ := ha
  obtain ⟨hb1, hb2⟩ := hb
  go_enter Try.func103, Try.ntmps103
  go_wp2
  go_loop [6,7,8,9,10,11,12] (fun R X Y S U VV _ => ∃ r x y s u v : Int, -1000000000000 ≤ r ∧ r ≤ 1000000000000 ∧ -1000000000000 ≤ s ∧ s ≤ 1000000000000 ∧ R = .int .i64 r ∧ X = .int .i64 x ∧ Y = .int .i64 y ∧ S = .int .i64 s ∧ U = .int .i64 u ∧ VV = .int .i64 v ∧ Hid (∃ f, s.natAbs < f ∧ bezF f r x y s u v = bez a b)) (fun _ _ _ s _ _ _ => (intOf s).natAbs)
  case atStart => exact ⟨a, 1, 0, b, 0, 1, ha1, ha2, hb1, hb2, rfl, rfl, rfl, rfl, rfl, rfl, Lib.hid ⟨b.natAbs + 1, by omega, rfl⟩⟩
  case round =>
    obtain ⟨r, x, y, s, u, v, h1, h2, h3, h4, rfl, rfl, rfl, rfl, rfl, rfl, HB⟩ := hrel
    by_cases hz : s = 0
    · subst hz
      have HX : Hid (bez a b = (r, x, y)) := Lib.hid (by obtain ⟨f, _, hf⟩ := HB.out; rw [← hf, bezF_done])
      by_cases hr : r < 0
      all_goals
        go_wp2
        go_ret2
        first | exact ⟨ret_int2 (bez_neg HX.out hr).1 (bez_neg HX.out hr).2, rfl⟩ | exact ⟨ret_int2 (bez_pos HX.out (by omega)).1 (bez_pos HX.out (by omega)).2, rfl⟩
    · have hne : (s != 0) = true := by simpa using hz
      have ⟨⟨q1, q2⟩, ⟨q3, q4⟩, q5⟩ := quo_bd r s h1 h2
      have Q5 := Lib.hid q5
      have ⟨t1, t2⟩ := tmod_lo r s h1 h2
      have q6 : -1000000000000 ≤ r - r.tdiv s * s := by rw [q5]; exact t1
      have q7 : r - r.tdiv s * s ≤ 1000000000000 := by rw [q5]; exact t2
      have HT := Lib.hid (tmod_dec r s hz)
      clear q5
      have HB2 : Hid (∃ f, (r.tmod s).natAbs < f ∧ bezF f s u v (r.tmod s) (wrap64 (x - wrap64 (r.tdiv s * u))) (wrap64 (y - wrap64 (r.tdiv s * v))) = bez a b) := Lib.hid (by
        obtain ⟨f, hf, e⟩ := HB.out
        obtain ⟨g, hg, e2⟩ := bezF_step (r := r) (x := x) (y := y) (u := u) (v := v) hz hf
        exact ⟨g, hg, e2.symm.trans e⟩)
      clear HB
      go_wp2
      go_round
      case rel => exact ⟨s, u, v, r.tmod s, _, _, h3, h4, t1, t2, rfl, rfl, rfl, val_int Q5.out, rfl, rfl, HB2⟩
      case measure => rw [Q5.out]; exact HT.out

set_option maxHeartbeats 800000 in
theorem implBezout_yes (a b : Int) (ha : V a) (hb : V b) (w : World) :
    Calls Try.prog 51 #[.int .i64 a, .int .i64 b] w fun e w' => e = .returned (.tuple #[.int .i64 (bezX a b), .int .i64 (bezY a b), .int .i64 0]) ∧ w = w' := by
  obtain ⟨ha1, ha2⟩ := ha
  obtain ⟨hb1, hb2⟩ := hb
  go_enter Try.func51, Try.ntmps51
  go_wp2_with (go_at_call 94; refine (isValue_any _ _).mono ?_; rintro e w' ⟨rfl, rfl⟩)
  go_loop [7,8,9,10,11,12,13] (fun R X Y S U VV _ => ∃ r x y s u v : Int, -1000000000000 ≤ r ∧ r ≤ 1000000000000 ∧ -1000000000000 ≤ s ∧ s ≤ 1000000000000 ∧ R = .int .i64 r ∧ X = .int .i64 x ∧ Y = .int .i64 y ∧ S = .int .i64 s ∧ U = .int .i64 u ∧ VV = .int .i64 v ∧ Hid (∃ f, s.natAbs < f ∧ bezF f r x y s u v = bez a b)) (fun _ _ _ s _ _ _ => (intOf s).natAbs)
  case atStart => exact ⟨a, 1, 0, b, 0, 1, ha1, ha2, hb1, hb2, rfl, rfl, rfl, rfl, rfl, rfl, Lib.hid ⟨b.natAbs + 1, by omega, rfl⟩⟩
  case round =>
    obtain ⟨r, x, y, s, u, v, h1, h2, h3, h4, rfl, rfl, rfl, rfl, rfl, rfl, HB⟩ := hrel
    by_cases hz : s = 0
    · subst hz
      have HX : Hid (bez a b = (r, x, y)) := Lib.hid (by obtain ⟨f, _, hf⟩ := HB.out; rw [← hf, bezF_done])
      by_cases hr : r < 0
      all_goals
        go_wp2
        go_ret3
        first | exact ⟨ret_int3 (bez_neg HX.out hr).1 (bez_neg HX.out hr).2 rfl, rfl⟩ | exact ⟨ret_int3 (bez_pos HX.out (by omega)).1 (bez_pos HX.out (by omega)).2 rfl, rfl⟩
    · have hne : (s != 0) = true := by simpa using hz
      have ⟨⟨q1, q2⟩, ⟨q3, q4⟩, q5⟩ := quo_bd r s h1 h2
      have Q5 := Lib.hid q5
      have ⟨t1, t2⟩ := tmod_lo r s h1 h2
      have q6 : -1000000000000 ≤ r - r.tdiv s * s := by rw [q5]; exact t1
      have q7 : r - r.tdiv s * s ≤ 1000000000000 := by rw [q5]; exact t2
      have HT := Lib.hid (tmod_dec r s hz)
      clear q5
      have HB2 : Hid (∃ f, (r.tmod s).natAbs < f ∧ bezF f s u v (r.tmod s) (wrap64 (x - wrap64 (r.tdiv s * u))) (wrap64 (y - wrap64 (r.tdiv s * v))) = bez a b) := Lib.hid (by
        obtain ⟨f, hf, e⟩ := HB.out
        obtain ⟨g, hg, e2⟩ := bezF_step (r := r) (x := x) (y := y) (u := u) (v := v) hz hf
        exact ⟨g, hg, e2.symm.trans e⟩)
      clear HB
      go_wp2
      go_round
      case rel => exact ⟨s, u, v, r.tmod s, _, _, h3, h4, t1, t2, rfl, rfl, rfl, val_int Q5.out, rfl, rfl, HB2⟩
      case measure => rw [Q5.out]; exact HT.out

theorem implBezout_no (a b : Int) (h : ¬ (V a ∧ V b)) (w : World) :
    Calls Try.prog 51 #[.int .i64 a, .int .i64 b] w fun e w' => e = .returned (.tuple #[.int .i64 0, .int .i64 0, .int .i64 2]) ∧ w = w' := by
  by_cases ha : V a
  · have hb := V_dec (fun hb => h ⟨ha, hb⟩)
    obtain ⟨ha1, ha2⟩ := ha
    clear h
    go_enter Try.func51, Try.ntmps51
    go_wp2_with (go_at_call 94; refine (isValue_any _ _).mono ?_; rintro e w' ⟨rfl, rfl⟩)
    go_ret3
    exact ⟨rfl, rfl⟩
  · have ha2 := V_dec ha
    clear h ha
    go_enter Try.func51, Try.ntmps51
    go_wp2_with (go_at_call 94; refine (isValue_any _ _).mono ?_; rintro e w' ⟨rfl, rfl⟩)
    go_ret3
    exact ⟨rfl, rfl⟩

theorem specBezout_yes (a b : Int) (ha : V a) (hb : V b) (w : World) :
    Calls Try.prog 52 #[.int .i64 a, .int .i64 b] w fun e w' => e = .returned (.tuple #[.int .i64 (bezX a b), .int .i64 (bezY a b), .int .i64 0]) ∧ w = w' := by
  have HA := Lib.hid ha
  have HB := Lib.hid hb
  obtain ⟨ha1, ha2⟩ := ha
  obtain ⟨hb1, hb2⟩ := hb
  go_enter Try.func52, Try.ntmps52
  go_wp2_with (first | (go_at_call 87; refine (l01Is_any _ _).mono ?_; rintro e w' ⟨rfl, rfl⟩) | (go_at_call 103; refine (l01Bezout_any _ _ HA.out HB.out _).mono ?_; rintro e w' ⟨rfl, rfl⟩))
  go_ret3
  exact ⟨rfl, rfl⟩

theorem specBezout_no (a b : Int) (h : ¬ (V a ∧ V b)) (w : World) :
    Calls Try.prog 52 #[.int .i64 a, .int .i64 b] w fun e w' => e = .returned (.tuple #[.int .i64 0, .int .i64 0, .int .i64 2]) ∧ w = w' := by
  by_cases ha : V a
  · have hb := V_dec (fun hb => h ⟨ha, hb⟩)
    obtain ⟨ha1, ha2⟩ := ha
    clear h
    go_enter Try.func52, Try.ntmps52
    go_wp2_with (go_at_call 87; refine (l01Is_any _ _).mono ?_; rintro e w' ⟨rfl, rfl⟩)
    go_ret3
    exact ⟨rfl, rfl⟩
  · have ha2 := V_dec ha
    clear h ha
    go_enter Try.func52, Try.ntmps52
    go_wp2_with (go_at_call 87; refine (l01Is_any _ _).mono ?_; rintro e w' ⟨rfl, rfl⟩)
    go_ret3
    exact ⟨rfl, rfl⟩
end Go.Proofs.Ytjipalcceflkfaa
