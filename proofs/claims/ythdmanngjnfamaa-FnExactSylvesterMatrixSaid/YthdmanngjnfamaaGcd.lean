
/- The walks of the common divisor's functions. -/
import Derived.Test.YthdmanngjnfamaaPrime
namespace Go.Proofs.Ythdmanngjnfamaa
open Go.RowKit

/-- what '!isValue(n)' and its kin answer -/
def V (n : Int) : Prop := -1000000000000 ≤ n ∧ n ≤ 1000000000000
theorem V_dec {n : Int} (h : ¬ V n) : (decide (-1000000000000 ≤ n) && decide (n ≤ 1000000000000)) = false := by
  unfold V at h; simp; omega

/-- within four times the values -/
def Wd (n : Int) : Prop := -4000000000000 ≤ n ∧ n ≤ 4000000000000
theorem V.wd {n : Int} (h : V n) : Wd n := by unfold V at h; unfold Wd; omega
theorem gcd_tmod (a b : Int) : Int.gcd b (a.tmod b) = Int.gcd a b := by
  unfold Int.gcd
  rw [Int.natAbs_tmod, Nat.gcd_comm a.natAbs, Nat.gcd_rec b.natAbs a.natAbs, Nat.gcd_comm]
theorem gcd_emod' (a b : Int) (ha : 0 ≤ a) : Int.gcd b (a % b) = Int.gcd a b := by
  rw [← Int.tmod_eq_emod_of_nonneg ha]; exact gcd_tmod a b
theorem tmod_lo (a b : Int) (h : -1000000000000 ≤ a) (h2 : a ≤ 1000000000000) : -1000000000000 ≤ a.tmod b ∧ a.tmod b ≤ 1000000000000 := by
  have h1 : (a.tmod b).natAbs ≤ a.natAbs := by rw [Int.natAbs_tmod]; exact Nat.mod_le _ _
  omega
theorem tmod_wd (a b : Int) (h : -4000000000000 ≤ a) (h2 : a ≤ 4000000000000) : -4000000000000 ≤ a.tmod b ∧ a.tmod b ≤ 4000000000000 := by
  have h1 : (a.tmod b).natAbs ≤ a.natAbs := by rw [Int.natAbs_tmod]; exact Nat.mod_le _ _
  omega
theorem tmod_dec (a b : Int) (hb : ¬ b = 0) : (a.tmod b).natAbs < b.natAbs := by
  rw [Int.natAbs_tmod]; exact Nat.mod_lt _ (by omega)
theorem gcd_zero (a : Int) : ((Int.gcd a 0 : Nat) : Int) = (a.natAbs : Int) := by simp [Int.gcd]
theorem gcd_abs (a b : Int) : Int.gcd (a.natAbs : Int) (b.natAbs : Int) = Int.gcd a b := by simp [Int.gcd]
theorem gcd_hi (a b : Int) (ha : V a) (hb : V b) : ((Int.gcd a b : Nat) : Int) ≤ 1000000000000 := by
  unfold V at *
  by_cases h : a = 0
  · subst h; simp [Int.gcd]; omega
  · have := Nat.le_of_dvd (by omega) (Nat.gcd_dvd_left a.natAbs b.natAbs)
    unfold Int.gcd; omega
theorem ret_int {k : IntKind} {a b : Int} (h : a = b) : Ending.returned (.int k a) = .returned (.int k b) := by rw [h]

theorem bl_alloc {w w' : World} (h : Below w.heap.size w w') (o : Obj) : Below w.heap.size w (w'.alloc o) := h.alloc h.size o
theorem bl_set {w w' : World} (h : Below w.heap.size w w') (b o : Nat) (hb : w.heap.size ≤ b) (v : Value) : Below w.heap.size w (w'.setCell ⟨b, o, none⟩ v) := h.setCell hb v
theorem bl_trans {w w1 w2 : World} (h : Below w.heap.size w w1) (h2 : Below w1.heap.size w1 w2) : Below w.heap.size w w2 := h.trans (h2.mono h.size)
theorem bcell {W w1 : World} (hb : Below W.heap.size W w1) : (∀ b o, b < W.heap.size → w1.cell? ⟨b, o, none⟩ = W.cell? ⟨b, o, none⟩) ∧ (∀ b o, b < W.heap.size → w1.frozen? ⟨b, o, none⟩ = W.frozen? ⟨b, o, none⟩) :=
  ⟨fun b o h => hb.cell (p := ⟨b, o, none⟩) h, fun b o h => hb.frozen (p := ⟨b, o, none⟩) h⟩
theorem bsize {W w1 : World} (hb : Below W.heap.size W w1) : W.heap.size ≤ w1.heap.size := hb.size

theorem cell_al {w w1 : World} {cs : Array Value} {T : TypeId} (hb : Below (w.alloc (.cells cs T)).heap.size (w.alloc (.cells cs T)) w1) :
    (∀ i, w1.cell? ⟨w.heap.size, i, none⟩ = cs[i]?) ∧ w.heap.size < w1.heap.size ∧ Below w.heap.size w w1 := by
  have hs : (w.alloc (.cells cs T)).heap.size = w.heap.size + 1 := by simp
  refine ⟨fun i => ?_, ?_, bl_trans (bl_alloc (Below.refl _ _) _) hb⟩
  · rw [hb.cell (p := ⟨w.heap.size, i, none⟩) (by rw [hs]; exact Nat.lt_succ_self _)]
    simp
  · have := hb.size; omega
theorem size_al {w w1 w2 : World} (h : w.heap.size < w1.heap.size) (hb : Below w1.heap.size w1 w2) : w.heap.size < w2.heap.size := Nat.lt_of_lt_of_le h hb.size

theorem block_lt_of_cell' {w : World} {b o : Nat} {v : Value} (h : w.cell? ⟨b, o, none⟩ = some v) : b < w.heap.size := by
  rcases Nat.lt_or_ge b w.heap.size with h1 | h1
  · exact h1
  · simp [World.cell?, Array.getElem?_eq_none h1] at h
theorem keep_cell {w0 w1 : World} (hb : Below w0.heap.size w0 w1) {b o : Nat} {v : Value} (h : w0.cell? ⟨b, o, none⟩ = some v) : w1.cell? ⟨b, o, none⟩ = some v :=
  (hb.cell (p := ⟨b, o, none⟩) (block_lt_of_cell' h)).trans h
theorem keep_fr {w0 w1 : World} (hb : Below w0.heap.size w0 w1) {b o : Nat} {v : Value} (h : w0.cell? ⟨b, o, none⟩ = some v) (f : w0.frozen? ⟨b, o, none⟩ = false) : w1.frozen? ⟨b, o, none⟩ = false :=
  (hb.frozen (p := ⟨b, o, none⟩) (block_lt_of_cell' h)).trans f

theorem l01Abs_any (n : Int) (hlo : -4611686018427387904 ≤ n) (hhi : n ≤ 4611686018427387904) (w : World) :
    Calls Try.prog 136 #[.int .i64 n] w fun e w' => e = .returned (.int .i64 n.natAbs) ∧ w = w' := by
  go_enter Try.func136, Try.ntmps136
  go_wp2
  all_goals
    go_ret
    exact ⟨ret_int (by omega), rfl⟩

theorem abs_any (n : Int) (hlo : -4611686018427387904 ≤ n) (hhi : n ≤ 4611686018427387904) (w : World) :
    Calls Try.prog 135 #[.int .i64 n] w fun e w' => e = .returned (.int .i64 n.natAbs) ∧ w = w' := by
  go_enter Try.func135, Try.ntmps135
  go_wp2
  all_goals
    go_ret
    exact ⟨ret_int (by omega), rfl⟩

theorem l01Is_any (n : Int) (w : World) :
    Calls Try.prog 85 #[.int .i64 n] w fun e w' => e = .returned (.bool (decide (-1000000000000 ≤ n) && decide (n ≤ 1000000000000))) ∧ w = w' := by
  go_enter Try.func85, Try.ntmps85
  go_wp2_with (first | (go_at_call 94; refine (l01In_any _ _ _ _).mono ?_; rintro e w' ⟨rfl, rfl⟩))
  go_ret
  exact ⟨rfl, rfl⟩

theorem isValue_any (n : Int) (w : World) :
    Calls Try.prog 84 #[.int .i64 n] w fun e w' => e = .returned (.bool (decide (-1000000000000 ≤ n) && decide (n ≤ 1000000000000))) ∧ w = w' := by
  go_enter Try.func84, Try.ntmps84
  go_wp2_with (first | (go_at_call 92; refine (within_any _ _ _ _).mono ?_; rintro e w' ⟨rfl, rfl⟩))
  go_ret
  exact ⟨rfl, rfl⟩

set_option maxHeartbeats 400000 in
theorem gcd_any (a b : Int) (ha : Wd a) (hb : Wd b) (w : World) :
    Calls Try.prog 93 #[.int .i64 a, .int .i64 b] w fun e w' => e = .returned (.int .i64 (Int.gcd a b)) ∧ ∃ n, w' = w.drewN n := by
  obtain ⟨ha1, ha2⟩ := ha
  obtain ⟨hb1, hb2⟩ := hb
  go_enter Try.func93, Try.ntmps93
  go_wp2
  go_loopw [0, 1] (fun x y wr => ∃ a' b' : Int, -4000000000000 ≤ a' ∧ a' ≤ 4000000000000 ∧ -4000000000000 ≤ b' ∧ b' ≤ 4000000000000 ∧ x = .int .i64 a' ∧ y = .int .i64 b' ∧ Hid (Int.gcd a' b' = Int.gcd a b) ∧ ∃ n, wr = w.drewN n) (fun _ y _ => (intOf y).natAbs)
  case atStart => exact ⟨a, b, ha1, ha2, hb1, hb2, rfl, rfl, Lib.hid rfl, 0, rfl⟩
  case round =>
    obtain ⟨a', b', h1, h2, h3, h4, rfl, rfl, HG, n, rfl⟩ := hrel
    by_cases hz : b' = 0
    · subst hz
      go_wp2_with (go_at_call 135; refine (abs_any _ (by omega) (by omega) _).mono ?_; rintro e w' ⟨rfl, rfl⟩)
      go_ret
      exact ⟨ret_int (by rw [← HG.out, gcd_zero]), n, rfl⟩
    · have hne : (b' != 0) = true := by simpa using hz
      have ⟨t1, t2⟩ := tmod_wd a' b' h1 h2
      have HT := Lib.hid (tmod_dec a' b' hz)
      have HG2 : Hid (Int.gcd b' (a'.tmod b') = Int.gcd a b) := Lib.hid ((gcd_tmod a' b').trans HG.out)
      go_wp2
      go_region
      go_wp2
      go_roundw
      case rel => exact ⟨b', a'.tmod b', h3, h4, t1, t2, rfl, rfl, HG2, n + 1, rfl⟩
      case measure => exact HT.out

set_option maxHeartbeats 400000 in
theorem l01Gcd_any (a b : Int) (ha : Wd a) (hb : Wd b) (w : World) :
    Calls Try.prog 95 #[.int .i64 a, .int .i64 b] w fun e w' => e = .returned (.int .i64 (Int.gcd a b)) ∧ ∃ n, w' = w.drewN n := by
  obtain ⟨ha1, ha2⟩ := ha
  obtain ⟨hb1, hb2⟩ := hb
  go_enter Try.func95, Try.ntmps95
  go_wp2_with (go_at_call 136; refine (l01Abs_any _ (by omega) (by omega) _).mono ?_; rintro e w' ⟨rfl, rfl⟩)
  go_loopw [0, 1] (fun x y wr => ∃ a' b' : Int, -4000000000000 ≤ a' ∧ a' ≤ 4000000000000 ∧ 0 ≤ b' ∧ b' ≤ 4000000000000 ∧ 0 ≤ a' ∧ x = .int .i64 a' ∧ y = .int .i64 b' ∧ Hid (Int.gcd a' b' = Int.gcd a b) ∧ ∃ n, wr = w.drewN n) (fun _ y _ => (intOf y).natAbs)
  case atStart => exact ⟨a.natAbs, b.natAbs, by omega, by omega, by omega, by omega, by omega, rfl, rfl, Lib.hid (gcd_abs a b), 0, rfl⟩
  case round =>
    obtain ⟨a', b', h1, h2, h3, h4, h5, rfl, rfl, HG, n, rfl⟩ := hrel
    by_cases hz : b' = 0
    · subst hz
      go_wp2
      go_ret
      exact ⟨ret_int (by rw [← HG.out, gcd_zero]; omega), n, rfl⟩
    · have hne : (b' != 0) = true := by simpa using hz
      have t1 : 0 ≤ a' % b' := Int.emod_nonneg _ hz
      have t2 : a' % b' < b' := Int.emod_lt_of_pos _ (by omega)
      have HG2 : Hid (Int.gcd b' (a' % b') = Int.gcd a b) := Lib.hid ((gcd_emod' a' b' h5).trans HG.out)
      go_wp2
      go_region
      go_wp2
      go_roundw
      case rel => exact ⟨b', a' % b', by omega, h4, t1, by omega, by omega, rfl, rfl, HG2, n + 1, rfl⟩
      case measure => simp [intOf]; omega
end Go.Proofs.Ythdmanngjnfamaa
