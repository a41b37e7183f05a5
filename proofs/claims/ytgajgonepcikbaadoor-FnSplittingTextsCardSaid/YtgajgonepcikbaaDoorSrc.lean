
/- The source of the draws. -/
import Derived.Test.YtgajgonepcikbaaDoorOwn
import Derived.Test.YtgajgonepcikbaaDoorNum
namespace Go.Proofs.YtgajgonepcikbaaDoor
open Go.RowKit

/-- the bytes of a code -/
def Bys (bs : List Int) : Prop := ∀ i, i < bs.length → 0 ≤ bs.getD i 0 ∧ bs.getD i 0 ≤ 255
/-- a source over the code '.slice A n c' of the world W lies in block b -/
structure Sr (W : World) (A : Option Addr) (n c : Nat) (bs : List Int) (b : Nat) (w : World) : Prop where
  rd : Rd .u8 W A n c bs
  by_ : Bys bs
  bel : Below W.heap.size W w
  lo : W.heap.size ≤ b
  c0 : w.cell? ⟨b, 0, none⟩ = some (.slice A n c)
  at_ : ∃ p : Nat, p ≤ n ∧ w.cell? ⟨b, 1, none⟩ = some (.int .i64 p)
  sd : ∃ s : Int, 0 ≤ s ∧ s ≤ 2147483646 ∧ w.cell? ⟨b, 2, none⟩ = some (.int .i64 s)
  f1 : w.frozen? ⟨b, 1, none⟩ = false
  f2 : w.frozen? ⟨b, 2, none⟩ = false

set_option maxRecDepth 100000 in
set_option maxHeartbeats 1600000 in
theorem l01From_any (A : Option Addr) (n c : Nat) (bs : List Int) (w : World) (hr : Rd .u8 w A n c bs) (hb : Bys bs) :
    Calls Tryd.prog 93 #[.slice A n c] w fun e w' => ∃ b, e = .returned (.pointer (some ⟨b, 0, none⟩)) ∧ Sr w A n c bs b w' := by
  have HR := Lib.hid hr
  have HBy := Lib.hid hb
  have HL := Lib.hid hr.1
  have hc0 := hr.2.1
  have hc1 := hr.2.2.1
  unfold maxLen at hc1
  clear hr hb
  go_enter Tryd.func93, Tryd.ntmps93
  go_wp2
  go_loopw [4] (fun i wr => ∃ (k : Nat) (s : Int), k ≤ n ∧ k ≤ 64 ∧ i = .int .i64 k ∧ 0 ≤ s ∧ s ≤ 2147483646 ∧ Hid (Below w.heap.size w wr) ∧ wr.cell? ⟨w.heap.size, 0, none⟩ = some (.slice A n c) ∧ wr.cell? ⟨w.heap.size, 1, none⟩ = some (.int .i64 0) ∧ wr.cell? ⟨w.heap.size, 2, none⟩ = some (.int .i64 s) ∧ wr.frozen? ⟨w.heap.size, 1, none⟩ = false ∧ wr.frozen? ⟨w.heap.size, 2, none⟩ = false) (fun i _ => n - (intOf i).toNat)
  case atStart => exact ⟨0, 31019, by omega, by omega, rfl, by omega, by omega, Lib.hid (bl_alloc (Below.refl _ _) _), by simp [go_sem], by simp [go_sem], by simp [go_sem], by simp [go_sem], by simp [go_sem]⟩
  case round =>
    obtain ⟨k, s, hk, hk2, rfl, s1, s2, HB, c0, c1, c2, f1, f2⟩ := hrel
    by_cases hlt : k < n
    · by_cases h64 : k < 64
      · obtain ⟨b, off, rfl, hb, hcell⟩ := HR.out.2.2.2 (by omega)
        have hx := keep_cell HB.out (hcell k hlt)
        have hx0 := HBy.out k (by have := HL.out; omega)
        have hne : ¬ b = w.heap.size := by omega
        obtain ⟨x, hxe⟩ : ∃ x, x = bs.getD k 0 := ⟨_, rfl⟩
        rw [← hxe] at hx hx0
        obtain ⟨x1, x2⟩ := hx0
        have e1 := Int.emod_nonneg (s * 61 + x) (show (2147483647 : Int) ≠ 0 by omega)
        have e2 := Int.emod_lt_of_pos (s * 61 + x) (show (0 : Int) < 2147483647 by omega)
        clear hcell hxe
        go_wp2
        go_region
        go_wp2
        go_roundw
        case rel => exact ⟨k + 1, (s * 61 + x) % 2147483647, by omega, by omega, by go_num, e1, by omega, Lib.hid (bl_set (Below.drew HB.out) _ _ (Nat.le_refl _) _), by simp [go_sem, c0], by simp [go_sem, c1], by simp [go_sem, c2], by simp [go_sem, f1], by simp [go_sem, f2]⟩
        case measure => simp [intOf]; omega
      · go_wp2
        go_ret
        exact ⟨_, rfl, HR.out, HBy.out, HB.out, Nat.le_refl _, c0, ⟨0, by omega, c1⟩, ⟨s, s1, s2, c2⟩, f1, f2⟩
    · go_wp2
      go_ret
      exact ⟨_, rfl, HR.out, HBy.out, HB.out, Nat.le_refl _, c0, ⟨0, by omega, c1⟩, ⟨s, s1, s2, c2⟩, f1, f2⟩

/-- what a draw leaves: a number, the source, and all else as it was -/
def Drew (W : World) (A : Option Addr) (n c : Nat) (bs : List Int) (b : Nat) (w w' : World) : Prop := Sr W A n c bs b w' ∧ w.grownBy w' (some b)
theorem grown_set {w w' : World} {b : Nat} (h : w.grownBy w' (some b)) (o : Nat) (v : Value) : w.grownBy (w'.setCell ⟨b, o, none⟩ v) (some b) :=
  grown_trans h ⟨rfl, rfl, rfl, by simp [World.setCell], fun k _ hk => Below.heap_setCell _ _ _ _ (fun e => hk (by rw [e]))⟩
theorem grown_drew {w w' : World} {r : Option Nat} (h : w.grownBy w' r) : w.grownBy w'.drew r := grown_trans h ⟨rfl, rfl, rfl, Nat.le_refl _, fun _ _ _ => rfl⟩

set_option maxRecDepth 100000 in
set_option maxHeartbeats 3200000 in
theorem l01Next_any (W : World) (A : Option Addr) (n c : Nat) (bs : List Int) (b : Nat) (m : Int) (w : World) (h : Sr W A n c bs b w) :
    Calls Tryd.prog 95 #[.pointer (some ⟨b, 0, none⟩), .int .i64 m] w fun e w' => ∃ x, e = .returned (.int .i64 x) ∧ (m ≤ 1 → x = 0) ∧ (1 < m → 0 ≤ x ∧ x < m) ∧ Drew W A n c bs b w w' := by
  obtain ⟨hr, hby, hbel, hlo, c0, ⟨p, hp, c1⟩, ⟨s, s1, s2, c2⟩, f1, f2⟩ := h
  have HR := Lib.hid hr
  have HBy := Lib.hid hby
  have HL := Lib.hid hr.1
  have HB := Lib.hid hbel
  have hc0 := hr.2.1
  have hc1 := hr.2.2.1
  unfold maxLen at hc1
  clear hr hby hbel
  by_cases hm : m ≤ 1
  · go_enter Tryd.func95, Tryd.ntmps95
    go_wp2
    go_ret
    exact ⟨0, rfl, fun _ => rfl, fun h => absurd h (by omega), ⟨HR.out, HBy.out, HB.out, hlo, c0, ⟨p, hp, c1⟩, ⟨s, s1, s2, c2⟩, f1, f2⟩, grown_refl _ _⟩
  · have hm1 : 1 < m := by omega
    clear hm
    have e1 := Int.emod_nonneg (s * 48271 + 29) (show (2147483647 : Int) ≠ 0 by omega)
    have e2 := Int.emod_lt_of_pos (s * 48271 + 29) (show (0 : Int) < 2147483647 by omega)
    obtain ⟨t, ht⟩ : ∃ t, t = (s * 48271 + 29) % 2147483647 := ⟨_, rfl⟩
    rw [← ht] at e1 e2
    have ht2 := ht.symm
    clear ht
    by_cases hlt : p < n
    · obtain ⟨ab, off, rfl, hb, hcell⟩ := HR.out.2.2.2 (by omega)
      have hx := keep_cell HB.out (hcell p hlt)
      have hx0 := HBy.out p (by have := HL.out; omega)
      have hne : ¬ ab = b := by omega
      obtain ⟨x, hxe⟩ : ∃ x, x = bs.getD p 0 := ⟨_, rfl⟩
      rw [← hxe] at hx hx0
      obtain ⟨x1, x2⟩ := hx0
      clear hcell hxe
      have hp0 : (0 : Int) ≤ (p : Int) := by omega
      have hpn : (p : Int) < (n : Int) := by omega
      by_cases h256 : m ≤ 256
      · by_cases hpar : ((p : Int) + 1) % 2 = 0
        · have r1 := Int.emod_nonneg (x) (show m ≠ 0 by omega)
          have r2 := Int.emod_lt_of_pos (x) (show 0 < m by omega)
          have hpar2 : (((p : Int) + 1) % 2 == 0) = true := by simpa using hpar
          clear hpar
          go_enter Tryd.func95, Tryd.ntmps95
          go_wp2
          go_region
          go_wp2
          go_region
          go_wp2
          go_region
          go_wp2
          go_ret
          first | exact ⟨_, rfl, fun h => absurd h (by omega), fun _ => ⟨r1, r2⟩, ⟨HR.out, HBy.out, by repeat (first | exact HB.out | apply Below.drew | refine Below.setCell ?_ hlo _), hlo, by simp [go_sem, c0], ⟨p + 1, by omega, by simp [go_sem, c1]⟩, ⟨t, e1, by omega, by simp [go_sem, c2]⟩, by simp [go_sem, f1], by simp [go_sem, f2]⟩, by repeat (first | exact grown_refl _ _ | apply grown_drew | apply grown_set)⟩ | exact ⟨_, rfl, fun h => absurd h (by omega), ⟨r1, r2⟩, ⟨HR.out, HBy.out, by repeat (first | exact HB.out | apply Below.drew | refine Below.setCell ?_ hlo _), hlo, by simp [go_sem, c0], ⟨p + 1, by omega, by simp [go_sem, c1]⟩, ⟨t, e1, by omega, by simp [go_sem, c2]⟩, by simp [go_sem, f1], by simp [go_sem, f2]⟩, by repeat (first | exact grown_refl _ _ | apply grown_drew | apply grown_set)⟩
        · have r1 := Int.emod_nonneg (t / 31 + x) (show m ≠ 0 by omega)
          have r2 := Int.emod_lt_of_pos (t / 31 + x) (show 0 < m by omega)
          have hpar2 : (((p : Int) + 1) % 2 == 0) = false := by simpa using hpar
          clear hpar
          go_enter Tryd.func95, Tryd.ntmps95
          go_wp2
          go_region
          go_wp2
          go_region
          go_wp2
          go_ret
          first | exact ⟨_, rfl, fun h => absurd h (by omega), fun _ => ⟨r1, r2⟩, ⟨HR.out, HBy.out, by repeat (first | exact HB.out | apply Below.drew | refine Below.setCell ?_ hlo _), hlo, by simp [go_sem, c0], ⟨p + 1, by omega, by simp [go_sem, c1]⟩, ⟨t, e1, by omega, by simp [go_sem, c2]⟩, by simp [go_sem, f1], by simp [go_sem, f2]⟩, by repeat (first | exact grown_refl _ _ | apply grown_drew | apply grown_set)⟩ | exact ⟨_, rfl, fun h => absurd h (by omega), ⟨r1, r2⟩, ⟨HR.out, HBy.out, by repeat (first | exact HB.out | apply Below.drew | refine Below.setCell ?_ hlo _), hlo, by simp [go_sem, c0], ⟨p + 1, by omega, by simp [go_sem, c1]⟩, ⟨t, e1, by omega, by simp [go_sem, c2]⟩, by simp [go_sem, f1], by simp [go_sem, f2]⟩, by repeat (first | exact grown_refl _ _ | apply grown_drew | apply grown_set)⟩
      · have hm256 : 256 < m := by omega
        clear h256
        have r1 := Int.emod_nonneg (t / 31 + x) (show m ≠ 0 by omega)
        have r2 := Int.emod_lt_of_pos (t / 31 + x) (show 0 < m by omega)
        go_enter Tryd.func95, Tryd.ntmps95
        go_wp2
        go_region
        go_wp2
        go_region
        go_wp2
        go_ret
        first | exact ⟨_, rfl, fun h => absurd h (by omega), fun _ => ⟨r1, r2⟩, ⟨HR.out, HBy.out, by repeat (first | exact HB.out | apply Below.drew | refine Below.setCell ?_ hlo _), hlo, by simp [go_sem, c0], ⟨p + 1, by omega, by simp [go_sem, c1]⟩, ⟨t, e1, by omega, by simp [go_sem, c2]⟩, by simp [go_sem, f1], by simp [go_sem, f2]⟩, by repeat (first | exact grown_refl _ _ | apply grown_drew | apply grown_set)⟩ | exact ⟨_, rfl, fun h => absurd h (by omega), ⟨r1, r2⟩, ⟨HR.out, HBy.out, by repeat (first | exact HB.out | apply Below.drew | refine Below.setCell ?_ hlo _), hlo, by simp [go_sem, c0], ⟨p + 1, by omega, by simp [go_sem, c1]⟩, ⟨t, e1, by omega, by simp [go_sem, c2]⟩, by simp [go_sem, f1], by simp [go_sem, f2]⟩, by repeat (first | exact grown_refl _ _ | apply grown_drew | apply grown_set)⟩
    · have r1 := Int.emod_nonneg (t / 31) (show m ≠ 0 by omega)
      have r2 := Int.emod_lt_of_pos (t / 31) (show 0 < m by omega)
      have hpn : (n : Int) ≤ (p : Int) := by omega
      go_enter Tryd.func95, Tryd.ntmps95
      go_wp2
      go_region
      go_wp2
      go_ret
      first | exact ⟨_, rfl, fun h => absurd h (by omega), fun _ => ⟨r1, r2⟩, ⟨HR.out, HBy.out, by repeat (first | exact HB.out | apply Below.drew | refine Below.setCell ?_ hlo _), hlo, by simp [go_sem, c0], ⟨p, by omega, by simp [go_sem, c1]⟩, ⟨t, e1, by omega, by simp [go_sem, c2]⟩, by simp [go_sem, f1], by simp [go_sem, f2]⟩, by repeat (first | exact grown_refl _ _ | apply grown_drew | apply grown_set)⟩ | exact ⟨_, rfl, fun h => absurd h (by omega), ⟨r1, r2⟩, ⟨HR.out, HBy.out, by repeat (first | exact HB.out | apply Below.drew | refine Below.setCell ?_ hlo _), hlo, by simp [go_sem, c0], ⟨p, by omega, by simp [go_sem, c1]⟩, ⟨t, e1, by omega, by simp [go_sem, c2]⟩, by simp [go_sem, f1], by simp [go_sem, f2]⟩, by repeat (first | exact grown_refl _ _ | apply grown_drew | apply grown_set)⟩

end Go.Proofs.YtgajgonepcikbaaDoor