
/- Words on slices that a call made: owned rows, and how they outlive later calls. -/
import Derived.Test.YthdmanngjnfamaaCells
namespace Go.Proofs.Ythdmanngjnfamaa
open Go.RowKit

/-- the block of a slice that has elements -/
def rowOf (A : Option Addr) (n : Nat) : Option Nat := if n = 0 then none else A.map (·.block)
/-- the slice '.slice A n c' holds the cells cs (sz an element, of type e) in a block of its own, from lo on -/
def OwnC (e : TypeId) (sz : Nat) (w : World) (lo : Nat) (A : Option Addr) (n c : Nat) (cs : List Value) : Prop :=
  cs.length = n * sz ∧ n ≤ c ∧ c ≤ maxLen ∧ (0 < n → w.ownsRow lo e sz (.slice A n c) n cs)
/-- the same at integers -/
def OwnI (w : World) (lo : Nat) (A : Option Addr) (n c : Nat) (xs : List Int) : Prop := OwnC 2 1 w lo A n c (xs.map (Value.int .i64))

section
variable {e : TypeId} {sz : Nat} {w w' : World} {lo : Nat} {A : Option Addr} {n c : Nat} {cs : List Value}
theorem OwnC.of_row (h : w.ownsRow lo e sz (.slice A n c) n cs) : OwnC e sz w lo A n c cs := by
  refine ⟨h.1, ?_, ?_, fun _ => h⟩
  · rcases h.2 with ⟨h', rfl⟩ | ⟨g, cap, cur, h', _, _, h1, _⟩
    · exact Nat.zero_le _
    · simp at h'; omega
  · rcases h.2 with ⟨h', rfl⟩ | ⟨g, cap, cur, h', _, _, _, h1, _⟩
    · simp at h'; rw [h'.2]; unfold maxLen; omega
    · simp at h'; rw [h'.2]; exact h1
theorem OwnC.nil (h : c ≤ maxLen) : OwnC e sz w lo A 0 c [] := ⟨by simp, Nat.zero_le _, h, fun h => absurd h (by omega)⟩
theorem OwnC.form (h : OwnC e sz w lo A n c cs) (hn : 0 < n) : ∃ g, A = some ⟨g, 0, none⟩ ∧ lo ≤ g ∧ g < w.heap.size := by
  rcases (h.2.2.2 hn).2 with ⟨h', rfl⟩ | ⟨g, cap, cur, h', hb, hh, _⟩
  · omega
  · simp at h'
    refine ⟨g, h'.1, hb, ?_⟩
    rcases Nat.lt_or_ge g w.heap.size with h1 | h1
    · exact h1
    · rw [Array.getElem?_eq_none h1] at hh; cases hh
theorem OwnC.rd (h : OwnC e sz w lo A n c cs) : RdC sz w A n c cs := by
  refine ⟨h.1, h.2.1, h.2.2.1, fun hn => ?_⟩
  obtain ⟨A', c', e1, h1⟩ := own_cells (h.2.2.2 hn)
  simp at e1
  obtain ⟨rfl, rfl⟩ := e1
  exact h1.2.2.2 hn
theorem OwnC.row_ge (h : OwnC e sz w lo A n c cs) : ∀ k, rowOf A n = some k → lo ≤ k ∧ k < w.heap.size := by
  intro k hk
  unfold rowOf at hk
  by_cases h0 : n = 0
  · rw [if_pos h0] at hk; cases hk
  · rw [if_neg h0] at hk
    obtain ⟨g, rfl, h1, h2⟩ := h.form (by omega)
    simp at hk
    omega
theorem OwnC.kept (h : OwnC e sz w lo A n c cs) {row : Option Nat} (hg : w.grownBy w' row) (hne : rowOf A n = none ∨ rowOf A n ≠ row) : OwnC e sz w' lo A n c cs := by
  refine ⟨h.1, h.2.1, h.2.2.1, fun hn => ?_⟩
  refine (h.2.2.2 hn).kept hg ?_
  have e1 : (Value.slice A n c).ownBlock = rowOf A n := by
    unfold rowOf
    rw [if_neg (by omega)]
    cases A <;> rfl
  rw [e1]
  exact hne
theorem OwnC.below (h : OwnC e sz w lo A n c cs) (hb : Below w.heap.size w w') : OwnC e sz w' lo A n c cs :=
  h.kept (row := none) ⟨hb.os, hb.tape, hb.output, hb.size, fun k hk _ => hb.block k hk⟩ (by cases rowOf A n <;> simp)
theorem own_sep {e' : TypeId} {sz' lo' m d : Nat} {B : Option Addr} {ds : List Value} (ha : OwnC e sz w lo A n c cs) (hb : OwnC e' sz' w' lo' B m d ds) (hlo : w.heap.size ≤ lo') : rowOf A n = none ∨ rowOf A n ≠ rowOf B m := by
  cases ea : rowOf A n with
  | none => exact .inl rfl
  | some k =>
    right
    intro eb
    have h1 := ha.row_ge k ea
    have h2 := hb.row_ge k eb.symm
    omega
theorem sep_symm {A B : Option Addr} {n m : Nat} (h : rowOf A n = none ∨ rowOf A n ≠ rowOf B m) : rowOf B m = none ∨ rowOf B m ≠ rowOf A n := by
  rcases h with h | h
  · rw [h]
    cases rowOf B m <;> simp
  · exact .inr (fun e => h e.symm)
theorem below_mark {w0 : World} {row : Option Nat} (hb : Below w0.heap.size w0 w) (hg : w.grownBy w' row) (hr : ∀ k, row = some k → w0.heap.size ≤ k) : Below w0.heap.size w0 w' := hb.grown hg hb.size hr
theorem rdI_of {w : World} {A : Option Addr} {n c : Nat} {xs : List Int} (h : RdC 1 w A n c (xs.map (Value.int .i64))) : Rd .i64 w A n c xs := by
  have hl : xs.length = n := by have := h.1; simpa using this
  refine ⟨hl, h.2.1, h.2.2.1, fun hn => ?_⟩
  obtain ⟨b, off, ea, hb, hc⟩ := h.2.2.2 hn
  refine ⟨b, off, ea, hb, fun i hi => ?_⟩
  rw [hc i (by omega), List.getElem?_map, List.getElem?_eq_getElem (by omega)]
  simp [List.getD, List.getElem?_eq_getElem (show i < xs.length by omega)]
theorem OwnI.rd {xs : List Int} (h : OwnI w lo A n c xs) : Rd .i64 w A n c xs := rdI_of (OwnC.rd h)
theorem OwnI.below {xs : List Int} (h : OwnI w lo A n c xs) (hb : Below w.heap.size w w') : OwnI w' lo A n c xs := OwnC.below h hb
theorem OwnI.kept {xs : List Int} (h : OwnI w lo A n c xs) {row : Option Nat} (hg : w.grownBy w' row) (hne : rowOf A n = none ∨ rowOf A n ≠ row) : OwnI w' lo A n c xs := OwnC.kept h hg hne
theorem OwnI.of_row {xs : List Int} (h : w.ownsRow lo 2 1 (.slice A n c) n (xs.map (Value.int .i64))) : OwnI w lo A n c xs := OwnC.of_row h
theorem OwnI.len {xs : List Int} (h : OwnI w lo A n c xs) : xs.length = n := by have := h.1; simpa using this
theorem grown_trans {a b d : World} {g : Option Nat} (h1 : a.grownBy b g) (h2 : b.grownBy d g) : a.grownBy d g :=
  ⟨h2.os.trans h1.os, h2.tape.trans h1.tape, h2.output.trans h1.output, Nat.le_trans h1.size h2.size, fun k hk hne => (h2.block k (Nat.lt_of_lt_of_le hk h1.size) hne).trans (h1.block k hk hne)⟩
theorem grown_refl (a : World) (g : Option Nat) : a.grownBy a g := ⟨rfl, rfl, rfl, Nat.le_refl _, fun _ _ _ => rfl⟩
/-- an int slice's own cell is there, may be written, and what the write leaves -/
theorem OwnI.at_ {xs : List Int} {g : Nat} (h : OwnI w lo (some ⟨g, 0, none⟩) n c xs) {i : Nat} (hi : i < n) : w.cell? ⟨g, i, none⟩ = some (.int .i64 (xs.getD i 0)) ∧ w.frozen? ⟨g, i, none⟩ = false := by
  have h1 := h.2.2.2 (by omega)
  have hl := h.len
  refine ⟨?_, h1.frozenAt i⟩
  rw [h1.cellAt i (by omega), List.getElem?_map, List.getElem?_eq_getElem (by omega)]
  simp [List.getD, List.getElem?_eq_getElem (show i < xs.length by omega)]
theorem OwnI.set_ {xs : List Int} {g : Nat} (h : OwnI w lo (some ⟨g, 0, none⟩) n c xs) (i : Nat) (u : Int) :
    OwnI (w.setCell ⟨g, i, none⟩ (.int .i64 u)) lo (some ⟨g, 0, none⟩) n c (xs.set i u) ∧ (0 < n → w.grownBy (w.setCell ⟨g, i, none⟩ (.int .i64 u)) (some g)) := by
  refine ⟨⟨by have := h.1; simpa using this, h.2.1, h.2.2.1, fun hn => ?_⟩, fun hn => ((h.2.2.2 hn).stored i (.int .i64 u)).2⟩
  rw [List.map_set]
  exact ((h.2.2.2 hn).stored i (.int .i64 u)).1
end
end Go.Proofs.Ythdmanngjnfamaa
