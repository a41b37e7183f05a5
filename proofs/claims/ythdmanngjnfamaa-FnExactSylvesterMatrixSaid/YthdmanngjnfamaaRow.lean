
/- What a walk is told of a slice argument. -/
import Derived.Test.YthdmanngjnfamaaRows
import Derived.WalkKit
import Derived.ProofKit
import Derived.OpenShut
import Derived.ShutString
import Derived.ChangeOld
import Derived.Below
import Derived.Deep.Slices
import Derived.Deep.Fields
import Derived.ChangeSame
import Derived.Lib.SmallJoins
namespace Go.Proofs.Ythdmanngjnfamaa
open Go.ChangeShapes Go.WideShapes Go.ChangeAt Go.RowKit Go.Deep

/-- A slice of integers: its elements are the numbers 'zs', each fitting its kind. -/
def IsRow (k : IntKind) (w : World) (a : Option Addr) (len cap : Nat) (zs : List Int) : Prop :=
  len ≤ cap ∧ cap ≤ maxLen ∧ zs.length = len ∧ (∀ n ∈ zs, (Lit.int k n).wf = true) ∧
  (0 < len → ∃ b off, a = some ⟨b, off, none⟩ ∧ b < w.heap.size ∧ ∀ i, i < len → w.cell? ⟨b, off + i, none⟩ = some (.int k (zs.getD i 0)))

theorem block_lt_of_cell {w : World} {b o : Nat} {s : Option Nat} {v : Value} (h : w.cell? ⟨b, o, s⟩ = some v) : b < w.heap.size := by
  rcases Nat.lt_or_ge b w.heap.size with h1 | h1
  · exact h1
  · simp [World.cell?, Array.getElem?_eq_none h1] at h

theorem add_none {x : Addr} (h : x.spot = none) (i : Nat) : x.add i = ⟨x.block, x.off + i, none⟩ := by
  obtain ⟨b, o, s⟩ := x
  simp at h
  subst h
  simp [Addr.add]

theorem isRow_none (k : IntKind) (w : World) : IsRow k w none 0 0 [] := ⟨by omega, by unfold maxLen; omega, rfl, by simp, by omega⟩

theorem isRow_some {k : IntKind} {w : World} {x : Addr} {len cap : Nat} {zs : List Int} (hl : len ≤ cap) (hm : cap ≤ maxLen) (hz : zs.length = cap)
    (hcell : ∀ i, i < zs.length → w.cell? (x.add i) = some (.int k (zs.getD i 0))) (hwz : ∀ n ∈ zs, (Lit.int k n).wf = true) : IsRow k w (some x) len cap (zs.take len) := by
  refine ⟨hl, hm, by rw [List.length_take]; omega, fun n hn => hwz n (List.mem_of_mem_take hn), fun h0 => ?_⟩
  have hc0 := hcell 0 (by omega)
  have hspot : x.spot = none := by simpa [Addr.add] using World.cell?_spot hc0
  refine ⟨x.block, x.off, ?_, ?_, fun i hi => ?_⟩
  · obtain ⟨b, o, s⟩ := x
    simp at hspot
    subst hspot
    rfl
  · rw [add_none hspot] at hc0
    exact block_lt_of_cell hc0
  · have := hcell i (by omega)
    rw [add_none hspot] at this
    rw [this]
    simp [hi]

theorem own : ownKnob Try.prog.godebug = none := by kernel_rfl
theorem laidOut : laidOutB Try.prog = true := by kernel_rfl
end Go.Proofs.Ythdmanngjnfamaa
