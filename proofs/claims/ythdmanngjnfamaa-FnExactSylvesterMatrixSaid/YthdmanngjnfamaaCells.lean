
/- Words on slices whose elements are structs of integers. -/
import Derived.Test.YthdmanngjnfamaaSl
namespace Go.Proofs.Ythdmanngjnfamaa
open Go.RowKit

/-- the slice value '.slice A n c' reads as the cells cs, sz cells an element -/
def RdC (sz : Nat) (w : World) (A : Option Addr) (n c : Nat) (cs : List Value) : Prop :=
  cs.length = n * sz ∧ n ≤ c ∧ c ≤ maxLen ∧ (0 < n → ∃ b off, A = some ⟨b, off, none⟩ ∧ b < w.heap.size ∧ ∀ j, j < n * sz → w.cell? ⟨b, off + j, none⟩ = cs[j]?)
theorem RdC.keep {sz : Nat} {w w' : World} {A : Option Addr} {n c : Nat} {cs : List Value} (h : RdC sz w A n c cs) (hk : Holds' w w') : RdC sz w' A n c cs := by
  refine ⟨h.1, h.2.1, h.2.2.1, fun hn => ?_⟩
  obtain ⟨b, off, e, hb, hc⟩ := h.2.2.2 hn
  refine ⟨b, off, e, Nat.lt_of_lt_of_le hb hk.1, fun j hj => ?_⟩
  have h1 := hc j hj
  rw [List.getElem?_eq_getElem (by rw [h.1]; exact hj)] at h1 ⊢
  exact hk.2 _ _ _ h1
theorem RdC.below {sz : Nat} {w w' : World} {A : Option Addr} {n c : Nat} {cs : List Value} (h : RdC sz w A n c cs) (hb : Below w.heap.size w w') : RdC sz w' A n c cs := h.keep (.of_below hb)
theorem own_cells {w : World} {base : Nat} {e : TypeId} {sz : Nat} {v : Value} {m : Nat} {cs : List Value} (h : w.ownsRow base e sz v m cs) : ∃ A c, v = .slice A m c ∧ RdC sz w A m c cs := by
  obtain ⟨hl, h2⟩ := h
  rcases h2 with ⟨rfl, rfl⟩ | ⟨g, cap, cur, rfl, hb, hh, hnc, hcm, hcs, htake⟩
  · exact ⟨none, 0, rfl, hl, Nat.le_refl _, by unfold maxLen; omega, fun h => absurd h (by omega)⟩
  · refine ⟨some ⟨g, 0, none⟩, cap, rfl, hl, hnc, hcm, fun hn => ⟨g, 0, rfl, ?_, fun j hj => ?_⟩⟩
    · rcases Nat.lt_or_ge g w.heap.size with h1 | h1
      · exact h1
      · rw [Array.getElem?_eq_none h1] at hh; cases hh
    · rw [Nat.zero_add, cell_of_row w g j cur e (0, 0) hh, ← htake, List.getElem?_take, if_pos hj]
      simp
end Go.Proofs.Ythdmanngjnfamaa
