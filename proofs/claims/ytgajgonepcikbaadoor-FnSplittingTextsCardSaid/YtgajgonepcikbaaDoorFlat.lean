
/- Words on slices of structs of integers, their contents as one flat list. -/
import Derived.Test.YtgajgonepcikbaaDoorMark
import Derived.Deep.RegionWith
namespace Go.Proofs.YtgajgonepcikbaaDoor
open Go.RowKit

section
variable {e : TypeId} {sz : Nat} {w w' : World} {lo : Nat} {A : Option Addr} {n c : Nat} {zs : List Int}
theorem RdC.flat (h : RdC sz w A n c (zs.map (Value.int .i64))) : zs.length = n * sz := by have := h.1; simpa using this
theorem RdC.atF (h : RdC sz w A n c (zs.map (Value.int .i64))) (hn : 0 < n) : ∃ b off, A = some ⟨b, off, none⟩ ∧ ∀ j, j < n * sz → w.cell? ⟨b, off + j, none⟩ = some (.int .i64 (zs.getD j 0)) := by
  obtain ⟨b, off, rfl, hb, hc⟩ := h.2.2.2 hn
  refine ⟨b, off, rfl, fun j hj => ?_⟩
  have hl := h.flat
  rw [hc j hj, List.getElem?_map, List.getElem?_eq_getElem (by omega)]
  simp [List.getD, List.getElem?_eq_getElem (show j < zs.length by omega)]
theorem OwnC.flat (h : OwnC e sz w lo A n c (zs.map (Value.int .i64))) : zs.length = n * sz := by have := h.1; simpa using this
theorem OwnC.atF {g : Nat} (h : OwnC e sz w lo (some ⟨g, 0, none⟩) n c (zs.map (Value.int .i64))) {j : Nat} (hj : j < n * sz) : w.cell? ⟨g, j, none⟩ = some (.int .i64 (zs.getD j 0)) ∧ w.frozen? ⟨g, j, none⟩ = false := by
  have h0 : 0 < n := by rcases Nat.eq_zero_or_pos n with h | h; (subst h; simp at hj); exact h
  have h1 := h.2.2.2 h0
  have hl := h.flat
  refine ⟨?_, h1.frozenAt j⟩
  rw [h1.cellAt j hj, List.getElem?_map, List.getElem?_eq_getElem (by omega)]
  simp [List.getD, List.getElem?_eq_getElem (show j < zs.length by omega)]
theorem OwnC.setF {g : Nat} (h : OwnC e sz w lo (some ⟨g, 0, none⟩) n c (zs.map (Value.int .i64))) (hn : 0 < n) (j : Nat) (u : Int) :
    OwnC e sz (w.setCell ⟨g, j, none⟩ (.int .i64 u)) lo (some ⟨g, 0, none⟩) n c ((zs.set j u).map (Value.int .i64)) ∧ w.grownBy (w.setCell ⟨g, j, none⟩ (.int .i64 u)) (some g) := by
  have h1 := (h.2.2.2 hn).stored j (.int .i64 u)
  refine ⟨⟨by have := h.1; simpa using this, h.2.1, h.2.2.1, fun _ => ?_⟩, h1.2⟩
  rw [List.map_set]
  exact h1.1
end
theorem fl_lt {k n m j : Nat} (hk : k < n) (hj : j < m) : k * m + j < n * m := by
  have h1 : (k + 1) * m ≤ n * m := Nat.mul_le_mul_right m hk
  rw [Nat.succ_mul] at h1
  omega
theorem mixed_at {xs : List Int} {k : Int} {j i : Nat} (h : j ≤ i) : (mixed xs k j).getD i 0 = xs.getD i 0 := by
  unfold mixed
  simp only [List.getD]
  rw [List.getElem?_append_right (by rw [mk_len]; exact h), mk_len, List.getElem?_drop, Nat.add_sub_cancel' h]
end Go.Proofs.YtgajgonepcikbaaDoor
