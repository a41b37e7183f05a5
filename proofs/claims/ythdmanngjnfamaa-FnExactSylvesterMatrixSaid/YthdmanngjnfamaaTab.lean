
/- Lists given by a function of the index; arrays that a call makes. -/
import Derived.Test.YthdmanngjnfamaaRes
namespace Go.Proofs.Ythdmanngjnfamaa
open Go.RowKit

def tab (n : Nat) (h : Nat → Int) : List Int := (List.range n).map h
theorem tab_len (n : Nat) (h : Nat → Int) : (tab n h).length = n := by simp [tab]
theorem tab_at {n : Nat} {h : Nat → Int} {i : Nat} (hi : i < n) : (tab n h).getD i 0 = h i := by
  unfold tab; simp [List.getD, hi]
theorem tab_ext {n : Nat} {h h' : Nat → Int} (e : ∀ i, i < n → h i = h' i) : tab n h = tab n h' := by
  unfold tab
  apply List.map_congr_left
  intro i hi
  exact e i (List.mem_range.1 hi)
theorem list_ext {xs ys : List Int} (hl : xs.length = ys.length) (h : ∀ i, i < xs.length → xs.getD i 0 = ys.getD i 0) : xs = ys := by
  apply List.ext_getElem hl
  intro i h1 h2
  have := h i h1
  simpa [List.getD, List.getElem?_eq_getElem h1, List.getElem?_eq_getElem h2] using this
theorem getD_set (xs : List Int) (i j : Nat) (u : Int) (hj : j < xs.length) : (xs.set i u).getD j 0 = if j = i then u else xs.getD j 0 := by
  by_cases h : j = i
  · subst h
    simp [List.getD, hj]
  · rw [if_neg h]
    simp [List.getD, Ne.symm h]
theorem tab_set {n : Nat} {h : Nat → Int} (i : Nat) (u : Int) : (tab n h).set i u = tab n (fun j => if j = i then u else h j) := by
  apply list_ext
  · rw [List.length_set, tab_len, tab_len]
  · intro j hj
    rw [List.length_set, tab_len] at hj
    rw [getD_set _ _ _ _ (by rw [tab_len]; exact hj), tab_at hj, tab_at hj]
theorem tab_list (xs : List Int) : tab xs.length (fun i => xs.getD i 0) = xs := by
  apply list_ext (tab_len _ _)
  intro i hi
  rw [tab_len] at hi
  exact tab_at hi
theorem tab_made (n : Nat) : (madeCells (Value.int .i64 0).cells (n * 1)).toList = (tab n (fun _ => 0)).map (Value.int .i64) := by
  show (madeCells #[Value.int .i64 0] (n * 1)).toList = _
  rw [made_one, Nat.mul_one]
  unfold tab
  rw [List.map_map]
  apply List.ext_getElem
  · simp
  · intro i h1 h2
    simp
theorem own_tab {w w' : World} {n : Nat} (h : w'.ownsRow w.heap.size 2 1 (.slice (some ⟨w.heap.size, 0, none⟩) n n) n (madeCells (Value.int .i64 0).cells (n * 1)).toList) : OwnI w' w.heap.size (some ⟨w.heap.size, 0, none⟩) n n (tab n (fun _ => 0)) := by
  rw [tab_made] at h
  exact OwnI.of_row h
/-- a store into the array that the call made -/
theorem own_store {wr : World} {lo g n c : Nat} {h : Nat → Int} (ho : OwnI wr lo (some ⟨g, 0, none⟩) n c (tab n h)) (i : Nat) (u : Int) : OwnI (wr.setCell ⟨g, i, none⟩ (.int .i64 u)) lo (some ⟨g, 0, none⟩) n c (tab n (fun j => if j = i then u else h j)) := by
  have := (ho.set_ i u).1
  rw [tab_set] at this
  exact this
theorem own_cell {wr : World} {lo g n c : Nat} {h : Nat → Int} (ho : OwnI wr lo (some ⟨g, 0, none⟩) n c (tab n h)) {i : Nat} (hi : i < n) : wr.cell? ⟨g, i, none⟩ = some (.int .i64 (h i)) ∧ wr.frozen? ⟨g, i, none⟩ = false := by
  have := ho.at_ hi
  rw [tab_at hi] at this
  exact this
end Go.Proofs.Ythdmanngjnfamaa
