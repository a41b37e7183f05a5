
/- Words on results that are lists with a code. -/
import Derived.Test.YthdmanngjnfamaaTrim
namespace Go.Proofs.Ythdmanngjnfamaa
open Go.RowKit

instance (xs : List Int) : Decidable (POk xs) := by unfold POk; infer_instance
/-- a result: the trimmed list, or ErrLimit -/
def resOf (xs : List Int) : List Int × Int := if POk (trimL xs) then (trimL xs, 0) else ([], 3)
theorem pok_last {xs : List Int} (h : POk xs) : trimL xs = xs := trimL_same h.2.2
theorem own_lo {e : TypeId} {sz : Nat} {w : World} {lo lo' : Nat} {A : Option Addr} {n c : Nat} {cs : List Value} (h : OwnC e sz w lo' A n c cs) (hl : lo ≤ lo') : OwnC e sz w lo A n c cs := by
  refine ⟨h.1, h.2.1, h.2.2.1, fun hn => ⟨(h.2.2.2 hn).1, ?_⟩⟩
  rcases (h.2.2.2 hn).2 with h1 | ⟨g, cap, cur, e1, h1, h2⟩
  · exact .inl h1
  · exact .inr ⟨g, cap, cur, e1, Nat.le_trans hl h1, h2⟩
theorem OwnI.nil (w : World) (lo : Nat) : OwnI w lo none 0 0 [] := OwnC.nil (by unfold maxLen; omega)

/-- the post of a call that returns a list and a code -/
def Gives (r : List Int × Int) (w : World) (e : Ending) (w' : World) : Prop :=
  ∃ A c, e = .returned (.tuple #[.slice A r.1.length c, .int .i64 r.2]) ∧ OwnI w' w.heap.size A r.1.length c r.1 ∧ Below w.heap.size w w'

theorem base_alloc2 {a w : World} (h : Below a.heap.size a w) (o : Obj) : a.heap.size ≤ (w.alloc o).heap.size := by have := h.size; simp; omega
theorem own_snoc {w : World} {lo : Nat} {v : Value} {L : List Int} {x : Int} (h : w.ownsRow lo 2 1 v (L.length + 1) (L.map (Value.int .i64) ++ [.int .i64 x])) : w.ownsRow lo 2 1 v (L ++ [x]).length ((L ++ [x]).map (Value.int .i64)) := by
  rw [List.length_append, List.map_append]; exact h
end Go.Proofs.Ythdmanngjnfamaa
