
/- The walk of the reference's JoinSlopes. -/
import Derived.Test.YthdmanngjnfamaaSlv
import Derived.Test.YthdmanngjnfamaaGs
import Derived.Deep.RegionLaw
import Derived.Deep.AppendLies
namespace Go.Proofs.Ythdmanngjnfamaa
open Go.RowKit

theorem infoSlJ : (Try.prog.info? 107).map (fun i => (i.zero, i.size, i.bytes)) = some (some (.agg #[.int .i64 0, .int .i64 0, .int .i64 0]), 3, 24) := by kernel_rfl
theorem newsJ (w : World) (x y z : Int) (T : TypeId) (g : Nat) (hg : w.heap.size = g) : ∀ j u, [Value.int .i64 x, .int .i64 y, .int .i64 z][j]? = some u → (w.alloc (.cells #[.int .i64 x, .int .i64 y, .int .i64 z] T)).cell? ((⟨g, 0, none⟩ : Addr).add j) = some u := by
  subst hg
  intro j u hj
  match j, hj with
  | 0, hj => simp at hj; subst hj; simp [Addr.add]
  | 1, hj => simp at hj; subst hj; simp [Addr.add]
  | 2, hj => simp at hj; subst hj; simp [Addr.add]
theorem onesJ (x y z : Int) : ∀ u ∈ [Value.int .i64 x, .int .i64 y, .int .i64 z], u.oneCell' = true := by
  intro u hu; simp at hu; rcases hu with rfl | rfl | rfl <;> rfl
theorem ownJ_below {w w' : World} {base : Nat} {e : TypeId} {sz : Nat} {v : Value} {n : Nat} {cs : List Value} (h : w.ownsRow base e sz v n cs) (hb : Below w.heap.size w w') : w'.ownsRow base e sz v n cs :=
  h.kept (row := none) ⟨hb.os, hb.tape, hb.output, hb.size, fun k hk _ => hb.block k hk⟩ (by cases v.ownBlock <;> simp)
theorem own_madeJ (w : World) : (w.alloc (.cells #[] 107)).ownsRow w.heap.size 107 3 (.slice (some ⟨w.heap.size, 0, none⟩) 0 0) 0 [] :=
  ⟨rfl, .inr ⟨w.heap.size, 0, #[], rfl, Nat.le_refl _, heap_alloc_new w _, Nat.le_refl _, by unfold maxLen; omega, rfl, rfl⟩⟩
/-- what JoinSlopes gives -/
def joR (zs : List Int) (n : Nat) (ys : List Int) (m : Nat) : Nat × List Int × Int := if slB zs n = true ∧ slB ys m = true then ((jnL zs ys n m).length / 3, jnL zs ys n m, 0) else (0, [], 1)
theorem slB_yes {zs : List Int} {n : Nat} (h : slB zs n = true) : SlOk zs n := of_decide_eq_true h
theorem l13Less_at {a b c d e f : Int} {v : Bool} (hv : v = Less3 a b d e) (h1 : -480 ≤ a * e) (h2 : a * e ≤ 480) (h3 : -480 ≤ d * b) (h4 : d * b ≤ 480) (w : World) :
    Calls Try.prog 115 #[.agg #[.int .i64 a, .int .i64 b, .int .i64 c], .agg #[.int .i64 d, .int .i64 e, .int .i64 f]] w fun e' w' => e' = .returned (.bool v) ∧ Below w.heap.size w w' := by
  subst hv; exact l13Less_any a b c d e f h1 h2 h3 h4 w

end Go.Proofs.Ythdmanngjnfamaa