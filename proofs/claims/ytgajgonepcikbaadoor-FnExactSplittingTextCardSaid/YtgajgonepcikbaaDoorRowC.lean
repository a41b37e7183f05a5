
/- What a walk is told of an argument that is a slice of structs of integers. -/
import Derived.Test.YtgajgonepcikbaaDoorCells
namespace Go.Proofs.YtgajgonepcikbaaDoor
open Go.ChangeShapes Go.WideShapes Go.ChangeAt Go.RowKit Go.Deep

/-- a slice of structs of sz int64 fields: its cells are the numbers zs -/
def IsRows (sz : Nat) (w : World) (A : Option Addr) (n c : Nat) (zs : List Int) : Prop :=
  RdC sz w A n c (zs.map (Value.int .i64)) ∧ ∀ z ∈ zs, (Lit.int .i64 z).wf = true
def numAt (w : World) (a : Addr) : Int := match w.cell? a with
  | some (.int _ z) => z
  | _ => 0
theorem isRows_of {H : Type} {enc : TypeId × Value → H} {P : Program} {w : World} {base : Nat} {spare : Nat → Bool} {held : Bool} {t e : TypeId} {fs : Array Field} {fuel : Nat} {A : Option Addr} {n c m : Nat} {x : DataW H × List MemPlace}
    (ht : P.underlying t = some (.slice e)) (he : P.underlying e = some (.struct fs)) (hone : oneCellFields P fs = true) (hC : P.cellsOf e = fs.size) (hm : fs.size = m) (hpos : 0 < m)
    (hi : ∀ (j : Nat) (f : Field), fs[j]? = some f → P.underlying f.type = some (.int .i64)) (h : DataW.trod enc P w base spare held fuel t [.slice A n c] = some x) :
    ∃ zs, IsRows m w A n c zs := by
  subst hm
  rcases open_slice ht h with ⟨h0, _⟩ | ⟨a, len, cap, mm, nn, D, Pl, hcs, hb, hl, hmx, hmm, hx, hii⟩
  · simp at h0
    obtain ⟨rfl, rfl, rfl⟩ := h0
    exact ⟨[], ⟨by simp, Nat.le_refl _, by unfold maxLen; omega, by omega⟩, by simp⟩
  · simp at hcs
    obtain ⟨rfl, rfl, rfl⟩ := hcs
    have hlm : n ≤ mm := by rw [hmm]; split <;> omega
    have hcell : ∀ i j, i < n → j < fs.size → ∃ z, w.cell? (a.add (i * fs.size + j)) = some (.int .i64 z) ∧ (Lit.int .i64 z).wf = true := by
      intro i j hin hj
      obtain ⟨cs', hc, ht'⟩ := hii i (by omega)
      rw [hC] at hc
      obtain ⟨ys, n', hn', hy, hlen, hyl, hf⟩ := DataW.trod_struct he ht'
      obtain ⟨_, hcl, hat⟩ := World.cells?_some hc
      have hfj : fs[j]? = some fs[j] := Array.getElem?_eq_getElem hj
      obtain ⟨ho, hk⟩ := hone_of hone j fs[j] hfj
      have hcell := hat j hj
      have hv : cs'[j]? = some (cs'[j]'(by omega)) := List.getElem?_eq_getElem (by omega)
      have h1 := hf j fs[j] hfj
      rw [ho, hk] at h1
      have hone' : (cs'.drop j).take 1 = [cs'[j]'(by omega)] := by
        rw [List.drop_eq_getElem_cons (by omega)]
        rfl
      rw [hone'] at h1
      have hys : ys[j]? = some (ys[j]'(by omega)) := List.getElem?_eq_getElem (by omega)
      obtain ⟨z, ez, _, wz⟩ := DataW.trod_int (hi j _ hfj) (h1.trans hys)
      simp only [List.cons.injEq, and_true] at ez
      refine ⟨z, ?_, wz⟩
      rw [← Go.Deep.add_add, hcell, hv, ez]
    have hall : ∀ q, q < n * fs.size → ∃ z, w.cell? (a.add q) = some (.int .i64 z) ∧ (Lit.int .i64 z).wf = true := by
      intro q hq
      have hf0 : 0 < fs.size := by rcases Nat.eq_zero_or_pos fs.size with h0 | h0; (rw [h0] at hq; omega); exact h0
      have := hcell (q / fs.size) (q % fs.size) (Nat.div_lt_of_lt_mul (by rw [Nat.mul_comm]; exact hq)) (Nat.mod_lt _ hf0)
      rw [Nat.mul_comm, Nat.div_add_mod] at this
      exact this
    refine ⟨(List.range (n * fs.size)).map fun q => numAt w (a.add q), ⟨by simp, hl, hmx, fun hn => ?_⟩, ?_⟩
    · have h0 := hpos
      obtain ⟨z0, hz0, _⟩ := hall 0 (Nat.mul_pos hn h0)
      have hspot : a.spot = none := by simpa [Addr.add] using World.cell?_spot hz0
      refine ⟨a.block, a.off, ?_, ?_, fun q hq => ?_⟩
      · obtain ⟨b, o, s⟩ := a
        simp at hspot
        subst hspot
        rfl
      · rw [add_none hspot] at hz0
        exact block_lt_of_cell hz0
      · obtain ⟨z, hz, _⟩ := hall q hq
        rw [← add_none hspot, List.getElem?_map, List.getElem?_map, List.getElem?_range hq]
        simp [numAt, hz]
    · intro z hz
      rw [List.mem_map] at hz
      obtain ⟨q, hq, rfl⟩ := hz
      obtain ⟨z, hz, wz⟩ := hall q (List.mem_range.1 hq)
      simp [numAt, hz, wz]
end Go.Proofs.YtgajgonepcikbaaDoor
