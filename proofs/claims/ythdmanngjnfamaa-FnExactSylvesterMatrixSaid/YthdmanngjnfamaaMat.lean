
/- Matrices: a slice of rows, each row in a block of its own. -/
import Derived.Test.YthdmanngjnfamaaTab
namespace Go.Proofs.Ythdmanngjnfamaa
open Go.RowKit

theorem infoRow : (Try.prog.info? 22).map (fun i => (i.zero, i.size, i.bytes)) = some (some (.slice none 0 0), 1, 24) := by kernel_rfl
/-- a row of N integers in block g -/
def rowV (N g : Nat) : Value := .slice (some ⟨g, 0, none⟩) N N
/-- row k of a Sylvester matrix -/
def rowF (f : List Int) (N k : Nat) : List Int := tab N (fun j => if k ≤ j ∧ j < k + f.length then f.getD (f.length - 1 - (j - k)) 0 else 0)
def rowsL (f : List Int) (N : Nat) : Nat → List (List Int)
  | 0 => []
  | k + 1 => rowsL f N k ++ [rowF f N k]
theorem rowsL_len (f : List Int) (N : Nat) : ∀ k, (rowsL f N k).length = k
  | 0 => rfl
  | k + 1 => by
    show (rowsL f N k ++ [rowF f N k]).length = _
    rw [List.length_append, rowsL_len f N k]; rfl
/-- the slice value v holds rows of N integers that read as rs; all in blocks of their own from lo on -/
structure Mx (w : World) (lo : Nat) (v : Value) (N : Nat) (gs : List Nat) (rs : List (List Int)) : Prop where
  own : w.ownsRow lo 22 1 v gs.length (gs.map (rowV N))
  len : rs.length = gs.length
  row : ∀ i, i < gs.length → OwnI w lo (some ⟨gs.getD i 0, 0, none⟩) N N (rs.getD i [])
  nd : ∀ i j, i < j → j < gs.length → gs.getD i 0 ≠ gs.getD j 0
theorem row_ne {w : World} {lo lo' : Nat} {e e' : TypeId} {sz sz' : Nat} {v v' : Value} {n n' : Nat} {cs cs' : List Value} (h : w.ownsRow lo e sz v n cs) (h' : w.ownsRow lo' e' sz' v' n' cs') (hne : e ≠ e') : v.ownBlock = none ∨ v.ownBlock ≠ v'.ownBlock := by
  rcases h.2 with ⟨rfl, _⟩ | ⟨g, cap, cur, rfl, _, hh, _⟩
  · exact .inl rfl
  · rcases h'.2 with ⟨rfl, _⟩ | ⟨g', cap', cur', rfl, _, hh', _⟩
    · right; simp [Value.ownBlock]
    · right
      intro e1
      simp [Value.ownBlock] at e1
      subst e1
      rw [hh] at hh'
      simp at hh'
      exact hne hh'.2
theorem rowOf_pos {g N : Nat} (h : 0 < N) : rowOf (some ⟨g, 0, none⟩) N = some g := by unfold rowOf; rw [if_neg (by omega)]; rfl
section
variable {w w' : World} {lo N : Nat} {v : Value} {gs : List Nat} {rs : List (List Int)}
theorem Mx.ge (h : Mx w lo v N gs rs) (hN : 0 < N) {i : Nat} (hi : i < gs.length) : lo ≤ gs.getD i 0 ∧ gs.getD i 0 < w.heap.size := OwnC.row_ge (h.row i hi) _ (rowOf_pos hN)
theorem Mx.sep (h : Mx w lo v N gs rs) (hN : 0 < N) {i : Nat} (hi : i < gs.length) : v.ownBlock ≠ some (gs.getD i 0) := by
  have h1 := (h.row i hi).2.2.2 hN
  rcases row_ne h.own h1 (by decide) with e | e
  · rw [e]; simp
  · simpa [Value.ownBlock] using e
theorem Mx.kept (h : Mx w lo v N gs rs) (hN : 0 < N) {row : Option Nat} (hg : w.grownBy w' row) (h1 : v.ownBlock = none ∨ v.ownBlock ≠ row) (h2 : ∀ i, i < gs.length → row ≠ some (gs.getD i 0)) : Mx w' lo v N gs rs :=
  ⟨h.own.kept hg h1, h.len, fun i hi => (h.row i hi).kept hg (.inr (by rw [rowOf_pos hN]; exact fun e => h2 i hi e.symm)), h.nd⟩
theorem Mx.below (h : Mx w lo v N gs rs) (hN : 0 < N) (hb : Below w.heap.size w w') : Mx w' lo v N gs rs :=
  h.kept hN (row := none) ⟨hb.os, hb.tape, hb.output, hb.size, fun k hk _ => hb.block k hk⟩ (by cases v.ownBlock <;> simp) (fun _ _ => by simp)
theorem Mx.nil (h : w.ownsRow lo 22 1 v 0 []) : Mx w lo v N [] [] := ⟨h, rfl, fun _ hi => absurd hi (Nat.not_lt_zero _), fun _ _ _ hj => absurd hj (Nat.not_lt_zero _)⟩
theorem getD_snoc_lt {α : Type} (l : List α) (x d : α) {i : Nat} (h : i < l.length) : (l ++ [x]).getD i d = l.getD i d := by simp [List.getD, List.getElem?_append_left h]
theorem getD_snoc_eq {α : Type} (l : List α) (x d : α) : (l ++ [x]).getD l.length d = x := by simp [List.getD]
/-- a row appended -/
theorem Mx.snoc (h : Mx w lo v N gs rs) (hN : 0 < N) {g : Nat} {xs : List Int} (hr : OwnI w lo (some ⟨g, 0, none⟩) N N xs) (hne : ∀ i, i < gs.length → gs.getD i 0 ≠ g) (hv : v.ownBlock ≠ some g) {v' : Value}
    (ho : w'.ownsRow lo 22 1 v' (gs.length + 1) (gs.map (rowV N) ++ [rowV N g])) (hg : w.grownBy w' v.ownBlock) : Mx w' lo v' N (gs ++ [g]) (rs ++ [xs]) := by
  have hlen : (gs ++ [g]).length = gs.length + 1 := by simp
  refine ⟨by rw [hlen, List.map_append]; exact ho, by rw [List.length_append, hlen, h.len]; rfl, fun i hi => ?_, fun i j hij hj => ?_⟩
  · rw [hlen] at hi
    rcases Nat.lt_or_ge i gs.length with hlt | hge
    · rw [getD_snoc_lt _ _ _ hlt, getD_snoc_lt _ _ _ (by rw [h.len]; exact hlt)]
      exact (h.row i hlt).kept hg (.inr (by rw [rowOf_pos hN]; exact fun e => h.sep hN hlt e.symm))
    · obtain rfl : i = gs.length := by omega
      rw [getD_snoc_eq, ← h.len, getD_snoc_eq]
      exact hr.kept hg (.inr (by rw [rowOf_pos hN]; exact fun e => hv e.symm))
  · rw [hlen] at hj
    rw [getD_snoc_lt _ _ _ (show i < gs.length by omega)]
    rcases Nat.lt_or_ge j gs.length with hlt | hge
    · rw [getD_snoc_lt _ _ _ hlt]; exact h.nd i j hij hlt
    · obtain rfl : j = gs.length := by omega
      rw [getD_snoc_eq]; exact hne i (by omega)
theorem rowV_one (N g : Nat) : ∀ u ∈ [rowV N g], u.oneCell' = true := by intro u hu; simp at hu; subst hu; rfl
/-- a cell of the outer slice -/
theorem Mx.at_ {A : Option Addr} {n c : Nat} (h : Mx w lo (.slice A n c) N gs rs) {i : Nat} (hi : i < gs.length) : n = gs.length ∧ n ≤ c ∧ c ≤ maxLen ∧ ∃ b, A = some ⟨b, 0, none⟩ ∧ w.cell? ⟨b, i, none⟩ = some (rowV N (gs.getD i 0)) := by
  have h0 := h.own
  obtain ⟨A', c', e, hr⟩ := own_cells h0
  simp at e
  obtain ⟨rfl, rfl, rfl⟩ := e
  rcases h0.2 with ⟨e, e2⟩ | ⟨g, cap, cur, e, hrest⟩
  · simp at e2; rw [e2] at hi; simp at hi
  · simp at e
    obtain ⟨rfl, rfl⟩ := e
    refine ⟨rfl, hr.2.1, hr.2.2.1, g, rfl, ?_⟩
    obtain ⟨b, off, e, hb, hc⟩ := hr.2.2.2 (by omega)
    simp at e
    obtain ⟨rfl, rfl⟩ := e
    have := hc i (by omega)
    rw [Nat.zero_add] at this
    rw [this, List.getElem?_map, List.getElem?_eq_getElem hi]
    simp [List.getD, List.getElem?_eq_getElem hi]
end
end Go.Proofs.Ythdmanngjnfamaa
