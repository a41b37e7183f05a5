
/- Words on draws and worlds. -/
import Derived.Test.YthdmanngjnfamaaSrc2
namespace Go.Proofs.Ythdmanngjnfamaa
open Go.RowKit Go.Joins

section
variable {W : World} {A : Option Addr} {n c : Nat} {ys : List Int} {b : Nat} {w w' : World}
theorem Sr.drew0 (h : Sr W A n c ys b w) : Drew W A n c ys b w w := ⟨h, grown_refl _ _⟩
theorem Sr.below (h : Sr W A n c ys b w) (hb : Below w.heap.size w w') : Sr W A n c ys b w' := by
  obtain ⟨p, hp, c1⟩ := h.at_
  obtain ⟨s, s1, s2, c2⟩ := h.sd
  exact ⟨h.rd, h.by_, bl_trans h.bel hb, h.lo, keep_cell hb h.c0, ⟨p, hp, keep_cell hb c1⟩, ⟨s, s1, s2, keep_cell hb c2⟩, keep_fr hb c1 h.f1, keep_fr hb c2 h.f2⟩
theorem grown_of_below {r : Option Nat} (hb : Below w.heap.size w w') : w.grownBy w' r := ⟨hb.os, hb.tape, hb.output, hb.size, fun k hk _ => hb.block k hk⟩
theorem Drew.below {w0 : World} (h : Drew W A n c ys b w0 w) (hb : Below w.heap.size w w') : Drew W A n c ys b w0 w' := ⟨h.1.below hb, grown_trans h.2 (grown_of_below hb)⟩
theorem set_cell_far {g o o2 : Nat} {v : Value} (hne : g ≠ b) : (w.setCell ⟨g, o, none⟩ v).cell? ⟨b, o2, none⟩ = w.cell? ⟨b, o2, none⟩ :=
  World.cell?_setCell_other _ _ _ _ (fun e => hne (by injection e))
theorem set_fr_far {g o o2 : Nat} {v : Value} (hne : g ≠ b) : (w.setCell ⟨g, o, none⟩ v).frozen? ⟨b, o2, none⟩ = w.frozen? ⟨b, o2, none⟩ :=
  World.frozen?_of_block (Below.heap_setCell _ _ _ _ (fun e => hne e.symm))
theorem Sr.set {g o : Nat} {v : Value} (h : Sr W A n c ys b w) (hne : g ≠ b) (hg : W.heap.size ≤ g) : Sr W A n c ys b (w.setCell ⟨g, o, none⟩ v) := by
  obtain ⟨p, hp, c1⟩ := h.at_
  obtain ⟨s, s1, s2, c2⟩ := h.sd
  exact ⟨h.rd, h.by_, bl_set h.bel _ _ hg _, h.lo, (set_cell_far hne).trans h.c0, ⟨p, hp, (set_cell_far hne).trans c1⟩, ⟨s, s1, s2, (set_cell_far hne).trans c2⟩, (set_fr_far hne).trans h.f1, (set_fr_far hne).trans h.f2⟩
theorem Drew.set {w0 : World} {g o : Nat} {v : Value} (h : Drew W A n c ys b w0 w) (hne : g ≠ b) (hg : w0.heap.size ≤ g) (hW : W.heap.size ≤ g) : Drew W A n c ys b w0 (w.setCell ⟨g, o, none⟩ v) :=
  ⟨h.1.set hne hW, ⟨h.2.os, h.2.tape, h.2.output, by rw [show (w.setCell ⟨g, o, none⟩ v).heap.size = w.heap.size by simp [World.setCell]]; exact h.2.size, fun k hk hr => (Below.heap_setCell _ _ _ _ (by simp; omega)).trans (h.2.block k hk hr)⟩⟩
theorem Drew.start {w0 : World} (h : Drew W A n c ys b w0 w') (hb : Below w.heap.size w w0) : Drew W A n c ys b w w' := ⟨h.1, grown_trans (grown_of_below hb) h.2⟩
end
end Go.Proofs.Ythdmanngjnfamaa
