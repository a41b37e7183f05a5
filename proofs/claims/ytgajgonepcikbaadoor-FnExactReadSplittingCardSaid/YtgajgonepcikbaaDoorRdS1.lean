
/- Splittings' text read: what is read, plain. -/
import Derived.Test.YtgajgonepcikbaaDoorRdP1
import Derived.Test.YtgajgonepcikbaaDoorSpT2
namespace Go.Proofs.YtgajgonepcikbaaDoor
open Go.RowKit Go.Joins

/-- the cells of a list of triples -/
def flat3 (l : List (Int × Int × Int)) : List Value := l.flatMap fun x => [.int .i64 x.1, .int .i64 x.2.1, .int .i64 x.2.2]
theorem flat3_len (l : List (Int × Int × Int)) : (flat3 l).length = l.length * 3 := by
  unfold flat3
  induction l with
  | nil => rfl
  | cons x l ih => rw [List.flatMap_cons, List.length_append, ih]; simp; omega
theorem flat3_snoc (l : List (Int × Int × Int)) (p q t : Int) : flat3 (l ++ [(p, q, t)]) = flat3 l ++ [.int .i64 p, .int .i64 q, .int .i64 t] := by
  unfold flat3; rw [List.flatMap_append]; rfl
def fl3 (L : List (Int × Int × Int)) : List Int := L.flatMap fun x => [x.1, x.2.1, x.2.2]
theorem fl3_flat (L : List (Int × Int × Int)) : flat3 L = (fl3 L).map (Value.int .i64) := by
  unfold flat3 fl3
  induction L with
  | nil => rfl
  | cons x L ih => rw [List.flatMap_cons, List.flatMap_cons, List.map_append, ih]; rfl
theorem fl3_at (L : List (Int × Int × Int)) {i : Nat} (h : i < L.length) : zR (fl3 L) i = (L.getD i (0, 0, 0)).1 ∧ zI (fl3 L) i = (L.getD i (0, 0, 0)).2.1 ∧ zT (fl3 L) i = (L.getD i (0, 0, 0)).2.2 := by
  induction L generalizing i with
  | nil => simp at h
  | cons x L ih =>
    unfold zR zI zT at *
    have e : fl3 (x :: L) = x.1 :: x.2.1 :: x.2.2 :: fl3 L := rfl
    rw [e]
    cases i with
    | zero => simp
    | succ i =>
      have := ih (i := i) (by simpa using h)
      rw [show (i + 1) * 3 = i * 3 + 3 by omega]
      simpa [List.getD] using this
theorem spL_fl3 (L : List (Int × Int × Int)) : spL (fl3 L) L.length = L := by
  apply List.ext_getElem
  · rw [spL_len]
  · intro i h1 h2
    have ⟨a, b, c⟩ := fl3_at L h2
    simp only [spL, List.getElem_map, List.getElem_range, a, b, c, List.getD, List.getElem?_eq_getElem h2, Option.getD_some]
def l3 (l : List UInt8) : List (Int × Int × Int) := if l = [45] then [] else (spl 32 l).map spP1
/-- the list is one of splittings, and the text is its text -/
def RsOk (l : List UInt8) (L : List (Int × Int × Int)) : Prop := SpOk (fl3 L) L.length ∧ spT L = l
instance (l : List UInt8) (L : List (Int × Int × Int)) : Decidable (RsOk l L) := by unfold RsOk; infer_instance
theorem SpOk.b02 {L : List (Int × Int × Int)} (h : SpOk (fl3 L) L.length) : ∀ x ∈ L, B02 x := by
  intro x hx
  obtain ⟨i, hi, rfl⟩ := List.getElem_of_mem hx
  have hk := (h.1 i hi).1
  have ⟨a, b, c⟩ := fl3_at L hi
  rw [a, b, c] at hk
  simp only [List.getD, List.getElem?_eq_getElem hi, Option.getD_some] at hk
  unfold O8 at hk
  unfold B02
  omega
/-- the reference's words -/
def wV (x : List UInt8) : List (List UInt8) := spl 120 x
def wU (x : List UInt8) : List (List UInt8) := spl 44 ((wV x).getD 0 [])
def wOk (x : List UInt8) : Bool := (wU x).all lsB && decide ((wU x).length = 2)
def wS (x : List UInt8) : Int × Int × Int := (lsV ((wU x).getD 0 []), lsV ((wU x).getD 1 []), if (wV x).length = 2 then lvV ((wV x).getD 1 []) else 0)
theorem w_word {x : Int × Int × Int} (h : B02 x) : wOk (spW x) = true ∧ wS (spW x) = x := by
  have e := spS1_word h
  unfold spS1 at e
  have e1 : wU (spW x) = [Lib.itoa x.1, Lib.itoa x.2.1] := congrArg Prod.fst e
  have e2 : (if (wV (spW x)).length = 2 then lvV ((wV (spW x)).getD 1 []) else 0) = x.2.2 := congrArg Prod.snd e
  unfold B02 at h
  have ⟨a1, a2⟩ := ls_itoa (n := x.1) (by omega) (by omega)
  have ⟨b1, b2⟩ := ls_itoa (n := x.2.1) (by omega) (by omega)
  unfold wOk wS
  rw [e1, e2]
  simp [a1, a2, b1, b2]
theorem l3_ne {l : List UInt8} (h : l ≠ [45]) : l3 l ≠ [] := by
  unfold l3
  rw [if_neg h]
  simpa using spl_ne 32 l
theorem rs_fw {l : List UInt8} (h : l ≠ [45]) (hr : RsOk l (l3 l)) : (∀ x ∈ spl 32 l, wOk x = true) ∧ (spl 32 l).map wS = l3 l := by
  obtain ⟨h1, h2⟩ := hr
  have hw := sp_words (l3_ne h)
  rw [h2] at hw
  rw [hw]
  have hb := h1.b02
  constructor
  · intro x hx
    obtain ⟨y, hy, rfl⟩ := List.mem_map.1 hx
    exact (w_word (hb y hy)).1
  · exact map_id_of fun y hy => (w_word (hb y hy)).2
theorem rs_bw {l : List UInt8} (h : l ≠ [45]) (hr : RsOk l ((spl 32 l).map wS)) : l3 l = (spl 32 l).map wS := by
  obtain ⟨h1, h2⟩ := hr
  have hne : (spl 32 l).map wS ≠ [] := by simpa using spl_ne 32 l
  have := spP_text hne h1.b02
  rw [h2] at this
  unfold l3
  rw [if_neg h]
  exact this
/-- what ReadSplitting gives -/
def rsL (l : List UInt8) : List (Int × Int × Int) := if RsOk l (l3 l) then l3 l else []
def rsC (l : List UInt8) : Int := if RsOk l (l3 l) then 0 else 6
theorem rs_yes {l : List UInt8} (h : RsOk l (l3 l)) : rsL l = l3 l ∧ rsC l = 0 := by unfold rsL rsC; rw [if_pos h, if_pos h]; exact ⟨rfl, rfl⟩
theorem rs_no {l : List UInt8} (h : ¬ RsOk l (l3 l)) : rsL l = [] ∧ rsC l = 6 := by unfold rsL rsC; rw [if_neg h, if_neg h]; exact ⟨rfl, rfl⟩
theorem rsL_len {l : List UInt8} : (rsL l).length ≤ 1048576 := by
  by_cases h : RsOk l (l3 l)
  · rw [(rs_yes h).1]; have := h.1.len; omega
  · rw [(rs_no h).1]; simp
theorem rs_one : RsOk [45] (l3 [45]) ∧ l3 [45] = [] := by
  have e : l3 [45] = [] := by unfold l3; rw [if_pos rfl]
  refine ⟨?_, e⟩
  rw [e]
  exact ⟨⟨fun k hk => absurd hk (Nat.not_lt_zero _), by decide⟩, rfl⟩
theorem infoSp3 : (Tryd.prog.info? 81).map (fun i => (i.zero, i.size, i.bytes)) = some (some (.agg #[.int .i64 0, .int .i64 0, .int .i64 0]), 3, 24) := by kernel_rfl
theorem newT3 (w : World) (x y z : Int) (T : TypeId) : ∀ j u, [Value.int .i64 x, .int .i64 y, .int .i64 z][j]? = some u → (w.alloc (.cells #[.int .i64 x, .int .i64 y, .int .i64 z] T)).cell? ((⟨w.heap.size, 0, none⟩ : Addr).add j) = some u := by
  intro j u hj
  match j, hj with
  | 0, hj => simp at hj; subst hj; simp [Addr.add]
  | 1, hj => simp at hj; subst hj; simp [Addr.add]
  | 2, hj => simp at hj; subst hj; simp [Addr.add]
theorem oneT3 (x y z : Int) : ∀ u ∈ [Value.int .i64 x, .int .i64 y, .int .i64 z], u.oneCell' = true := by
  intro u hu; simp at hu; rcases hu with rfl | rfl | rfl <;> rfl
end Go.Proofs.YtgajgonepcikbaaDoor
