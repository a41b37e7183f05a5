
/- Prime powers' text read: what is read, plain; a text split by the program. -/
import Derived.Test.YtgajgonepcikbaaDoorRdR2
import Derived.Test.YtgajgonepcikbaaDoorPwT2
import Derived.Test.YtgajgonepcikbaaDoorFac
namespace Go.Proofs.YtgajgonepcikbaaDoor
open Go.RowKit Go.Joins

theorem ownsRow_lo {w : World} {lo lo' : Nat} {e : TypeId} {sz : Nat} {v : Value} {n : Nat} {cs : List Value} (h : w.ownsRow lo e sz v n cs) (hl : lo' ≤ lo) : w.ownsRow lo' e sz v n cs := by
  refine ⟨h.1, ?_⟩
  rcases h.2 with h | ⟨g, cap, cur, hv, hb, hr⟩
  · exact .inl h
  · exact .inr ⟨g, cap, cur, hv, Nat.le_trans hl hb, hr⟩
theorem split_at {s : ByteArray} {c : UInt8} {W : List (List UInt8)} (hW : W = spl c s.data.toList) (hs : s.size ≤ 1048576) (w : World) (hE : Er w) :
    Calls Tryd.prog 84 #[.string s, .string ⟨#[c]⟩] w fun e w' => e = .returned (.slice (some ⟨w.heap.size, 0, none⟩) W.length W.length) ∧ RdT w' (some ⟨w.heap.size, 0, none⟩) W.length W.length W ∧ Below w.heap.size w w' := by
  obtain ⟨m, hm⟩ := hE.2.2.2
  have e0 : (Lib.splitB ⟨#[c]⟩ 0 (Lib.countB s ⟨#[c]⟩) s).map (·.data.toList) = W := by
    rw [Lib.splitB_data, hW]
    exact splitK_eq c s.data.toList
  have e1 : (Lib.splitB ⟨#[c]⟩ 0 (Lib.countB s ⟨#[c]⟩) s) = W.map bs := by
    rw [← e0, List.map_map]
    conv => lhs; rw [← List.map_id (Lib.splitB ⟨#[c]⟩ 0 (Lib.countB s ⟨#[c]⟩) s)]
    exact List.map_congr_left fun x _ => bs_of x
  have e2 : Lib.countB s ⟨#[c]⟩ + 1 = W.length := by
    rw [← e0, List.length_map, Lib.splitB_all ⟨#[c]⟩ (Nat.le_refl _) 0 _ s rfl]
  have hn : W.length ≤ 1048577 := by
    have := Lib.countB_le ⟨#[c]⟩ (Nat.le_refl _) s.size s (Nat.le_refl _)
    omega
  refine (Tryd.strings_Split s ⟨#[c]⟩ m w (by omega) hm (Nat.le_refl _)).mono ?_
  rintro e w' ⟨rfl, rfl⟩
  rw [e1, e2]
  refine ⟨rfl, ⟨by rw [tcs_len]; omega, Nat.le_refl _, by unfold maxLen; omega, fun _ => ⟨w.heap.size, 0, rfl, by simp, fun i hi => ?_⟩⟩, bl_alloc (Below.refl _ _) _⟩
  rw [Nat.mul_one] at hi
  rw [Nat.zero_add, tcs_at W hi]
  simp [List.getElem?_eq_getElem hi, List.getD]

/-- a list of pairs, flat -/
def fl2 (L : List (Int × Int)) : List Int := L.flatMap fun x => [x.1, x.2]
theorem fl2_flat (L : List (Int × Int)) : flat2 L = (fl2 L).map (Value.int .i64) := by
  unfold flat2 fl2
  induction L with
  | nil => rfl
  | cons x L ih => rw [List.flatMap_cons, List.flatMap_cons, List.map_append, ih]; rfl
theorem fl2_len (L : List (Int × Int)) : (fl2 L).length = L.length * 2 := by
  have := flat2_len L
  rw [fl2_flat, List.length_map] at this
  exact this
theorem fl2_at (L : List (Int × Int)) {i : Nat} (h : i < L.length) : pP (fl2 L) i = (L.getD i (0, 0)).1 ∧ pE (fl2 L) i = (L.getD i (0, 0)).2 := by
  have ⟨h1, h2⟩ := flat2_at L i h
  rw [fl2_flat, List.getElem?_map] at h1 h2
  unfold pP pE
  simp only [List.getD] at h1 h2 ⊢
  constructor
  · cases e : (fl2 L)[i * 2]? with
    | none => rw [e] at h1; cases h1
    | some v => rw [e] at h1; simpa using h1
  · cases e : (fl2 L)[i * 2 + 1]? with
    | none => rw [e] at h2; cases h2
    | some v => rw [e] at h2; simpa using h2
theorem pwL_fl2 (L : List (Int × Int)) : pwL (fl2 L) L.length = L := by
  apply List.ext_getElem
  · rw [pwL_len]
  · intro i h1 h2
    have ⟨a, b⟩ := fl2_at L h2
    simp only [pwL, List.getElem_map, List.getElem_range, a, b, List.getD, List.getElem?_eq_getElem h2, Option.getD_some]
theorem spl_cnt (c : UInt8) : ∀ l : List UInt8, (spl c l).length ≤ l.length + 1
  | [] => by simp [spl]
  | a :: l => by
    have ih := spl_cnt c l
    unfold spl
    split
    · simp; omega
    · split
      · simp
      · rename_i w ws e
        rw [e] at ih
        simp at ih ⊢; omega
def lP (l : List UInt8) : List (Int × Int) := (spl 42 l).map pwP1
def lS (l : List UInt8) : List (Int × Int) := if l = [49] then [] else (spl 42 l).map pwS1
/-- the list is one of prime powers, and the text is its text -/
def RpOk (l : List UInt8) (L : List (Int × Int)) : Prop := PwOk (fl2 L) L.length ∧ pwT L = l
theorem PwOk.b01 {L : List (Int × Int)} (h : PwOk (fl2 L) L.length) : ∀ x ∈ L, B01 x := by
  intro x hx
  obtain ⟨i, hi, rfl⟩ := List.getElem_of_mem hx
  have hk := h.1 i hi
  have ⟨a, b⟩ := fl2_at L hi
  unfold PwK at hk
  rw [a, b] at hk
  simp only [List.getD, List.getElem?_eq_getElem hi, Option.getD_some] at hk
  have := hk.1.1.1
  unfold B01
  omega
theorem lP_ne (l : List UInt8) : lP l ≠ [] := by
  unfold lP
  simpa using spl_ne 42 l
theorem rp_eq {l : List UInt8} (h : l ≠ [49]) : (RpOk l (lP l) ↔ RpOk l (lS l)) ∧ (RpOk l (lS l) → lP l = lS l) := by
  have e1 : RpOk l (lP l) → lS l = lP l := fun ⟨h1, h2⟩ => by
    have := pwS_text (lP_ne l) h1.b01
    rw [h2] at this
    unfold lS
    rw [if_neg h]
    exact this
  have e2 : RpOk l (lS l) → lP l = lS l := fun ⟨h1, h2⟩ => by
    have hne : lS l ≠ [] := by
      unfold lS
      rw [if_neg h]
      simpa using spl_ne 42 l
    have := pwP_text hne h1.b01
    rw [h2] at this
    exact this
  refine ⟨⟨fun h1 => by rw [e1 h1]; exact h1, fun h1 => by rw [e2 h1]; exact h1⟩, e2⟩
open Classical in
/-- what ReadPowers gives -/
noncomputable def rpL (l : List UInt8) : List (Int × Int) := if RpOk l (lS l) then lS l else []
open Classical in
noncomputable def rpC (l : List UInt8) : Int := if RpOk l (lS l) then 0 else 6
theorem rp_yes {l : List UInt8} (h : RpOk l (lS l)) : rpL l = lS l ∧ rpC l = 0 := by
  unfold rpL rpC; rw [if_pos h, if_pos h]; exact ⟨rfl, rfl⟩
theorem rp_no {l : List UInt8} (h : ¬ RpOk l (lS l)) : rpL l = [] ∧ rpC l = 6 := by
  unfold rpL rpC; rw [if_neg h, if_neg h]; exact ⟨rfl, rfl⟩
theorem rpL_len {l : List UInt8} : (rpL l).length ≤ 1048576 := by
  by_cases h : RpOk l (lS l)
  · rw [(rp_yes h).1]; have := h.1.2; omega
  · rw [(rp_no h).1]; simp
theorem rp_one : RpOk [49] (lS [49]) ∧ lS [49] = [] := by
  have e : lS [49] = [] := by unfold lS; rw [if_pos rfl]
  refine ⟨?_, e⟩
  rw [e]
  exact ⟨⟨fun k hk => absurd hk (Nat.not_lt_zero _), by simp⟩, rfl⟩
theorem str_eq {s : ByteArray} {l : List UInt8} (h : s.data.toList = l) : (s.toList == l) = true ∧ (s.toList != l) = false := by
  rw [ByteArray.toList_eq, h]; simp
theorem str_ne {s : ByteArray} {l : List UInt8} (h : ¬ s.data.toList = l) : (s.toList == l) = false ∧ (s.toList != l) = true := by
  have : (s.toList == l) = false := by rw [ByteArray.toList_eq, beq_eq_false_iff_ne]; exact h
  exact ⟨this, by rw [bne, this]; rfl⟩
end Go.Proofs.YtgajgonepcikbaaDoor
