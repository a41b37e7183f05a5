
/- Texts of rational numbers, prime powers and splittings, plain: each is recovered. -/
import Derived.Test.YtgajgonepcikbaaDoorTxt
namespace Go.Proofs.YtgajgonepcikbaaDoor
open Go.Lib

theorem nd (c : UInt8) (h : ¬ Dig c) (h45 : c ≠ 45) (n : Int) : c ∉ itoa n := itoa_not h h45 n

/-! ### rational numbers -/
def ratT (n d : Int) : List UInt8 := if d = 1 then itoa n else itoa n ++ 47 :: itoa d
/-- what ReadRational reads, by the program's way: the numerator, whether it is one, the denominator -/
def ratP (s : List UInt8) : Int × Bool × Int := (rdV (cut s [47]).1, rdB (cut s [47]).1, if (cut s [47]).2.2 = true then rdV (cut s [47]).2.1 else 1)
/-- by the reference's way -/
def ratS (s : List UInt8) : Int × Int := (lsV ((spl 47 s).getD 0 []), if 1 < (spl 47 s).length then lvV ((spl 47 s).getD 1 []) else 1)
def B13 (n : Int) : Prop := -1000000000000 ≤ n ∧ n ≤ 1000000000000
theorem ratP_text {n d : Int} (hn : B13 n) (hd : B13 d) : ratP (ratT n d) = (n, true, d) := by
  unfold B13 at hn hd
  have ⟨a1, a2⟩ := rd_itoa (n := n) (by omega) (by omega)
  have ⟨b1, b2⟩ := rd_itoa (n := d) (by omega) (by omega)
  have hs : (47 : UInt8) ∉ itoa n := nd 47 (by decide) (by decide) n
  unfold ratT ratP
  by_cases h : d = 1
  · rw [if_pos h, cut_not hs]
    simp [a1, a2, h]
  · rw [if_neg h, cut_app _ hs]
    simp [a1, a2, b1]
theorem ratS_text {n d : Int} (hn : B13 n) (hd : B13 d) (h1 : 1 ≤ d) : ratS (ratT n d) = (n, d) := by
  unfold B13 at hn hd
  have ⟨a1, a2⟩ := ls_itoa (n := n) (by omega) (by omega)
  have hs : (47 : UInt8) ∉ itoa n := nd 47 (by decide) (by decide) n
  have hs2 : (47 : UInt8) ∉ itoa d := nd 47 (by decide) (by decide) d
  unfold ratT ratS
  by_cases h : d = 1
  · rw [if_pos h, spl_not hs]
    simp [a1, h]
  · rw [if_neg h, spl_app _ hs, spl_not hs2]
    obtain ⟨u, rfl⟩ : ∃ u : Nat, d = (u : Int) := ⟨d.toNat, by omega⟩
    have ⟨b1, b2⟩ := lv_dec (u := u) (by omega)
    simp [a1, itoa_nat, b1]

/-! ### prime powers -/
def pwW (x : Int × Int) : List UInt8 := if x.2 = 1 then itoa x.1 else itoa x.1 ++ 94 :: itoa x.2
def pwT (l : List (Int × Int)) : List UInt8 := if l = [] then [49] else join (l.map pwW) [42]
def pwP1 (w : List UInt8) : Int × Int := (rdV (cut w [94]).1, if (cut w [94]).2.2 = true then rdV (cut w [94]).2.1 else 1)
def pwS1 (w : List UInt8) : Int × Int := (lvV ((spl 94 w).getD 0 []), if 1 < (spl 94 w).length then lvV ((spl 94 w).getD 1 []) else 1)
def B01 (x : Int × Int) : Prop := (0 ≤ x.1 ∧ x.1 ≤ 1000000000000) ∧ (0 ≤ x.2 ∧ x.2 ≤ 1000000000000)
theorem pwP1_word {x : Int × Int} (h : B01 x) : pwP1 (pwW x) = x := by
  unfold B01 at h
  have ⟨a1, _⟩ := rd_itoa (n := x.1) (by omega) (by omega)
  have ⟨b1, _⟩ := rd_itoa (n := x.2) (by omega) (by omega)
  have hs : (94 : UInt8) ∉ itoa x.1 := nd 94 (by decide) (by decide) _
  unfold pwW pwP1
  by_cases h1 : x.2 = 1
  · rw [if_pos h1, cut_not hs, a1]
    simp [← h1]
  · rw [if_neg h1, cut_app _ hs, a1]
    simp [b1]
theorem pwS1_word {x : Int × Int} (h : B01 x) : pwS1 (pwW x) = x := by
  unfold B01 at h
  obtain ⟨p, k⟩ := x
  simp only at h
  obtain ⟨u, rfl⟩ : ∃ u : Nat, p = (u : Int) := ⟨p.toNat, by omega⟩
  obtain ⟨v, rfl⟩ : ∃ u : Nat, k = (u : Int) := ⟨k.toNat, by omega⟩
  have ⟨a1, _⟩ := lv_dec (u := u) (by omega)
  have ⟨b1, _⟩ := lv_dec (u := v) (by omega)
  have hs : (94 : UInt8) ∉ decDigits u := dec_not (by decide) u
  have hs2 : (94 : UInt8) ∉ decDigits v := dec_not (by decide) v
  unfold pwW pwS1
  simp only [itoa_nat]
  by_cases h1 : (v : Int) = 1
  · rw [if_pos h1, spl_not hs]
    simp [a1, h1]
  · rw [if_neg h1, spl_app _ hs, spl_not hs2]
    simp [a1, b1]
theorem pwW_not (x : Int × Int) : (42 : UInt8) ∉ pwW x := by
  have h1 : (42 : UInt8) ∉ itoa x.1 := nd 42 (by decide) (by decide) _
  have h2 : (42 : UInt8) ∉ itoa x.2 := nd 42 (by decide) (by decide) _
  unfold pwW
  split
  · exact h1
  · simp [h1, h2]
theorem pw_words {l : List (Int × Int)} (h : l ≠ []) : spl 42 (pwT l) = l.map pwW := by
  unfold pwT
  rw [if_neg h]
  apply spl_join
  · simpa using h
  · intro w hw
    obtain ⟨x, _, rfl⟩ := List.mem_map.1 hw
    exact pwW_not x
theorem map_id_of {α β : Type} {f : α → β} {g : β → α} {l : List α} (h : ∀ x ∈ l, g (f x) = x) : (l.map f).map g = l := by
  rw [List.map_map]
  conv => rhs; rw [← List.map_id l]
  exact List.map_congr_left h
theorem pwP_text {l : List (Int × Int)} (h : l ≠ []) (hb : ∀ x ∈ l, B01 x) : (spl 42 (pwT l)).map pwP1 = l := by
  rw [pw_words h]; exact map_id_of fun x hx => pwP1_word (hb x hx)
theorem pwS_text {l : List (Int × Int)} (h : l ≠ []) (hb : ∀ x ∈ l, B01 x) : (spl 42 (pwT l)).map pwS1 = l := by
  rw [pw_words h]; exact map_id_of fun x hx => pwS1_word (hb x hx)
/-- only the empty list, and [(1, 1)], read "1" -/
theorem pwT_one {l : List (Int × Int)} (hb : ∀ x ∈ l, B01 x) (h : pwT l = [49]) : l = [] ∨ l = [(1, 1)] := by
  by_cases h0 : l = []
  · exact .inl h0
  · right
    rw [← pwP_text h0 hb, h]
    decide

/-! ### splittings -/
def spW (x : Int × Int × Int) : List UInt8 := itoa x.1 ++ 44 :: (itoa x.2.1 ++ 120 :: itoa x.2.2)
def spT (l : List (Int × Int × Int)) : List UInt8 := if l = [] then [45] else join (l.map spW) [32]
def spP1 (w : List UInt8) : Int × Int × Int := (rdV (cut (cut w [120]).1 [44]).1, rdV (cut (cut w [120]).1 [44]).2.1, rdV (cut w [120]).2.1)
/-- the reference's reader of a word: the pair of numbers, whether they are two, the last one -/
def spS1 (w : List UInt8) : List (List UInt8) × Int := (spl 44 ((spl 120 w).getD 0 []), if (spl 120 w).length = 2 then lvV ((spl 120 w).getD 1 []) else 0)
def B02 (x : Int × Int × Int) : Prop := (0 ≤ x.1 ∧ x.1 ≤ 1000) ∧ (0 ≤ x.2.1 ∧ x.2.1 ≤ 1000) ∧ (0 ≤ x.2.2 ∧ x.2.2 ≤ 1000)
theorem sp_120 (x : Int × Int × Int) : (120 : UInt8) ∉ itoa x.1 ++ 44 :: itoa x.2.1 := by
  have h1 : (120 : UInt8) ∉ itoa x.1 := nd 120 (by decide) (by decide) _
  have h2 : (120 : UInt8) ∉ itoa x.2.1 := nd 120 (by decide) (by decide) _
  simp [h1, h2]
theorem spW_eq (x : Int × Int × Int) : spW x = (itoa x.1 ++ 44 :: itoa x.2.1) ++ 120 :: itoa x.2.2 := by simp [spW]
theorem spP1_word {x : Int × Int × Int} (h : B02 x) : spP1 (spW x) = x := by
  unfold B02 at h
  have ⟨a1, _⟩ := rd_itoa (n := x.1) (by omega) (by omega)
  have ⟨b1, _⟩ := rd_itoa (n := x.2.1) (by omega) (by omega)
  have ⟨c1, _⟩ := rd_itoa (n := x.2.2) (by omega) (by omega)
  have h1 : (44 : UInt8) ∉ itoa x.1 := nd 44 (by decide) (by decide) _
  unfold spP1
  rw [spW_eq, cut_app _ (sp_120 x)]
  simp only
  rw [cut_app _ h1, a1, b1, c1]
theorem spS1_word {x : Int × Int × Int} (h : B02 x) : spS1 (spW x) = ([itoa x.1, itoa x.2.1], x.2.2) := by
  unfold B02 at h
  have h1 : (44 : UInt8) ∉ itoa x.1 := nd 44 (by decide) (by decide) _
  have h2 : (44 : UInt8) ∉ itoa x.2.1 := nd 44 (by decide) (by decide) _
  have h3 : (120 : UInt8) ∉ itoa x.2.2 := nd 120 (by decide) (by decide) _
  obtain ⟨u, hu⟩ : ∃ u : Nat, x.2.2 = (u : Int) := ⟨x.2.2.toNat, by omega⟩
  have ⟨b1, _⟩ := lv_dec (u := u) (by omega)
  unfold spS1
  rw [spW_eq, spl_app _ (sp_120 x), spl_not h3]
  have e : [itoa x.1 ++ 44 :: itoa x.2.1, itoa x.2.2].getD 0 [] = itoa x.1 ++ 44 :: itoa x.2.1 := rfl
  rw [e, spl_app _ h1, spl_not h2, hu, itoa_nat]
  simp [b1]
theorem spW_not (x : Int × Int × Int) : (32 : UInt8) ∉ spW x := by
  have h1 : (32 : UInt8) ∉ itoa x.1 := nd 32 (by decide) (by decide) _
  have h2 : (32 : UInt8) ∉ itoa x.2.1 := nd 32 (by decide) (by decide) _
  have h3 : (32 : UInt8) ∉ itoa x.2.2 := nd 32 (by decide) (by decide) _
  simp [spW, h1, h2, h3]
theorem sp_words {l : List (Int × Int × Int)} (h : l ≠ []) : spl 32 (spT l) = l.map spW := by
  unfold spT
  rw [if_neg h]
  apply spl_join
  · simpa using h
  · intro w hw
    obtain ⟨x, _, rfl⟩ := List.mem_map.1 hw
    exact spW_not x
theorem spP_text {l : List (Int × Int × Int)} (h : l ≠ []) (hb : ∀ x ∈ l, B02 x) : (spl 32 (spT l)).map spP1 = l := by
  rw [sp_words h]; exact map_id_of fun x hx => spP1_word (hb x hx)
/-- "-" is the empty list's text alone -/
theorem spT_dash {l : List (Int × Int × Int)} (h : spT l = [45]) : l = [] := by
  apply Decidable.byContradiction
  intro h0
  have h1 := sp_words h0
  rw [h] at h1
  cases l with
  | nil => exact h0 rfl
  | cons x r =>
    have h2 : spl 32 [45] = [[45]] := by decide
    rw [h2] at h1
    simp only [List.map_cons, List.cons.injEq] at h1
    have h3 : (44 : UInt8) ∈ spW x := by simp [spW]
    rw [← h1.1] at h3
    simp at h3
end Go.Proofs.YtgajgonepcikbaaDoor
