
/- The reference's reader of polynomials, plain: what a term gives, byte by byte. -/
import Derived.Test.YtgajgonepcikbaaDoorRdF2
namespace Go.Proofs.YtgajgonepcikbaaDoor
open Go.RowKit Go.Joins Go.Lib

/-- the coefficient of a term -/
def cvQ (a : List UInt8) : Int := if a = [] then 1 else lvV a
/-- what l06Term gives -/
def tmQ (w : List UInt8) : Int × Int × Bool :=
  if w = [] ∨ ¬ ((cut w [120]).1 = [] ∨ lvB (cut w [120]).1 = true) then (0, 0, false)
  else if ¬ (cut w [120]).2.2 = true then (cvQ (cut w [120]).1, 0, true)
  else if (cut w [120]).2.1 = [] then (cvQ (cut w [120]).1, 1, true)
  else if ¬ (cut w [120]).2.1.head? = some 94 then (0, 0, false)
  else (cvQ (cut w [120]).1, lvV (cut w [120]).2.1.tail, lvB (cut w [120]).2.1.tail && (decide (2 ≤ lvV (cut w [120]).2.1.tail) && decide (lvV (cut w [120]).2.1.tail ≤ 8)))
theorem tmS_Q (w : List UInt8) : tmS w = if (tmQ w).2.2 = true then some ((tmQ w).1, (tmQ w).2.1) else none := by
  unfold tmS tmQ
  by_cases h1 : w = [] ∨ ¬ ((cut w [120]).1 = [] ∨ lvB (cut w [120]).1 = true)
  · rw [if_pos h1, if_pos h1]; rfl
  rw [if_neg h1, if_neg h1]
  by_cases h2 : ¬ (cut w [120]).2.2 = true
  · rw [if_pos h2, if_pos h2]; rfl
  rw [if_neg h2, if_neg h2]
  by_cases h3 : (cut w [120]).2.1 = []
  · rw [if_pos h3, if_pos h3]; rfl
  rw [if_neg h3, if_neg h3]
  by_cases h4 : ¬ (cut w [120]).2.1.head? = some 94
  · rw [if_pos h4, if_pos h4]; rfl
  rw [if_neg h4, if_neg h4]
  simp only [Bool.and_eq_true, decide_eq_true_eq]
  rfl
theorem cvQ_bd (a : List UInt8) : 0 ≤ cvQ a ∧ cvQ a ≤ 9999999999999 := by
  unfold cvQ
  have := lv_bd a
  split <;> omega
theorem tmQ_bd (w : List UInt8) : (0 ≤ (tmQ w).1 ∧ (tmQ w).1 ≤ 9999999999999) ∧ (0 ≤ (tmQ w).2.1 ∧ (tmQ w).2.1 ≤ 9999999999999) ∧ ((tmQ w).2.2 = true → (tmQ w).2.1 ≤ 8) := by
  have h1 := cvQ_bd (cut w [120]).1
  have h2 := lv_bd (cut w [120]).2.1.tail
  unfold tmQ
  split
  · exact ⟨⟨by decide, by decide⟩, ⟨by decide, by decide⟩, by simp⟩
  split
  · exact ⟨h1, ⟨(by decide : (0 : Int) ≤ 0), (by decide : (0 : Int) ≤ 9999999999999)⟩, fun _ => (by decide : (0 : Int) ≤ 8)⟩
  split
  · exact ⟨h1, ⟨(by decide : (0 : Int) ≤ 1), (by decide : (1 : Int) ≤ 9999999999999)⟩, fun _ => (by decide : (1 : Int) ≤ 8)⟩
  split
  · exact ⟨⟨by decide, by decide⟩, ⟨by decide, by decide⟩, by simp⟩
  refine ⟨h1, h2, fun h => ?_⟩
  simp only [Bool.and_eq_true, decide_eq_true_eq] at h
  exact h.2.2
theorem at_list {s : ByteArray} {i : Nat} (_h : i < s.size) (h2 : i < s.data.toList.length) : s.data.toList[i] = s[i] := rfl
theorem cut_idx {s : ByteArray} {i : Nat} (hi : i ≤ s.size) (hno : (120 : UInt8) ∉ s.data.toList.take i) (hit : ∀ h : i < s.size, s[i] = 120) :
    cut s.data.toList [120] = (s.data.toList.take i, s.data.toList.drop (i + 1), decide (i < s.size)) := by
  have hl := size_data s
  rcases Nat.lt_or_ge i s.size with h | h
  · conv => lhs; rw [← List.take_append_drop i s.data.toList, List.drop_eq_getElem_cons (by omega), at_list h, hit h]
    rw [cut_app _ hno]
    simp [h]
  · have e : s.data.toList.take i = s.data.toList := List.take_of_length_le (by omega)
    rw [e] at hno ⊢
    rw [cut_not hno, List.drop_eq_nil_of_le (by omega)]
    simp; omega
/-- what is known behind the search of the x -/
def TmI (s : ByteArray) (i : Nat) (cv : Int) (ob : Bool) : Prop := i ≤ s.size ∧ (120 : UInt8) ∉ s.data.toList.take i ∧ (∀ h : i < s.size, s[i] = 120) ∧ cv = (if i = 0 then 1 else lvV (s.extract 0 i).data.toList) ∧ ob = (if i = 0 then true else lvB (s.extract 0 i).data.toList)
theorem TmI.parts {s : ByteArray} {i : Nat} {cv : Int} {ob : Bool} (h : TmI s i cv ob) : (cut s.data.toList [120]) = (s.data.toList.take i, s.data.toList.drop (i + 1), decide (i < s.size)) ∧ ((s.data.toList.take i = [] ∨ lvB (s.data.toList.take i) = true) ↔ ob = true) ∧ cvQ (s.data.toList.take i) = cv := by
  obtain ⟨h1, h2, h3, h4, h5⟩ := h
  refine ⟨cut_idx h1 h2 h3, ?_⟩
  have hl := size_data s
  have e : (s.extract 0 i).data.toList = s.data.toList.take i := by rw [ext_data]; simp
  rw [e] at h4 h5
  rcases Nat.eq_zero_or_pos i with h0 | h0
  · subst h0
    rw [h4, h5]
    unfold cvQ
    simp
  · have hne : ¬ s.data.toList.take i = [] := by
      intro hn
      have := congrArg List.length hn
      rw [List.length_take, List.length_nil] at this
      omega
    rw [h4, h5, if_neg (by omega), if_neg (by omega)]
    unfold cvQ
    rw [if_neg hne]
    exact ⟨⟨fun h => h.resolve_left hne, .inr⟩, rfl⟩
theorem TmI.bad {s : ByteArray} {i : Nat} {cv : Int} {ob : Bool} (h : TmI s i cv ob) (hb : s.data.toList = [] ∨ ob = false) : tmQ s.data.toList = (0, 0, false) := by
  obtain ⟨e1, e2, e3⟩ := h.parts
  unfold tmQ
  rw [e1]
  refine if_pos ?_
  rcases hb with hb | hb
  · exact .inl hb
  · refine .inr fun hx => ?_
    have := e2.1 hx
    rw [hb] at this
    cases this
theorem TmI.good {s : ByteArray} {i : Nat} {cv : Int} (h : TmI s i cv true) (hb : ¬ s.data.toList = []) :
    tmQ s.data.toList = if i = s.size then (cv, 0, true) else if i = s.size - 1 then (cv, 1, true) else if ∃ h : i + 1 < s.size, s[i + 1] = 94 then (cv, lvV (s.extract (i + 2) s.size).data.toList, lvB (s.extract (i + 2) s.size).data.toList && (decide (2 ≤ lvV (s.extract (i + 2) s.size).data.toList) && decide (lvV (s.extract (i + 2) s.size).data.toList ≤ 8))) else (0, 0, false) := by
  obtain ⟨e1, e2, e3⟩ := h.parts
  have hl := size_data s
  have hi := h.1
  unfold tmQ
  rw [e1]
  simp only
  rw [if_neg (by rintro (h | h); exact hb h; exact h (e2.2 rfl)), e3]
  by_cases h1 : i = s.size
  · rw [if_pos h1, if_pos (by simp; omega)]
  rw [if_neg h1, if_neg (by simp; omega)]
  by_cases h2 : i = s.size - 1
  · rw [if_pos h2, if_pos (List.drop_eq_nil_of_le (by omega))]
  rw [if_neg h2]
  have hlt : i + 1 < s.size := by omega
  have ed : s.data.toList.drop (i + 1) = s[i + 1] :: s.data.toList.drop (i + 2) := by
    rw [List.drop_eq_getElem_cons (by omega), at_list hlt]
  have ex : (s.extract (i + 2) s.size).data.toList = s.data.toList.drop (i + 2) := by
    rw [ext_data, List.take_of_length_le (by rw [List.length_drop]; omega)]
  rw [ed, ex]
  rw [if_neg (by simp)]
  simp only [List.head?_cons, Option.some.injEq, List.tail_cons]
  by_cases h3 : s[i + 1] = 94
  · rw [if_neg (by simp [h3]), if_pos ⟨hlt, h3⟩]
    rfl
  · rw [if_pos h3, if_neg (fun ⟨_, h⟩ => h3 h)]

/-! ### the words -/
/-- the state of the reader ahead of byte i: the word begins at f -/
def RdI (l : List UInt8) (F : List Int) (f i : Nat) : Prop :=
  (i ≤ l.length ∧ f ≤ i ∧ (f = i → i = 0) ∧ plS l = rdW ((l.drop f).take (i - f)) (l.drop i) F) ∨ (i = l.length + 1 ∧ f + 1 = i ∧ plS l = some F)
theorem RdI.start (l : List UInt8) : RdI l zer9 0 0 := .inl ⟨by omega, by omega, fun _ => rfl, by simp [plS]⟩
theorem RdI.le {l : List UInt8} {F : List Int} {f i : Nat} (h : RdI l F f i) : f ≤ i := by
  rcases h with ⟨_, h, _⟩ | ⟨_, h, _⟩ <;> omega
theorem word_nil {l : List UInt8} {f i : Nat} (hi : i ≤ l.length) (hf : f ≤ i) : (l.drop f).take (i - f) = [] ↔ f = i := by
  constructor
  · intro h
    have := congrArg List.length h
    rw [List.length_take, List.length_drop] at this
    simp at this
    omega
  · rintro rfl; simp
theorem RdI.skip {l : List UInt8} {F : List Int} {f i : Nat} (h : RdI l F f i) (hi : i < l.length) (hc : ¬ isS l[i] ∨ i = 0) : RdI l F f (i + 1) := by
  rcases h with ⟨h1, h2, h3, h4⟩ | ⟨h1, _⟩
  · refine .inl ⟨by omega, by omega, by omega, ?_⟩
    rw [h4, List.drop_eq_getElem_cons hi, take_at h2 hi]
    show (if _ then _ else _) = _
    rw [if_neg ?_]
    rintro ⟨a, b⟩
    rcases hc with hc | hc
    · exact hc a
    · exact b ((word_nil h1 h2).2 (by omega))
  · omega
theorem RdI.step {l : List UInt8} {F : List Int} {f i : Nat} (h : RdI l F f i) (hi : i ≤ l.length) (hc : ∀ h : i < l.length, isS l[i] ∧ ¬ i = 0) :
    (stS F ((l.drop f).take (i - f)) = none → plS l = none) ∧ ∀ G, stS F ((l.drop f).take (i - f)) = some G → RdI l G i (i + 1) := by
  rcases h with ⟨h1, h2, h3, h4⟩ | ⟨h1, _⟩
  · rcases Nat.lt_or_ge i l.length with hlt | hge
    · have ⟨c1, c2⟩ := hc hlt
      have e : plS l = (match stS F ((l.drop f).take (i - f)) with
          | none => none
          | some g => rdW [l[i]] (l.drop (i + 1)) g) := by
        rw [h4]
        conv => lhs; rw [List.drop_eq_getElem_cons hlt]
        show (if _ then _ else _) = _
        rw [if_pos ⟨c1, fun hn => c2 (h3 ((word_nil h1 h2).1 hn))⟩]
        rfl
      constructor
      · intro hn
        rw [e, hn]
      · intro G hG
        rw [hG] at e
        refine .inl ⟨by omega, by omega, by omega, ?_⟩
        rw [e, show i + 1 - i = 1 by omega, List.drop_eq_getElem_cons hlt]
        rfl
    · obtain rfl : i = l.length := by omega
      rw [List.drop_length] at h4
      constructor
      · intro hn
        rw [h4]; exact hn
      · intro G hG
        exact .inr ⟨rfl, rfl, by rw [h4]; exact hG⟩
  · omega
theorem RdI.done {l : List UInt8} {F : List Int} {f i : Nat} (h : RdI l F f i) (hi : l.length < i) : plS l = some F := by
  rcases h with ⟨h1, _⟩ | ⟨_, _, h⟩
  · omega
  · exact h
/-- a word read -/
theorem stS_Q {F : List Int} {w v : List UInt8} {sg c k : Int} {ok : Bool} (hv : v = stripW w) (hs : sg = signW w) (hq : tmQ v = (c, k, ok)) :
    stS F w = if ok = true ∧ c ≤ 1000000 then some (F.set k.toNat (sg * c)) else none := by
  unfold stS
  rw [← hv, ← hs, tmS_Q, hq]
  cases ok with
  | false => simp
  | true =>
    simp only [if_true, true_and]
    by_cases h : c ≤ 1000000
    · rw [if_neg (by omega), if_pos h]
    · rw [if_pos (by omega), if_neg h]
end Go.Proofs.YtgajgonepcikbaaDoor
