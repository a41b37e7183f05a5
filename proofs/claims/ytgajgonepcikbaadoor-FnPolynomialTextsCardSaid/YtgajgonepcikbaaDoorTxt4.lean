
/- The reference's reader of polynomials, plain: what it reads off a polynomial's text. -/
import Derived.Test.YtgajgonepcikbaaDoorTxt3
namespace Go.Proofs.YtgajgonepcikbaaDoor
open Go.Lib

def isS (x : UInt8) : Prop := x = 43 ∨ x = 45
instance (x : UInt8) : Decidable (isS x) := by unfold isS; infer_instance
/-- a term without its sign -/
def tmS (w : List UInt8) : Option (Int × Int) :=
  if w = [] ∨ ¬ ((cut w [120]).1 = [] ∨ lvB (cut w [120]).1 = true) then none
  else if ¬ (cut w [120]).2.2 = true then some (if (cut w [120]).1 = [] then 1 else lvV (cut w [120]).1, 0)
  else if (cut w [120]).2.1 = [] then some (if (cut w [120]).1 = [] then 1 else lvV (cut w [120]).1, 1)
  else if ¬ (cut w [120]).2.1.head? = some 94 then none
  else if lvB (cut w [120]).2.1.tail = true ∧ 2 ≤ lvV (cut w [120]).2.1.tail ∧ lvV (cut w [120]).2.1.tail ≤ 8 then some (if (cut w [120]).1 = [] then 1 else lvV (cut w [120]).1, lvV (cut w [120]).2.1.tail)
  else none
/-- the word without its sign, and the sign -/
def stripW (w : List UInt8) : List UInt8 := if w.head? = some 43 ∨ w.head? = some 45 then w.tail else w
def signW (w : List UInt8) : Int := if w.head? = some 45 then -1 else 1
/-- one word read into the coefficients -/
def stS (f : List Int) (w : List UInt8) : Option (List Int) := match tmS (stripW w) with
  | none => none
  | some t => if 1000000 < t.1 then none else some (f.set t.2.toNat (signW w * t.1))
/-- the rest of a text, cur: the word so far -/
def rdW (cur : List UInt8) : List UInt8 → List Int → Option (List Int)
  | [], f => stS f cur
  | x :: r, f => if isS x ∧ ¬ cur = [] then (match stS f cur with
      | none => none
      | some g => rdW [x] r g) else rdW (cur ++ [x]) r f
def plS (s : List UInt8) : Option (List Int) := rdW [] s zer9

theorem tmS_tmW {c i : Nat} (hc : c ≤ 1000000) (hi : i ≤ 8) : tmS (tmW c i) = some ((c : Int), (i : Int)) := by
  have ⟨v1, b1⟩ := lv_dec (u := c) (by omega)
  have ⟨v2, b2⟩ := lv_dec (u := i) (by omega)
  have hn : (120 : UInt8) ∉ decDigits c := dec_not (by decide) c
  have hne : ¬ decDigits c = [] := dec_ne c
  by_cases h0 : i = 0
  · subst h0
    have e : tmW c 0 = decDigits c := by simp [tmW]
    rw [e]
    unfold tmS
    rw [cut_not hn]
    simp [hne, b1, v1]
  · have ex : ∃ a rest, tmW c i = a ++ 120 :: rest ∧ (120 : UInt8) ∉ a ∧ (a = [] ∧ c = 1 ∨ a = decDigits c) ∧ (i = 1 ∧ rest = [] ∨ 2 ≤ i ∧ rest = 94 :: decDigits i) := by
      refine ⟨if c = 1 then [] else decDigits c, if i = 1 then [] else 94 :: decDigits i, ?_, ?_, ?_, ?_⟩
      · unfold tmW
        by_cases h1 : c = 1 <;> by_cases h2 : i = 1 <;> simp [h0, h1, h2]
      · split
        · simp
        · exact hn
      · by_cases h1 : c = 1
        · simp [h1]
        · simp [h1]
      · by_cases h2 : i = 1
        · simp [h2]
        · right; simp [h2]; omega
    obtain ⟨a, rest, e, ha, hac, hr⟩ := ex
    have hw : ¬ tmW c i = [] := tmW_ne
    have hcv : (if a = [] then (1 : Int) else lvV a) = c := by
      rcases hac with ⟨rfl, rfl⟩ | rfl
      · rfl
      · rw [if_neg hne, v1]
    have hok : a = [] ∨ lvB a = true := by
      rcases hac with ⟨rfl, rfl⟩ | rfl
      · exact .inl rfl
      · exact .inr b1
    rw [e] at hw
    unfold tmS
    rw [e, cut_app rest ha]
    simp only [hw, hok, hcv]
    rcases hr with ⟨rfl, rfl⟩ | ⟨h2, rfl⟩
    · simp
    · simp only [List.head?_cons, List.tail_cons, b2, v2]
      simp
      omega
theorem tmW_signs (c i : Nat) : ∀ x ∈ tmW c i, ¬ isS x := by
  intro x hx h
  rcases h with rfl | rfl
  · exact tmW_not (by decide) (by decide) (by decide) c i hx
  · exact tmW_not (by decide) (by decide) (by decide) c i hx
theorem rdW_app {f : List Int} {rest : List UInt8} : ∀ {w cur : List UInt8}, (∀ x ∈ w, ¬ isS x) → rdW cur (w ++ rest) f = rdW (cur ++ w) rest f
  | [], cur, _ => by simp
  | x :: w, cur, h => by
    have h1 := h x (by simp)
    have e : rdW cur (x :: w ++ rest) f = rdW (cur ++ [x]) (w ++ rest) f := by
      rw [List.cons_append]
      show (if _ then _ else _) = _
      rw [if_neg (fun e => h1 e.1)]
    rw [e, rdW_app (w := w) (fun y hy => h y (by simp [hy])), List.append_assoc]
    rfl
theorem strip_plain {w : List UInt8} (h : ∀ x ∈ w, ¬ isS x) : stripW w = w ∧ signW w = 1 := by
  unfold stripW signW
  cases w with
  | nil => simp
  | cons x r =>
    have h1 := h x (by simp)
    unfold isS at h1
    simp only [List.head?_cons, Option.some.injEq, List.tail_cons]
    rw [if_neg h1, if_neg (fun e => h1 (.inr e))]
    exact ⟨rfl, rfl⟩
/-- a term behind its sign x -/
theorem stS_sign {t : Int × Nat} (h1 : -1000000 ≤ t.1) (h2 : t.1 ≤ 1000000) (h3 : t.2 ≤ 8) (f : List Int) : stS f ((if t.1 < 0 then 45 else 43) :: tmW t.1.natAbs t.2) = some (f.set t.2 t.1) := by
  have e : stripW ((if t.1 < 0 then 45 else 43) :: tmW t.1.natAbs t.2) = tmW t.1.natAbs t.2 := by
    unfold stripW
    rw [if_pos ?_]
    · rfl
    · simp only [List.head?_cons, Option.some.injEq]
      split <;> simp
  unfold stS
  rw [e, tmS_tmW (by omega) h3]
  simp only
  rw [if_neg (by omega)]
  unfold signW
  simp only [List.head?_cons, Option.some.injEq, Int.toNat_natCast]
  congr 2
  by_cases hc : t.1 < 0
  · rw [if_pos hc]; simp; omega
  · rw [if_neg hc]; simp; omega
theorem sp_eq (t : Int × Nat) : sp t = (if t.1 < 0 then 45 else 43) :: tmW t.1.natAbs t.2 := by
  unfold sp sw sgn
  split <;> simp
theorem rdW_terms : ∀ (r : List (Int × Nat)) (cur : List UInt8) (f g : List Int), ¬ cur = [] → stS f cur = some g → (∀ t ∈ r, (-1000000 ≤ t.1 ∧ t.1 ≤ 1000000) ∧ t.2 ≤ 8) →
    rdW cur ((r.map sp).flatten) f = some (r.foldl (fun f t => f.set t.2 t.1) g)
  | [], cur, f, g, _, h, _ => h
  | t :: r, cur, f, g, h0, h, hb => by
    have ⟨⟨a, b⟩, c⟩ := hb t (by simp)
    have hs : isS (if t.1 < 0 then 45 else 43) := by unfold isS; split <;> simp
    rw [List.map_cons, List.flatten_cons, sp_eq, List.cons_append]
    show (if _ then _ else _) = _
    rw [if_pos ⟨hs, h0⟩, h]
    simp only
    rw [rdW_app (tmW_signs _ _), List.foldl_cons]
    exact rdW_terms r _ _ _ (by simp) (stS_sign a b c _) (fun x hx => hb x (by simp [hx]))
theorem stS_sw {t : Int × Nat} (h1 : -1000000 ≤ t.1) (h2 : t.1 ≤ 1000000) (h3 : t.2 ≤ 8) (f : List Int) : stS f (sw t) = some (f.set t.2 t.1) := by
  by_cases hc : t.1 < 0
  · have := stS_sign h1 h2 h3 f
    rw [if_pos hc] at this
    unfold sw sgn
    rw [if_pos hc]
    exact this
  · have ⟨e1, e2⟩ := strip_plain (tmW_signs t.1.natAbs t.2)
    unfold sw sgn
    rw [if_neg hc, List.nil_append]
    unfold stS
    rw [e1, e2, tmS_tmW (by omega) h3]
    simp only
    rw [if_neg (by omega)]
    simp
    congr 1
    omega
/-- the first word -/
theorem rdW_first {w : List UInt8} (hw : ¬ w = []) (h : ∀ x ∈ w.tail, ¬ isS x) (rest : List UInt8) (f : List Int) : rdW [] (w ++ rest) f = rdW w rest f := by
  cases w with
  | nil => exact absurd rfl hw
  | cons x r =>
    show (if _ then _ else _) = _
    rw [if_neg (fun e => e.2 rfl), List.nil_append]
    show rdW [x] (r ++ rest) f = _
    rw [rdW_app (by simpa using h)]
    rfl
theorem sw_tail (t : Int × Nat) : ∀ x ∈ (sw t).tail, ¬ isS x := by
  have := tmW_signs t.1.natAbs t.2
  unfold sw sgn
  split
  · exact this
  · intro x hx
    exact this x (List.mem_of_mem_tail hx)
/-- the reference's reader gives the coefficients again -/
theorem plS_text {fs : List Int} (h : CB fs) : plS (plT fs) = some (pad9 fs) := by
  have hf := fold_terms h (fun f t => f.set t.2 t.1) (fun _ _ _ _ _ _ => rfl) fs.length (Nat.le_refl _)
  rw [Nat.sub_self, cutF_zero] at hf
  have hb := tmL_bd h fs.length (Nat.le_refl _)
  unfold plS plT
  rw [plA_tx]
  cases ht : tmL fs fs.length fs.length with
  | nil =>
    rw [ht] at hf
    rw [if_pos (tx_nil.2 rfl), ← hf]
    have e := stS_sw (t := (0, 0)) (by decide) (by decide) (by decide) zer9
    have e2 : sw (0, 0) = [48] := by
      have : decDigits 0 = [48] := by rw [decDigits_one (by omega)]; rfl
      simp [sw, sgn, tmW, this]
    rw [e2] at e
    show stS zer9 [48] = _
    rw [e]
    rfl
  | cons t r =>
    rw [ht] at hf hb
    rw [if_neg (fun e => by have := tx_nil.1 e; cases this)]
    show rdW [] (sw t ++ (r.map sp).flatten) zer9 = _
    have ⟨⟨a, b⟩, c, _⟩ := hb t (by simp)
    rw [rdW_first (sw_ne t) (sw_tail t), rdW_terms r _ _ _ (sw_ne t) (stS_sw a b c _) (fun x hx => ⟨(hb x (by simp [hx])).1, (hb x (by simp [hx])).2.1⟩)]
    rw [← hf]
    rfl
end Go.Proofs.YtgajgonepcikbaaDoor
