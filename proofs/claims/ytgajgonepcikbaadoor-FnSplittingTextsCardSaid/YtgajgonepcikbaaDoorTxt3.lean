
/- Texts of polynomials, plain: each is recovered. -/
import Derived.Test.YtgajgonepcikbaaDoorTxt
import Derived.Lib.Replace
import Derived.Lib.Strings
namespace Go.Proofs.YtgajgonepcikbaaDoor
open Go.Lib

/-- a term without its sign; the coefficient's absolute value, the power -/
def tmW (c i : Nat) : List UInt8 := (if c = 1 ∧ ¬ i = 0 then [] else decDigits c) ++ (if i = 0 then [] else if i = 1 then [120] else 120 :: 94 :: decDigits i)
def sgn (c : Int) : List UInt8 := if c < 0 then [45] else []
/-- the text of the coefficients from n - 1 down, j of them -/
def plA (fs : List Int) (n : Nat) : Nat → List UInt8
  | 0 => []
  | j + 1 => if fs.getD (n - 1 - j) 0 = 0 then plA fs n j else
      plA fs n j ++ (if fs.getD (n - 1 - j) 0 < 0 then [45] else if plA fs n j = [] then [] else [43]) ++ tmW (fs.getD (n - 1 - j) 0).natAbs (n - 1 - j)
def plT (fs : List Int) : List UInt8 := if plA fs fs.length fs.length = [] then [48] else plA fs fs.length fs.length
/-- the terms in the same order -/
def tmL (fs : List Int) (n : Nat) : Nat → List (Int × Nat)
  | 0 => []
  | j + 1 => if fs.getD (n - 1 - j) 0 = 0 then tmL fs n j else tmL fs n j ++ [(fs.getD (n - 1 - j) 0, n - 1 - j)]
def sw (t : Int × Nat) : List UInt8 := sgn t.1 ++ tmW t.1.natAbs t.2
/-- a later term, with its sign -/
def sp (t : Int × Nat) : List UInt8 := (if t.1 < 0 then [] else [43]) ++ sw t
def tx : List (Int × Nat) → List UInt8
  | [] => []
  | t :: r => sw t ++ (r.map sp).flatten
theorem tx_snoc (ts : List (Int × Nat)) (t : Int × Nat) : tx (ts ++ [t]) = if ts = [] then sw t else tx ts ++ sp t := by
  cases ts with
  | nil => simp [tx]
  | cons x r => simp [tx]
theorem tmW_ne {c i : Nat} : tmW c i ≠ [] := by
  unfold tmW
  by_cases h : c = 1 ∧ ¬ i = 0
  · rw [if_pos h, if_neg h.2]
    split <;> simp
  · rw [if_neg h]
    simp [dec_ne]
theorem sw_ne (t : Int × Nat) : sw t ≠ [] := by simp [sw, tmW_ne]
theorem tx_nil {ts : List (Int × Nat)} : tx ts = [] ↔ ts = [] := by
  cases ts with
  | nil => simp [tx]
  | cons t r => simp [tx, sw_ne]
theorem plA_tx (fs : List Int) (n : Nat) : ∀ j, plA fs n j = tx (tmL fs n j)
  | 0 => rfl
  | j + 1 => by
    have ih := plA_tx fs n j
    unfold plA tmL
    by_cases h : fs.getD (n - 1 - j) 0 = 0
    · rw [if_pos h, if_pos h, ih]
    · rw [if_neg h, if_neg h, tx_snoc, ih]
      have e := @tx_nil (tmL fs n j)
      by_cases h0 : tmL fs n j = []
      · rw [if_pos h0, h0]
        simp only [tx, sw, sgn]
        split <;> simp
      · rw [if_neg h0]
        have h1 : ¬ tx (tmL fs n j) = [] := fun h => h0 (e.1 h)
        simp only [sp, sw, sgn, h1, if_false]
        split <;> simp

/-! ### the signs -/
def rpl : List UInt8 → List UInt8
  | [] => []
  | x :: r => if x = 45 then 43 :: 45 :: rpl r else x :: rpl r
theorem replaceK_eq : ∀ (s : List UInt8), replaceK [45] [43, 45] (count s [45]) s = rpl s
  | [] => by rw [count_miss rfl]; rfl
  | b :: l => by
    have ih := replaceK_eq l
    by_cases h : b = 45
    · subst h
      rw [count_cons_eq, Nat.add_comm 1]
      unfold replaceK
      rw [index_eq, if_neg (by simp)]
      unfold rpl
      rw [if_pos rfl, ← ih]
      simp
    · rw [count_cons_ne b 45 l h]
      unfold rpl
      rw [if_neg h]
      rcases Nat.eq_zero_or_pos (count l [45]) with h0 | h0
      · rw [h0] at ih ⊢
        rw [← ih]
        rfl
      · obtain ⟨k, hk⟩ : ∃ k, count l [45] = k + 1 := ⟨count l [45] - 1, by omega⟩
        have hj : ∃ j : Nat, index l [45] = j := by
          have hge := index_ge l [45]
          by_cases hm : index l [45] = -1
          · rw [count_miss hm] at h0; omega
          · exact ⟨(index l [45]).toNat, by omega⟩
        obtain ⟨j, hj⟩ := hj
        rw [hk] at ih ⊢
        unfold replaceK at ih ⊢
        rw [index_cons _ h, hj]
        rw [hj, if_neg (show ¬ ((j : Int) == -1) = true by simp)] at ih
        rw [if_neg (show ¬ ((j : Int) == -1) = true by simp), if_neg (show ¬ ((j : Int) + 1 == -1) = true by simp; omega)]
        rw [← ih]
        rw [show ((j : Int) + 1).toNat = j + 1 by omega, show ((j : Int)).toNat = j by omega]
        simp
theorem replaceAll_eq (s : List UInt8) : replaceAll s [45] [43, 45] = rpl s := by
  unfold replaceAll replace
  rw [if_neg (by decide)]
  have e : replaceNum s [45] (-1) = count s [45] := by unfold replaceNum; rw [if_pos (by omega)]
  rw [e, replaceK_eq]
theorem rpl_cons (x : UInt8) (r : List UInt8) : rpl (x :: r) = if x = 45 then 43 :: 45 :: rpl r else x :: rpl r := rfl
theorem rpl_app (a b : List UInt8) : rpl (a ++ b) = rpl a ++ rpl b := by
  induction a with
  | nil => rfl
  | cons x r ih =>
    rw [List.cons_append, rpl_cons, rpl_cons, ih]
    split <;> rfl
theorem rpl_not : ∀ {a : List UInt8}, (45 : UInt8) ∉ a → rpl a = a
  | [], _ => rfl
  | x :: r, h => by
    unfold rpl
    rw [if_neg (fun e => h (by simp [e])), rpl_not (a := r) (fun e => h (List.mem_cons_of_mem _ e))]
theorem tmW_not {x : UInt8} (h : ¬ Dig x) (h1 : x ≠ 120) (h2 : x ≠ 94) (c i : Nat) : x ∉ tmW c i := by
  have a := dec_not h c
  have b := dec_not h i
  unfold tmW
  rw [List.mem_append]
  rintro (hm | hm)
  · split at hm
    · simp at hm
    · exact a hm
  · split at hm
    · simp at hm
    · split at hm
      · simp [h1] at hm
      · simp [h1, h2, b] at hm
theorem sw_43 (t : Int × Nat) : (43 : UInt8) ∉ sw t := by
  have := tmW_not (x := 43) (by decide) (by decide) (by decide) t.1.natAbs t.2
  unfold sw sgn
  split <;> simp [this]
theorem rpl_sw (t : Int × Nat) : rpl (sw t) = (if t.1 < 0 then [43] else []) ++ sw t := by
  have := tmW_not (x := 45) (by decide) (by decide) (by decide) t.1.natAbs t.2
  unfold sw sgn
  rw [rpl_app, rpl_not this]
  split <;> simp [rpl]
theorem rpl_sp (t : Int × Nat) : rpl (sp t) = 43 :: sw t := by
  unfold sp
  rw [rpl_app, rpl_sw]
  split <;> simp [rpl]
theorem rpl_sps (r : List (Int × Nat)) : rpl ((r.map sp).flatten) = joinTail [43] (r.map sw) := by
  induction r with
  | nil => rfl
  | cons t r ih =>
    rw [List.map_cons, List.flatten_cons, rpl_app, ih, rpl_sp]
    simp [joinTail]
/-- the words of a text behind the first step -/
theorem words_tx (t : Int × Nat) (r : List (Int × Nat)) : spl 43 (rpl (tx (t :: r))) = (if t.1 < 0 then [[]] else []) ++ (t :: r).map sw := by
  have e : rpl (tx (t :: r)) = (if t.1 < 0 then [43] else []) ++ join ((t :: r).map sw) [43] := by
    show rpl (sw t ++ (r.map sp).flatten) = _
    rw [rpl_app, rpl_sw, rpl_sps, List.map_cons, join_cons, List.append_assoc]
  have h := spl_join (c := 43) (ws := (t :: r).map sw) (by simp) (fun w hw => by
    obtain ⟨x, _, rfl⟩ := List.mem_map.1 hw
    exact sw_43 x)
  rw [e]
  split
  · show spl 43 (43 :: join ((t :: r).map sw) [43]) = _
    conv => lhs; unfold spl
    rw [if_pos rfl, h]
    rfl
  · exact h

/-! ### the program's reader -/
/-- what readTerm gives -/
def tmP (w : List UInt8) : Int × Int :=
  if (cut w [120]).2.2 = true then
    (if (cut w [120]).1 = [] then 1 else if (cut w [120]).1 = [45] then -1 else rdV (cut w [120]).1,
     if (cut w [120]).2.1 = [] then 1 else rdV (trimPrefix (cut w [120]).2.1 [94]))
  else (rdV (cut w [120]).1, 0)
theorem itoa_abs (c : Int) : itoa c = sgn c ++ decDigits c.natAbs := by
  unfold itoa sgn
  split
  · rfl
  · rw [show c.toNat = c.natAbs by omega]; rfl
theorem rd_abs {c : Int} (h1 : -1000000 ≤ c) (h2 : c ≤ 1000000) : rdV (sgn c ++ decDigits c.natAbs) = c := by
  rw [← itoa_abs]; exact (rd_itoa (by omega) (by omega)).1
theorem rdV_nat {i : Nat} (h : i ≤ 1000000) : rdV (decDigits i) = i := by
  rw [← itoa_nat]; exact (rd_itoa (by omega) (by omega)).1
theorem sgn_dec_120 (c : Int) : (120 : UInt8) ∉ sgn c ++ decDigits c.natAbs := by
  rw [← itoa_abs]; exact itoa_not (by decide) (by decide) c
theorem tmP_sw {t : Int × Nat} (h1 : -1000000 ≤ t.1) (h2 : t.1 ≤ 1000000) (h3 : t.2 ≤ 8) : tmP (sw t) = (t.1, (t.2 : Int)) := by
  obtain ⟨c, i⟩ := t
  simp only at h1 h2 h3
  have tr : ∀ l : List UInt8, trimPrefix (94 :: l) [94] = l := fun l => by simp [trimPrefix, hasPrefix]
  by_cases hi : i = 0
  · subst hi
    have e : sw (c, 0) = sgn c ++ decDigits c.natAbs := by simp [sw, tmW]
    unfold tmP
    rw [e, cut_not (sgn_dec_120 c)]
    simp [rd_abs h1 h2]
  · have ex : ∃ rest : List UInt8, tmW c.natAbs i = (if c.natAbs = 1 then [] else decDigits c.natAbs) ++ 120 :: rest ∧ (if rest = [] then 1 else rdV (trimPrefix rest [94])) = (i : Int) := by
      by_cases h0 : i = 1
      · subst h0
        exact ⟨[], by simp [tmW], by simp⟩
      · refine ⟨94 :: decDigits i, by simp [tmW, hi, h0], ?_⟩
        rw [if_neg (by simp), tr, rdV_nat (by omega)]
    obtain ⟨rest, er, hr⟩ := ex
    have e : sw (c, i) = (sgn c ++ (if c.natAbs = 1 then [] else decDigits c.natAbs)) ++ 120 :: rest := by
      unfold sw
      simp only
      rw [er, List.append_assoc]
    have hn : (120 : UInt8) ∉ sgn c ++ (if c.natAbs = 1 then [] else decDigits c.natAbs) := by
      split
      · unfold sgn; split <;> simp
      · exact sgn_dec_120 c
    unfold tmP
    rw [e, cut_app rest hn]
    simp only [if_true, hr]
    refine Prod.ext ?_ rfl
    simp only
    by_cases ha : c.natAbs = 1
    · rw [if_pos ha]
      by_cases hc : c < 0
      · have : c = -1 := by omega
        subst this
        simp [sgn]
      · have : c = 1 := by omega
        subst this
        simp [sgn]
    · rw [if_neg ha, if_neg (by simp [dec_ne])]
      rw [if_neg ?_, rd_abs h1 h2]
      intro h
      unfold sgn at h
      split at h
      · injection h with _ h
        exact dec_ne _ h
      · have := dec_dig c.natAbs 45 (by rw [show decDigits c.natAbs = [45] from h]; simp)
        exact absurd this (by decide)
theorem tmP_nil : tmP [] = (0, 0) := by decide
/-- one word read into the coefficients -/
def stP (f : List Int) (w : List UInt8) : List Int := if 0 ≤ (tmP w).2 ∧ (tmP w).2 ≤ 8 then f.set (tmP w).2.toNat (tmP w).1 else f
def zer9 : List Int := List.replicate 9 0
/-- all coefficients read -/
def plP (s : List UInt8) : List Int := (spl 43 (rpl s)).foldl stP zer9
/-- nine coefficients -/
def pad9 (fs : List Int) : List Int := (List.range 9).map fun i => fs.getD i 0
/-- the coefficients from place k on -/
def cutF (fs : List Int) (k : Nat) : List Int := (List.range 9).map fun i => if k ≤ i then fs.getD i 0 else 0
theorem cutF_set {fs : List Int} {k : Nat} : (cutF fs (k + 1)).set k (fs.getD k 0) = cutF fs k := by
  apply List.ext_getElem
  · simp [cutF]
  · intro i h1 h2
    simp only [cutF, List.getElem_set, List.getElem_map, List.getElem_range]
    by_cases e : k = i
    · subst e; simp
    · rw [if_neg e]
      by_cases hk : k ≤ i
      · rw [if_pos (show k + 1 ≤ i by omega), if_pos hk]
      · rw [if_neg (show ¬ k + 1 ≤ i by omega), if_neg hk]
theorem cutF_same {fs : List Int} {k : Nat} (h : fs.getD k 0 = 0) : cutF fs (k + 1) = cutF fs k := by
  unfold cutF
  apply List.map_congr_left
  intro i _
  by_cases e : k = i
  · subst e; rw [if_neg (by omega), if_pos (Nat.le_refl _), h]
  · by_cases hk : k ≤ i
    · rw [if_pos (show k + 1 ≤ i by omega), if_pos hk]
    · rw [if_neg (show ¬ k + 1 ≤ i by omega), if_neg hk]
theorem cutF_top {fs : List Int} {k : Nat} (h : fs.length ≤ k) : cutF fs k = zer9 := by
  unfold cutF zer9
  apply List.ext_getElem
  · simp
  · intro i h1 h2
    simp only [List.getElem_map, List.getElem_range, List.getElem_replicate]
    split
    · simp [List.getD, List.getElem?_eq_none (show fs.length ≤ i by omega)]
    · rfl
theorem cutF_zero (fs : List Int) : cutF fs 0 = pad9 fs := by
  unfold cutF pad9
  apply List.map_congr_left
  intro i _
  rw [if_pos (Nat.zero_le _)]
/-- bounds of coefficients -/
def CB (fs : List Int) : Prop := fs.length ≤ 9 ∧ ∀ i, i < fs.length → -1000000 ≤ fs.getD i 0 ∧ fs.getD i 0 ≤ 1000000
theorem fold_terms {fs : List Int} (h : CB fs) (step : List Int → (Int × Nat) → List Int) (hs : ∀ f c i, -1000000 ≤ c → c ≤ 1000000 → i ≤ 8 → step f (c, i) = f.set i c) :
    ∀ j, j ≤ fs.length → (tmL fs fs.length j).foldl step zer9 = cutF fs (fs.length - j)
  | 0, _ => by rw [Nat.sub_zero, cutF_top (Nat.le_refl _)]; rfl
  | j + 1, hj => by
    have ih := fold_terms h step hs j (by omega)
    have hb := h.2 (fs.length - 1 - j) (by omega)
    have hl := h.1
    have e1 : fs.length - j = fs.length - 1 - j + 1 := by omega
    have e2 : fs.length - (j + 1) = fs.length - 1 - j := by omega
    unfold tmL
    by_cases h0 : fs.getD (fs.length - 1 - j) 0 = 0
    · rw [if_pos h0, ih, e1, e2, cutF_same h0]
    · rw [if_neg h0, List.foldl_append, ih, e1, e2]
      show step _ _ = _
      rw [hs _ _ _ hb.1 hb.2 (by omega), cutF_set]
theorem tmL_bd {fs : List Int} (h : CB fs) : ∀ j, j ≤ fs.length → ∀ t ∈ tmL fs fs.length j, (-1000000 ≤ t.1 ∧ t.1 ≤ 1000000) ∧ t.2 ≤ 8 ∧ ¬ t.1 = 0
  | 0, _ => by simp [tmL]
  | j + 1, hj => by
    have ih := tmL_bd h j (by omega)
    have hb := h.2 (fs.length - 1 - j) (by omega)
    have hl := h.1
    unfold tmL
    intro t ht
    split at ht
    · exact ih t ht
    · rename_i h0
      rcases List.mem_append.1 ht with ht | ht
      · exact ih t ht
      · simp only [List.mem_singleton] at ht
        subst ht
        exact ⟨hb, by show fs.length - 1 - j ≤ 8; omega, h0⟩
theorem stP_sw {t : Int × Nat} (h1 : -1000000 ≤ t.1) (h2 : t.1 ≤ 1000000) (h3 : t.2 ≤ 8) (f : List Int) : stP f (sw t) = f.set t.2 t.1 := by
  unfold stP
  rw [tmP_sw h1 h2 h3]
  simp only
  rw [if_pos (by omega)]
  simp
theorem foldl_sw : ∀ (ts : List (Int × Nat)) (f : List Int), (∀ t ∈ ts, (-1000000 ≤ t.1 ∧ t.1 ≤ 1000000) ∧ t.2 ≤ 8) → (ts.map sw).foldl stP f = ts.foldl (fun f t => f.set t.2 t.1) f
  | [], _, _ => rfl
  | t :: r, f, h => by
    have ⟨⟨a, b⟩, c⟩ := h t (by simp)
    rw [List.map_cons, List.foldl_cons, List.foldl_cons, stP_sw a b c]
    exact foldl_sw r _ (fun x hx => h x (by simp [hx]))
/-- the program's reader gives the coefficients again -/
theorem plP_text {fs : List Int} (h : CB fs) : plP (plT fs) = pad9 fs := by
  have hf := fold_terms h (fun f t => f.set t.2 t.1) (fun _ _ _ _ _ _ => rfl) fs.length (Nat.le_refl _)
  rw [Nat.sub_self, cutF_zero] at hf
  have hb := tmL_bd h fs.length (Nat.le_refl _)
  unfold plP plT
  rw [plA_tx]
  cases ht : tmL fs fs.length fs.length with
  | nil =>
    rw [ht] at hf
    rw [if_pos (tx_nil.2 rfl), ← hf]
    decide
  | cons t r =>
    rw [ht] at hf hb
    rw [if_neg (fun e => by have := tx_nil.1 e; cases this), words_tx, List.foldl_append]
    have e : (if t.1 < 0 then [[]] else [] : List (List UInt8)).foldl stP zer9 = zer9 := by
      split
      · show stP zer9 [] = zer9
        unfold stP
        rw [tmP_nil]
        decide
      · rfl
    rw [e, foldl_sw _ _ (fun x hx => ⟨(hb x hx).1, (hb x hx).2.1⟩)]
    exact hf
end Go.Proofs.YtgajgonepcikbaaDoor
