
/- Texts, plain: numerals, texts cut and joined at a byte. -/
import Derived.Lib.SplitLaws
import Derived.Lib.Join
import Derived.Lib.ItoaNum
import Derived.Lib.ParseIntBCases
namespace Go.Proofs.YtgajgonepcikbaaDoor
open Go.Lib

/-- a text cut at each byte c -/
def spl (c : UInt8) : List UInt8 → List (List UInt8)
  | [] => [[]]
  | x :: r => if x = c then [] :: spl c r else match spl c r with
    | [] => [[x]]
    | w :: ws => (x :: w) :: ws
theorem spl_ne (c : UInt8) (s : List UInt8) : spl c s ≠ [] := by
  cases s with
  | nil => simp [spl]
  | cons x r =>
    unfold spl
    split
    · simp
    · split <;> simp
theorem index_eq (c : UInt8) (l : List UInt8) : index (c :: l) [c] = 0 := by simp [index, List.isPrefixOf]
theorem index_cons {b c : UInt8} (l : List UInt8) (h : b ≠ c) : index (b :: l) [c] = if index l [c] == -1 then -1 else index l [c] + 1 := by
  have hp : ([c] : List UInt8).isPrefixOf (b :: l) = false := by simp [List.isPrefixOf, Ne.symm h]
  rw [index, hp]; simp
theorem index_app {c : UInt8} (t : List UInt8) : ∀ {a : List UInt8}, c ∉ a → index (a ++ c :: t) [c] = (a.length : Int)
  | [], _ => index_eq c t
  | b :: a, h => by
    have h1 : b ≠ c := fun e => h (by simp [e])
    have ih := index_app t (a := a) (fun e => h (List.mem_cons_of_mem _ e))
    rw [List.cons_append, index_cons _ h1, ih, if_neg (by simp)]
    simp
theorem index_not {c : UInt8} : ∀ {a : List UInt8}, c ∉ a → index a [c] = -1
  | [], _ => rfl
  | b :: a, h => by
    have h1 : b ≠ c := fun e => h (by simp [e])
    rw [index_cons _ h1, index_not (a := a) (fun e => h (List.mem_cons_of_mem _ e))]
    rfl
theorem splitK_eq (c : UInt8) : ∀ (s : List UInt8), splitK [c] 0 (count s [c]) s = spl c s
  | [] => by rw [count_miss rfl]; rfl
  | b :: l => by
    have ih := splitK_eq c l
    by_cases h : b = c
    · subst h
      rw [count_cons_eq, Nat.add_comm 1]
      unfold splitK
      rw [index_eq]
      rw [if_neg (by simp)]
      unfold spl
      rw [if_pos rfl, ← ih]
      simp
    · rw [count_cons_ne b c l h]
      unfold spl
      rw [if_neg h]
      rcases Nat.eq_zero_or_pos (count l [c]) with h0 | h0
      · rw [h0] at ih ⊢
        rw [← ih]
        rfl
      · obtain ⟨k, hk⟩ : ∃ k, count l [c] = k + 1 := ⟨count l [c] - 1, by omega⟩
        have hj : ∃ j : Nat, index l [c] = j := by
          have hge := index_ge l [c]
          by_cases hm : index l [c] = -1
          · rw [count_miss hm] at h0; omega
          · exact ⟨(index l [c]).toNat, by omega⟩
        obtain ⟨j, hj⟩ := hj
        rw [hk] at ih ⊢
        unfold splitK at ih ⊢
        rw [index_cons _ h, hj]
        rw [hj, if_neg (show ¬ ((j : Int) == -1) = true by simp)] at ih
        rw [if_neg (show ¬ ((j : Int) == -1) = true by simp), if_neg (show ¬ ((j : Int) + 1 == -1) = true by simp; omega)]
        rw [← ih]
        simp only [Nat.add_zero]
        rw [show ((j : Int) + 1).toNat = j + 1 by omega, show ((j : Int)).toNat = j by omega]
        simp
theorem split_eq (c : UInt8) (s : List UInt8) : split s [c] = spl c s := splitK_eq c s
theorem spl_not {c : UInt8} : ∀ {a : List UInt8}, c ∉ a → spl c a = [a]
  | [], _ => rfl
  | b :: a, h => by
    unfold spl
    rw [if_neg (fun e => h (by simp [e])), spl_not (a := a) (fun e => h (List.mem_cons_of_mem _ e))]
theorem spl_app {c : UInt8} (t : List UInt8) : ∀ {a : List UInt8}, c ∉ a → spl c (a ++ c :: t) = a :: spl c t
  | [], _ => by simp [spl]
  | b :: a, h => by
    have e1 : spl c (b :: a ++ c :: t) = (match spl c (a ++ c :: t) with
        | [] => [[b]]
        | w :: ws => (b :: w) :: ws) := by
      rw [List.cons_append]
      conv => lhs; unfold spl
      rw [if_neg (fun e => h (by simp [e]))]
    rw [e1, spl_app t (a := a) (fun e => h (List.mem_cons_of_mem _ e))]
theorem spl_join {c : UInt8} : ∀ {ws : List (List UInt8)}, ws ≠ [] → (∀ w ∈ ws, c ∉ w) → spl c (join ws [c]) = ws
  | [], h, _ => absurd rfl h
  | [w], _, h => by rw [join_one, spl_not (h w (by simp))]
  | w :: v :: r, _, h => by
    have ih := spl_join (c := c) (ws := v :: r) (by simp) (fun x hx => h x (by simp at hx ⊢; exact .inr hx))
    rw [join_cons] at ih ⊢
    have e : joinTail [c] (v :: r) = c :: (v ++ joinTail [c] r) := by simp [joinTail]
    rw [e, spl_app _ (h w (by simp)), ih]
theorem cut_app {c : UInt8} {a : List UInt8} (t : List UInt8) (h : c ∉ a) : cut (a ++ c :: t) [c] = (a, t, true) := by
  unfold cut
  rw [index_app t h, if_pos (by omega)]
  simp
theorem cut_not {c : UInt8} {a : List UInt8} (h : c ∉ a) : cut a [c] = (a, [], false) := by
  unfold cut
  rw [index_not h, if_neg (by omega)]
/-- what a spl holds of the text: the pieces give it again -/
theorem join_spl (c : UInt8) : ∀ s : List UInt8, join (spl c s) [c] = s
  | [] => by simp [spl, join_one]
  | x :: r => by
    have ih := join_spl c r
    unfold spl
    by_cases h : x = c
    · rw [if_pos h]
      cases hs : spl c r with
      | nil => exact absurd hs (spl_ne c r)
      | cons w ws =>
        rw [hs] at ih
        rw [join_cons] at ih ⊢
        subst h
        have e : joinTail [x] (w :: ws) = x :: (w ++ joinTail [x] ws) := by simp [joinTail]
        rw [e, ih]
        rfl
    · rw [if_neg h]
      cases hs : spl c r with
      | nil => exact absurd hs (spl_ne c r)
      | cons w ws =>
        rw [hs] at ih
        rw [join_cons] at ih
        show join ((x :: w) :: ws) [c] = _
        rw [join_cons, List.cons_append, ih]

/-- the number that digits spell, behind acc -/
def dvA (acc : Nat) (l : List UInt8) : Nat := l.foldl (fun n c => n * 10 + (c.toNat - 48)) acc
def dval (l : List UInt8) : Nat := dvA 0 l
theorem dvA_snoc (acc : Nat) (l : List UInt8) (c : UInt8) : dvA acc (l ++ [c]) = dvA acc l * 10 + (c.toNat - 48) := by simp [dvA]
theorem dec_step {u : Nat} (h : ¬ u < 10) : decDigits u = decDigits (u / 10) ++ [UInt8.ofNat (48 + u % 10)] := by rw [decDigits, dif_neg h]
theorem dig_toNat {d : Nat} (h : d < 10) : (UInt8.ofNat (48 + d)).toNat = 48 + d := by
  simp; omega
theorem dval_dec (u : Nat) : dval (decDigits u) = u := by
  induction u using Nat.strongRecOn with
  | _ u ih =>
    by_cases h : u < 10
    · rw [decDigits_one h]
      simp only [dval, dvA, List.foldl_cons, List.foldl_nil, dig_toNat h]
      omega
    · rw [dec_step h]
      unfold dval
      rw [dvA_snoc, dig_toNat (by omega)]
      have := ih (u / 10) (by omega)
      unfold dval at this
      rw [this]
      omega
def Dig (c : UInt8) : Prop := 48 ≤ c.toNat ∧ c.toNat ≤ 57
instance (c : UInt8) : Decidable (Dig c) := by unfold Dig; infer_instance
theorem dec_dig (u : Nat) : ∀ c ∈ decDigits u, Dig c := by
  induction u using Nat.strongRecOn with
  | _ u ih =>
    intro c hc
    by_cases h : u < 10
    · rw [decDigits_one h] at hc
      simp only [List.mem_singleton] at hc
      subst hc
      unfold Dig
      rw [dig_toNat h]
      omega
    · rw [dec_step h, List.mem_append] at hc
      rcases hc with hc | hc
      · exact ih (u / 10) (by omega) c hc
      · simp only [List.mem_singleton] at hc
        subst hc
        unfold Dig
        rw [dig_toNat (by omega)]
        omega
theorem nDig_le : ∀ (k u : Nat), u < 10 ^ (k + 1) → nDigits u ≤ k + 1
  | 0, u, h => by rw [nDigits_small (by simpa using h)]; exact Nat.le_refl _
  | k + 1, u, h => by
    by_cases h1 : u < 10
    · rw [nDigits_small h1]; omega
    · rw [nDigits_big h1]
      have := nDig_le k (u / 10) (by rw [Nat.pow_succ] at h; omega)
      omega
theorem dec_len {u k : Nat} (h : u < 10 ^ (k + 1)) : (decDigits u).length ≤ k + 1 := by
  rw [decDigits_length]; exact nDig_le k u h
theorem dec_pos (u : Nat) : 0 < (decDigits u).length := by
  rw [decDigits_length]; exact nDigits_pos u
theorem dec_ne (u : Nat) : decDigits u ≠ [] := fun h => by have := dec_pos u; rw [h] at this; simp at this
theorem dec_inj {u v : Nat} (h : decDigits u = decDigits v) : u = v := by rw [← dval_dec u, h, dval_dec]
theorem dec_not {c : UInt8} (h : ¬ Dig c) (u : Nat) : c ∉ decDigits u := fun hc => h (dec_dig u c hc)
theorem dvA_ge : ∀ (l : List UInt8) (acc : Nat), acc ≤ dvA acc l
  | [], _ => Nat.le_refl _
  | c :: l, acc => by
    have := dvA_ge l (acc * 10 + (c.toNat - 48))
    show acc ≤ dvA (acc * 10 + (c.toNat - 48)) l
    omega
theorem parseM_ok : ∀ (l : List UInt8) (acc : Nat), (∀ c ∈ l, Dig c) → dvA acc l ≤ 18446744073709551615 → parseUintM 18446744073709551615 acc l = .ok (dvA acc l)
  | [], _, _, _ => rfl
  | c :: l, acc, hd, hb => by
    have h1 := hd c (by simp)
    have h2 := dvA_ge l (acc * 10 + (c.toNat - 48))
    have h3 : dvA acc (c :: l) = dvA (acc * 10 + (c.toNat - 48)) l := rfl
    rw [h3] at hb ⊢
    unfold parseUintM
    rw [if_pos (show 48 ≤ c.toNat ∧ c.toNat ≤ 57 from h1), if_neg (by omega), if_neg (by omega)]
    exact parseM_ok l _ (fun x hx => hd x (by simp [hx])) hb
theorem parseB_dec {u : Nat} (h : u ≤ 18446744073709551615) : parseUintB 64 (decDigits u) = .ok u := by
  unfold parseUintB
  rw [if_neg (dec_ne u)]
  have := parseM_ok (decDigits u) 0 (dec_dig u) (by have := dval_dec u; unfold dval at this; omega)
  have e : (2 ^ 64 - 1 : Nat) = 18446744073709551615 := by decide
  rw [e, this]
  have := dval_dec u
  unfold dval at this
  rw [this]
theorem parse_itoa {n : Int} (h1 : -9223372036854775808 ≤ n) (h2 : n ≤ 9223372036854775807) : parseIntB 64 (itoa n) = .ok n := by
  have e63 : (2 ^ (64 - 1) : Nat) = 9223372036854775808 := by decide
  unfold itoa
  by_cases hn : n < 0
  · rw [if_pos hn, parseIntB_minus, parseB_dec (by omega), e63]
    show (if 9223372036854775808 < n.natAbs then NumEnd.range else NumEnd.ok (-(n.natAbs : Int))) = _
    rw [if_neg (by omega)]
    congr 1
    omega
  · rw [if_neg hn]
    have hp := parseB_dec (u := n.toNat) (by omega)
    have hd := dec_dig n.toNat
    cases hl : decDigits n.toNat with
    | nil => exact absurd hl (dec_ne _)
    | cons c r =>
      rw [hl] at hp hd
      have hc := hd c (by simp)
      unfold Dig at hc
      rw [parseIntB_plain 64 c r (by omega) (by omega), hp, e63]
      show (if 9223372036854775808 ≤ n.toNat then NumEnd.range else NumEnd.ok (n.toNat : Int)) = _
      rw [if_neg (by omega)]
      congr 1
      omega
/-- what readDecimal gives -/
def rdV (l : List UInt8) : Int := match parseIntB 64 l with
  | .ok v => v
  | .range => intSat 64 l
  | _ => 0
def rdB (l : List UInt8) : Bool := match parseIntB 64 l with
  | .ok v => itoa v == l
  | _ => false
theorem rd_itoa {n : Int} (h1 : -9223372036854775808 ≤ n) (h2 : n ≤ 9223372036854775807) : rdV (itoa n) = n ∧ rdB (itoa n) = true := by
  unfold rdV rdB
  rw [parse_itoa h1 h2]
  simp
theorem itoa_nat (u : Nat) : itoa (u : Int) = decDigits u := by
  unfold itoa
  rw [if_neg (by omega)]
  simp
theorem itoa_not {c : UInt8} (h : ¬ Dig c) (h45 : c ≠ 45) (n : Int) : c ∉ itoa n := by
  unfold itoa
  split
  · intro hc
    rcases List.mem_cons.1 hc with e | hc
    · exact h45 e
    · exact dec_not h _ hc
  · exact dec_not h _
theorem itoa_inj {m n : Int} (h : itoa m = itoa n) : m = n := by
  unfold itoa at h
  by_cases hm : m < 0
  · by_cases hn : n < 0
    · rw [if_pos hm, if_pos hn] at h
      have := dec_inj (List.cons.inj h).2
      omega
    · rw [if_pos hm, if_neg hn] at h
      exact absurd (dec_dig n.toNat 45 (by rw [← h]; simp)) (by decide)
  · by_cases hn : n < 0
    · rw [if_neg hm, if_pos hn] at h
      exact absurd (dec_dig m.toNat 45 (by rw [h]; simp)) (by decide)
    · rw [if_neg hm, if_neg hn] at h
      have := dec_inj h
      omega
theorem itoa_ne (n : Int) : itoa n ≠ [] := by
  unfold itoa
  split
  · simp
  · exact dec_ne _
/-- what the reference's reader gives -/
def lvV (l : List UInt8) : Int := if (1 ≤ l.length ∧ l.length ≤ 13) ∧ ∀ c ∈ l, 48 ≤ c.toNat ∧ c.toNat ≤ 57 then (dval l : Int) else 0
def lvB (l : List UInt8) : Bool := if (1 ≤ l.length ∧ l.length ≤ 13) ∧ ∀ c ∈ l, 48 ≤ c.toNat ∧ c.toNat ≤ 57 then decDigits (dval l) == l else false
theorem lv_dec {u : Nat} (h : u < 10000000000000) : lvV (decDigits u) = u ∧ lvB (decDigits u) = true := by
  have h1 := dec_len (u := u) (k := 12) (by omega)
  have h2 := dec_pos u
  have h3 : (1 ≤ (decDigits u).length ∧ (decDigits u).length ≤ 13) ∧ ∀ c ∈ decDigits u, 48 ≤ c.toNat ∧ c.toNat ≤ 57 := ⟨⟨by omega, by omega⟩, dec_dig u⟩
  unfold lvV lvB
  rw [if_pos h3, if_pos h3, dval_dec]
  simp
theorem dvA_bd : ∀ (l : List UInt8) (acc : Nat), (∀ c ∈ l, Dig c) → dvA acc l < (acc + 1) * 10 ^ l.length
  | [], acc, _ => by simp [dvA]
  | c :: l, acc, h => by
    have h1 := h c (by simp)
    unfold Dig at h1
    have h2 := dvA_bd l (acc * 10 + (c.toNat - 48)) (fun x hx => h x (by simp [hx]))
    have h3 : dvA acc (c :: l) = dvA (acc * 10 + (c.toNat - 48)) l := rfl
    rw [h3, List.length_cons, Nat.pow_succ]
    have h4 : (acc * 10 + (c.toNat - 48) + 1) * 10 ^ l.length ≤ ((acc + 1) * 10) * 10 ^ l.length := Nat.mul_le_mul_right _ (by omega)
    have e : (acc + 1) * (10 ^ l.length * 10) = ((acc + 1) * 10) * 10 ^ l.length := by rw [Nat.mul_assoc, Nat.mul_comm 10]
    omega
/-- the reader that takes a minus sign -/
def lsV (l : List UInt8) : Int := match l with
  | 45 :: r => -lvV r
  | _ => lvV l
def lsB (l : List UInt8) : Bool := match l with
  | 45 :: r => lvB r && decide (0 < lvV r)
  | _ => lvB l
theorem ls_itoa {n : Int} (h1 : -10000000000000 < n) (h2 : n < 10000000000000) : lsV (itoa n) = n ∧ lsB (itoa n) = true := by
  unfold itoa
  by_cases hn : n < 0
  · rw [if_pos hn]
    have ⟨h3, h4⟩ := lv_dec (u := n.natAbs) (by omega)
    show -lvV (decDigits n.natAbs) = n ∧ (lvB (decDigits n.natAbs) && decide (0 < lvV (decDigits n.natAbs))) = true
    rw [h3, h4]
    simp
    omega
  · rw [if_neg hn]
    have ⟨h3, h4⟩ := lv_dec (u := n.toNat) (by omega)
    have hd := dec_dig n.toNat
    cases hl : decDigits n.toNat with
    | nil => exact absurd hl (dec_ne _)
    | cons c r =>
      rw [hl] at hd h3 h4
      have hc : c ≠ 45 := fun e => absurd (hd c (by simp)) (by rw [e]; decide)
      have e1 : lsV (c :: r) = lvV (c :: r) := by
        unfold lsV
        split
        · rename_i h; injection h with h; exact absurd h hc
        · rfl
      have e2 : lsB (c :: r) = lvB (c :: r) := by
        unfold lsB
        split
        · rename_i h; injection h with h; exact absurd h hc
        · rfl
      rw [e1, e2, h3, h4]
      exact ⟨by omega, rfl⟩
end Go.Proofs.YtgajgonepcikbaaDoor
