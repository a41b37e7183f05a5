
/- A result that may lie one place behind its array's head: 'xs[1:]' of a slice that the call made. -/
import Derived.Test.YtjipalcceflkfaaMark
import Derived.Test.YtjipalcceflkfaaGiv
namespace Go.Proofs.Ytjipalcceflkfaa
open Go.RowKit

/-- the slice holds ys in a block of its own, at the block's head or one place behind it -/
def OwnX (w : World) (lo : Nat) (A : Option Addr) (n c : Nat) (ys : List Int) : Prop :=
  OwnI w lo A n c ys ∨ ∃ g x, A = some ⟨g, 1, none⟩ ∧ OwnI w lo (some ⟨g, 0, none⟩) (n + 1) (c + 1) (x :: ys)
section
variable {w w' : World} {lo : Nat} {A : Option Addr} {n c : Nat} {ys : List Int}
theorem OwnX.len (h : OwnX w lo A n c ys) : ys.length = n := by
  rcases h with h | ⟨g, x, _, h⟩
  · exact h.len
  · have := h.len; simpa using this
theorem OwnX.cap (h : OwnX w lo A n c ys) : n ≤ c ∧ c ≤ maxLen := by
  rcases h with h | ⟨g, x, _, h⟩
  · exact ⟨h.2.1, h.2.2.1⟩
  · have h1 := h.2.1; have h2 := h.2.2.1; omega
theorem OwnX.rd (h : OwnX w lo A n c ys) : Rd .i64 w A n c ys := by
  have hl := h.len
  have hc := h.cap
  rcases h with h | ⟨g, x, rfl, h⟩
  · exact h.rd
  · refine ⟨hl, hc.1, hc.2, fun hn => ?_⟩
    obtain ⟨g', e, hlo, hlt⟩ := OwnC.form h (by omega)
    simp at e
    subst e
    refine ⟨g, 1, rfl, hlt, fun i hi => ?_⟩
    rw [Nat.add_comm 1 i]
    have := (h.at_ (i := i + 1) (by omega)).1
    simpa using this
theorem OwnI.row_ge (h : OwnI w lo A n c ys) : ∀ k, rowOf A n = some k → lo ≤ k ∧ k < w.heap.size := OwnC.row_ge h
theorem OwnX.row_ge (h : OwnX w lo A n c ys) : ∀ k, rowOf A n = some k → lo ≤ k ∧ k < w.heap.size := by
  rcases h with h | ⟨g, x, rfl, h⟩
  · exact OwnC.row_ge h
  · intro k hk
    refine OwnC.row_ge h k ?_
    unfold rowOf at hk ⊢
    by_cases h0 : n = 0
    · rw [if_pos h0] at hk; cases hk
    · rw [if_neg h0] at hk
      rw [if_neg (by omega)]
      exact hk
theorem OwnX.kept0 (h : OwnX w lo A n c ys) {row : Option Nat} (hg : w.grownBy w' row) (hne : rowOf A n = none ∨ rowOf A n ≠ row) : 0 < n → OwnX w' lo A n c ys := by
  intro hn
  rcases h with h | ⟨g, x, rfl, h⟩
  · exact .inl (h.kept hg hne)
  · refine .inr ⟨g, x, rfl, h.kept hg ?_⟩
    unfold rowOf at hne ⊢
    rw [if_neg (by omega)] at hne ⊢
    exact hne
theorem OwnX.nil (h : c ≤ maxLen) : OwnX w lo A 0 c [] := .inl (OwnC.nil h)
theorem OwnX.kept (h : OwnX w lo A n c ys) {row : Option Nat} (hg : w.grownBy w' row) (hne : rowOf A n = none ∨ rowOf A n ≠ row) : OwnX w' lo A n c ys := by
  rcases Nat.eq_zero_or_pos n with h0 | h0
  · subst h0
    have := h.len
    rw [List.eq_nil_of_length_eq_zero this]
    exact OwnX.nil h.cap.2
  · exact h.kept0 hg hne h0
theorem OwnX.below (h : OwnX w lo A n c ys) (hb : Below w.heap.size w w') : OwnX w' lo A n c ys :=
  h.kept (row := none) ⟨hb.os, hb.tape, hb.output, hb.size, fun k hk _ => hb.block k hk⟩ (by cases rowOf A n <;> simp)
theorem OwnX.lo_ {lo' : Nat} (h : OwnX w lo' A n c ys) (hl : lo ≤ lo') : OwnX w lo A n c ys := by
  rcases h with h | ⟨g, x, rfl, h⟩
  · exact .inl (own_lo h hl)
  · exact .inr ⟨g, x, rfl, own_lo h hl⟩
end
theorem sep_ge {A B : Option Addr} {n m lo lo' s s' : Nat} (ha : ∀ k, rowOf A n = some k → lo ≤ k ∧ k < s) (hb : ∀ k, rowOf B m = some k → lo' ≤ k ∧ k < s') (hlo : s ≤ lo') : rowOf A n = none ∨ rowOf A n ≠ rowOf B m := by
  cases ea : rowOf A n with
  | none => exact .inl rfl
  | some k =>
    right
    intro eb
    have h1 := ha k ea
    have h2 := hb k eb.symm
    omega

set_option maxHeartbeats 800000 in
theorem markX_any (lo : Nat) (A : Option Addr) (n c : Nat) (ys : List Int) (k : Int) (w : World) (h : OwnX w lo A n c ys) (hn : n ≤ 1048576) (hk : 0 ≤ k) (hk2 : k ≤ 1073741824) :
    Calls Try.prog 18 #[.slice A n c, .int .i64 k] w fun e w' => e = .returned (.int .i64 (k + n)) ∧ OwnX w' lo A n c (mk k n) ∧ w.grownBy w' (rowOf A n) := by
  have hlen := h.len
  have hcap := h.cap
  rcases h with h | ⟨g, x, rfl, h⟩
  · exact (mark_any lo A n c ys k w h hn hk hk2).mono fun e w' ⟨h1, h2, h3⟩ => ⟨h1, .inl h2, h3⟩
  rcases Nat.eq_zero_or_pos n with h0 | h0
  · subst h0
    exact (mark_any lo (some ⟨g, 1, none⟩) 0 c [] k w (OwnC.nil hcap.2) (by omega) hk hk2).mono fun e w' ⟨h1, h2, h3⟩ => ⟨h1, .inl h2, h3⟩
  have HO := Lib.hid h
  have hl := Lib.hid hlen
  have HR : Hid (rowOf (some ⟨g, 1, none⟩) n = some g) := Lib.hid (by unfold rowOf; rw [if_neg (by omega)]; rfl)
  clear h hlen hcap
  go_enter Try.func18, Try.ntmps18
  go_wp2
  go_loopw [1, 5] (fun kk i wr => ∃ j : Nat, j ≤ n ∧ kk = .int .i64 (k + j) ∧ i = .int .i64 j ∧ Hid (OwnI wr lo (some ⟨g, 0, none⟩) (n + 1) (c + 1) (x :: mixed ys k j)) ∧ Hid (w.grownBy wr (some g))) (fun _ i _ => n - (intOf i).toNat)
  case atStart => exact ⟨0, Nat.zero_le _, by go_num, rfl, Lib.hid (by rw [mixed_zero]; exact HO.out), Lib.hid (grown_refl _ _)⟩
  case round =>
    obtain ⟨j, hj, rfl, rfl, HW, HG⟩ := hrel
    by_cases hlt : j < n
    · have ⟨ho, hf⟩ := HW.out.at_ (i := 1 + j) (by omega)
      have HS := Lib.hid (HW.out.set_ (1 + j) (k + j))
      obtain ⟨v, hve⟩ : ∃ v, v = (x :: mixed ys k j).getD (1 + j) 0 := ⟨_, rfl⟩
      rw [← hve] at ho
      clear hve
      go_wp2
      go_roundw
      case rel => exact ⟨j + 1, by omega, by go_num, by go_num, Lib.hid (by
        have h1 := HS.out.1
        have e : (x :: mixed ys k j).set (1 + j) (k + j) = x :: mixed ys k (j + 1) := by rw [Nat.add_comm 1 j, List.set_cons_succ, mixed_set (by rw [hl.out]; exact hlt)]
        rw [e] at h1
        exact h1), Lib.hid (grown_trans HG.out (HS.out.2 (by omega)))⟩
      case measure => simp [intOf]; omega
    · have hjn : j = n := by omega
      subst hjn
      go_wp2
      go_ret
      exact ⟨rfl, .inr ⟨g, x, rfl, by have := HW.out; rw [mixed_all hl.out] at this; exact this⟩, by rw [HR.out]; exact HG.out⟩
end Go.Proofs.Ytjipalcceflkfaa
