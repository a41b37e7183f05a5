
/- The reference's SylvesterMatrix. -/
import Derived.Test.YthdmanngjnfamaaSyl1
namespace Go.Proofs.Ythdmanngjnfamaa
open Go.RowKit

theorem emptyM (w : World) (T : TypeId) (sz : Nat) : (w.alloc (.cells #[] T)).ownsRow w.heap.size T sz (.slice (some ⟨w.heap.size, 0, none⟩) 0 0) 0 [] :=
  ⟨by simp, .inr ⟨w.heap.size, 0, #[], rfl, Nat.le_refl _, heap_alloc_new w _, Nat.le_refl _, by unfold maxLen; omega, by simp, by simp⟩⟩
theorem ownsRow_lo2 {w : World} {lo lo' : Nat} {e : TypeId} {sz : Nat} {v : Value} {n : Nat} {cs : List Value} (h : w.ownsRow lo e sz v n cs) (hl : lo' ≤ lo) : w.ownsRow lo' e sz v n cs := by
  refine ⟨h.1, ?_⟩
  rcases h.2 with h | ⟨g, cap, cur, hv, hb, hr⟩
  · exact .inl h
  · exact .inr ⟨g, cap, cur, hv, Nat.le_trans hl hb, hr⟩
theorem noneM (w : World) (lo N : Nat) : Mx w lo (.slice none 0 0) N [] [] := Mx.nil ⟨by simp, .inl ⟨rfl, rfl⟩⟩
theorem Mx.form {w : World} {lo N : Nat} {v : Value} {gs : List Nat} {rs : List (List Int)} (h : Mx w lo v N gs rs) : ∃ A c, v = .slice A gs.length c := by
  obtain ⟨A, c, e, _⟩ := own_cells h.own
  exact ⟨A, c, e⟩
/-- how long a row is -/
def sylN (f g : List Int) : Nat := if smC [f, g] = 0 then f.length - 1 + (g.length - 1) else 1
/-- the Sylvester matrix -/
def sylM (f g : List Int) : List (List Int) := rowsL f (f.length - 1 + (g.length - 1)) (g.length - 1) ++ rowsL g (f.length - 1 + (g.length - 1)) (f.length - 1)
/-- what SylvesterMatrix gives -/
def sylR (f g : List Int) : List (List Int) × Int := if smC [f, g] = 0 then (sylM f g, 0) else ([], smC [f, g])
theorem smC_zero {f g : List Int} (h : smC [f, g] = 0) : SmOk f ∧ SmOk g := by
  unfold smC at h
  by_cases h1 : [f, g].any npo = true
  · rw [if_pos h1] at h; cases h
  · rw [if_neg h1] at h
    by_cases h2 : [f, g].any nso = true
    · rw [if_pos h2] at h; cases h
    · have h3 : [f, g].any nso = false := by simpa using h2
      rw [List.any_eq_false] at h3
      have a := h3 f (by simp)
      have b := h3 g (by simp)
      unfold nso at a b
      simp only [Bool.not_eq_true, Bool.not_eq_false', decide_eq_true_eq] at a b
      exact ⟨a, b⟩
theorem sylN_pos (f g : List Int) : 0 < sylN f g ∧ sylN f g ≤ 100 := by
  unfold sylN
  by_cases h : smC [f, g] = 0
  · rw [if_pos h]
    have ⟨h1, h2⟩ := smC_zero h
    have := h1.2.1
    have := h2.2.1
    omega
  · rw [if_neg h]; omega
theorem sylR_len (f g : List Int) : (sylR f g).1.length ≤ 100 := by
  unfold sylR
  by_cases h : smC [f, g] = 0
  · rw [if_pos h]
    have ⟨h1, h2⟩ := smC_zero h
    have := h1.2.1
    have := h2.2.1
    show (sylM f g).length ≤ 100
    unfold sylM
    rw [List.length_append, rowsL_len, rowsL_len]
    omega
  · rw [if_neg h]; simp
/-- the post of a call that returns a matrix and a code -/
def GivesM (N : Nat) (R : List (List Int) × Int) (w : World) (e : Ending) (w' : World) : Prop :=
  ∃ (A : Option Addr) (c : Nat) (gs : List Nat), e = .returned (.tuple #[.slice A R.1.length c, .int .i64 R.2]) ∧ gs.length = R.1.length ∧ Mx w' w.heap.size (.slice A R.1.length c) N gs R.1 ∧ Below w.heap.size w w'

set_option maxHeartbeats 1600000 in
theorem l07Matrix_any (A : Option Addr) (nf c : Nat) (f : List Int) (B : Option Addr) (ng d : Nat) (g : List Int) (n m N : Nat) (w : World) (hf : Rd .i64 w A nf c f) (hg : Rd .i64 w B ng d g) (hn : nf = n + 1) (hm : ng = m + 1) (hN : N = n + m) (n1 : 1 ≤ n) (n4 : n ≤ 4) (m1 : 1 ≤ m) (m4 : m ≤ 4) :
    Calls Try.prog 70 #[.slice A nf c, .slice B ng d] w fun e w' => ∃ (v : Value) (gs : List Nat), e = .returned v ∧ gs.length = m + n ∧ Mx w' w.heap.size v N gs (rowsL f N m ++ rowsL g N n) ∧ Below w.heap.size w w' := by
  have HF := Lib.hid hf
  have HG := Lib.hid hg
  have e1 : (nf : Int) - 1 = (n : Int) := by omega
  have e2 : (ng : Int) - 1 = (m : Int) := by omega
  have e3 : (n : Int) + (m : Int) = (N : Int) := by omega
  have HH := Lib.hid (And.intro hn (And.intro hm hN))
  clear hf hg hn hm hN
  go_enter Try.func70, Try.ntmps70
  go_wp2_with fail
  refine (l07Rows_any w _ _ [] [] N m A nf c f HF.out (bl_alloc (Below.refl _ _) _) (Mx.nil (emptyM w _ 1)) (by have := HH.out; omega) (by have := HH.out; omega) (by have := HH.out; omega) (by have := HH.out; omega) (by simp)).mono ?_
  rintro e w1 ⟨v1, gs1, rfl, hl1, hm1, hb1⟩
  rw [List.nil_append] at hm1
  have HM1 := Lib.hid hm1
  have HB1 := Lib.hid hb1
  have HL1 := Lib.hid hl1
  clear hm1 hb1 hl1
  go_wp2_with fail
  refine (l07Rows_any w _ _ gs1 (rowsL f N m) N n B ng d g HG.out HB1.out HM1.out (by have := HH.out; omega) (by have := HH.out; omega) (by have := HH.out; omega) (by have := HH.out; omega) (by have := HL1.out; simp at this; omega)).mono ?_
  rintro e w2 ⟨v2, gs2, rfl, hl2, hm2, hb2⟩
  have HM2 := Lib.hid hm2
  have HB2 := Lib.hid hb2
  have HL2 := Lib.hid hl2
  clear hm2 hb2 hl2
  go_wp2
  go_ret
  exact ⟨v2, gs2, rfl, by have := HL1.out; have := HL2.out; simp at *; omega, HM2.out, HB2.out⟩

set_option maxHeartbeats 1600000 in
theorem specSylvester_any (A : Option Addr) (nf c : Nat) (f : List Int) (B : Option Addr) (ng d : Nat) (g : List Int) (w : World) (hf : Rd .i64 w A nf c f) (hg : Rd .i64 w B ng d g) :
    Calls Try.prog 8 #[.slice A nf c, .slice B ng d] w (GivesM (sylN f g) (sylR f g) w) := by
  obtain ⟨k, hk⟩ : ∃ k, k = smC [f, g] := ⟨_, rfl⟩
  have HK := Lib.hid hk
  have hlf := hf.1
  have hlg := hg.1
  subst hlf hlg
  have HF := Lib.hid hf
  have HG := Lib.hid hg
  by_cases hz : k = 0
  · have hkb : (k != 0) = false := by simpa using hz
    have h0 : smC [f, g] = 0 := by rw [← hk]; exact hz
    have ⟨s1, s2⟩ := smC_zero h0
    have ⟨a1, a2⟩ := s1.2.1
    have ⟨b1, b2⟩ := s2.2.1
    have HE : Hid (sylR f g = (sylM f g, 0) ∧ sylN f g = f.length - 1 + (g.length - 1)) := Lib.hid ⟨by unfold sylR; rw [if_pos h0], by unfold sylN; rw [if_pos h0]⟩
    clear hk hf hg hz h0 s1 s2
    go_enter Try.func8, Try.ntmps8
    go_wp2_with fail
    refine (l07Code_any HK.out _ (RdP.two HF.out HG.out) (by omega)).mono ?_
    rintro e w' ⟨rfl, rfl⟩
    go_wp2_with fail
    refine (l07Matrix_any A f.length c f B g.length d g (f.length - 1) (g.length - 1) _ _ (HF.out.below (bl_alloc (Below.refl _ _) _)) (HG.out.below (bl_alloc (Below.refl _ _) _)) (by omega) (by omega) rfl (by omega) (by omega) (by omega) (by omega)).mono ?_
    rintro e w1 ⟨v, gs, rfl, hl, hm, hb⟩
    have hs : (w.alloc (.cells #[.slice A f.length c, .slice B g.length d] 22)).heap.size = w.heap.size + 1 := by simp
    obtain ⟨A1, c1, rfl⟩ := hm.form
    have HM := Lib.hid hm
    have HB := Lib.hid (bl_trans (bl_alloc (Below.refl w.heap.size w) _) hb)
    have HL := Lib.hid hl
    clear hb hl hm
    go_wp2
    go_ret2
    have hlen : gs.length = (sylR f g).1.length := by
      rw [HE.out.1, HL.out]
      show _ = (sylM f g).length
      unfold sylM
      rw [List.length_append, rowsL_len, rowsL_len]
    refine ⟨A1, c1, gs, by rw [← hlen, HE.out.1]; rfl, hlen, ?_, HB.out⟩
    rw [← hlen, HE.out.1, HE.out.2]
    have h := HM.out
    exact ⟨ownsRow_lo2 h.own (by omega), h.len, fun i hi => own_lo (h.row i hi) (by omega), h.nd⟩
  · have hkb : (k != 0) = true := by simpa using hz
    have h0 : ¬ smC [f, g] = 0 := by rw [← hk]; exact hz
    have HE : Hid (sylR f g = ([], k)) := Lib.hid (by unfold sylR; rw [if_neg h0, hk])
    clear hk hf hg hz h0
    go_enter Try.func8, Try.ntmps8
    go_wp2_with fail
    refine (l07Code_any HK.out _ (RdP.two HF.out HG.out) (by omega)).mono ?_
    rintro e w' ⟨rfl, rfl⟩
    go_wp2
    go_ret2
    exact ⟨none, 0, [], by rw [HE.out]; rfl, by rw [HE.out]; rfl, by rw [HE.out]; exact noneM _ _ _, bl_alloc (Below.refl _ _) _⟩
end Go.Proofs.Ythdmanngjnfamaa
