
/- The laws' helpers on matrices: compare, mark, held. -/
import Derived.Test.YthdmanngjnfamaaSyl3
import Derived.Test.YthdmanngjnfamaaMark
import Derived.Deep.QuietTactic
import Derived.BigQuiet
namespace Go.Proofs.Ythdmanngjnfamaa
open Go.RowKit

def tabL (n : Nat) (h : Nat → List Int) : List (List Int) := (List.range n).map h
theorem tabL_len (n : Nat) (h : Nat → List Int) : (tabL n h).length = n := by simp [tabL]
theorem tabL_at {n : Nat} {h : Nat → List Int} {i : Nat} (hi : i < n) : (tabL n h).getD i [] = h i := by
  unfold tabL; simp [List.getD, hi]
theorem tabL_ext {n : Nat} {h h' : Nat → List Int} (e : ∀ i, i < n → h i = h' i) : tabL n h = tabL n h' := by
  unfold tabL
  apply List.map_congr_left
  intro i hi
  exact e i (List.mem_range.1 hi)
theorem tabL_list (rs : List (List Int)) : tabL rs.length (fun i => rs.getD i []) = rs := by
  apply List.ext_getElem (tabL_len _ _)
  intro i h1 h2
  simp [tabL, List.getD, List.getElem?_eq_getElem h2]
/-- the marked rows -/
def mkR (k : Int) (N n : Nat) : List (List Int) := tabL n fun t => mk (k + ((t * N : Nat) : Int)) N
section
variable {w w' : World} {lo hi N n : Nat} {v : Value} {gs : List Nat} {rs : List (List Int)}
theorem Mx.setRow {h : Nat → List Int} (hm : Mx w lo v N gs (tabL n h)) (hn : n = gs.length) (hN : 0 < N) {t : Nat} (ht : t < n) (hg : w.grownBy w' (some (gs.getD t 0))) {ys : List Int} (hr : OwnI w' lo (some ⟨gs.getD t 0, 0, none⟩) N N ys) :
    Mx w' lo v N gs (tabL n fun s => if s = t then ys else h s) := by
  subst hn
  refine ⟨hm.own.kept hg (.inr (hm.sep hN ht)), by rw [tabL_len], fun i hi => ?_, hm.nd⟩
  rw [tabL_at hi]
  by_cases e : i = t
  · rw [if_pos e, e]; exact hr
  · rw [if_neg e]
    have h1 := hm.row i hi
    rw [tabL_at hi] at h1
    refine h1.kept hg (.inr ?_)
    rw [rowOf_pos hN]
    intro e2
    injection e2 with e2
    rcases Nat.lt_or_ge i t with h2 | h2
    · exact hm.nd i t h2 ht e2
    · exact hm.nd t i (by omega) hi e2.symm
/-- a matrix all of whose blocks lie from lo to hi -/
structure Mb (w : World) (lo hi : Nat) (v : Value) (N : Nat) (gs : List Nat) (rs : List (List Int)) : Prop where
  mx : Mx w lo v N gs rs
  up : ∀ i, i < gs.length → gs.getD i 0 < hi
  ob : ∀ k, v.ownBlock = some k → lo ≤ k ∧ k < hi
theorem Mx.mb (h : Mx w lo v N gs rs) (hN : 0 < N) : Mb w lo w.heap.size v N gs rs := ⟨h, fun _ hi => (h.ge hN hi).2, fun k hk => h.own.lt k hk⟩
theorem Mb.below (h : Mb w lo hi v N gs rs) (hN : 0 < N) (hb : Below w.heap.size w w') : Mb w' lo hi v N gs rs := ⟨h.mx.below hN hb, h.up, h.ob⟩
theorem Mb.kept (h : Mb w lo hi v N gs rs) (hN : 0 < N) {row : Option Nat} (hg : w.grownBy w' row) (hr : ∀ k, row = some k → k < lo ∨ hi ≤ k) : Mb w' lo hi v N gs rs := by
  refine ⟨h.mx.kept hN hg ?_ (fun i hi2 e => ?_), h.up, h.ob⟩
  · cases e : v.ownBlock with
    | none => exact .inl rfl
    | some k =>
      right
      intro e2
      have h1 := h.ob k e
      have h2 := hr k e2.symm
      omega
  · have h1 := h.up i hi2
    have h2 := (h.mx.ge hN hi2).1
    have h3 := hr _ e
    omega
theorem own_under {e : TypeId} {sz : Nat} {cs : List Value} {m B : Nat} (h : w.ownsRow lo e sz v m cs) (hk : ∀ k, v.ownBlock = some k → k < B) (hb : Below B w w') : w'.ownsRow lo e sz v m cs := by
  refine ⟨h.1, ?_⟩
  rcases h.2 with h1 | ⟨g, cap, cur, rfl, h2, h3, h4⟩
  · exact .inl h1
  · exact .inr ⟨g, cap, cur, rfl, h2, by rw [hb.block g (hk g rfl)]; exact h3, h4⟩
theorem Mb.under {B : Nat} (h : Mb w lo hi v N gs rs) (hb : Below B w w') (hB : hi ≤ B) : Mb w' lo hi v N gs rs := by
  refine ⟨⟨own_under h.mx.own (fun k hk => by have := h.ob k hk; omega) hb, h.mx.len, fun i hi2 => ?_, h.mx.nd⟩, h.up, h.ob⟩
  have h1 := h.mx.row i hi2
  refine ⟨h1.1, h1.2.1, h1.2.2.1, fun hn => own_under (h1.2.2.2 hn) (fun k hk => ?_) hb⟩
  have : k = gs.getD i 0 := by simpa [Value.ownBlock] using hk.symm
  have := h.up i hi2
  omega
theorem bl_up {W w w' : World} {B : Nat} (h : Below W.heap.size W w) (h2 : Below B w w') (hB : W.heap.size ≤ B) : Below W.heap.size W w' :=
  ⟨h2.os.trans h.os, h2.tape.trans h.tape, h2.output.trans h.output, Nat.le_trans h.size h2.size, fun k hk => (h2.block k (by omega)).trans (h.block k hk)⟩
theorem bl_of_grown {w w' : World} {B b : Nat} (hg : w.grownBy w' (some b)) (hB : B ≤ b) (hs : B ≤ w.heap.size) : Below B w w' :=
  ⟨hg.os, hg.tape, hg.output, hg.size, fun k hk => hg.block k (by omega) (fun e => by injection e with e; omega)⟩
theorem bl_le {w w' : World} {B B' : Nat} (h : Below B w w') (hB : B' ≤ B) : Below B' w w' := ⟨h.os, h.tape, h.output, h.size, fun k hk => h.block k (by omega)⟩
end
theorem quiet_drawn {P : Program} {f : FuncId} {args : Array Value} {w : World} {n : Nat} {v : Value}
    (h : Calls P f args (w.drewN n) fun e w' => e = .returned v ∧ ∃ m, w' = (w.drewN n).drewN m) : Calls P f args (w.drewN n) fun e w'' => e = .returned v ∧ ∃ m, w'' = w.drewN m :=
  h.mono fun _ _ ⟨he, m, hm⟩ => ⟨he, n + m, by rw [hm, World.drewN_drewN]⟩

set_option maxHeartbeats 1600000 in
theorem eqSS_any (A : Option Addr) (n c : Nat) (A' : Option Addr) (c' : Nat) (lo lo' N : Nat) (gs gs' : List Nat) (rs : List (List Int)) (w : World) (h : Mx w lo (.slice A n c) N gs rs) (h' : Mx w lo' (.slice A' n c') N gs' rs) (hn : n = rs.length) (hN : 0 < N) :
    Calls Try.prog 11 #[.slice A n c, .slice A' n c'] w fun e w' => e = .returned (.bool true) ∧ Below w.heap.size w w' := by
  have H := Lib.hid h
  have H' := Lib.hid h'
  have HN := Lib.hid hn
  clear h h' hn
  have hself : ((n : Int) != (n : Int)) = false := by simp
  go_enter Try.func11, Try.ntmps11
  go_wp2
  go_loopw [5] (fun j wr => ∃ k : Nat, k ≤ n ∧ j = .int .i64 k ∧ Hid (Below w.heap.size w wr)) (fun j _ => n - (intOf j).toNat)
  case atStart => exact ⟨0, Nat.zero_le _, rfl, Lib.hid (Below.refl _ _)⟩
  case round =>
    obtain ⟨k, hk, rfl, HB⟩ := hrel
    by_cases hlt : k < n
    · have h1 := H.out.below hN HB.out
      have h2 := H'.out.below hN HB.out
      have k1 : k < gs.length := by have := h1.len; have := HN.out; omega
      have k2 : k < gs'.length := by have := h2.len; have := HN.out; omega
      obtain ⟨-, d1, d2, b, rfl, x1⟩ := h1.at_ k1
      obtain ⟨-, d3, d4, b', rfl, x2⟩ := h2.at_ k2
      have R1 := Lib.hid (OwnI.rd (h1.row k k1))
      have R2 := Lib.hid (OwnI.rd (h2.row k k2))
      unfold rowV at x1 x2
      generalize gs.getD k 0 = g at x1 R1
      generalize gs'.getD k 0 = g' at x2 R2
      unfold maxLen at d2 d4
      have hki : (k : Int) < (n : Int) := by omega
      clear h1 h2 k1 k2
      go_wp2_with fail
      go_quiet ((go_at_call 12; exact quiet_drawn (eqInt64S_any _ _ _ _ _ _ _ (R1.out.below (below_drewN (Below.refl _ _) _)) (R2.out.below (below_drewN (Below.refl _ _) _)))))
      go_wp2
      go_roundw
      case rel => exact ⟨k + 1, by omega, by go_num, Lib.hid (by repeat (first | exact HB.out | apply Below.drew | apply below_drewN))⟩
      case measure => simp [intOf]; omega
    · go_wp2
      go_ret
      exact ⟨rfl, HB.out⟩

set_option maxHeartbeats 1600000 in
theorem markSS_any (A : Option Addr) (n c : Nat) (lo N : Nat) (gs : List Nat) (rs : List (List Int)) (k : Int) (w : World) (h : Mx w lo (.slice A n c) N gs rs) (hn : n = rs.length) (hN : 0 < N) (hl : n ≤ 100) (hN2 : N ≤ 100) (k0 : 0 ≤ k) (k1 : k ≤ 1000000) (hlo : lo ≤ w.heap.size) :
    Calls Try.prog 14 #[.slice A n c, .int .i64 k] w fun e w' => e = .returned (.int .i64 (k + ((n * N : Nat) : Int))) ∧ Mx w' lo (.slice A n c) N gs (mkR k N n) ∧ Below lo w w' := by
  have H := Lib.hid h
  have HN := Lib.hid hn
  have HG : Hid (n = gs.length) := Lib.hid (by rw [hn, h.len])
  clear h hn
  go_enter Try.func14, Try.ntmps14
  go_wp2
  go_loopw [1, 5] (fun kk j wr => ∃ i p : Nat, i ≤ n ∧ j = .int .i64 i ∧ kk = .int .i64 (k + (p : Int)) ∧ p ≤ 10000 ∧ Hid (p = i * N) ∧ Hid (Mx wr lo (.slice A n c) N gs (tabL n fun t => if t < i then mk (k + ((t * N : Nat) : Int)) N else rs.getD t [])) ∧ Hid (Below lo w wr)) (fun _ j _ => n - (intOf j).toNat)
  case atStart => exact ⟨0, 0, Nat.zero_le _, rfl, by simp, Nat.zero_le _, Lib.hid (by simp), Lib.hid (by
    have h1 := H.out
    rw [← tabL_list rs, ← HN.out] at h1
    have e : (tabL n fun t => if t < 0 then mk (k + ((t * N : Nat) : Int)) N else rs.getD t []) = tabL n (fun i => rs.getD i []) := tabL_ext fun i _ => if_neg (Nat.not_lt_zero _)
    rw [e]
    exact h1), Lib.hid (Below.refl _ _)⟩
  case round =>
    obtain ⟨i, p, hi, rfl, rfl, hp2, HP, HM, HB⟩ := hrel
    by_cases hlt : i < n
    · have ig : i < gs.length := by have := HG.out; omega
      obtain ⟨-, d1, d2, b, rfl, x1⟩ := HM.out.at_ ig
      unfold rowV at x1
      unfold maxLen at d2
      have hro := HM.out.row i ig
      rw [tabL_at hlt] at hro
      have HRo := Lib.hid hro
      obtain ⟨g, hg⟩ : ∃ g, g = gs.getD i 0 := ⟨_, rfl⟩
      rw [← hg] at x1 HRo
      have HGi := Lib.hid hg
      have hki : (i : Int) < (n : Int) := by omega
      have hpN : i * N + N ≤ 10000 := by
        have h1 : (i + 1) * N ≤ 100 * 100 := Nat.mul_le_mul (by omega) hN2
        rw [Nat.succ_mul] at h1
        omega
      have hp3 : p + N ≤ 10000 := by have := HP.out; omega
      clear hro hg hpN
      go_wp2_with fail
      refine (mark_any lo (some ⟨g, 0, none⟩) N N _ (k + (p : Int)) _ HRo.out (by omega) (by omega) (by omega)).mono ?_
      rintro e w2 ⟨rfl, ho, hgr⟩
      have HM2 : Hid (Mx w2 lo (.slice (some ⟨b, 0, none⟩) n c) N gs (tabL n fun t => if t < i + 1 then mk (k + ((t * N : Nat) : Int)) N else rs.getD t [])) := Lib.hid (by
        rw [rowOf_pos hN, HGi.out] at hgr
        rw [HGi.out] at ho
        have h1 := HM.out.setRow HG.out hN hlt hgr ho
        have e : (tabL n fun s => if s = i then mk (k + (p : Int)) N else if s < i then mk (k + ((s * N : Nat) : Int)) N else rs.getD s []) = tabL n fun t => if t < i + 1 then mk (k + ((t * N : Nat) : Int)) N else rs.getD t [] := tabL_ext fun s _ => by
          by_cases e1 : s = i
          · rw [if_pos e1, if_pos (by omega), HP.out, e1]
          · rw [if_neg e1]
            by_cases e2 : s < i
            · rw [if_pos e2, if_pos (by omega)]
            · rw [if_neg e2, if_neg (by omega)]
        rw [e] at h1
        exact h1)
      have HB2 : Hid (Below lo w w2) := Lib.hid (by
        rw [rowOf_pos hN] at hgr
        have h2 := (HM.out.ge hN ig).1
        have := HB.out.size
        exact Below.trans HB.out (bl_of_grown hgr (by rw [HGi.out]; exact h2) (by omega)))
      clear ho hgr x1
      go_wp2
      go_roundw
      case rel => exact ⟨i + 1, p + N, by omega, by go_num, congrArg (Value.int IntKind.i64) (show k + (p : Int) + (N : Int) = k + ((p + N : Nat) : Int) by omega), hp3, Lib.hid (by rw [Nat.succ_mul, HP.out]), HM2, HB2⟩
      case measure => simp [intOf]; omega
    · obtain rfl : i = n := by omega
      go_wp2
      go_ret
      exact ⟨ret_int (by rw [HP.out]), by
        have h1 := HM.out
        have e : (tabL i fun t => if t < i then mk (k + ((t * N : Nat) : Int)) N else rs.getD t []) = mkR k N i := tabL_ext fun s hs => if_pos hs
        rw [e] at h1
        exact h1, HB.out⟩

set_option maxHeartbeats 1600000 in
theorem heldSS_any (A : Option Addr) (n c : Nat) (lo N : Nat) (gs : List Nat) (k : Int) (w : World) (h : Mx w lo (.slice A n c) N gs (mkR k N n)) (hN : 0 < N) (hl : n ≤ 100) (hN2 : N ≤ 100) (k0 : 0 ≤ k) (k1 : k ≤ 1000000) :
    Calls Try.prog 15 #[.slice A n c, .int .i64 k] w fun e w' => e = .returned (.int .i64 (k + ((n * N : Nat) : Int))) ∧ Below w.heap.size w w' := by
  have H := Lib.hid h
  have HG : Hid (n = gs.length) := Lib.hid (by have := h.len; unfold mkR at this; rw [tabL_len] at this; exact this)
  clear h
  go_enter Try.func15, Try.ntmps15
  go_wp2
  go_loopw [1, 5] (fun kk j wr => ∃ i p : Nat, i ≤ n ∧ j = .int .i64 i ∧ kk = .int .i64 (k + (p : Int)) ∧ p ≤ 10000 ∧ Hid (p = i * N) ∧ Hid (Below w.heap.size w wr)) (fun _ j _ => n - (intOf j).toNat)
  case atStart => exact ⟨0, 0, Nat.zero_le _, rfl, by simp, Nat.zero_le _, Lib.hid (by simp), Lib.hid (Below.refl _ _)⟩
  case round =>
    obtain ⟨i, p, hi, rfl, rfl, hp2, HP, HB⟩ := hrel
    by_cases hlt : i < n
    · have ig : i < gs.length := by have := HG.out; omega
      have h1 := H.out.below hN HB.out
      obtain ⟨-, d1, d2, b, rfl, x1⟩ := h1.at_ ig
      unfold rowV at x1
      unfold maxLen at d2
      have hro := OwnI.rd (h1.row i ig)
      unfold mkR at hro
      rw [tabL_at hlt] at hro
      have hro2 : Rd .i64 wr (some ⟨gs.getD i 0, 0, none⟩) N N (mk (k + (p : Int)) N) := by rw [HP.out]; exact hro
      have HRo := Lib.hid hro2
      generalize gs.getD i 0 = g at x1 HRo
      have hki : (i : Int) < (n : Int) := by omega
      have hpN : i * N + N ≤ 10000 := by
        have h1 : (i + 1) * N ≤ 100 * 100 := Nat.mul_le_mul (by omega) hN2
        rw [Nat.succ_mul] at h1
        omega
      have hp3 : p + N ≤ 10000 := by have := HP.out; omega
      have hnn : decide (k + (p : Int) + (N : Int) < 0) = false := by simp; omega
      clear hro hro2 hpN h1
      go_wp2_with fail
      refine ((held_any _ _ _ _ _ HRo.out (by omega) (by omega) (by omega)).mono fun _ _ h => drawn_below h).mono ?_
      rintro e w2 ⟨rfl, hb⟩
      have HB2 := Lib.hid (bl_trans HB.out hb)
      clear hb x1
      go_wp2
      go_roundw
      case rel => exact ⟨i + 1, p + N, by omega, by go_num, congrArg (Value.int IntKind.i64) (show k + (p : Int) + (N : Int) = k + ((p + N : Nat) : Int) by omega), hp3, Lib.hid (by rw [Nat.succ_mul, HP.out]), HB2⟩
      case measure => simp [intOf]; omega
    · obtain rfl : i = n := by omega
      go_wp2
      go_ret
      exact ⟨ret_int (by rw [HP.out]), HB.out⟩
end Go.Proofs.Ythdmanngjnfamaa
