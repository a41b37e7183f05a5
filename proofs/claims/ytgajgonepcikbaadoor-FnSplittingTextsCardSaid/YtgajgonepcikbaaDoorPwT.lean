
/- Texts of prime powers in a walk: the program's. -/
import Derived.Test.YtgajgonepcikbaaDoorRatT
import Derived.Test.YtgajgonepcikbaaDoorStr4
import Derived.Test.YtgajgonepcikbaaDoorPws
namespace Go.Proofs.YtgajgonepcikbaaDoor
open Go.RowKit Go.Joins

theorem ownsRow_below {w w' : World} {lo : Nat} {e : TypeId} {sz : Nat} {v : Value} {n : Nat} {cs : List Value} (h : w.ownsRow lo e sz v n cs) (hb : Below w.heap.size w w') : w'.ownsRow lo e sz v n cs :=
  h.kept (row := none) ⟨hb.os, hb.tape, hb.output, hb.size, fun k hk _ => hb.block k hk⟩ (by cases v.ownBlock <;> simp)
/-- the prime powers of the flat list -/
def pwL (zs : List Int) (n : Nat) : List (Int × Int) := (List.range n).map fun k => (pP zs k, pE zs k)
theorem pwL_succ (zs : List Int) (k : Nat) : pwL zs (k + 1) = pwL zs k ++ [(pP zs k, pE zs k)] := by simp [pwL, List.range_succ]
theorem pwL_len (zs : List Int) (n : Nat) : (pwL zs n).length = n := by simp [pwL]
/-- what strings.Join is asked for -/
theorem join_tcs (W : List (List UInt8)) : (W.map fun l => bs l).map (·.data.toList) = W := by
  rw [List.map_map]
  conv => rhs; rw [← List.map_id W]
  exact List.map_congr_left fun l _ => bs_data l
theorem join_len {W : List (List UInt8)} {b : Nat} (h : ∀ l ∈ W, l.length ≤ b) (c : UInt8) : (Lib.join W [c]).length ≤ W.length * (b + 1) := by
  induction W with
  | nil => simp [Lib.join]
  | cons x r ih =>
    have h1 := h x (by simp)
    have ih := ih (fun l hl => h l (by simp [hl]))
    cases r with
    | nil => rw [Lib.join_one]; simp; omega
    | cons y r =>
      rw [Lib.join_cons] at ih ⊢
      have e : Lib.joinTail [c] (y :: r) = c :: (y ++ Lib.joinTail [c] r) := by simp [Lib.joinTail]
      rw [e, List.length_append, List.length_cons, List.length_cons, Nat.succ_mul]
      omega

theorem joinW_at {w : World} {A : Option Addr} {n c : Nat} {W : List (List UInt8)} {T : ByteArray} {s : UInt8} (hTx : T = bs (Lib.join W [s])) (h : RdT w A n c W) (hn : 0 < n) (hlen : (Lib.join W [s]).length ≤ 140737488355328) (hm : n ≤ 1048576) :
    Calls Tryd.prog 116 #[.slice A n c, .string ⟨#[s]⟩] w fun e w' => e = .returned (.string T) ∧ Below w.heap.size w w' := by
  have hl := h.len
  obtain ⟨b, off, rfl, hb, hc⟩ := h.at_ hn
  have e := Tryd.strings_Join b off c (W.map fun l => bs l) ⟨#[s]⟩ w (fun j x hj => by
    rw [List.getElem?_map] at hj
    have hj2 : j < W.length := by
      rcases Nat.lt_or_ge j W.length with h | h
      · exact h
      · rw [List.getElem?_eq_none h] at hj; cases hj
    rw [List.getElem?_eq_getElem hj2] at hj
    simp at hj
    rw [hc j (by omega), ← hj]
    simp [List.getD, List.getElem?_eq_getElem hj2]) hb (by rw [List.length_map]; omega) (by rw [List.length_map, hl]; exact h.2.1) (by rw [join_tcs]; exact hlen)
  rw [join_tcs, List.length_map, hl] at e
  subst hTx
  exact e

set_option maxRecDepth 100000 in
set_option maxHeartbeats 3200000 in
theorem powersText_at {A : Option Addr} {n c : Nat} {zs : List Int} {T : ByteArray} (hTx : T = bs (pwT (pwL zs n))) (w : World) (hr : RdC 2 w A n c (zs.map (Value.int .i64))) (h : PwOk zs n) (hT : Tb w) :
    Calls Tryd.prog 71 #[.slice A n c] w fun e w' => e = .returned (.string T) ∧ Below w.heap.size w w' := by
  obtain ⟨i0, hi, hz0, hz1, hz2⟩ := info_parts infoStr
  have HI := Lib.hid hi
  have HZ0 := Lib.hid hz0
  have HZ1 := Lib.hid hz1
  have HZ2 := Lib.hid hz2
  clear hi hz0 hz1 hz2
  have HT := Lib.hid hT
  have HR := Lib.hid hr
  have hc := hr.2.1
  have hm := hr.2.2.1
  unfold maxLen at hm
  have hn60 : n ≤ 60 := h.2
  have HK := Lib.hid h.1
  clear hT hr h
  rcases Nat.eq_zero_or_pos n with h0 | h0
  · subst h0
    obtain rfl : T = ⟨#[49]⟩ := by rw [hTx]; rfl
    clear hTx
    go_enter Tryd.func71, Tryd.ntmps71
    go_wp2
    go_ret
    exact ⟨rfl, Below.refl _ _⟩
  have HTx : Hid (T = bs (Lib.join ((pwL zs n).map pwW) [42])) := Lib.hid (by
    rw [hTx]; unfold pwT; rw [if_neg (fun e => by have := pwL_len zs n; rw [e] at this; simp at this; omega)])
  have hnz : ((n : Int) == 0) = false := by simp; omega
  clear hTx
  go_enter Tryd.func71, Tryd.ntmps71
  go_wp2
  go_loopw [3, 5, 6, 12] (fun v _ _ i wr => ∃ k : Nat, k ≤ n ∧ i = .int .i64 k ∧ Hid (wr.ownsRow w.heap.size 9 1 v k (tcs ((pwL zs k).map pwW)) ∧ ∀ l ∈ (pwL zs k).map pwW, l.length ≤ 43) ∧ Hid (Below w.heap.size w wr)) (fun _ _ _ i _ => n - (intOf i).toNat)
  case atStart => exact ⟨0, Nat.zero_le _, rfl, Lib.hid ⟨World.ownsRow_nil _ _ _ _, by simp [pwL]⟩, Lib.hid (Below.refl _ _)⟩
  case round =>
    obtain ⟨k, hk, rfl, HO, HB⟩ := hrel
    by_cases hlt : k < n
    · obtain ⟨b, off, rfl, hcell⟩ := (HR.out.below HB.out).atF (by omega)
      have h0 := hcell (k * 2 + 0) (fl_lt hlt (by omega))
      rw [Nat.add_zero] at h0
      have h1 := hcell (k * 2 + 1) (fl_lt hlt (by omega))
      rw [← Nat.add_assoc] at h1
      obtain ⟨p, pe⟩ : ∃ x, x = pP zs k := ⟨_, rfl⟩
      obtain ⟨q, qe⟩ : ∃ x, x = pE zs k := ⟨_, rfl⟩
      change _ = some (Value.int .i64 (pP zs k)) at h0
      change _ = some (Value.int .i64 (pE zs k)) at h1
      rw [← pe] at h0
      rw [← qe] at h1
      have hbk := block_lt_of_cell h0
      have hbk2 : b < wr.heap.size + 1 := by omega
      have hKk := HK.out k hlt
      have p1 : 2 ≤ p := by rw [pe]; exact hKk.1.1.1
      have p2 : p ≤ 1000000 := by rw [pe]; exact hKk.1.2
      have q1 : 1 ≤ q := by rw [qe]; exact hKk.2.1.1
      have q2 : q ≤ 40 := by rw [qe]; exact hKk.2.1.2
      obtain ⟨D1, hD1⟩ : ∃ D, D = bs (Lib.itoa p) := ⟨_, rfl⟩
      have HD1 := Lib.hid hD1
      have z1 : D1.size ≤ 21 := by rw [hD1, bs_size]; exact itoa_len (by omega) (by omega)
      have HS := Lib.hid (pwL_succ zs k)
      rw [← pe, ← qe] at HS
      have hl1 : k + 1 ≤ maxLen := by unfold maxLen; omega
      have hl2 : (k + 1) * 16 ≤ 140737488355328 := by omega
      clear hcell hKk pe qe
      by_cases hq : q = 1
      · have hqb : (q == 1) = true := by simpa using hq
        have hqn : (q != 1) = false := by simpa using hq
        have HW : Hid (D1 = bs (pwW (p, q)) ∧ (pwW (p, q)).length ≤ 43) := Lib.hid (by
          have e : D1 = bs (pwW (p, q)) := by rw [hD1]; unfold pwW; rw [if_pos hq]
          exact ⟨e, by rw [← bs_size, ← e]; omega⟩)
        clear hD1 hq
        go_wp2_with fail
        refine (decimal_at HD1.out _ (by omega) (by omega) (HT.out.below (bl_alloc HB.out _))).mono ?_
        rintro e w2 ⟨rfl, hb2⟩
        have r1 : w2.cell? ⟨wr.heap.size, 1, none⟩ = some (.int .i64 q) := keep_cell hb2 (by simp)
        have HB2 : Hid (Below wr.heap.size wr w2) := Lib.hid (bl_trans (bl_alloc (Below.refl _ _) _) hb2)
        clear hb2
        have HO2 := Lib.hid (ownsRow_below HO.out.1 HB2.out)
        have HBb := Lib.hid (bl_trans HB.out HB2.out)
        go_wp2_with (at_builtin; refine wpList_append_own _ rfl _ _ _ rfl w.heap.size 9 i0 (.string ByteArray.empty) 1 16 Tryd.underlying85 HI.out HZ0.out HZ1.out HZ2.out rfl (by decide) _ k (tcs ((pwL zs k).map pwW)) rfl (HO2.out.alloc _) ⟨w2.heap.size, 0, none⟩ 1 1 [.string D1] rfl rfl (newS _ _ _) (oneS _) hl1 hl2 (by have := HBb.out.size; simp; omega) ?_; intro v' w3 hown' hgrow _)
        have HO3 : Hid (w3.ownsRow w.heap.size 9 1 v' (k + 1) (tcs ((pwL zs (k + 1)).map pwW)) ∧ ∀ l ∈ (pwL zs (k + 1)).map pwW, l.length ≤ 43) := Lib.hid (by
          rw [HS.out, List.map_append]
          refine ⟨by rw [List.map_singleton, tcs_app, ← HW.out.1]; exact hown', fun l hl => ?_⟩
          rcases List.mem_append.1 hl with hl | hl
          · exact HO.out.2 l hl
          · simp at hl; rw [hl]; exact HW.out.2)
        have HB3 : Hid (Below w.heap.size w w3) := Lib.hid (Below.grown (bl_alloc HBb.out _) hgrow (by have := HBb.out.size; simp; omega) (fun k hk => (HO2.out.lt k hk).1))
        clear hown' hgrow hl1 hl2
        go_wp2
        go_roundw
        case rel => exact ⟨k + 1, by omega, by go_num, HO3, HB3⟩
        case measure => simp [intOf]; omega
      · have hqb : (q == 1) = false := by simpa using hq
        have hqn : (q != 1) = true := by simpa using hq
        obtain ⟨D2, hD2⟩ : ∃ D, D = bs (Lib.itoa q) := ⟨_, rfl⟩
        have HD2 := Lib.hid hD2
        have z2 : D2.size ≤ 21 := by rw [hD2, bs_size]; exact itoa_len (by omega) (by omega)
        have HW : Hid (D1 ++ (⟨#[94]⟩ ++ D2) = bs (pwW (p, q)) ∧ (pwW (p, q)).length ≤ 43) := Lib.hid (by
          have e : D1 ++ (⟨#[94]⟩ ++ D2) = bs (pwW (p, q)) := by
            rw [hD1, hD2, show (⟨#[94]⟩ : ByteArray) = bs [94] from rfl, bs_app, bs_app]; unfold pwW; rw [if_neg hq]; rfl
          refine ⟨e, ?_⟩
          rw [← bs_size, ← e, ByteArray.size_append, ByteArray.size_append, show (⟨#[94]⟩ : ByteArray).size = 1 from rfl]
          omega)
        have y1 : ¬ 1 + D2.size > 9223372036854775807 := by omega
        have y2 : ¬ D1.size + (1 + D2.size) > 9223372036854775807 := by omega
        clear hD1 hD2 hq
        go_wp2_with fail
        refine (decimal_at HD1.out _ (by omega) (by omega) (HT.out.below (bl_alloc HB.out _))).mono ?_
        rintro e w1 ⟨rfl, hb1⟩
        have r1 : w1.cell? ⟨wr.heap.size, 1, none⟩ = some (.int .i64 q) := keep_cell hb1 (by simp)
        have HB1 : Hid (Below wr.heap.size wr w1) := Lib.hid (bl_trans (bl_alloc (Below.refl _ _) _) hb1)
        clear hb1
        go_wp2_with fail
        refine (decimal_at HD2.out _ (by omega) (by omega) (HT.out.below (bl_trans HB.out HB1.out))).mono ?_
        rintro e w2 ⟨rfl, hb2⟩
        have HB2 : Hid (Below wr.heap.size wr w2) := Lib.hid (bl_trans HB1.out hb2)
        clear hb2
        have HO2 := Lib.hid (ownsRow_below HO.out.1 HB2.out)
        have HBb := Lib.hid (bl_trans HB.out HB2.out)
        go_wp2_with (at_builtin; refine wpList_append_own _ rfl _ _ _ rfl w.heap.size 9 i0 (.string ByteArray.empty) 1 16 Tryd.underlying85 HI.out HZ0.out HZ1.out HZ2.out rfl (by decide) _ k (tcs ((pwL zs k).map pwW)) rfl (HO2.out.alloc _) ⟨w2.heap.size, 0, none⟩ 1 1 [.string (D1 ++ (⟨#[94]⟩ ++ D2))] rfl rfl (newS _ _ _) (oneS _) hl1 hl2 (by have := HBb.out.size; simp; omega) ?_; intro v' w3 hown' hgrow _)
        have HO3 : Hid (w3.ownsRow w.heap.size 9 1 v' (k + 1) (tcs ((pwL zs (k + 1)).map pwW)) ∧ ∀ l ∈ (pwL zs (k + 1)).map pwW, l.length ≤ 43) := Lib.hid (by
          rw [HS.out, List.map_append]
          refine ⟨by rw [List.map_singleton, tcs_app, ← HW.out.1]; exact hown', fun l hl => ?_⟩
          rcases List.mem_append.1 hl with hl | hl
          · exact HO.out.2 l hl
          · simp at hl; rw [hl]; exact HW.out.2)
        have HB3 : Hid (Below w.heap.size w w3) := Lib.hid (Below.grown (bl_alloc HBb.out _) hgrow (by have := HBb.out.size; simp; omega) (fun k hk => (HO2.out.lt k hk).1))
        clear hown' hgrow hl1 hl2
        go_wp2
        go_roundw
        case rel => exact ⟨k + 1, by omega, by go_num, HO3, HB3⟩
        case measure => simp [intOf]; omega
    · obtain rfl : k = n := by omega
      obtain ⟨A2, c2, rfl, hrd⟩ := own_cells HO.out.1
      have HRd : Hid (RdT wr A2 k c2 ((pwL zs k).map pwW)) := Lib.hid hrd
      have HJ : Hid ((Lib.join ((pwL zs k).map pwW) [42]).length ≤ 140737488355328) := Lib.hid (by
        have := join_len (b := 43) HO.out.2 42
        rw [List.length_map, pwL_len] at this
        omega)
      clear hrd
      go_wp2_with fail
      refine (joinW_at HTx.out HRd.out h0 HJ.out (by omega)).mono ?_
      rintro e w1 ⟨rfl, hb1⟩
      have HB1 := Lib.hid (bl_trans HB.out hb1)
      clear hb1
      go_wp2
      go_ret
      exact ⟨rfl, HB1.out⟩
end Go.Proofs.YtgajgonepcikbaaDoor
