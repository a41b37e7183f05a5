
/- Texts of splittings in a walk. -/
import Derived.Test.YtgajgonepcikbaaDoorPwT2
import Derived.Test.YtgajgonepcikbaaDoorSps
import Derived.Deep.AppendLies
namespace Go.Proofs.YtgajgonepcikbaaDoor
open Go.RowKit Go.Joins

/-- the splittings of the flat list -/
def spL (zs : List Int) (n : Nat) : List (Int × Int × Int) := (List.range n).map fun k => (zR zs k, zI zs k, zT zs k)
theorem spL_succ (zs : List Int) (k : Nat) : spL zs (k + 1) = spL zs k ++ [(zR zs k, zI zs k, zT zs k)] := by simp [spL, List.range_succ]
theorem spL_len (zs : List Int) (n : Nat) : (spL zs n).length = n := by simp [spL]
theorem bl_own {w w' : World} {lo : Nat} (hb : Below w.heap.size w w') (h : lo ≤ w.heap.size) : lo ≤ w'.heap.size := Nat.le_trans h hb.size
theorem newS2 (w : World) (x : ByteArray) (T : TypeId) (g : Nat) (hg : w.heap.size = g) : ∀ j u, [Value.string x][j]? = some u → (w.alloc (.cells #[.string x] T)).cell? ((⟨g, 0, none⟩ : Addr).add j) = some u := by
  subst hg; exact newS w x T

/-- at most 8 splittings, by their sum -/
theorem spS_ge {zs : List Int} : ∀ n, (∀ k, k < n → SpK zs k) → (n : Int) ≤ spS zs n
  | 0, _ => by simp [spS]
  | n + 1, h => by
    have ih := spS_ge n (fun k hk => h k (by omega))
    have hk := (h n (by omega)).1
    have ⟨m1, m2⟩ := mul8 hk.1 hk.2.1
    have ⟨m3, m4⟩ := mul64 ⟨m1, m2⟩ hk.2.2
    show ((n + 1 : Nat) : Int) ≤ spS zs n + zR zs n * zI zs n * zT zs n
    omega
theorem SpOk.len {zs : List Int} {n : Nat} (h : SpOk zs n) : n ≤ 8 := by
  have := spS_ge n h.1
  have := h.2
  omega
theorem grown_cellT {wr wx w2 : World} {lo : Nat} {e : TypeId} {sz : Nat} {v : Value} {n : Nat} {cs : List Value} {o : Nat} {u : Value} (hg : wx.grownBy w2 v.ownBlock) (ho : wr.ownsRow lo e sz v n cs) (hx : wx.cell? ⟨wr.heap.size, o, none⟩ = some u) : w2.cell? ⟨wr.heap.size, o, none⟩ = some u := by
  rw [hg.cell_far _ (block_lt_of_cell hx) (fun h => by have := (ho.lt _ h.symm).2; simp at this)]
  exact hx

set_option maxRecDepth 100000 in
set_option maxHeartbeats 3200000 in
theorem splittingText_at {A : Option Addr} {n c : Nat} {zs : List Int} {T : ByteArray} (hTx : T = bs (spT (spL zs n))) (w : World) (hr : RdC 3 w A n c (zs.map (Value.int .i64))) (h : SpOk zs n) (hT : Tb w) :
    Calls Tryd.prog 77 #[.slice A n c] w fun e w' => e = .returned (.string T) ∧ Below w.heap.size w w' := by
  obtain ⟨i0, hi, hz0, hz1, hz2⟩ := info_parts infoStr
  have HI := Lib.hid hi
  have HZ0 := Lib.hid hz0
  have HZ1 := Lib.hid hz1
  have HZ2 := Lib.hid hz2
  clear hi hz0 hz1 hz2
  have HT := Lib.hid hT
  clear hT
  have HR := Lib.hid hr
  have hc := hr.2.1
  have hm := hr.2.2.1
  unfold maxLen at hm
  have hn8 : n ≤ 8 := h.len
  have HK := Lib.hid h.1
  clear hr h
  rcases Nat.eq_zero_or_pos n with h0 | h0
  · subst h0
    obtain rfl : T = ⟨#[45]⟩ := by rw [hTx]; rfl
    clear hTx
    go_enter Tryd.func77, Tryd.ntmps77
    go_wp2
    go_ret
    exact ⟨rfl, Below.refl _ _⟩
  have HTx : Hid (T = bs (Lib.join ((spL zs n).map spW) [32])) := Lib.hid (by
    rw [hTx]; unfold spT; rw [if_neg (fun e => by have := spL_len zs n; rw [e] at this; simp at this; omega)])
  have hnz : ((n : Int) == 0) = false := by simp; omega
  clear hTx
  go_enter Tryd.func77, Tryd.ntmps77
  go_wp2
  go_loopw [3, 5, 11] (fun v _ i wr => ∃ k : Nat, k ≤ n ∧ i = .int .i64 k ∧ Hid (wr.ownsRow w.heap.size 9 1 v k (tcs ((spL zs k).map spW)) ∧ ∀ l ∈ (spL zs k).map spW, l.length ≤ 65) ∧ Hid (Below w.heap.size w wr)) (fun _ _ i _ => n - (intOf i).toNat)
  case atStart => exact ⟨0, Nat.zero_le _, rfl, Lib.hid ⟨World.ownsRow_nil _ _ _ _, by simp [spL]⟩, Lib.hid (Below.refl _ _)⟩
  case round =>
    obtain ⟨k, hk, rfl, HO, HB⟩ := hrel
    by_cases hlt : k < n
    · obtain ⟨b, off, rfl, hcell⟩ := (HR.out.below HB.out).atF (by omega)
      have h0 := hcell (k * 3 + 0) (fl_lt hlt (by omega))
      rw [Nat.add_zero] at h0
      have h1 := hcell (k * 3 + 1) (fl_lt hlt (by omega))
      rw [← Nat.add_assoc] at h1
      have h2 := hcell (k * 3 + 2) (fl_lt hlt (by omega))
      rw [← Nat.add_assoc] at h2
      have HS2 : Hid ((spL zs (k + 1)).map spW = (spL zs k).map spW ++ [spW (zR zs k, zI zs k, zT zs k)]) := Lib.hid (by rw [spL_succ, List.map_append]; rfl)
      have hKk := (HK.out k hlt).1
      change _ = some (Value.int .i64 (zR zs k)) at h0
      change _ = some (Value.int .i64 (zI zs k)) at h1
      change _ = some (Value.int .i64 (zT zs k)) at h2
      generalize zR zs k = r at h0 hKk HS2
      generalize zI zs k = q at h1 hKk HS2
      generalize zT zs k = t at h2 hKk HS2
      have hbk := block_lt_of_cell h0
      have hbk2 : b < wr.heap.size + 1 := by omega
      obtain ⟨⟨r1, r2⟩, ⟨q1, q2⟩, ⟨t1, t2⟩⟩ := hKk
      obtain ⟨D1, hD1⟩ : ∃ D, D = bs (Lib.itoa r) := ⟨_, rfl⟩
      obtain ⟨D2, hD2⟩ : ∃ D, D = bs (Lib.itoa q) := ⟨_, rfl⟩
      obtain ⟨D3, hD3⟩ : ∃ D, D = bs (Lib.itoa t) := ⟨_, rfl⟩
      have HD1 := Lib.hid hD1
      have HD2 := Lib.hid hD2
      have HD3 := Lib.hid hD3
      have z1 : D1.size ≤ 21 := by rw [hD1, bs_size]; exact itoa_len (by omega) (by omega)
      have z2 : D2.size ≤ 21 := by rw [hD2, bs_size]; exact itoa_len (by omega) (by omega)
      have z3 : D3.size ≤ 21 := by rw [hD3, bs_size]; exact itoa_len (by omega) (by omega)
      have HW : Hid (D1 ++ ⟨#[44]⟩ ++ D2 ++ ⟨#[120]⟩ ++ D3 = bs (spW (r, q, t)) ∧ (spW (r, q, t)).length ≤ 65) := Lib.hid (by
        have e : D1 ++ ⟨#[44]⟩ ++ D2 ++ ⟨#[120]⟩ ++ D3 = bs (spW (r, q, t)) := by
          rw [hD1, hD2, hD3, size1s 44, size1s 120, bs_app, bs_app, bs_app, bs_app]
          congr 1
          simp [spW]
        refine ⟨e, ?_⟩
        rw [← bs_size, ← e]
        simp only [ByteArray.size_append, size1]
        omega)
      clear hcell hD1 hD2 hD3
      have hl1 : k + 1 ≤ maxLen := by unfold maxLen; omega
      have hl2 : (k + 1) * 16 ≤ 140737488355328 := by omega
      have y1 : ¬ D1.size + 1 > 9223372036854775807 := by omega
      have y2 : ¬ D1.size + 1 + D2.size > 9223372036854775807 := by omega
      have y3 : ¬ D1.size + 1 + D2.size + 1 > 9223372036854775807 := by omega
      have y4 : ¬ D1.size + 1 + D2.size + 1 + D3.size > 9223372036854775807 := by omega
      go_wp2_with fail
      go_region_held3 (fun w' => w'.cell? ⟨wr.heap.size, 0, none⟩ = some (.int .i64 r) ∧ w'.cell? ⟨wr.heap.size, 1, none⟩ = some (.int .i64 q) ∧ w'.cell? ⟨wr.heap.size, 2, none⟩ = some (.int .i64 t)) (first | go_keep | exact ⟨hk4 0 _ (hk3 0 _ (hk2 0 _ (hk1 0 _ (by simp)))), hk4 1 _ (hk3 1 _ (hk2 1 _ (hk1 1 _ (by simp)))), hk4 2 _ (hk3 2 _ (hk2 2 _ (hk1 2 _ (by simp))))⟩ | exact ⟨hk3 0 _ (hk2 0 _ (hk1 0 _ (by simp))), hk3 1 _ (hk2 1 _ (hk1 1 _ (by simp))), hk3 2 _ (hk2 2 _ (hk1 2 _ (by simp)))⟩ | exact ⟨hk2 0 _ (hk1 0 _ (by simp)), hk2 1 _ (hk1 1 _ (by simp)), hk2 2 _ (hk1 2 _ (by simp))⟩ | exact ⟨hk1 0 _ (by simp), hk1 1 _ (by simp), hk1 2 _ (by simp)⟩) (first | (go_at_call 109; ((with_reducible refine (decimal_at HD1.out _ (by omega) (by omega) (HT.out.below (bl_trans HB.out (by repeat (first | exact HBc.out | exact HBb.out | exact HBa.out | exact Below.refl _ _ | apply Below.drew | apply below_drewN | refine bl_alloc ?_ _))))).mono ?_); rintro e wa ⟨rfl, hbc⟩; have HBa : Hid (Below wr.heap.size wr wa) := Lib.hid (bl_trans (by repeat (first | exact HBc.out | exact HBb.out | exact HBa.out | exact Below.refl _ _ | apply Below.drew | apply below_drewN | refine bl_alloc ?_ _)) hbc); have hk1 := fun o v h => keep_cell (b := wr.heap.size) (o := o) (v := v) hbc h; clear hbc)) | (go_at_call 109; ((with_reducible refine (decimal_at HD2.out _ (by omega) (by omega) (HT.out.below (bl_trans HB.out (by repeat (first | exact HBc.out | exact HBb.out | exact HBa.out | exact Below.refl _ _ | apply Below.drew | apply below_drewN | refine bl_alloc ?_ _))))).mono ?_); rintro e wb ⟨rfl, hbc⟩; have HBb : Hid (Below wr.heap.size wr wb) := Lib.hid (bl_trans (by repeat (first | exact HBc.out | exact HBb.out | exact HBa.out | exact Below.refl _ _ | apply Below.drew | apply below_drewN | refine bl_alloc ?_ _)) hbc); have hk2 := fun o v h => keep_cell (b := wr.heap.size) (o := o) (v := v) hbc h; clear hbc)) | (go_at_call 109; ((with_reducible refine (decimal_at HD3.out _ (by omega) (by omega) (HT.out.below (bl_trans HB.out (by repeat (first | exact HBc.out | exact HBb.out | exact HBa.out | exact Below.refl _ _ | apply Below.drew | apply below_drewN | refine bl_alloc ?_ _))))).mono ?_); rintro e wc ⟨rfl, hbc⟩; have HBc : Hid (Below wr.heap.size wr wc) := Lib.hid (bl_trans (by repeat (first | exact HBc.out | exact HBb.out | exact HBa.out | exact Below.refl _ _ | apply Below.drew | apply below_drewN | refine bl_alloc ?_ _)) hbc); have hk3 := fun o v h => keep_cell (b := wr.heap.size) (o := o) (v := v) hbc h; clear hbc)) | (refine step_append_lies _ (by rfl) _ _ _ (by rfl) w.heap.size 9 i0 (.string ByteArray.empty) 1 16 Tryd.underlying85 HI.out HZ0.out HZ1.out HZ2.out rfl (by omega) _ k (tcs ((spL zs k).map spW)) (by rfl) ?hown _ 1 1 [.string (D1 ++ ⟨#[44]⟩ ++ D2 ++ ⟨#[120]⟩ ++ D3)] (by rfl) (by rfl) ?hnews (oneS _) (by omega) hl1 hl2 ?hbase _ (by rfl) ?hgo; (case hown => exact (ownsRow_below HO.out.1 HBc.out).alloc _); (case hnews => exact newS _ _ _); (case hbase => have := HB.out.size; have := HBc.out.size; simp; omega); intro gg cap w2 hown' hgrow hat hlt2; have hk4 := fun o v h => grown_cellT (o := o) (u := v) hgrow HO.out.1 h))
      have HO3 : Hid (w2.ownsRow w.heap.size 9 1 (.slice (some ⟨gg, 0, none⟩) (k + 1) cap) (k + 1) (tcs ((spL zs (k + 1)).map spW)) ∧ ∀ l ∈ (spL zs (k + 1)).map spW, l.length ≤ 65) := Lib.hid (by
        rw [HS2.out]
        refine ⟨by rw [tcs_app, ← HW.out.1]; exact hown', fun l hl => ?_⟩
        rcases List.mem_append.1 hl with hl | hl
        · exact HO.out.2 l hl
        · simp at hl; rw [hl]; exact HW.out.2)
      have HB3 : Hid (Below w.heap.size w w2) := Lib.hid (Below.grown (by repeat (first | exact bl_trans HB.out HBc.out | apply Below.drew | refine bl_alloc ?_ _)) hgrow (by have := HB.out.size; have := HBc.out.size; simp; omega) (fun k hk => (HO.out.1.lt k hk).1))
      clear hown' hgrow hl1 hl2
      go_wp2
      go_roundw
      case rel => exact ⟨k + 1, by omega, by go_num, HO3, HB3⟩
      case measure => simp [intOf]; omega
    · obtain rfl : k = n := by omega
      obtain ⟨A2, c2, rfl, hrd⟩ := own_cells HO.out.1
      have HRd : Hid (RdT wr A2 k c2 ((spL zs k).map spW)) := Lib.hid hrd
      have HJ : Hid ((Lib.join ((spL zs k).map spW) [32]).length ≤ 140737488355328) := Lib.hid (by
        have := join_len (b := 65) HO.out.2 32
        rw [List.length_map, spL_len] at this
        omega)
      clear hrd
      go_wp2_with fail
      refine (joinW_at HTx.out HRd.out h0 HJ.out (by omega)).mono ?_
      rintro e w1 ⟨rfl, hb1⟩
      have HB1 := Lib.hid (bl_trans HB.out hb1)
      clear hb1
      go_wp2
      go_ret
      exact ⟨rfl, HB1.out⟩
end Go.Proofs.YtgajgonepcikbaaDoor
