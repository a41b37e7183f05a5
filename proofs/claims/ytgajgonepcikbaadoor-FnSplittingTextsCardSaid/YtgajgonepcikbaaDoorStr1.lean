
/- Texts in a walk: the reference's numerals. -/
import Derived.Test.YtgajgonepcikbaaDoorStr0
import Derived.Laws.BytesString
import Derived.Laws.Cells
import Derived.Deep.RegionWith
import Derived.IntWalk
namespace Go.Proofs.YtgajgonepcikbaaDoor
open Go.RowKit

theorem run_one (w : World) (b : Nat) (x : Int) (h : w.cell? ⟨b, 0, none⟩ = some (.int .u8 x)) :
    (convert 61 9 (.slice (some ⟨b, 0, none⟩) 1 1)).run Tryd.prog w = .ok (.string (bs [UInt8.ofNat x.toNat])) w := by
  rw [run_convert_bytes_string w _ _ 5 _ _ _ Tryd.underlying61 Tryd.underlying5 Tryd.underlying9]
  rw [run_bytesToString w ⟨b, 0, none⟩ 1 1 [x] (run_loadCells_list w ⟨b, 0, none⟩ [.int .u8 x] (fun j v hj => by
    match j, hj with
    | 0, hj => simp at hj; subst hj; exact h))]
  rfl
theorem dec_snoc {n : Int} (h : 10 ≤ n) : Lib.decDigits n.toNat = Lib.decDigits (n / 10).toNat ++ [UInt8.ofNat (48 + n % 10).toNat] := by
  rw [dec_step (by omega)]
  congr 2
  · congr 1; omega
  · congr 1; omega
set_option maxRecDepth 100000 in
set_option maxHeartbeats 800000 in
theorem l01Dec_any : ∀ (k : Nat) (n : Int) (w : World), 0 ≤ n → n < 10 ^ (k + 1) → n ≤ 9223372036854775807 →
    Calls Tryd.prog 106 #[.int .i64 n] w fun e w' => e = .returned (.string (bs (Lib.decDigits n.toNat))) ∧ Below w.heap.size w w' := by
  intro k
  induction k with
  | zero =>
    intro n w h0 h1 h2
    have h1' : n < 10 := by simpa using h1
    have hd := Lib.decDigits_one (i := n.toNat) (by omega)
    have HD : Hid (bs (Lib.decDigits n.toNat) = bs [UInt8.ofNat (48 + n).toNat]) := Lib.hid (by rw [hd]; congr 3; omega)
    clear hd h1
    have kc := run_one
    go_enter Tryd.func106, Tryd.ntmps106
    go_wp2_with fail
    go_ret
    exact ⟨by rw [HD.out]; rfl, bl_alloc (Below.refl _ _) _⟩
  | succ k ih =>
    intro n w h0 h1 h2
    by_cases hn : n < 10
    · have hd := Lib.decDigits_one (i := n.toNat) (by omega)
      have HD : Hid (bs (Lib.decDigits n.toNat) = bs [UInt8.ofNat (48 + n).toNat]) := Lib.hid (by rw [hd]; congr 3; omega)
      clear hd h1 ih
      have kc := run_one
      go_enter Tryd.func106, Tryd.ntmps106
      go_wp2_with fail
      go_ret
      exact ⟨by rw [HD.out]; rfl, bl_alloc (Below.refl _ _) _⟩
    · obtain ⟨q, hq⟩ : ∃ q, q = n / 10 := ⟨_, rfl⟩
      obtain ⟨r, hr⟩ : ∃ r, r = n % 10 := ⟨_, rfl⟩
      have IH : ∀ w : World, Hid (Calls Tryd.prog 106 #[.int .i64 q] w fun e w' => e = .returned (.string (bs (Lib.decDigits q.toNat))) ∧ Below w.heap.size w w') := fun w => Lib.hid (ih q w (by omega) (by rw [Int.pow_succ] at h1; omega) (by omega))
      have HD : Hid (bs (Lib.decDigits n.toNat) = bs (Lib.decDigits q.toNat) ++ bs [UInt8.ofNat (48 + r).toNat]) := Lib.hid (by rw [bs_app, dec_snoc (by omega), hq, hr])
      have HL : Hid ((Lib.decDigits q.toNat).length ≤ 20) := Lib.hid (by have := dec_len (u := q.toNat) (k := 19) (Nat.lt_of_le_of_lt (m := 1000000000000000000) (by omega) (by decide)); omega)
      clear ih h1
      obtain ⟨D, hD⟩ : ∃ D, D = bs (Lib.decDigits q.toNat) := ⟨_, rfl⟩
      have hsz : D.size ≤ 20 := by rw [hD, bs_size]; exact HL.out
      have hsz2 : ∀ x : UInt8, (bs [x]).size = 1 := fun x => bs_size [x]
      rw [← hD] at HD
      have IH2 : ∀ w : World, Hid (Calls Tryd.prog 106 #[.int .i64 q] w fun e w' => e = .returned (.string D) ∧ Below w.heap.size w w') := fun w => by rw [hD]; exact IH w
      have r1 : 0 ≤ r := by omega
      have r2 : r ≤ 9 := by omega
      have hns : ¬ D.size + 1 > 9223372036854775807 := by omega
      have kc := run_one
      have e1 : n.tdiv 10 = q := by rw [Int.tdiv_eq_ediv_of_nonneg h0, hq]
      have e3 : n.tmod 10 = r := by rw [Int.tmod_eq_emod_of_nonneg h0, hr]
      have e2 : IntKind.i64.wrap q = q := IntWalk.i64_in _ (by omega)
      have e4 : IntKind.i64.wrap (48 + r) = 48 + r := IntWalk.i64_in _ (by omega)
      have e5 : IntKind.u8.wrap (48 + r) = 48 + r := IntWalk.u8_in _ (by omega)
      clear hD HL IH hq hr
      go_enter Tryd.func106, Tryd.ntmps106
      go_wp2_with fail
      go_region_with (go_at_call 106; refine (IH2 _).out.mono ?_; rintro e w1 ⟨rfl, hb1⟩; have hcl := fun (b o : Nat) => hb1.cell (p := ⟨b, o, none⟩))
      all_goals
        have HB : Hid (Below w.heap.size w w1) := Lib.hid (bl_trans (by repeat (first | exact Below.refl _ _ | apply Below.drew | refine bl_alloc ?_ _)) hb1)
        clear hcl hb1
        go_wp2
        go_ret
        exact ⟨by rw [HD.out]; rfl, by repeat (first | exact HB.out | apply Below.drew | refine bl_alloc ?_ _)⟩
theorem pow19 : (10 : Int) ^ (18 + 1) = 10000000000000000000 := by decide
theorem l01Dec_at {n : Int} {D : ByteArray} (hD : D = bs (Lib.decDigits n.toNat)) (w : World) (h0 : 0 ≤ n) (h1 : n ≤ 9223372036854775807) :
    Calls Tryd.prog 106 #[.int .i64 n] w fun e w' => e = .returned (.string D) ∧ Below w.heap.size w w' := by
  subst hD
  exact l01Dec_any 18 n w h0 (by rw [pow19]; omega) h1
theorem dec_len20 {n : Int} (h1 : n ≤ 9223372036854775807) : (Lib.decDigits n.toNat).length ≤ 20 := by
  have := dec_len (u := n.toNat) (k := 19) (Nat.lt_of_le_of_lt (m := 9223372036854775807) (by omega) (by decide)); omega
theorem itoa_len {n : Int} (h0 : -9223372036854775807 ≤ n) (h1 : n ≤ 9223372036854775807) : (Lib.itoa n).length ≤ 21 := by
  unfold Lib.itoa
  by_cases hn : n < 0
  · rw [if_pos hn, List.length_cons]
    have := dec_len20 (n := -n) (by omega)
    rw [show (-n).toNat = n.natAbs by omega] at this
    omega
  · rw [if_neg hn]
    have := dec_len20 h1
    omega

theorem l01Number_at {n : Int} {D : ByteArray} (hD : D = bs (Lib.itoa n)) (w : World) (h0 : -9223372036854775807 ≤ n) (h1 : n ≤ 9223372036854775807) :
    Calls Tryd.prog 105 #[.int .i64 n] w fun e w' => e = .returned (.string D) ∧ Below w.heap.size w w' := by
  by_cases hn : n < 0
  · obtain ⟨E, hE⟩ : ∃ E, E = bs (Lib.decDigits (-n).toNat) := ⟨_, rfl⟩
    have HE := Lib.hid hE
    have hz : E.size ≤ 20 := by rw [hE, bs_size]; exact dec_len20 (by omega)
    have HD : Hid (D = bs [45] ++ E) := Lib.hid (by rw [hD, hE, bs_app]; unfold Lib.itoa; rw [if_pos hn, show n.natAbs = (-n).toNat by omega]; rfl)
    have hns : ¬ 1 + E.size > 9223372036854775807 := by omega
    clear hE hD
    go_enter Tryd.func105, Tryd.ntmps105
    go_wp2_with fail
    refine (l01Dec_at HE.out w (by omega) (by omega)).mono ?_
    rintro e w1 ⟨rfl, hb⟩
    have HB := Lib.hid hb
    clear hb
    go_wp2
    go_ret
    exact ⟨by rw [HD.out]; rfl, HB.out⟩
  · have HD : Hid (D = bs (Lib.decDigits n.toNat)) := Lib.hid (by rw [hD]; unfold Lib.itoa; rw [if_neg hn])
    clear hD
    go_enter Tryd.func105, Tryd.ntmps105
    go_wp2_with fail
    refine (l01Dec_at HD.out w (by omega) (by omega)).mono ?_
    rintro e w1 ⟨rfl, hb⟩
    have HB := Lib.hid hb
    clear hb
    go_wp2
    go_ret
    exact ⟨rfl, HB.out⟩
end Go.Proofs.YtgajgonepcikbaaDoor
