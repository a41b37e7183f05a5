
/- Splittings' text read, by the reference: the numbers of a word. -/
import Derived.Test.YtgajgonepcikbaaDoorCopy
import Derived.Test.YtgajgonepcikbaaDoorRdP2
import Derived.Test.YtgajgonepcikbaaDoorCells
namespace Go.Proofs.YtgajgonepcikbaaDoor
open Go.RowKit Go.Joins

theorem newI1 (w : World) (x : Int) (T : TypeId) : ∀ j u, [Value.int .i64 x][j]? = some u → (w.alloc (.cells #[.int .i64 x] T)).cell? ((⟨w.heap.size, 0, none⟩ : Addr).add j) = some u := by
  intro j u hj
  match j, hj with
  | 0, hj => simp at hj; subst hj; simp [Addr.add]
theorem oneI1 (x : Int) : ∀ u ∈ [Value.int .i64 x], u.oneCell' = true := by
  intro u hu; simp at hu; subst hu; rfl
set_option maxRecDepth 100000 in
set_option maxHeartbeats 3200000 in
theorem l01Numbers_at {U : List (List UInt8)} {A : Option Addr} {n c : Nat} {ok : Bool} (hok : ok = U.all lsB) (w : World) (hr : RdT w A n c U) (hu : ∀ k, (U.getD k []).length ≤ 1048576) (hn : n ≤ 1048577) :
    Calls Tryd.prog 85 #[.slice A n c] w fun e w' => ∃ B m d, e = .returned (.tuple #[.slice B m d, .bool ok]) ∧ (ok = true → m = n ∧ OwnI w' w.heap.size B n d (U.map lsV)) ∧ Below w.heap.size w w' := by
  obtain ⟨i0, hi, hz0, hz1, hz2⟩ := info_parts infoI64
  have HI := Lib.hid hi
  have HZ0 := Lib.hid hz0
  have HZ1 := Lib.hid hz1
  have HZ2 := Lib.hid hz2
  clear hi hz0 hz1 hz2
  have hc : n ≤ c := hr.2.1
  have hm := hr.2.2.1
  unfold maxLen at hm
  have HR := Lib.hid hr
  have HL := Lib.hid hr.len
  have HU := Lib.hid hu
  have HOk := Lib.hid hok
  clear hr hu hok
  go_enter Tryd.func85, Tryd.ntmps85
  go_wp2
  go_loopg [4, 5, 6, 7] n (fun g v i _ _ wr => ∃ k : Nat, g = n - k ∧ k ≤ n ∧ i = .int .i64 k ∧ Hid (wr.ownsRow w.heap.size 2 1 v k (((U.take k).map lsV).map (Value.int .i64)) ∧ (U.take k).all lsB = true) ∧ Hid (Below w.heap.size w wr))
  case atStart => exact ⟨0, by omega, Nat.zero_le _, rfl, Lib.hid ⟨⟨rfl, .inr ⟨w.heap.size, 0, #[], rfl, Nat.le_refl _, heap_alloc_new w _, Nat.le_refl _, by unfold maxLen; omega, rfl, rfl⟩⟩, rfl⟩, Lib.hid (bl_alloc (Below.refl _ _) _)⟩
  case round =>
    obtain ⟨k, rfl, hk, rfl, HO, HB⟩ := hrel
    by_cases hlt : k < n
    · obtain ⟨b, off, rfl, hbl, hcell⟩ := (HR.out.below HB.out).at_ (show 0 < n by omega)
      have hx := hcell k hlt
      obtain ⟨S, hS⟩ : ∃ S, S = bs (U.getD k []) := ⟨_, rfl⟩
      rw [← hS] at hx
      have hSd : S.data.toList = U.getD k [] := by rw [hS, bs_data]
      have hsz : S.size ≤ 1048576 := by rw [hS, bs_size]; exact HU.out k
      obtain ⟨x, hxv⟩ : ∃ n, n = lsV S.data.toList := ⟨_, rfl⟩
      obtain ⟨y, hyv⟩ : ∃ n, n = lsB S.data.toList := ⟨_, rfl⟩
      have hkU : k < U.length := by rw [HL.out]; exact hlt
      have hUk : U[k] = U.getD k [] := by simp [List.getD, List.getElem?_eq_getElem hkU]
      have HX := Lib.hid hxv
      have HY := Lib.hid hyv
      have HT : Hid (((U.take (k + 1)).map lsV).map (Value.int .i64) = ((U.take k).map lsV).map (Value.int .i64) ++ [.int .i64 x] ∧ (U.take (k + 1)).all lsB = ((U.take k).all lsB && y)) := Lib.hid (by
        rw [List.take_succ_eq_append_getElem hkU, hUk, hxv, hyv, hSd]
        simp)
      have hl1 : k + 1 ≤ maxLen := by unfold maxLen; omega
      have hl2 : (k + 1) * 8 ≤ 140737488355328 := by omega
      clear hxv hyv hS hcell
      go_wp2_with fail
      refine (l01Signed_at HX.out HY.out hsz _).mono ?_
      rintro e w1 ⟨rfl, hb1⟩
      have HO1 := Lib.hid (ownsRow_below HO.out.1 hb1)
      have HB1 := Lib.hid (bl_trans HB.out hb1)
      clear hb1 hx
      cases y with
      | false =>
        have HF : Hid (ok = false) := Lib.hid (by
          rw [HOk.out]
          rw [List.all_eq_false]
          exact ⟨U[k], List.getElem_mem hkU, by rw [hUk, ← hSd, ← HY.out]; simp⟩)
        obtain rfl := HF.out
        clear hUk hSd hl1 hl2
        go_wp2
        go_ret2
        exact ⟨none, 0, 0, rfl, (fun h => by cases h), HB1.out⟩
      | true =>
        clear hUk hSd
        go_wp2_with (at_builtin; refine wpList_append_own _ rfl _ _ _ rfl w.heap.size 2 i0 (.int .i64 0) 1 8 Tryd.underlying29 HI.out HZ0.out HZ1.out HZ2.out rfl (by decide) _ k (((U.take k).map lsV).map (Value.int .i64)) rfl (HO1.out.alloc _) ⟨w1.heap.size, 0, none⟩ 1 1 [.int .i64 x] rfl rfl (newI1 _ _ _) (oneI1 _) hl1 hl2 (base_alloc HB1.out _) ?_; intro v' w2 hown' hgrow _)
        have HO3 : Hid (w2.ownsRow w.heap.size 2 1 v' (k + 1) (((U.take (k + 1)).map lsV).map (Value.int .i64)) ∧ (U.take (k + 1)).all lsB = true) := Lib.hid ⟨by rw [HT.out.1]; exact hown', by rw [HT.out.2, HO.out.2]; rfl⟩
        have HB3 : Hid (Below w.heap.size w w2) := Lib.hid (Below.grown (bl_alloc HB1.out _) hgrow (base_alloc HB1.out _) (fun k hk => (HO1.out.lt k hk).1))
        clear hown' hgrow hl1 hl2
        go_wp2
        go_roundg (n - (k + 1))
        case measure => omega
        case rel => exact ⟨k + 1, rfl, by omega, by go_num, HO3, HB3⟩
    · obtain rfl : k = n := by omega
      have HF : Hid (ok = true) := Lib.hid (by rw [HOk.out, ← HO.out.2, List.take_of_length_le (by rw [HL.out]; exact Nat.le_refl _)])
      have HO2 : Hid (wr.ownsRow w.heap.size 2 1 u4 k ((U.map lsV).map (Value.int .i64))) := Lib.hid (by
        have := HO.out.1
        rw [List.take_of_length_le (by rw [HL.out]; exact Nat.le_refl _)] at this
        exact this)
      obtain rfl := HF.out
      obtain ⟨A2, c2, rfl, hrd⟩ := own_cells HO2.out
      have HRd : Hid (OwnI wr w.heap.size A2 k c2 (U.map lsV)) := Lib.hid (OwnI.of_row HO2.out)
      clear hrd
      go_wp2
      go_ret2
      exact ⟨A2, k, c2, rfl, by simpa using HRd.out, HB.out⟩
theorem grown_far {wx w5 : World} {row : Option Nat} {b o : Nat} {u : Value} (hg : wx.grownBy w5 row) (hx : wx.cell? ⟨b, o, none⟩ = some u) (hne : some b ≠ row) : w5.cell? ⟨b, o, none⟩ = some u := by
  rw [hg.cell_far _ (block_lt_of_cell hx) hne]; exact hx
end Go.Proofs.YtgajgonepcikbaaDoor
