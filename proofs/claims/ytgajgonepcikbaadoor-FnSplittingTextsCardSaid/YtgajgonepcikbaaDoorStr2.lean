
/- Texts in a walk: the reference's readers of numerals. -/
import Derived.Test.YtgajgonepcikbaaDoorStr1
namespace Go.Proofs.YtgajgonepcikbaaDoor
open Go.RowKit

theorem take_snocB (s : ByteArray) (k : Nat) (h : k < s.size) : s.data.toList.take (k + 1) = s.data.toList.take k ++ [s[k]] := by
  rw [List.take_succ_eq_append_getElem (by simpa using h)]; rfl
theorem mem_at (s : ByteArray) (k : Nat) (h : k < s.size) : s[k] ∈ s.data.toList := by
  have : s[k] = s.data.toList[k]'(by simpa using h) := rfl
  rw [this]; exact List.getElem_mem _
theorem size_data (s : ByteArray) : s.data.toList.length = s.size := Array.length_toList
theorem dval_lt {l : List UInt8} (h : ∀ c ∈ l, Dig c) (hl : l.length ≤ 13) : dval l < 10000000000000 := by
  have := dvA_bd l 0 h
  have h2 : (10 : Nat) ^ l.length ≤ 10 ^ 13 := Nat.pow_le_pow_right (by decide) hl
  have e : (10 : Nat) ^ 13 = 10000000000000 := by decide
  unfold dval
  omega

set_option maxHeartbeats 800000 in
theorem l01Value_at {s : ByteArray} {V : Int} {B : Bool} (hV : V = lvV s.data.toList) (hB : B = lvB s.data.toList) (hs : s.size ≤ 1048576) (w : World) :
    Calls Tryd.prog 81 #[.string s] w fun e w' => e = .returned (.tuple #[.int .i64 V, .bool B]) ∧ Below w.heap.size w w' := by
  have hlen := size_data s
  by_cases h13 : 1 ≤ s.size ∧ s.size ≤ 13
  · have ⟨z1, z2⟩ := h13
    have HV := Lib.hid hV
    have HBb := Lib.hid hB
    have HLn := Lib.hid hlen
    clear hV hB hlen h13
    go_enter Tryd.func81, Tryd.ntmps81
    go_wp2
    go_loop [4, 5] (fun nv i => ∃ (k x : Nat), k ≤ s.size ∧ i = .int .i64 k ∧ x < 10000000000000 ∧ nv = .int .i64 (x : Int) ∧ Hid (x = dval (s.data.toList.take k) ∧ ∀ c ∈ s.data.toList.take k, Dig c)) (fun _ i => s.size - (intOf i).toNat)
    case atStart => exact ⟨0, 0, Nat.zero_le _, rfl, by omega, rfl, Lib.hid ⟨rfl, by simp⟩⟩
    case round =>
      obtain ⟨k, x, hk, rfl, hx, rfl, HX⟩ := hrel
      by_cases hlt : k < s.size
      · have HT := Lib.hid (take_snocB s k hlt)
        have HM := Lib.hid (mem_at s k hlt)
        obtain ⟨c, hc⟩ : ∃ c, c = s[k] := ⟨_, rfl⟩
        have HC := Lib.hid hc
        by_cases hd : 48 ≤ s[k].toNat ∧ s[k].toNat ≤ 57
        · have ⟨d1, d2⟩ := hd
          have hX2 : x * 10 + (s[k].toNat - 48) = dval (s.data.toList.take (k + 1)) ∧ ∀ c ∈ s.data.toList.take (k + 1), Dig c := by
            rw [HT.out]
            refine ⟨by unfold dval; rw [dvA_snoc, HX.out.1]; rfl, fun c hc => ?_⟩
            rcases List.mem_append.1 hc with h | h
            · exact HX.out.2 c h
            · simp at h; subst h; exact hd
          have hx2 : x * 10 + (s[k].toNat - 48) < 10000000000000 := by
            rw [hX2.1]
            exact dval_lt hX2.2 (by rw [List.length_take]; omega)
          have HX2 := Lib.hid hX2
          clear hX2 hd hc HC
          go_wp2
          go_round
          case rel => exact ⟨k + 1, x * 10 + (s[k].toNat - 48), by omega, by go_num, hx2, by go_num, HX2⟩
          case measure => simp [intOf]; omega
        · have HZ : Hid (V = 0 ∧ B = false) := Lib.hid (by
            have hn : ¬ ((1 ≤ s.data.toList.length ∧ s.data.toList.length ≤ 13) ∧ ∀ c ∈ s.data.toList, 48 ≤ c.toNat ∧ c.toNat ≤ 57) := fun h => hd (h.2 _ HM.out)
            constructor
            · rw [HV.out]; unfold lvV; rw [if_neg hn]
            · rw [HBb.out]; unfold lvB; rw [if_neg hn])
          obtain ⟨rfl, rfl⟩ := HZ.out
          clear hc HC
          by_cases hlo : s[k].toNat < 48
          · clear hd
            go_wp2
            go_ret2
            exact ⟨rfl, Below.refl _ _⟩
          · have hhi : 57 < s[k].toNat := by omega
            clear hd
            go_wp2
            go_ret2
            exact ⟨rfl, Below.refl _ _⟩
      · have hks : k = s.size := by omega
        obtain ⟨D, hD⟩ : ∃ D, D = bs (Lib.decDigits ((x : Int)).toNat) := ⟨_, rfl⟩
        have HD := Lib.hid hD
        have HZ : Hid (V = (x : Int) ∧ B = (D.toList == s.toList)) := Lib.hid (by
          have e := HX.out
          rw [hks, ← HLn.out, List.take_length] at e
          have hy : (1 ≤ s.data.toList.length ∧ s.data.toList.length ≤ 13) ∧ ∀ c ∈ s.data.toList, 48 ≤ c.toNat ∧ c.toNat ≤ 57 := ⟨by rw [HLn.out]; exact ⟨z1, z2⟩, e.2⟩
          constructor
          · rw [HV.out]; unfold lvV; rw [if_pos hy, e.1]
          · rw [HBb.out, hD, bs_toList, ByteArray.toList_eq]; unfold lvB; rw [if_pos hy, e.1]; rfl)
        clear hD hks
        go_wp2_with fail
        refine (l01Dec_at HD.out w (by omega) (by omega)).mono ?_
        rintro e w1 ⟨rfl, hb⟩
        have HB := Lib.hid hb
        clear hb
        go_wp2
        go_ret2
        exact ⟨by rw [HZ.out.1, HZ.out.2]; rfl, HB.out⟩
  · have HZ : Hid (V = 0 ∧ B = false) := Lib.hid (by
      have hn : ¬ ((1 ≤ s.data.toList.length ∧ s.data.toList.length ≤ 13) ∧ ∀ c ∈ s.data.toList, 48 ≤ c.toNat ∧ c.toNat ≤ 57) := fun h => h13 (by rw [← hlen]; exact h.1)
      constructor
      · rw [hV]; unfold lvV; rw [if_neg hn]
      · rw [hB]; unfold lvB; rw [if_neg hn])
    obtain ⟨rfl, rfl⟩ := HZ.out
    clear hV hB hlen HZ
    by_cases hz : s.size < 1
    · clear h13
      go_enter Tryd.func81, Tryd.ntmps81
      go_wp2
      go_ret2
      exact ⟨rfl, Below.refl _ _⟩
    · have hz2 : 13 < s.size := by omega
      clear h13
      go_enter Tryd.func81, Tryd.ntmps81
      go_wp2
      go_ret2
      exact ⟨rfl, Below.refl _ _⟩
end Go.Proofs.YtgajgonepcikbaaDoor
