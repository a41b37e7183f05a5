
/- Polynomials' texts read: a term, by the program. -/
import Derived.Test.YtgajgonepcikbaaDoorRdP1
import Derived.Test.YtgajgonepcikbaaDoorPolT2
import Derived.Test.YtgajgonepcikbaaDoorTxt4
import Derived.Test.YtgajgonepcikbaaDoorTrim
namespace Go.Proofs.YtgajgonepcikbaaDoor
open Go.RowKit Go.Joins

set_option maxHeartbeats 800000 in
theorem readDecimalB_at {s : ByteArray} {V : Int} {B : Bool} (hV : V = rdV s.data.toList) (hB : B = rdB s.data.toList) (hs : s.size ≤ 4194304) (w : World) (hE : Er w) :
    Calls Tryd.prog 83 #[.string s] w fun e w' => e = .returned (.tuple #[.int .i64 V, .bool B]) ∧ Below w.heap.size w w' := by
  have HE := Lib.hid hE
  clear hE
  rcases hp : Lib.parseIntB 64 s.data.toList with v | _ | _
  · have HP := Lib.hid hp
    have hbd := Lib.parseIntB_bounds hp
    rw [show (2 ^ (64 - 1) : Nat) = 9223372036854775808 by decide] at hbd
    have HV : Hid (V = v ∧ B = ((bs (Lib.itoa v)).toList == s.toList)) := Lib.hid (by
      rw [hV, hB, bs_toList, ByteArray.toList_eq]; unfold rdV rdB; rw [hp]; exact ⟨rfl, rfl⟩)
    obtain ⟨D, hD⟩ : ∃ D, D = bs (Lib.itoa v) := ⟨_, rfl⟩
    rw [← hD] at HV
    obtain ⟨rfl, rfl⟩ := HV.out
    have HD := Lib.hid hD
    have v1 : -9223372036854775808 ≤ V := by omega
    have v2 : V ≤ 9223372036854775807 := by omega
    clear hp hV hB HV hD hbd
    go_enter Tryd.func83, Tryd.ntmps83
    go_wp2_with fail
    refine (Tryd.strconv_ParseInt_10_at64_ok s (by omega) V HP.out w).mono ?_
    rintro e w1 ⟨rfl, hw⟩
    have HB1 : Hid (Below w.heap.size w w1) := Lib.hid (by
      rcases hw with rfl | ⟨t, rfl⟩
      · exact Below.refl _ _
      · exact below_bytes _ _ _)
    clear hw
    go_wp2_with fail
    refine (decimal_any V v1 v2 w1 (HE.out.below HB1.out).1).mono ?_
    rintro e w2 ⟨rfl, hb⟩
    have HB2 := Lib.hid (bl_trans HB1.out hb)
    clear hb
    rw [← HD.out]
    go_wp2
    go_ret2
    exact ⟨rfl, HB2.out⟩
  · have HP : Hid ((∀ v, Lib.parseIntB 64 s.data.toList ≠ .ok v) ∧ Lib.parseIntB 64 s.data.toList ≠ .range) := Lib.hid (by rw [hp]; exact ⟨(fun v h => by cases h), (fun h => by cases h)⟩)
    have HV : Hid (V = 0 ∧ B = false) := Lib.hid (by
      rw [hV, hB]; unfold rdV rdB; rw [hp]; exact ⟨rfl, rfl⟩)
    obtain ⟨rfl, rfl⟩ := HV.out
    obtain ⟨tp, p, hvar⟩ := HE.out.2.1
    have HVar := Lib.hid hvar
    clear hp hV hB HV hvar
    go_enter Tryd.func83, Tryd.ntmps83
    go_wp2_with fail
    refine (Tryd.strconv_ParseInt_10_at64_syntax_var s (by omega) HP.out.1 HP.out.2 tp p w HVar.out).mono ?_
    rintro e w1 ⟨N, rfl, _, _, hb⟩
    have HB1 := Lib.hid hb
    clear hb
    go_wp2
    go_ret2
    exact ⟨rfl, HB1.out⟩
  · have HP := Lib.hid hp
    have HV : Hid (V = Lib.intSat 64 s.data.toList ∧ B = false) := Lib.hid (by
      rw [hV, hB]; unfold rdV rdB; rw [hp]; exact ⟨rfl, rfl⟩)
    have HV2 : Hid (B = false) := Lib.hid HV.out.2
    obtain rfl := HV2.out
    obtain ⟨tp, p, hvar⟩ := HE.out.2.2.1
    have HVar := Lib.hid hvar
    clear hp hV hB hvar HV2
    go_enter Tryd.func83, Tryd.ntmps83
    go_wp2_with fail
    refine (Tryd.strconv_ParseInt_10_at64_range_var s (by omega) HP.out tp p w HVar.out).mono ?_
    rintro e w1 ⟨N, rfl, _, _, hb⟩
    have HB1 := Lib.hid hb
    clear hb
    rw [← HV.out.1]
    go_wp2
    go_ret2
    exact ⟨rfl, HB1.out⟩
theorem cutB_at {s A B : ByteArray} {h : Bool} {c : UInt8} (hA : A = bs (Lib.cut s.data.toList [c]).1) (hB : B = bs (Lib.cut s.data.toList [c]).2.1) (hh : h = (Lib.cut s.data.toList [c]).2.2) (hs : s.size ≤ 4194304) (w : World) (hE : Er w) :
    Calls Tryd.prog 82 #[.string s, .string ⟨#[c]⟩] w fun e w' => e = .returned (.tuple #[.string A, .string B, .bool h]) ∧ ∃ n, w' = w.drewN n := by
  obtain ⟨m, hm⟩ := hE.2.2.2
  subst hA hB hh
  exact Tryd.strings_Cut s ⟨#[c]⟩ m w (by omega) hm
set_option maxHeartbeats 800000 in
theorem splitB_at {s : ByteArray} {c : UInt8} {W : List (List UInt8)} (hW : W = spl c s.data.toList) (hs : s.size ≤ 4194304) (w : World) (hE : Er w) :
    Calls Tryd.prog 84 #[.string s, .string ⟨#[c]⟩] w fun e w' => e = .returned (.slice (some ⟨w.heap.size, 0, none⟩) W.length W.length) ∧ RdT w' (some ⟨w.heap.size, 0, none⟩) W.length W.length W ∧ Below w.heap.size w w' := by
  obtain ⟨m, hm⟩ := hE.2.2.2
  have e0 : (Lib.splitB ⟨#[c]⟩ 0 (Lib.countB s ⟨#[c]⟩) s).map (·.data.toList) = W := by
    rw [Lib.splitB_data, hW]
    exact splitK_eq c s.data.toList
  have e1 : (Lib.splitB ⟨#[c]⟩ 0 (Lib.countB s ⟨#[c]⟩) s) = W.map bs := by
    rw [← e0, List.map_map]
    conv => lhs; rw [← List.map_id (Lib.splitB ⟨#[c]⟩ 0 (Lib.countB s ⟨#[c]⟩) s)]
    exact List.map_congr_left fun x _ => bs_of x
  have e2 : Lib.countB s ⟨#[c]⟩ + 1 = W.length := by
    rw [← e0, List.length_map, Lib.splitB_all ⟨#[c]⟩ (Nat.le_refl _) 0 _ s rfl]
  have hn : W.length ≤ 4194305 := by
    have := Lib.countB_le ⟨#[c]⟩ (Nat.le_refl _) s.size s (Nat.le_refl _)
    omega
  refine (Tryd.strings_Split s ⟨#[c]⟩ m w (by omega) hm (Nat.le_refl _)).mono ?_
  rintro e w' ⟨rfl, rfl⟩
  rw [e1, e2]
  refine ⟨rfl, ⟨by rw [tcs_len]; omega, Nat.le_refl _, by unfold maxLen; omega, fun _ => ⟨w.heap.size, 0, rfl, by simp, fun i hi => ?_⟩⟩, bl_alloc (Below.refl _ _) _⟩
  rw [Nat.mul_one] at hi
  rw [Nat.zero_add, tcs_at W hi]
  simp [List.getElem?_eq_getElem hi, List.getD]

theorem trimP_at {s X : ByteArray} {c : UInt8} (hX : X = bs (Lib.trimPrefix s.data.toList [c])) (w : World) :
    Calls Tryd.prog 124 #[.string s, .string ⟨#[c]⟩] w fun e w' => e = .returned (.string X) ∧ w' = w := by
  subst hX
  exact Tryd.strings_TrimPrefix s ⟨#[c]⟩ w
theorem trimP_le (l : List UInt8) (c : UInt8) : (Lib.trimPrefix l [c]).length ≤ l.length := by
  unfold Lib.trimPrefix
  split
  · simp
  · exact Nat.le_refl _

set_option maxRecDepth 100000 in
set_option maxHeartbeats 3200000 in
theorem readTerm_at {s : ByteArray} {c i : Int} (h : tmP s.data.toList = (c, i)) (hs : s.size ≤ 4194304) (w : World) (hE : Er w) :
    Calls Tryd.prog 89 #[.string s] w fun e w' => e = .returned (.tuple #[.int .i64 c, .int .i64 i]) ∧ Below w.heap.size w w' := by
  have HE := Lib.hid hE
  clear hE
  obtain ⟨A, hA⟩ : ∃ A, A = bs (Lib.cut s.data.toList [120]).1 := ⟨_, rfl⟩
  obtain ⟨B, hB⟩ : ∃ A, A = bs (Lib.cut s.data.toList [120]).2.1 := ⟨_, rfl⟩
  obtain ⟨has, hh⟩ : ∃ A, A = (Lib.cut s.data.toList [120]).2.2 := ⟨_, rfl⟩
  have za : A.size ≤ 4194304 := by rw [hA, bs_size]; have := (cut_le s.data.toList 120).1; rw [size_data] at this; omega
  have zb : B.size ≤ 4194304 := by rw [hB, bs_size]; have := (cut_le s.data.toList 120).2; rw [size_data] at this; omega
  have hAd : (Lib.cut s.data.toList [120]).1 = A.data.toList := by rw [hA, bs_data]
  have hBd : (Lib.cut s.data.toList [120]).2.1 = B.data.toList := by rw [hB, bs_data]
  unfold tmP at h
  rw [← hh, hAd, hBd] at h
  have HA := Lib.hid hA
  have HB := Lib.hid hB
  have HH := Lib.hid hh
  obtain ⟨x, hx⟩ : ∃ x, x = rdV A.data.toList := ⟨_, rfl⟩
  obtain ⟨xb, hxb⟩ : ∃ x, x = rdB A.data.toList := ⟨_, rfl⟩
  have HX := Lib.hid hx
  have HXb := Lib.hid hxb
  rw [← hx] at h
  clear hA hB hh hAd hBd hx hxb
  go_enter Tryd.func89, Tryd.ntmps89
  go_wp2_with fail
  refine (cutB_at HA.out HB.out HH.out hs _ HE.out).mono ?_
  rintro e w0 ⟨rfl, nq, hw⟩
  have HB0 : Hid (Below w.heap.size w w0) := Lib.hid (by subst hw; exact below_drewN (Below.refl _ _) nq)
  clear hw
  cases has with
  | false =>
    rw [if_neg (by simp)] at h
    obtain ⟨rfl, rfl⟩ : x = c ∧ (0 : Int) = i := by injection h with h1 h2; exact ⟨h1, h2⟩
    clear h
    go_wp2_with fail
    refine (readDecimalB_at HX.out HXb.out za _ (HE.out.below HB0.out)).mono ?_
    rintro e w1 ⟨rfl, hb1⟩
    have HB1 := Lib.hid (bl_trans HB0.out hb1)
    clear hb1
    go_wp2
    go_ret2
    exact ⟨rfl, HB1.out⟩
  | true =>
    rw [if_pos rfl] at h
    obtain ⟨hc, hi⟩ : (if A.data.toList = [] then 1 else if A.data.toList = [45] then -1 else x) = c ∧ (if B.data.toList = [] then 1 else rdV (Lib.trimPrefix B.data.toList [94])) = i := by injection h with h1 h2; exact ⟨h1, h2⟩
    have HC := Lib.hid hc
    have HI := Lib.hid hi
    clear h hc hi
    by_cases ha : A.data.toList = []
    · obtain rfl : c = 1 := by rw [← HC.out, if_pos ha]
      have f1 : A.toList.isEmpty = true := by rw [ByteArray.toList_eq, ha]; rfl
      clear ha
      by_cases hb : B.data.toList = []
      · obtain rfl : i = 1 := by rw [← HI.out, if_pos hb]
        have f3 : B.toList.isEmpty = true := by rw [ByteArray.toList_eq, hb]; rfl
        clear hb
        go_wp2
        go_ret2
        exact ⟨rfl, HB0.out⟩
      · obtain ⟨P, hP⟩ : ∃ P, P = bs (Lib.trimPrefix B.data.toList [94]) := ⟨_, rfl⟩
        have zp : P.size ≤ 4194304 := by rw [hP, bs_size]; have := trimP_le B.data.toList 94; rw [size_data] at this; omega
        have HP := Lib.hid hP
        obtain ⟨y, hy⟩ : ∃ y, y = rdV P.data.toList := ⟨_, rfl⟩
        obtain ⟨yb, hyb⟩ : ∃ y, y = rdB P.data.toList := ⟨_, rfl⟩
        have HY := Lib.hid hy
        have HYb := Lib.hid hyb
        obtain rfl : y = i := by rw [← HI.out, if_neg hb, hy, hP, bs_data]
        have f3 : B.toList.isEmpty = false := by rw [ByteArray.toList_eq]; simpa using hb
        clear hb hP hy hyb
        go_wp2_with fail
        refine (trimP_at HP.out _).mono ?_
        rintro e w' ⟨rfl, rfl⟩
        go_wp2_with fail
        refine (readDecimalB_at HY.out HYb.out zp _ (HE.out.below HB0.out)).mono ?_
        rintro e w3 ⟨rfl, hb3⟩
        have HB3 := Lib.hid (bl_trans HB0.out hb3)
        clear hb3
        go_wp2
        go_ret2
        exact ⟨rfl, HB3.out⟩
    · have f1 : A.toList.isEmpty = false := by rw [ByteArray.toList_eq]; simpa using ha
      by_cases ha2 : A.data.toList = [45]
      · obtain rfl : c = -1 := by rw [← HC.out, if_neg ha, if_pos ha2]
        have ⟨f2, _⟩ := str_eq ha2
        clear ha ha2
        by_cases hb : B.data.toList = []
        · obtain rfl : i = 1 := by rw [← HI.out, if_pos hb]
          have f3 : B.toList.isEmpty = true := by rw [ByteArray.toList_eq, hb]; rfl
          clear hb
          go_wp2
          go_ret2
          exact ⟨rfl, HB0.out⟩
        · obtain ⟨P, hP⟩ : ∃ P, P = bs (Lib.trimPrefix B.data.toList [94]) := ⟨_, rfl⟩
          have zp : P.size ≤ 4194304 := by rw [hP, bs_size]; have := trimP_le B.data.toList 94; rw [size_data] at this; omega
          have HP := Lib.hid hP
          obtain ⟨y, hy⟩ : ∃ y, y = rdV P.data.toList := ⟨_, rfl⟩
          obtain ⟨yb, hyb⟩ : ∃ y, y = rdB P.data.toList := ⟨_, rfl⟩
          have HY := Lib.hid hy
          have HYb := Lib.hid hyb
          obtain rfl : y = i := by rw [← HI.out, if_neg hb, hy, hP, bs_data]
          have f3 : B.toList.isEmpty = false := by rw [ByteArray.toList_eq]; simpa using hb
          clear hb hP hy hyb
          go_wp2_with fail
          refine (trimP_at HP.out _).mono ?_
          rintro e w' ⟨rfl, rfl⟩
          go_wp2_with fail
          refine (readDecimalB_at HY.out HYb.out zp _ (HE.out.below HB0.out)).mono ?_
          rintro e w3 ⟨rfl, hb3⟩
          have HB3 := Lib.hid (bl_trans HB0.out hb3)
          clear hb3
          go_wp2
          go_ret2
          exact ⟨rfl, HB3.out⟩
      · obtain rfl : x = c := by rw [← HC.out, if_neg ha, if_neg ha2]
        have ⟨f2, _⟩ := str_ne ha2
        clear ha ha2
        go_wp2_with fail
        refine (readDecimalB_at HX.out HXb.out za _ (HE.out.below HB0.out)).mono ?_
        rintro e w1 ⟨rfl, hb1⟩
        have HB1 := Lib.hid (bl_trans HB0.out hb1)
        clear hb1
        by_cases hb : B.data.toList = []
        · obtain rfl : i = 1 := by rw [← HI.out, if_pos hb]
          have f3 : B.toList.isEmpty = true := by rw [ByteArray.toList_eq, hb]; rfl
          clear hb
          go_wp2
          go_ret2
          exact ⟨rfl, HB1.out⟩
        · obtain ⟨P, hP⟩ : ∃ P, P = bs (Lib.trimPrefix B.data.toList [94]) := ⟨_, rfl⟩
          have zp : P.size ≤ 4194304 := by rw [hP, bs_size]; have := trimP_le B.data.toList 94; rw [size_data] at this; omega
          have HP := Lib.hid hP
          obtain ⟨y, hy⟩ : ∃ y, y = rdV P.data.toList := ⟨_, rfl⟩
          obtain ⟨yb, hyb⟩ : ∃ y, y = rdB P.data.toList := ⟨_, rfl⟩
          have HY := Lib.hid hy
          have HYb := Lib.hid hyb
          obtain rfl : y = i := by rw [← HI.out, if_neg hb, hy, hP, bs_data]
          have f3 : B.toList.isEmpty = false := by rw [ByteArray.toList_eq]; simpa using hb
          clear hb hP hy hyb
          go_wp2_with fail
          refine (trimP_at HP.out _).mono ?_
          rintro e w' ⟨rfl, rfl⟩
          go_wp2_with fail
          refine (readDecimalB_at HY.out HYb.out zp _ (HE.out.below HB1.out)).mono ?_
          rintro e w3 ⟨rfl, hb3⟩
          have HB3 := Lib.hid (bl_trans HB1.out hb3)
          clear hb3
          go_wp2
          go_ret2
          exact ⟨rfl, HB3.out⟩
end Go.Proofs.YtgajgonepcikbaaDoor
