
/- Polynomials' texts read: a term, by the program. -/
import Derived.Test.YtgajgonepcikbaaDoorRdP1
import Derived.Test.YtgajgonepcikbaaDoorPolT2
import Derived.Test.YtgajgonepcikbaaDoorTxt4
import Derived.Test.YtgajgonepcikbaaDoorTrim
import Derived.Test.YtgajgonepcikbaaDoorTab
import Derived.Deep.LoopGhost
namespace Go.Proofs.YtgajgonepcikbaaDoor
open Go.RowKit Go.Joins

set_option maxHeartbeats 800000 in
theorem readDecimalB_at {s : ByteArray} {V : Int} {B : Bool} (hV : V = rdV s.data.toList) (hB : B = rdB s.data.toList) (hs : s.size ≤ 4194304) (w : World) (hE : Er w) :
    Calls Tryd.prog 83 #[.string s] w fun e w' => e = .returned (.tuple #[.int .i64 V, .bool B]) ∧ Below w.heap.size w w' := by
  have HE := Lib.hid hE
  clear hE
  rcases hp : Lib.parseIntB 64 s.data.toList with v | _ | _
  · have HP := Lib.hid hp
    have hbd := Lib.parseIntB_bounds hp
    rw [show (2 ^ (64 - 1) : Nat) = 9223372036854775808 by decide] at hbd
    have HV : Hid (V = v ∧ B = ((bs (Lib.itoa v)).toList == s.toList)) := Lib.hid (by
      rw [hV, hB, bs_toList, ByteArray.toList_eq]; unfold rdV rdB; rw [hp]; exact ⟨rfl, rfl⟩)
    obtain ⟨D, hD⟩ : ∃ D, D = bs (Lib.itoa v) := ⟨_, rfl⟩
    rw [← hD] at HV
    obtain ⟨rfl, rfl⟩ := HV.out
    have HD := Lib.hid hD
    have v1 : -9223372036854775808 ≤ V := by omega
    have v2 : V ≤ 9223372036854775807 := by omega
    clear hp hV hB HV hD hbd
    go_enter Tryd.func83, Tryd.ntmps83
    go_wp2_with fail
    refine (Tryd.strconv_ParseInt_10_at64_ok s (by omega) V HP.out w).mono ?_
    rintro e w1 ⟨rfl, hw⟩
    have HB1 : Hid (Below w.heap.size w w1) := Lib.hid (by
      rcases hw with rfl | ⟨t, rfl⟩
      · exact Below.refl _ _
      · exact below_bytes _ _ _)
    clear hw
    go_wp2_with fail
    refine (decimal_any V v1 v2 w1 (HE.out.below HB1.out).1).mono ?_
    rintro e w2 ⟨rfl, hb⟩
    have HB2 := Lib.hid (bl_trans HB1.out hb)
    clear hb
    rw [← HD.out]
    go_wp2
    go_ret2
    exact ⟨rfl, HB2.out⟩
  · have HP : Hid ((∀ v, Lib.parseIntB 64 s.data.toList ≠ .ok v) ∧ Lib.parseIntB 64 s.data.toList ≠ .range) := Lib.hid (by rw [hp]; exact ⟨(fun v h => by cases h), (fun h => by cases h)⟩)
    have HV : Hid (V = 0 ∧ B = false) := Lib.hid (by
      rw [hV, hB]; unfold rdV rdB; rw [hp]; exact ⟨rfl, rfl⟩)
    obtain ⟨rfl, rfl⟩ := HV.out
    obtain ⟨tp, p, hvar⟩ := HE.out.2.1
    have HVar := Lib.hid hvar
    clear hp hV hB HV hvar
    go_enter Tryd.func83, Tryd.ntmps83
    go_wp2_with fail
    refine (Tryd.strconv_ParseInt_10_at64_syntax_var s (by omega) HP.out.1 HP.out.2 tp p w HVar.out).mono ?_
    rintro e w1 ⟨N, rfl, _, _, hb⟩
    have HB1 := Lib.hid hb
    clear hb
    go_wp2
    go_ret2
    exact ⟨rfl, HB1.out⟩
  · have HP := Lib.hid hp
    have HV : Hid (V = Lib.intSat 64 s.data.toList ∧ B = false) := Lib.hid (by
      rw [hV, hB]; unfold rdV rdB; rw [hp]; exact ⟨rfl, rfl⟩)
    have HV2 : Hid (B = false) := Lib.hid HV.out.2
    obtain rfl := HV2.out
    obtain ⟨tp, p, hvar⟩ := HE.out.2.2.1
    have HVar := Lib.hid hvar
    clear hp hV hB hvar HV2
    go_enter Tryd.func83, Tryd.ntmps83
    go_wp2_with fail
    refine (Tryd.strconv_ParseInt_10_at64_range_var s (by omega) HP.out tp p w HVar.out).mono ?_
    rintro e w1 ⟨N, rfl, _, _, hb⟩
    have HB1 := Lib.hid hb
    clear hb
    rw [← HV.out.1]
    go_wp2
    go_ret2
    exact ⟨rfl, HB1.out⟩
theorem cutB_at {s A B : ByteArray} {h : Bool} {c : UInt8} (hA : A = bs (Lib.cut s.data.toList [c]).1) (hB : B = bs (Lib.cut s.data.toList [c]).2.1) (hh : h = (Lib.cut s.data.toList [c]).2.2) (hs : s.size ≤ 4194304) (w : World) (hE : Er w) :
    Calls Tryd.prog 82 #[.string s, .string ⟨#[c]⟩] w fun e w' => e = .returned (.tuple #[.string A, .string B, .bool h]) ∧ ∃ n, w' = w.drewN n := by
  obtain ⟨m, hm⟩ := hE.2.2.2
  subst hA hB hh
  exact Tryd.strings_Cut s ⟨#[c]⟩ m w (by omega) hm
set_option maxHeartbeats 800000 in
theorem splitB_at {s : ByteArray} {c : UInt8} {W : List (List UInt8)} (hW : W = spl c s.data.toList) (hs : s.size ≤ 4194304) (w : World) (hE : Er w) :
    Calls Tryd.prog 84 #[.string s, .string ⟨#[c]⟩] w fun e w' => e = .returned (.slice (some ⟨w.heap.size, 0, none⟩) W.length W.length) ∧ RdT w' (some ⟨w.heap.size, 0, none⟩) W.length W.length W ∧ Below w.heap.size w w' := by
  obtain ⟨m, hm⟩ := hE.2.2.2
  have e0 : (Lib.splitB ⟨#[c]⟩ 0 (Lib.countB s ⟨#[c]⟩) s).map (·.data.toList) = W := by
    rw [Lib.splitB_data, hW]
    exact splitK_eq c s.data.toList
  have e1 : (Lib.splitB ⟨#[c]⟩ 0 (Lib.countB s ⟨#[c]⟩) s) = W.map bs := by
    rw [← e0, List.map_map]
    conv => lhs; rw [← List.map_id (Lib.splitB ⟨#[c]⟩ 0 (Lib.countB s ⟨#[c]⟩) s)]
    exact List.map_congr_left fun x _ => bs_of x
  have e2 : Lib.countB s ⟨#[c]⟩ + 1 = W.length := by
    rw [← e0, List.length_map, Lib.splitB_all ⟨#[c]⟩ (Nat.le_refl _) 0 _ s rfl]
  have hn : W.length ≤ 4194305 := by
    have := Lib.countB_le ⟨#[c]⟩ (Nat.le_refl _) s.size s (Nat.le_refl _)
    omega
  refine (Tryd.strings_Split s ⟨#[c]⟩ m w (by omega) hm (Nat.le_refl _)).mono ?_
  rintro e w' ⟨rfl, rfl⟩
  rw [e1, e2]
  refine ⟨rfl, ⟨by rw [tcs_len]; omega, Nat.le_refl _, by unfold maxLen; omega, fun _ => ⟨w.heap.size, 0, rfl, by simp, fun i hi => ?_⟩⟩, bl_alloc (Below.refl _ _) _⟩
  rw [Nat.mul_one] at hi
  rw [Nat.zero_add, tcs_at W hi]
  simp [List.getElem?_eq_getElem hi, List.getD]

theorem trimP_at {s X : ByteArray} {c : UInt8} (hX : X = bs (Lib.trimPrefix s.data.toList [c])) (w : World) :
    Calls Tryd.prog 124 #[.string s, .string ⟨#[c]⟩] w fun e w' => e = .returned (.string X) ∧ w' = w := by
  subst hX
  exact Tryd.strings_TrimPrefix s ⟨#[c]⟩ w
theorem trimP_le (l : List UInt8) (c : UInt8) : (Lib.trimPrefix l [c]).length ≤ l.length := by
  unfold Lib.trimPrefix
  split
  · simp
  · exact Nat.le_refl _

set_option maxRecDepth 100000 in
set_option maxHeartbeats 3200000 in
theorem readTerm_at {s : ByteArray} {c i : Int} (h : tmP s.data.toList = (c, i)) (hs : s.size ≤ 4194304) (w : World) (hE : Er w) :
    Calls Tryd.prog 89 #[.string s] w fun e w' => e = .returned (.tuple #[.int .i64 c, .int .i64 i]) ∧ Below w.heap.size w w' := by
  have HE := Lib.hid hE
  clear hE
  obtain ⟨A, hA⟩ : ∃ A, A = bs (Lib.cut s.data.toList [120]).1 := ⟨_, rfl⟩
  obtain ⟨B, hB⟩ : ∃ A, A = bs (Lib.cut s.data.toList [120]).2.1 := ⟨_, rfl⟩
  obtain ⟨has, hh⟩ : ∃ A, A = (Lib.cut s.data.toList [120]).2.2 := ⟨_, rfl⟩
  have za : A.size ≤ 4194304 := by rw [hA, bs_size]; have := (cut_le s.data.toList 120).1; rw [size_data] at this; omega
  have zb : B.size ≤ 4194304 := by rw [hB, bs_size]; have := (cut_le s.data.toList 120).2; rw [size_data] at this; omega
  have hAd : (Lib.cut s.data.toList [120]).1 = A.data.toList := by rw [hA, bs_data]
  have hBd : (Lib.cut s.data.toList [120]).2.1 = B.data.toList := by rw [hB, bs_data]
  unfold tmP at h
  rw [← hh, hAd, hBd] at h
  have HA := Lib.hid hA
  have HB := Lib.hid hB
  have HH := Lib.hid hh
  obtain ⟨x, hx⟩ : ∃ x, x = rdV A.data.toList := ⟨_, rfl⟩
  obtain ⟨xb, hxb⟩ : ∃ x, x = rdB A.data.toList := ⟨_, rfl⟩
  have HX := Lib.hid hx
  have HXb := Lib.hid hxb
  rw [← hx] at h
  clear hA hB hh hAd hBd hx hxb
  go_enter Tryd.func89, Tryd.ntmps89
  go_wp2_with fail
  refine (cutB_at HA.out HB.out HH.out hs _ HE.out).mono ?_
  rintro e w0 ⟨rfl, nq, hw⟩
  have HB0 : Hid (Below w.heap.size w w0) := Lib.hid (by subst hw; exact below_drewN (Below.refl _ _) nq)
  clear hw
  cases has with
  | false =>
    rw [if_neg (by simp)] at h
    obtain ⟨rfl, rfl⟩ : x = c ∧ (0 : Int) = i := by injection h with h1 h2; exact ⟨h1, h2⟩
    clear h
    go_wp2_with fail
    refine (readDecimalB_at HX.out HXb.out za _ (HE.out.below HB0.out)).mono ?_
    rintro e w1 ⟨rfl, hb1⟩
    have HB1 := Lib.hid (bl_trans HB0.out hb1)
    clear hb1
    go_wp2
    go_ret2
    exact ⟨rfl, HB1.out⟩
  | true =>
    rw [if_pos rfl] at h
    obtain ⟨hc, hi⟩ : (if A.data.toList = [] then 1 else if A.data.toList = [45] then -1 else x) = c ∧ (if B.data.toList = [] then 1 else rdV (Lib.trimPrefix B.data.toList [94])) = i := by injection h with h1 h2; exact ⟨h1, h2⟩
    have HC := Lib.hid hc
    have HI := Lib.hid hi
    clear h hc hi
    by_cases ha : A.data.toList = []
    · obtain rfl : c = 1 := by rw [← HC.out, if_pos ha]
      have f1 : A.toList.isEmpty = true := by rw [ByteArray.toList_eq, ha]; rfl
      clear ha
      by_cases hb : B.data.toList = []
      · obtain rfl : i = 1 := by rw [← HI.out, if_pos hb]
        have f3 : B.toList.isEmpty = true := by rw [ByteArray.toList_eq, hb]; rfl
        clear hb
        go_wp2
        go_ret2
        exact ⟨rfl, HB0.out⟩
      · obtain ⟨P, hP⟩ : ∃ P, P = bs (Lib.trimPrefix B.data.toList [94]) := ⟨_, rfl⟩
        have zp : P.size ≤ 4194304 := by rw [hP, bs_size]; have := trimP_le B.data.toList 94; rw [size_data] at this; omega
        have HP := Lib.hid hP
        obtain ⟨y, hy⟩ : ∃ y, y = rdV P.data.toList := ⟨_, rfl⟩
        obtain ⟨yb, hyb⟩ : ∃ y, y = rdB P.data.toList := ⟨_, rfl⟩
        have HY := Lib.hid hy
        have HYb := Lib.hid hyb
        obtain rfl : y = i := by rw [← HI.out, if_neg hb, hy, hP, bs_data]
        have f3 : B.toList.isEmpty = false := by rw [ByteArray.toList_eq]; simpa using hb
        clear hb hP hy hyb
        go_wp2_with fail
        refine (trimP_at HP.out _).mono ?_
        rintro e w' ⟨rfl, rfl⟩
        go_wp2_with fail
        refine (readDecimalB_at HY.out HYb.out zp _ (HE.out.below HB0.out)).mono ?_
        rintro e w3 ⟨rfl, hb3⟩
        have HB3 := Lib.hid (bl_trans HB0.out hb3)
        clear hb3
        go_wp2
        go_ret2
        exact ⟨rfl, HB3.out⟩
    · have f1 : A.toList.isEmpty = false := by rw [ByteArray.toList_eq]; simpa using ha
      by_cases ha2 : A.data.toList = [45]
      · obtain rfl : c = -1 := by rw [← HC.out, if_neg ha, if_pos ha2]
        have ⟨f2, _⟩ := str_eq ha2
        clear ha ha2
        by_cases hb : B.data.toList = []
        · obtain rfl : i = 1 := by rw [← HI.out, if_pos hb]
          have f3 : B.toList.isEmpty = true := by rw [ByteArray.toList_eq, hb]; rfl
          clear hb
          go_wp2
          go_ret2
          exact ⟨rfl, HB0.out⟩
        · obtain ⟨P, hP⟩ : ∃ P, P = bs (Lib.trimPrefix B.data.toList [94]) := ⟨_, rfl⟩
          have zp : P.size ≤ 4194304 := by rw [hP, bs_size]; have := trimP_le B.data.toList 94; rw [size_data] at this; omega
          have HP := Lib.hid hP
          obtain ⟨y, hy⟩ : ∃ y, y = rdV P.data.toList := ⟨_, rfl⟩
          obtain ⟨yb, hyb⟩ : ∃ y, y = rdB P.data.toList := ⟨_, rfl⟩
          have HY := Lib.hid hy
          have HYb := Lib.hid hyb
          obtain rfl : y = i := by rw [← HI.out, if_neg hb, hy, hP, bs_data]
          have f3 : B.toList.isEmpty = false := by rw [ByteArray.toList_eq]; simpa using hb
          clear hb hP hy hyb
          go_wp2_with fail
          refine (trimP_at HP.out _).mono ?_
          rintro e w' ⟨rfl, rfl⟩
          go_wp2_with fail
          refine (readDecimalB_at HY.out HYb.out zp _ (HE.out.below HB0.out)).mono ?_
          rintro e w3 ⟨rfl, hb3⟩
          have HB3 := Lib.hid (bl_trans HB0.out hb3)
          clear hb3
          go_wp2
          go_ret2
          exact ⟨rfl, HB3.out⟩
      · obtain rfl : x = c := by rw [← HC.out, if_neg ha, if_neg ha2]
        have ⟨f2, _⟩ := str_ne ha2
        clear ha ha2
        go_wp2_with fail
        refine (readDecimalB_at HX.out HXb.out za _ (HE.out.below HB0.out)).mono ?_
        rintro e w1 ⟨rfl, hb1⟩
        have HB1 := Lib.hid (bl_trans HB0.out hb1)
        clear hb1
        by_cases hb : B.data.toList = []
        · obtain rfl : i = 1 := by rw [← HI.out, if_pos hb]
          have f3 : B.toList.isEmpty = true := by rw [ByteArray.toList_eq, hb]; rfl
          clear hb
          go_wp2
          go_ret2
          exact ⟨rfl, HB1.out⟩
        · obtain ⟨P, hP⟩ : ∃ P, P = bs (Lib.trimPrefix B.data.toList [94]) := ⟨_, rfl⟩
          have zp : P.size ≤ 4194304 := by rw [hP, bs_size]; have := trimP_le B.data.toList 94; rw [size_data] at this; omega
          have HP := Lib.hid hP
          obtain ⟨y, hy⟩ : ∃ y, y = rdV P.data.toList := ⟨_, rfl⟩
          obtain ⟨yb, hyb⟩ : ∃ y, y = rdB P.data.toList := ⟨_, rfl⟩
          have HY := Lib.hid hy
          have HYb := Lib.hid hyb
          obtain rfl : y = i := by rw [← HI.out, if_neg hb, hy, hP, bs_data]
          have f3 : B.toList.isEmpty = false := by rw [ByteArray.toList_eq]; simpa using hb
          clear hb hP hy hyb
          go_wp2_with fail
          refine (trimP_at HP.out _).mono ?_
          rintro e w' ⟨rfl, rfl⟩
          go_wp2_with fail
          refine (readDecimalB_at HY.out HYb.out zp _ (HE.out.below HB1.out)).mono ?_
          rintro e w3 ⟨rfl, hb3⟩
          have HB3 := Lib.hid (bl_trans HB1.out hb3)
          clear hb3
          go_wp2
          go_ret2
          exact ⟨rfl, HB3.out⟩
end Go.Proofs.YtgajgonepcikbaaDoor

namespace Go.Proofs.YtgajgonepcikbaaDoor
open Go.RowKit Go.Joins

theorem rpl_len (l : List UInt8) : (rpl l).length ≤ 2 * l.length := by
  induction l with
  | nil => simp [rpl]
  | cons x r ih =>
    rw [rpl_cons]
    split <;> simp <;> omega
theorem replB_at {s X : ByteArray} (hX : X = bs (rpl s.data.toList)) (hs : s.size ≤ 1048576) (w : World) (hE : Er w) :
    Calls Tryd.prog 88 #[.string s, .string ⟨#[45]⟩, .string ⟨#[43, 45]⟩] w fun e w' => e = .returned (.string X) ∧ Below w.heap.size w w' := by
  obtain ⟨m, hm⟩ := hE.2.2.2
  have e : Lib.replaceAll s.data.toList [45] [43, 45] = rpl s.data.toList := replaceAll_eq _
  subst hX
  rw [← e]
  exact Tryd.strings_ReplaceAll s ⟨#[45]⟩ ⟨#[43, 45]⟩ m w (by omega) hm (Nat.le_refl _) (by
    have := Lib.countB_le ⟨#[45]⟩ (Nat.le_refl _) s.size s (Nat.le_refl _)
    have e2 : (⟨#[43, 45]⟩ : ByteArray).size = 2 := rfl
    rw [e2]
    omega)
theorem POk.cb {f : List Int} (h : POk f) : CB f := ⟨h.1, h.2.1⟩
theorem pad9_len (f : List Int) : (pad9 f).length = 9 := by simp [pad9]
theorem pad9_at (f : List Int) {i : Nat} (h : i < 9) : (pad9 f).getD i 0 = f.getD i 0 := by
  simp [pad9, List.getD, h]
theorem tlen_pad {f : List Int} (h : POk f) : ∀ k, f.length ≤ k → k ≤ 9 → tlen (pad9 f) k = f.length
  | 0, h1, _ => by unfold tlen; omega
  | k + 1, h1, h2 => by
    unfold tlen
    rw [pad9_at f (by omega)]
    by_cases e : f.length = k + 1
    · have := h.2.2 (by omega)
      rw [e] at this
      rw [if_neg (by simpa using this), e]
    · rw [if_pos (by simp [List.getD, List.getElem?_eq_none (show f.length ≤ k by omega)])]
      exact tlen_pad h k (by omega) (by omega)
theorem trim_pad {f : List Int} (h : POk f) : trimL (pad9 f) = f := by
  unfold trimL
  rw [pad9_len, tlen_pad h 9 h.1 (Nat.le_refl _)]
  have h9 := h.1
  apply List.ext_getElem
  · rw [List.length_take, pad9_len]; omega
  · intro i h1 h2
    have := pad9_at f (i := i) (by omega)
    simp only [List.getD] at this
    rw [List.getElem?_eq_getElem (by rw [pad9_len]; omega), List.getElem?_eq_getElem h2] at this
    rw [List.getElem_take]
    simpa using this
/-- the polynomial's text -/
def RfOk (l : List UInt8) (f : List Int) : Prop := POk f ∧ plT f = l
theorem RfOk.both {l : List UInt8} {f : List Int} (h : RfOk l f) : trimL (plP l) = f ∧ plS l = some (pad9 f) := by
  obtain ⟨h1, h2⟩ := h
  have e1 := plP_text h1.cb
  have e2 := plS_text h1.cb
  rw [h2] at e1 e2
  exact ⟨by rw [e1, trim_pad h1], e2⟩
instance (l : List UInt8) (f : List Int) : Decidable (RfOk l f) := by unfold RfOk; exact @instDecidableAnd _ _ (decPOkT f) _
/-- what ReadPolynomial gives -/
def rfL (l : List UInt8) : List Int := if RfOk l (trimL (plP l)) then trimL (plP l) else []
def rfC (l : List UInt8) : Int := if RfOk l (trimL (plP l)) then 0 else 6
theorem rf_yes {l : List UInt8} (h : RfOk l (trimL (plP l))) : rfL l = trimL (plP l) ∧ rfC l = 0 := by unfold rfL rfC; rw [if_pos h, if_pos h]; exact ⟨rfl, rfl⟩
theorem rf_no {l : List UInt8} (h : ¬ RfOk l (trimL (plP l))) : rfL l = [] ∧ rfC l = 6 := by unfold rfL rfC; rw [if_neg h, if_neg h]; exact ⟨rfl, rfl⟩
theorem rfL_len {l : List UInt8} : (rfL l).length ≤ 1048576 := by
  by_cases h : RfOk l (trimL (plP l))
  · rw [(rf_yes h).1]; have := h.1.1; omega
  · rw [(rf_no h).1]; simp

theorem OwnC_loF {w : World} {lo lo' : Nat} {A : Option Addr} {n c : Nat} {f : List Int} (h : OwnI w lo A n c f) (hl : lo' ≤ lo) : OwnI w lo' A n c f :=
  ⟨h.1, h.2.1, h.2.2.1, fun hn => ownsRow_lo (h.2.2.2 hn) hl⟩
set_option maxRecDepth 100000 in
set_option maxHeartbeats 3200000 in
theorem implReadPolynomial_at {s : ByteArray} {L : List Int} {C : Int} (hL : L = rfL s.data.toList) (hC : C = rfC s.data.toList) (hs : s.size ≤ 1048576) (w : World) (hE : Er w) :
    Calls Tryd.prog 44 #[.string s] w fun e w' => ∃ A c, e = .returned (.tuple #[.slice A L.length c, .int .i64 C]) ∧ OwnI w' w.heap.size A L.length c L ∧ Below w.heap.size w w' := by
  obtain ⟨i0, hi, hz0, hz1, hz2⟩ := info_parts infoI64
  have HI := Lib.hid hi
  have HZ0 := Lib.hid hz0
  have HZ1 := Lib.hid hz1
  have hm1 : i0.bytes * 9 ≤ 281474976710656 := by rw [hz2]; omega
  have hm2 : 9 ≤ maxLen := by unfold maxLen; omega
  clear hi hz0 hz1 hz2
  have HE := Lib.hid hE
  have HL := Lib.hid hL
  have HC := Lib.hid hC
  obtain ⟨X, hX⟩ : ∃ X, X = bs (rpl s.data.toList) := ⟨_, rfl⟩
  have zx : X.size ≤ 4194304 := by rw [hX, bs_size]; have := rpl_len s.data.toList; rw [size_data] at this; omega
  have hXd : X.data.toList = rpl s.data.toList := by rw [hX, bs_data]
  obtain ⟨W, hW⟩ : ∃ W, W = spl 43 X.data.toList := ⟨_, rfl⟩
  have hn : W.length ≤ 4194305 := by rw [hW]; have := spl_cnt 43 X.data.toList; rw [size_data] at this; omega
  have HWl : Hid (∀ k, (W.getD k []).length ≤ 4194304) := Lib.hid (fun k => by rw [hW]; have := spl_getD (c := 43) (l := X.data.toList) k; rw [size_data] at this; omega)
  have HP : Hid (plP s.data.toList = W.foldl stP zer9) := Lib.hid (by unfold plP; rw [hW, hXd])
  have hp : 0 < W.length := by rw [hW]; exact spl_pos _ _
  have HX := Lib.hid hX
  have HW := Lib.hid hW
  obtain ⟨n, hnW⟩ : ∃ n, n = W.length := ⟨_, rfl⟩
  have HN := Lib.hid hnW
  rw [← hnW] at hn hp
  clear hL hC hX hXd hW hE
  go_enter Tryd.func44, Tryd.ntmps44
  go_wp2_with (at_make; refine wpList_make_full _ rfl _ _ _ rfl w.heap.size 2 i0 (.int .i64 0) 1 Tryd.underlying29 HI.out HZ0.out HZ1.out .i64 .i64 9 9 9 rfl rfl rfl rfl hm1 hm2 (Nat.le_refl _) ?_; intro w1 hown hgrow)
  have HO1 : Hid (OwnI w1 w.heap.size (some ⟨w.heap.size, 0, none⟩) 9 9 zer9) := Lib.hid ((show tab 9 (fun _ => 0) = zer9 from by decide) ▸ own_tab hown)
  have HB1 := Lib.hid ((Below.refl w.heap.size w).grown hgrow (Nat.le_refl _) (by simp))
  have hs1 : w.heap.size < w1.heap.size := by
    obtain ⟨g, hg, _, hg2⟩ := OwnC.form HO1.out (show 0 < 9 by omega)
    simp at hg
    omega
  clear hown hgrow hm1 hm2
  go_wp2_with fail
  refine (replB_at HX.out hs _ (HE.out.below HB1.out)).mono ?_
  rintro e w2 ⟨rfl, hb2⟩
  have HB2 := Lib.hid (bl_trans HB1.out hb2)
  have HO2 := Lib.hid (HO1.out.below hb2)
  have hs2 := hb2.size
  clear hb2 HO1
  go_wp2_with fail
  refine (splitB_at HW.out zx _ (HE.out.below HB2.out)).mono ?_
  rintro e w3 ⟨rfl, hrt, hb3⟩
  rw [← hnW] at hrt ⊢
  have HB3 := Lib.hid (bl_trans HB2.out hb3)
  have HO3 := Lib.hid (HO2.out.below hb3)
  have HC3 : Hid (∀ i, i < n → w3.cell? ⟨w2.heap.size, i, none⟩ = some (.string (bs (W.getD i [])))) := Lib.hid (fun i hi => by
    obtain ⟨b, off, hbo, _, hc⟩ := hrt.at_ hp
    simp at hbo
    have := hc i hi
    rw [← hbo.1, ← hbo.2, Nat.zero_add] at this
    exact this)
  clear hb3 hrt HO2 hnW
  go_wp2_with fail
  go_loopg [6, 7, 8, 14] n (fun g _ _ _ i wr => ∃ k : Nat, g = n - k ∧ k ≤ n ∧ i = .int .i64 k ∧ Hid (OwnI wr w.heap.size (some ⟨w.heap.size, 0, none⟩) 9 9 ((W.take k).foldl stP zer9)) ∧ Hid (∀ i, i < n → wr.cell? ⟨w2.heap.size, i, none⟩ = some (.string (bs (W.getD i [])))) ∧ Hid (Below w.heap.size w wr))
  case atStart => exact ⟨0, by omega, Nat.zero_le _, rfl, HO3, HC3, HB3⟩
  case round =>
    obtain ⟨k, rfl, hk, rfl, HO, HCr, HB⟩ := hrel
    by_cases hlt : k < n
    · have hx := HCr.out k hlt
      obtain ⟨S, hS⟩ : ∃ S, S = bs (W.getD k []) := ⟨_, rfl⟩
      rw [← hS] at hx
      have hsz : S.size ≤ 4194304 := by rw [hS, bs_size]; exact HWl.out k
      obtain ⟨c, hc⟩ : ∃ c, c = (tmP S.data.toList).1 := ⟨_, rfl⟩
      obtain ⟨i, hi⟩ : ∃ c, c = (tmP S.data.toList).2 := ⟨_, rfl⟩
      have HT : Hid (tmP S.data.toList = (c, i)) := Lib.hid (by rw [hc, hi])
      obtain ⟨F, hF⟩ : ∃ F, F = (W.take k).foldl stP zer9 := ⟨_, rfl⟩
      have HFn : Hid ((W.take (k + 1)).foldl stP zer9 = if 0 ≤ i ∧ i ≤ 8 then F.set i.toNat c else F) := Lib.hid (by
        have hkW : k < W.length := by rw [← HN.out]; exact hlt
        rw [List.take_succ_eq_append_getElem hkW, List.foldl_append, ← hF]
        show stP F W[k] = _
        rw [show W[k] = S.data.toList by rw [hS, bs_data]; simp [List.getD, List.getElem?_eq_getElem hkW]]
        unfold stP
        rw [HT.out])
      rw [← hF] at HO
      clear hc hi hF hS
      go_wp2_with fail
      refine (readTerm_at HT.out hsz _ (HE.out.below HB.out)).mono ?_
      rintro e w4 ⟨rfl, hb4⟩
      have HO4 := Lib.hid (HO.out.below hb4)
      have HC4 : Hid (∀ i, i < n → w4.cell? ⟨w2.heap.size, i, none⟩ = some (.string (bs (W.getD i [])))) := Lib.hid (fun i hi => keep_cell hb4 (HCr.out i hi))
      have HB4 := Lib.hid (bl_trans HB.out hb4)
      clear hb4 HO HCr hx
      by_cases hin : 0 ≤ i ∧ i ≤ 8
      · have hd : (decide (0 ≤ i) && decide (i ≤ 8)) = true := by simp; omega
        obtain ⟨j, rfl⟩ : ∃ j : Nat, i = (j : Int) := ⟨i.toNat, by omega⟩
        have hj : j < 9 := by omega
        have ⟨k1, k2⟩ := HO4.out.at_ hj
        have HSt := Lib.hid (HO4.out.set_ j c).1
        have hne : ¬ w2.heap.size = w.heap.size := by omega
        have HO5 : Hid (OwnI (w4.setCell ⟨w.heap.size, j, none⟩ (.int .i64 c)) w.heap.size (some ⟨w.heap.size, 0, none⟩) 9 9 ((W.take (k + 1)).foldl stP zer9)) := Lib.hid (by
          rw [HFn.out, if_pos hin]
          exact HSt.out)
        have HC5 : Hid (∀ i, i < n → (w4.setCell ⟨w.heap.size, j, none⟩ (.int .i64 c)).cell? ⟨w2.heap.size, i, none⟩ = some (.string (bs (W.getD i [])))) := Lib.hid (fun i hi => (World.cell?_setCell_other _ _ _ _ (fun e => hne (by injection e with e; exact e.symm))).trans (HC4.out i hi))
        have HB5 : Hid (Below w.heap.size w (w4.setCell ⟨w.heap.size, j, none⟩ (.int .i64 c))) := Lib.hid (bl_set HB4.out _ _ (Nat.le_refl _) _)
        have hj1 : (0 : Int) ≤ (j : Int) := by omega
        have hj2 : (j : Int) < 9 := by omega
        clear hin HSt
        go_wp2_with (go_at_call 90; refine (within_any _ _ _ _).mono ?_; rintro e w' ⟨rfl, rfl⟩; rw [hd])
        go_roundg (n - (k + 1))
        case measure => omega
        case rel => exact ⟨k + 1, rfl, by omega, by go_num, HO5, HC5, HB5⟩
      · have hd : (decide (0 ≤ i) && decide (i ≤ 8)) = false := by simp; omega
        have HO5 : Hid (OwnI w4 w.heap.size (some ⟨w.heap.size, 0, none⟩) 9 9 ((W.take (k + 1)).foldl stP zer9)) := Lib.hid (by
          rw [HFn.out, if_neg hin]
          exact HO4.out)
        clear hin
        go_wp2_with (go_at_call 90; refine (within_any _ _ _ _).mono ?_; rintro e w' ⟨rfl, rfl⟩; rw [hd])
        go_roundg (n - (k + 1))
        case measure => omega
        case rel => exact ⟨k + 1, rfl, by omega, by go_num, HO5, HC4, HB4⟩
    · obtain rfl : k = n := by omega
      obtain ⟨F, hF⟩ : ∃ F, F = trimL (plP s.data.toList) := ⟨_, rfl⟩
      have HFe := Lib.hid hF
      have HO6 : Hid (OwnI wr w.heap.size (some ⟨w.heap.size, 0, none⟩) 9 9 (plP s.data.toList)) := Lib.hid (by
        rw [HP.out]
        have := HO.out
        rw [HN.out, List.take_length] at this
        exact this)
      clear HO HCr
      go_wp2_with fail
      refine (trim_any _ _ _ _ _ HO6.out.rd (by omega)).mono ?_
      rintro e w5 ⟨A5, c5, rfl, ho5, hb5⟩
      rw [← hF] at ho5 ⊢
      have HO7 : Hid (OwnI w5 w.heap.size A5 F.length c5 F) := Lib.hid (OwnC_loF ho5 HB.out.size)
      have HB7 := Lib.hid (bl_trans HB.out hb5)
      clear ho5 hb5 hF HO6
      by_cases hpk : POk F
      · have H := Lib.hid hpk
        obtain ⟨T, hT⟩ : ∃ T, T = bs (plT F) := ⟨_, rfl⟩
        have HTx := Lib.hid hT
        by_cases hts : T.toList = s.toList
        · have HR : Hid (L = F ∧ C = 0) := Lib.hid (by
            have h : RfOk s.data.toList (trimL (plP s.data.toList)) := by
              rw [← HFe.out]
              rw [ByteArray.toList_eq, ByteArray.toList_eq, hT, bs_data] at hts
              exact ⟨hpk, hts⟩
            rw [HL.out, HC.out, (rf_yes h).1, (rf_yes h).2, HFe.out]
            exact ⟨rfl, rfl⟩)
          obtain ⟨rfl, rfl⟩ := HR.out
          have hb1 : (T.toList == s.toList) = true := by rw [hts]; simp
          have hb2 : (T.toList != s.toList) = false := by rw [hts]; simp
          clear hpk hT hts
          go_wp2_with fail
          refine (implIsPolynomial_yes _ _ _ _ _ HO7.out.rd H.out).mono ?_
          rintro e w' ⟨rfl, rfl⟩
          go_wp2_with fail
          refine (polynomialText_at HTx.out _ HO7.out.rd H.out (HE.out.below HB7.out).1).mono ?_
          rintro e w8 ⟨rfl, hb8⟩
          have HB8 := Lib.hid (bl_trans HB7.out hb8)
          have HO8 := Lib.hid (HO7.out.below hb8)
          clear hb8
          go_wp2
          go_ret2
          exact ⟨A5, c5, rfl, HO8.out, HB8.out⟩
        · have HR : Hid (L = [] ∧ C = 6) := Lib.hid (by
            rw [HL.out, HC.out]
            exact rf_no (fun h => hts (by rw [ByteArray.toList_eq, ByteArray.toList_eq, hT, bs_data, HFe.out]; exact h.2)))
          obtain ⟨rfl, rfl⟩ := HR.out
          have hb1 : (T.toList == s.toList) = false := by rw [beq_eq_false_iff_ne]; exact hts
          have hb2 : (T.toList != s.toList) = true := by rw [bne, hb1]; rfl
          clear hpk hT hts
          go_wp2_with fail
          refine (implIsPolynomial_yes _ _ _ _ _ HO7.out.rd H.out).mono ?_
          rintro e w' ⟨rfl, rfl⟩
          go_wp2_with fail
          refine (polynomialText_at HTx.out _ HO7.out.rd H.out (HE.out.below HB7.out).1).mono ?_
          rintro e w8 ⟨rfl, hb8⟩
          have HB8 := Lib.hid (bl_trans HB7.out hb8)
          clear hb8
          go_wp2
          go_ret2
          exact ⟨none, 0, rfl, OwnC.nil (by unfold maxLen; omega), HB8.out⟩
      · have H := Lib.hid hpk
        have HR : Hid (L = [] ∧ C = 6) := Lib.hid (by
          rw [HL.out, HC.out]
          exact rf_no (fun h => hpk (by rw [HFe.out]; exact h.1)))
        obtain ⟨rfl, rfl⟩ := HR.out
        clear hpk
        go_wp2_with fail
        refine (implIsPolynomial_no _ _ _ _ _ HO7.out.rd H.out).mono ?_
        rintro e w' ⟨rfl, rfl⟩
        go_wp2
        go_ret2
        exact ⟨none, 0, rfl, OwnC.nil (by unfold maxLen; omega), HB7.out⟩
end Go.Proofs.YtgajgonepcikbaaDoor
