
/- Texts in a walk: the reader of signed numerals; the program's reader of numerals. -/
import Derived.Test.YtgajgonepcikbaaDoorStr2
import Derived.Lib.ParseIntBTie
namespace Go.Proofs.YtgajgonepcikbaaDoor
open Go.RowKit Go.Joins

theorem ext_data (s : ByteArray) (a b : Nat) : (s.extract a b).data.toList = (s.data.toList.drop a).take (b - a) := by
  conv => lhs; rw [bs_of s]
  unfold bs
  rw [ByteArray.extract_mk]
theorem ls_cons {c : UInt8} {r : List UInt8} : lsV (c :: r) = (if c = 45 then -lvV r else lvV (c :: r)) ∧ lsB (c :: r) = (if c = 45 then (lvB r && decide (0 < lvV r)) else lvB (c :: r)) := by
  by_cases h : c = 45
  · subst h; exact ⟨rfl, rfl⟩
  · rw [if_neg h, if_neg h]
    constructor
    · unfold lsV
      split
      · rename_i h2; injection h2 with h2; exact absurd h2 h
      · rfl
    · unfold lsB
      split
      · rename_i h2; injection h2 with h2; exact absurd h2 h
      · rfl
theorem lv_bd (l : List UInt8) : 0 ≤ lvV l ∧ lvV l ≤ 9999999999999 := by
  unfold lvV
  split
  · rename_i h
    have := dval_lt h.2 h.1.2
    omega
  · omega
theorem data_cons {s : ByteArray} (h : 0 < s.size) : s.data.toList = s[0] :: s.data.toList.drop 1 := by
  have h2 : 0 < s.data.toList.length := by rw [size_data]; exact h
  conv => lhs; rw [← List.drop_zero (l := s.data.toList)]
  rw [List.drop_eq_getElem_cons h2]
  rfl

set_option maxHeartbeats 800000 in
theorem l01Signed_at {s : ByteArray} {V : Int} {B : Bool} (hV : V = lsV s.data.toList) (hB : B = lsB s.data.toList) (hs : s.size ≤ 1048576) (w : World) :
    Calls Tryd.prog 80 #[.string s] w fun e w' => e = .returned (.tuple #[.int .i64 V, .bool B]) ∧ Below w.heap.size w w' := by
  by_cases h0 : 0 < s.size
  · have hc := data_cons h0
    by_cases hm : s[0].toNat = 45
    · have h45 : s[0] = 45 := UInt8.toNat_inj.1 hm
      obtain ⟨t, ht⟩ : ∃ t, t = s.extract 1 s.size := ⟨_, rfl⟩
      obtain ⟨x, hx⟩ : ∃ x, x = lvV t.data.toList := ⟨_, rfl⟩
      obtain ⟨y, hy⟩ : ∃ y, y = lvB t.data.toList := ⟨_, rfl⟩
      have HX := Lib.hid hx
      have HY := Lib.hid hy
      have hb := lv_bd t.data.toList
      rw [← hx] at hb
      have ⟨b1, b2⟩ := hb
      have htd : t.data.toList = s.data.toList.drop 1 := by
        rw [ht, ext_data, List.take_of_length_le (by rw [List.length_drop, size_data]; exact Nat.le_refl _)]
      have htz : t.size ≤ 1048576 := by rw [← size_data, htd, List.length_drop, size_data]; omega
      have HV : Hid (V = -x ∧ B = (y && decide (0 < x))) := Lib.hid (by
        rw [hV, hB, hx, hy, htd, hc, ls_cons.1, ls_cons.2, if_pos h45, if_pos h45]
        exact ⟨rfl, rfl⟩)
      have HTe := Lib.hid ht
      have hbyte : ((s[0].toNat : Int) == 45) = true := by simp; omega
      clear hc h45 hx hy hb htd hV hB hm
      obtain ⟨rfl, rfl⟩ := HV.out
      clear HV
      rw [ht] at HX HY htz
      clear ht HTe
      go_enter Tryd.func80, Tryd.ntmps80
      go_wp2_with fail
      refine (l01Value_at HX.out HY.out htz w).mono ?_
      rintro e w1 ⟨rfl, hb⟩
      have HB := Lib.hid hb
      clear hb
      cases y with
      | true =>
        go_wp2
        go_ret2
        exact ⟨rfl, HB.out⟩
      | false =>
        go_wp2
        go_ret2
        exact ⟨rfl, HB.out⟩
    · have h45 : ¬ s[0] = 45 := fun h => hm (by rw [h]; rfl)
      have HV : Hid (V = lvV s.data.toList ∧ B = lvB s.data.toList) := Lib.hid (by
        rw [hV, hB, hc, ls_cons.1, ls_cons.2, if_neg h45, if_neg h45]
        exact ⟨rfl, rfl⟩)
      have hbyte : ((s[0].toNat : Int) == 45) = false := by simp; omega
      clear hc h45 hV hB hm
      go_enter Tryd.func80, Tryd.ntmps80
      go_wp2_with fail
      refine (l01Value_at HV.out.1 HV.out.2 hs w).mono ?_
      rintro e w1 ⟨rfl, hb⟩
      have HB := Lib.hid hb
      clear hb
      go_wp2
      go_ret2
      exact ⟨rfl, HB.out⟩
  · have hl : s.data.toList = [] := List.eq_nil_of_length_eq_zero (by rw [size_data]; omega)
    have HV : Hid (V = lvV s.data.toList ∧ B = lvB s.data.toList) := Lib.hid (by rw [hV, hB, hl]; exact ⟨rfl, rfl⟩)
    clear hl hV hB
    go_enter Tryd.func80, Tryd.ntmps80
    go_wp2_with fail
    refine (l01Value_at HV.out.1 HV.out.2 hs w).mono ?_
    rintro e w1 ⟨rfl, hb⟩
    have HB := Lib.hid hb
    clear hb
    go_wp2
    go_ret2
    exact ⟨rfl, HB.out⟩

/-- what a walk of the readers is told of the package-level variables -/
def Er (w : World) : Prop := Tb w ∧ (∃ tp p, w.var? Tryd.prog "strconv.ErrSyntax" = some #[.iface tp p]) ∧ (∃ tp p, w.var? Tryd.prog "strconv.ErrRange" = some #[.iface tp p]) ∧ ∃ m, w.cell? ⟨0, 0, none⟩ = some (.int .i64 m)
theorem gSyn : Tryd.prog.globalNamed "strconv.ErrSyntax" = some 1 := by kernel_rfl
theorem gRan : Tryd.prog.globalNamed "strconv.ErrRange" = some 2 := by kernel_rfl
theorem Er.below {w w' : World} (h : Er w) (hb : Below w.heap.size w w') : Er w' := by
  obtain ⟨h1, ⟨t2, p2, h2⟩, ⟨t3, p3, h3⟩, m, h4⟩ := h
  exact ⟨h1.below hb, ⟨t2, p2, var_stays gSyn h2 hb (Nat.le_refl _)⟩, ⟨t3, p3, var_stays gRan h3 hb (Nat.le_refl _)⟩, m, keep_cell hb h4⟩
theorem below_bytes (w : World) (e : TypeId) (t : ByteArray) : Below w.heap.size w (Lib.bytesWorld w e t) :=
  ⟨rfl, rfl, rfl, by simp [Lib.bytesWorld, World.freeze, World.alloc, World.drew, -World.alloc_eq, -World.drew_eq], fun j hj => Lib.bytesWorld_at_old w e t j hj⟩

set_option maxHeartbeats 800000 in
theorem readDecimal_at {s : ByteArray} {V : Int} {B : Bool} (hV : V = rdV s.data.toList) (hB : B = rdB s.data.toList) (hs : s.size ≤ 1048576) (w : World) (hE : Er w) :
    Calls Tryd.prog 83 #[.string s] w fun e w' => e = .returned (.tuple #[.int .i64 V, .bool B]) ∧ Below w.heap.size w w' := by
  have HE := Lib.hid hE
  clear hE
  rcases hp : Lib.parseIntB 64 s.data.toList with v | _ | _
  · have HP := Lib.hid hp
    have hbd := Lib.parseIntB_bounds hp
    rw [show (2 ^ (64 - 1) : Nat) = 9223372036854775808 by decide] at hbd
    have HV : Hid (V = v ∧ B = ((bs (Lib.itoa v)).toList == s.toList)) := Lib.hid (by
      rw [hV, hB, bs_toList, ByteArray.toList_eq]; unfold rdV rdB; rw [hp]; exact ⟨rfl, rfl⟩)
    obtain ⟨D, hD⟩ : ∃ D, D = bs (Lib.itoa v) := ⟨_, rfl⟩
    rw [← hD] at HV
    obtain ⟨rfl, rfl⟩ := HV.out
    have HD := Lib.hid hD
    have v1 : -9223372036854775808 ≤ V := by omega
    have v2 : V ≤ 9223372036854775807 := by omega
    clear hp hV hB HV hD hbd
    go_enter Tryd.func83, Tryd.ntmps83
    go_wp2_with fail
    refine (Tryd.strconv_ParseInt_10_at64_ok s (by omega) V HP.out w).mono ?_
    rintro e w1 ⟨rfl, hw⟩
    have HB1 : Hid (Below w.heap.size w w1) := Lib.hid (by
      rcases hw with rfl | ⟨t, rfl⟩
      · exact Below.refl _ _
      · exact below_bytes _ _ _)
    clear hw
    go_wp2_with fail
    refine (decimal_any V v1 v2 w1 (HE.out.below HB1.out).1).mono ?_
    rintro e w2 ⟨rfl, hb⟩
    have HB2 := Lib.hid (bl_trans HB1.out hb)
    clear hb
    rw [← HD.out]
    go_wp2
    go_ret2
    exact ⟨rfl, HB2.out⟩
  · have HP : Hid ((∀ v, Lib.parseIntB 64 s.data.toList ≠ .ok v) ∧ Lib.parseIntB 64 s.data.toList ≠ .range) := Lib.hid (by rw [hp]; exact ⟨(fun v h => by cases h), (fun h => by cases h)⟩)
    have HV : Hid (V = 0 ∧ B = false) := Lib.hid (by
      rw [hV, hB]; unfold rdV rdB; rw [hp]; exact ⟨rfl, rfl⟩)
    obtain ⟨rfl, rfl⟩ := HV.out
    obtain ⟨tp, p, hvar⟩ := HE.out.2.1
    have HVar := Lib.hid hvar
    clear hp hV hB HV hvar
    go_enter Tryd.func83, Tryd.ntmps83
    go_wp2_with fail
    refine (Tryd.strconv_ParseInt_10_at64_syntax_var s (by omega) HP.out.1 HP.out.2 tp p w HVar.out).mono ?_
    rintro e w1 ⟨N, rfl, _, _, hb⟩
    have HB1 := Lib.hid hb
    clear hb
    go_wp2
    go_ret2
    exact ⟨rfl, HB1.out⟩
  · have HP := Lib.hid hp
    have HV : Hid (V = Lib.intSat 64 s.data.toList ∧ B = false) := Lib.hid (by
      rw [hV, hB]; unfold rdV rdB; rw [hp]; exact ⟨rfl, rfl⟩)
    have HV2 : Hid (B = false) := Lib.hid HV.out.2
    obtain rfl := HV2.out
    obtain ⟨tp, p, hvar⟩ := HE.out.2.2.1
    have HVar := Lib.hid hvar
    clear hp hV hB hvar HV2
    go_enter Tryd.func83, Tryd.ntmps83
    go_wp2_with fail
    refine (Tryd.strconv_ParseInt_10_at64_range_var s (by omega) HP.out tp p w HVar.out).mono ?_
    rintro e w1 ⟨N, rfl, _, _, hb⟩
    have HB1 := Lib.hid hb
    clear hb
    rw [← HV.out.1]
    go_wp2
    go_ret2
    exact ⟨rfl, HB1.out⟩
end Go.Proofs.YtgajgonepcikbaaDoor
