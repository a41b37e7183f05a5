
/- The reference's reader of polynomials, plain: what a term gives, byte by byte. -/
import Derived.Test.YtgajgonepcikbaaDoorRdF2
namespace Go.Proofs.YtgajgonepcikbaaDoor
open Go.RowKit Go.Joins Go.Lib

/-- the coefficient of a term -/
def cvQ (a : List UInt8) : Int := if a = [] then 1 else lvV a
/-- what l06Term gives -/
def tmQ (w : List UInt8) : Int × Int × Bool :=
  if w = [] ∨ ¬ ((cut w [120]).1 = [] ∨ lvB (cut w [120]).1 = true) then (0, 0, false)
  else if ¬ (cut w [120]).2.2 = true then (cvQ (cut w [120]).1, 0, true)
  else if (cut w [120]).2.1 = [] then (cvQ (cut w [120]).1, 1, true)
  else if ¬ (cut w [120]).2.1.head? = some 94 then (0, 0, false)
  else (cvQ (cut w [120]).1, lvV (cut w [120]).2.1.tail, lvB (cut w [120]).2.1.tail && (decide (2 ≤ lvV (cut w [120]).2.1.tail) && decide (lvV (cut w [120]).2.1.tail ≤ 8)))
theorem tmS_Q (w : List UInt8) : tmS w = if (tmQ w).2.2 = true then some ((tmQ w).1, (tmQ w).2.1) else none := by
  unfold tmS tmQ
  by_cases h1 : w = [] ∨ ¬ ((cut w [120]).1 = [] ∨ lvB (cut w [120]).1 = true)
  · rw [if_pos h1, if_pos h1]; rfl
  rw [if_neg h1, if_neg h1]
  by_cases h2 : ¬ (cut w [120]).2.2 = true
  · rw [if_pos h2, if_pos h2]; rfl
  rw [if_neg h2, if_neg h2]
  by_cases h3 : (cut w [120]).2.1 = []
  · rw [if_pos h3, if_pos h3]; rfl
  rw [if_neg h3, if_neg h3]
  by_cases h4 : ¬ (cut w [120]).2.1.head? = some 94
  · rw [if_pos h4, if_pos h4]; rfl
  rw [if_neg h4, if_neg h4]
  simp only [Bool.and_eq_true, decide_eq_true_eq]
  rfl
theorem cvQ_bd (a : List UInt8) : 0 ≤ cvQ a ∧ cvQ a ≤ 9999999999999 := by
  unfold cvQ
  have := lv_bd a
  split <;> omega
theorem tmQ_bd (w : List UInt8) : (0 ≤ (tmQ w).1 ∧ (tmQ w).1 ≤ 9999999999999) ∧ (0 ≤ (tmQ w).2.1 ∧ (tmQ w).2.1 ≤ 9999999999999) ∧ ((tmQ w).2.2 = true → (tmQ w).2.1 ≤ 8) := by
  have h1 := cvQ_bd (cut w [120]).1
  have h2 := lv_bd (cut w [120]).2.1.tail
  unfold tmQ
  split
  · exact ⟨⟨by decide, by decide⟩, ⟨by decide, by decide⟩, by simp⟩
  split
  · exact ⟨h1, ⟨(by decide : (0 : Int) ≤ 0), (by decide : (0 : Int) ≤ 9999999999999)⟩, fun _ => (by decide : (0 : Int) ≤ 8)⟩
  split
  · exact ⟨h1, ⟨(by decide : (0 : Int) ≤ 1), (by decide : (1 : Int) ≤ 9999999999999)⟩, fun _ => (by decide : (1 : Int) ≤ 8)⟩
  split
  · exact ⟨⟨by decide, by decide⟩, ⟨by decide, by decide⟩, by simp⟩
  refine ⟨h1, h2, fun h => ?_⟩
  simp only [Bool.and_eq_true, decide_eq_true_eq] at h
  exact h.2.2
theorem at_list {s : ByteArray} {i : Nat} (_h : i < s.size) (h2 : i < s.data.toList.length) : s.data.toList[i] = s[i] := rfl
theorem cut_idx {s : ByteArray} {i : Nat} (hi : i ≤ s.size) (hno : (120 : UInt8) ∉ s.data.toList.take i) (hit : ∀ h : i < s.size, s[i] = 120) :
    cut s.data.toList [120] = (s.data.toList.take i, s.data.toList.drop (i + 1), decide (i < s.size)) := by
  have hl := size_data s
  rcases Nat.lt_or_ge i s.size with h | h
  · conv => lhs; rw [← List.take_append_drop i s.data.toList, List.drop_eq_getElem_cons (by omega), at_list h, hit h]
    rw [cut_app _ hno]
    simp [h]
  · have e : s.data.toList.take i = s.data.toList := List.take_of_length_le (by omega)
    rw [e] at hno ⊢
    rw [cut_not hno, List.drop_eq_nil_of_le (by omega)]
    simp; omega
/-- what is known behind the search of the x -/
def TmI (s : ByteArray) (i : Nat) (cv : Int) (ob : Bool) : Prop := i ≤ s.size ∧ (120 : UInt8) ∉ s.data.toList.take i ∧ (∀ h : i < s.size, s[i] = 120) ∧ cv = (if i = 0 then 1 else lvV (s.extract 0 i).data.toList) ∧ ob = (if i = 0 then true else lvB (s.extract 0 i).data.toList)
theorem TmI.parts {s : ByteArray} {i : Nat} {cv : Int} {ob : Bool} (h : TmI s i cv ob) : (cut s.data.toList [120]) = (s.data.toList.take i, s.data.toList.drop (i + 1), decide (i < s.size)) ∧ ((s.data.toList.take i = [] ∨ lvB (s.data.toList.take i) = true) ↔ ob = true) ∧ cvQ (s.data.toList.take i) = cv := by
  obtain ⟨h1, h2, h3, h4, h5⟩ := h
  refine ⟨cut_idx h1 h2 h3, ?_⟩
  have hl := size_data s
  have e : (s.extract 0 i).data.toList = s.data.toList.take i := by rw [ext_data]; simp
  rw [e] at h4 h5
  rcases Nat.eq_zero_or_pos i with h0 | h0
  · subst h0
    rw [h4, h5]
    unfold cvQ
    simp
  · have hne : ¬ s.data.toList.take i = [] := by
      intro hn
      have := congrArg List.length hn
      rw [List.length_take, List.length_nil] at this
      omega
    rw [h4, h5, if_neg (by omega), if_neg (by omega)]
    unfold cvQ
    rw [if_neg hne]
    exact ⟨⟨fun h => h.resolve_left hne, .inr⟩, rfl⟩
theorem TmI.bad {s : ByteArray} {i : Nat} {cv : Int} {ob : Bool} (h : TmI s i cv ob) (hb : s.data.toList = [] ∨ ob = false) : tmQ s.data.toList = (0, 0, false) := by
  obtain ⟨e1, e2, e3⟩ := h.parts
  unfold tmQ
  rw [e1]
  refine if_pos ?_
  rcases hb with hb | hb
  · exact .inl hb
  · refine .inr fun hx => ?_
    have := e2.1 hx
    rw [hb] at this
    cases this
theorem TmI.good {s : ByteArray} {i : Nat} {cv : Int} (h : TmI s i cv true) (hb : ¬ s.data.toList = []) :
    tmQ s.data.toList = if i = s.size then (cv, 0, true) else if i = s.size - 1 then (cv, 1, true) else if ∃ h : i + 1 < s.size, s[i + 1] = 94 then (cv, lvV (s.extract (i + 2) s.size).data.toList, lvB (s.extract (i + 2) s.size).data.toList && (decide (2 ≤ lvV (s.extract (i + 2) s.size).data.toList) && decide (lvV (s.extract (i + 2) s.size).data.toList ≤ 8))) else (0, 0, false) := by
  obtain ⟨e1, e2, e3⟩ := h.parts
  have hl := size_data s
  have hi := h.1
  unfold tmQ
  rw [e1]
  simp only
  rw [if_neg (by rintro (h | h); exact hb h; exact h (e2.2 rfl)), e3]
  by_cases h1 : i = s.size
  · rw [if_pos h1, if_pos (by simp; omega)]
  rw [if_neg h1, if_neg (by simp; omega)]
  by_cases h2 : i = s.size - 1
  · rw [if_pos h2, if_pos (List.drop_eq_nil_of_le (by omega))]
  rw [if_neg h2]
  have hlt : i + 1 < s.size := by omega
  have ed : s.data.toList.drop (i + 1) = s[i + 1] :: s.data.toList.drop (i + 2) := by
    rw [List.drop_eq_getElem_cons (by omega), at_list hlt]
  have ex : (s.extract (i + 2) s.size).data.toList = s.data.toList.drop (i + 2) := by
    rw [ext_data, List.take_of_length_le (by rw [List.length_drop]; omega)]
  rw [ed, ex]
  rw [if_neg (by simp)]
  simp only [List.head?_cons, Option.some.injEq, List.tail_cons]
  by_cases h3 : s[i + 1] = 94
  · rw [if_neg (by simp [h3]), if_pos ⟨hlt, h3⟩]
    rfl
  · rw [if_pos h3, if_neg (fun ⟨_, h⟩ => h3 h)]

/-! ### the words -/
/-- the state of the reader ahead of byte i: the word begins at f -/
def RdI (l : List UInt8) (F : List Int) (f i : Nat) : Prop :=
  (i ≤ l.length ∧ f ≤ i ∧ (f = i → i = 0) ∧ plS l = rdW ((l.drop f).take (i - f)) (l.drop i) F) ∨ (i = l.length + 1 ∧ f + 1 = i ∧ plS l = some F)
theorem RdI.start (l : List UInt8) : RdI l zer9 0 0 := .inl ⟨by omega, by omega, fun _ => rfl, by simp [plS]⟩
theorem RdI.le {l : List UInt8} {F : List Int} {f i : Nat} (h : RdI l F f i) : f ≤ i := by
  rcases h with ⟨_, h, _⟩ | ⟨_, h, _⟩ <;> omega
theorem word_nil {l : List UInt8} {f i : Nat} (hi : i ≤ l.length) (hf : f ≤ i) : (l.drop f).take (i - f) = [] ↔ f = i := by
  constructor
  · intro h
    have := congrArg List.length h
    rw [List.length_take, List.length_drop] at this
    simp at this
    omega
  · rintro rfl; simp
theorem RdI.skip {l : List UInt8} {F : List Int} {f i : Nat} (h : RdI l F f i) (hi : i < l.length) (hc : ¬ isS l[i] ∨ i = 0) : RdI l F f (i + 1) := by
  rcases h with ⟨h1, h2, h3, h4⟩ | ⟨h1, _⟩
  · refine .inl ⟨by omega, by omega, by omega, ?_⟩
    rw [h4, List.drop_eq_getElem_cons hi, take_at h2 hi]
    show (if _ then _ else _) = _
    rw [if_neg ?_]
    rintro ⟨a, b⟩
    rcases hc with hc | hc
    · exact hc a
    · exact b ((word_nil h1 h2).2 (by omega))
  · omega
theorem RdI.step {l : List UInt8} {F : List Int} {f i : Nat} (h : RdI l F f i) (hi : i ≤ l.length) (hc : ∀ h : i < l.length, isS l[i] ∧ ¬ i = 0) :
    (stS F ((l.drop f).take (i - f)) = none → plS l = none) ∧ ∀ G, stS F ((l.drop f).take (i - f)) = some G → RdI l G i (i + 1) := by
  rcases h with ⟨h1, h2, h3, h4⟩ | ⟨h1, _⟩
  · rcases Nat.lt_or_ge i l.length with hlt | hge
    · have ⟨c1, c2⟩ := hc hlt
      have e : plS l = (match stS F ((l.drop f).take (i - f)) with
          | none => none
          | some g => rdW [l[i]] (l.drop (i + 1)) g) := by
        rw [h4]
        conv => lhs; rw [List.drop_eq_getElem_cons hlt]
        show (if _ then _ else _) = _
        rw [if_pos ⟨c1, fun hn => c2 (h3 ((word_nil h1 h2).1 hn))⟩]
        rfl
      constructor
      · intro hn
        rw [e, hn]
      · intro G hG
        rw [hG] at e
        refine .inl ⟨by omega, by omega, by omega, ?_⟩
        rw [e, show i + 1 - i = 1 by omega, List.drop_eq_getElem_cons hlt]
        rfl
    · obtain rfl : i = l.length := by omega
      rw [List.drop_length] at h4
      constructor
      · intro hn
        rw [h4]; exact hn
      · intro G hG
        exact .inr ⟨rfl, rfl, by rw [h4]; exact hG⟩
  · omega
theorem RdI.done {l : List UInt8} {F : List Int} {f i : Nat} (h : RdI l F f i) (hi : l.length < i) : plS l = some F := by
  rcases h with ⟨h1, _⟩ | ⟨_, _, h⟩
  · omega
  · exact h
/-- a word read -/
theorem stS_Q {F : List Int} {w v : List UInt8} {sg c k : Int} {ok : Bool} (hv : v = stripW w) (hs : sg = signW w) (hq : tmQ v = (c, k, ok)) :
    stS F w = if ok = true ∧ c ≤ 1000000 then some (F.set k.toNat (sg * c)) else none := by
  unfold stS
  rw [← hv, ← hs, tmS_Q, hq]
  cases ok with
  | false => simp
  | true =>
    simp only [if_true, true_and]
    by_cases h : c ≤ 1000000
    · rw [if_neg (by omega), if_pos h]
    · rw [if_pos (by omega), if_neg h]
end Go.Proofs.YtgajgonepcikbaaDoor

namespace Go.Proofs.YtgajgonepcikbaaDoor
open Go.RowKit Go.Joins

set_option maxRecDepth 100000 in
set_option maxHeartbeats 3200000 in
theorem l06Term_at {s : ByteArray} {c k : Int} {ok : Bool} (hq : tmQ s.data.toList = (c, k, ok)) (hs : s.size ≤ 1048576) (w : World) :
    Calls Tryd.prog 86 #[.string s] w fun e w' => e = .returned (.tuple #[.int .i64 c, .int .i64 k, .bool ok]) ∧ Below w.heap.size w w' := by
  have HQ := Lib.hid hq
  have HLn := Lib.hid (size_data s)
  clear hq
  go_enter Tryd.func86, Tryd.ntmps86
  go_wp2
  go_loopg [5] s.size (fun g iv wr => ∃ i : Nat, g = s.size - i ∧ i ≤ s.size ∧ iv = .int .i64 i ∧ wr = w ∧ Hid ((120 : UInt8) ∉ s.data.toList.take i))
  case atStart => exact ⟨0, by omega, Nat.zero_le _, rfl, rfl, Lib.hid (by simp)⟩
  case round =>
    obtain ⟨i, rfl, hi, rfl, rfl, HN⟩ := hrel
    by_cases hgo : ∃ h : i < s.size, ¬ s[i] = 120
    · obtain ⟨hlt, hne⟩ := hgo
      have hb : ((s[i].toNat : Int) != 120) = true := by
        have : ¬ s[i].toNat = 120 := fun h => hne (UInt8.toNat_inj.1 h)
        simp; omega
      have HN2 : Hid ((120 : UInt8) ∉ s.data.toList.take (i + 1)) := Lib.hid (by
        rw [take_snocB s i hlt]
        intro hm
        rcases List.mem_append.1 hm with h | h
        · exact HN.out h
        · simp at h; exact hne h.symm)
      clear hne HN
      go_wp2
      go_roundg (s.size - (i + 1))
      case measure => omega
      case rel => exact ⟨i + 1, rfl, by omega, by go_num, rfl, HN2⟩
    · have hit : ∀ h : i < s.size, s[i] = 120 := fun h => Classical.byContradiction fun hn => hgo ⟨h, hn⟩
      obtain ⟨A, hA⟩ : ∃ A, A = s.extract 0 i := ⟨_, rfl⟩
      obtain ⟨cv, hcv⟩ : ∃ v : Int, v = if i = 0 then 1 else lvV (s.extract 0 i).data.toList := ⟨_, rfl⟩
      obtain ⟨ob, hob⟩ : ∃ v : Bool, v = if i = 0 then true else lvB (s.extract 0 i).data.toList := ⟨_, rfl⟩
      have HT : Hid (TmI s i cv ob) := Lib.hid ⟨hi, HN.out, hit, hcv, hob⟩
      have HCV := Lib.hid hcv
      have HOB := Lib.hid hob
      clear hA hcv hob hgo
      have hc1 : ((i : Int) < (s.size : Int) → True) := fun _ => trivial
      clear hc1
      rcases Nat.lt_or_ge i s.size with hlt | hge
      · have hb : ((s[i].toNat : Int) != 120) = false := by rw [hit hlt]; rfl
        have hsne : ¬ s.data.toList = [] := by intro h; have := HLn.out; rw [h] at this; simp at this; omega
        clear hit
        go_upto_if 23 with fail
        go_cut [6, 7] (fun s6 s7 wx => s6 = .int .i64 cv ∧ s7 = .bool ob ∧ Hid (Below wr.heap.size wr wx))
        case first =>
          by_cases h0 : 0 < i
          · have hz : (s.extract 0 i).size ≤ 1048576 := by rw [ByteArray.size_extract]; omega
            have HC1 : Hid (cv = lvV (s.extract 0 i).data.toList ∧ ob = lvB (s.extract 0 i).data.toList) := Lib.hid (by
              have a := HCV.out
              have b := HOB.out
              rw [if_neg (by omega)] at a b
              exact ⟨a, b⟩)
            clear HCV HOB
            go_wp2_with fail
            refine (l01Value_at HC1.out.1 HC1.out.2 hz _).mono ?_
            rintro e w1 ⟨rfl, hb1⟩
            have HB1 := Lib.hid hb1
            clear hb1
            go_wp2
            go_meet
            exact ⟨rfl, rfl, HB1⟩
          · obtain rfl : i = 0 := by omega
            obtain rfl : cv = 1 := HCV.out
            obtain rfl : ob = true := HOB.out
            clear HCV HOB h0
            go_wp2
            go_meet
            exact ⟨rfl, rfl, Lib.hid (Below.refl _ _)⟩
        case rest =>
          obtain ⟨rfl, rfl, HB⟩ := hcut
          clear HCV HOB HN
          have he1 : s.toList.isEmpty = false := by rw [ByteArray.toList_eq]; simpa using hsne
          have hne1 : ((i : Int) == (s.size : Int)) = false := by simp; omega
          cases ob with
          | false =>
            have HR : Hid (c = 0 ∧ k = 0 ∧ ok = false) := Lib.hid (by
              have := HQ.out
              rw [HT.out.bad (.inr rfl)] at this
              injection this with a b
              injection b with b d
              exact ⟨a.symm, b.symm, d.symm⟩)
            obtain ⟨rfl, rfl, rfl⟩ := HR.out
            clear HR hsne
            go_wp2
            go_ret3
            exact ⟨rfl, HB.out⟩
          | true =>
            have HG := Lib.hid (HT.out.good hsne)
            have hsz : ¬ i = s.size := by omega
            clear hsne
            by_cases h1 : i = s.size - 1
            · have hne2 : ((i : Int) == (s.size : Int) - 1) = true := by simp; omega
              have HR : Hid (c = cv ∧ k = 1 ∧ ok = true) := Lib.hid (by
                have := HQ.out
                rw [HG.out, if_neg hsz, if_pos h1] at this
                injection this with a b
                injection b with b d
                exact ⟨a.symm, b.symm, d.symm⟩)
              obtain ⟨rfl, rfl, rfl⟩ := HR.out
              clear HR h1 hsz
              go_wp2
              go_ret3
              exact ⟨rfl, HB.out⟩
            · have hne2 : ((i : Int) == (s.size : Int) - 1) = false := by simp; omega
              have hl1 : i + 1 < s.size := by omega
              by_cases h2 : s[i + 1] = 94
              · obtain ⟨x, hx⟩ : ∃ x, x = lvV (s.extract (i + 2) s.size).data.toList := ⟨_, rfl⟩
                obtain ⟨xb, hxb⟩ : ∃ x, x = lvB (s.extract (i + 2) s.size).data.toList := ⟨_, rfl⟩
                have HR : Hid (c = cv ∧ k = x ∧ ok = (xb && (decide (2 ≤ x) && decide (x ≤ 8)))) := Lib.hid (by
                  have := HQ.out
                  rw [HG.out, if_neg hsz, if_neg h1, if_pos ⟨hl1, h2⟩, ← hx, ← hxb] at this
                  injection this with a b
                  injection b with b d
                  exact ⟨a.symm, b.symm, d.symm⟩)
                obtain ⟨rfl, rfl, rfl⟩ := HR.out
                have HX := Lib.hid hx
                have HXb := Lib.hid hxb
                have hz : (s.extract (i + 2) s.size).size ≤ 1048576 := by rw [ByteArray.size_extract]; omega
                have hb2 : ((s[i + 1].toNat : Int) != 94) = false := by rw [h2]; rfl
                clear HR h1 hsz h2 hx hxb
                go_wp2_with fail
                refine (l01Value_at HX.out HXb.out hz _).mono ?_
                rintro e w1 ⟨rfl, hb1⟩
                have HB1 := Lib.hid (bl_trans HB.out hb1)
                clear hb1
                cases xb with
                | false =>
                  go_wp2
                  go_ret3
                  exact ⟨rfl, HB1.out⟩
                | true =>
                  go_wp2_with (go_at_call 103; refine (l01In_any _ _ _ _).mono ?_; rintro e w' ⟨rfl, rfl⟩)
                  go_ret3
                  exact ⟨by simp, HB1.out⟩
              · have hb2 : ((s[i + 1].toNat : Int) != 94) = true := by
                  have : ¬ s[i + 1].toNat = 94 := fun h => h2 (UInt8.toNat_inj.1 h)
                  simp; omega
                have HR : Hid (c = 0 ∧ k = 0 ∧ ok = false) := Lib.hid (by
                  have := HQ.out
                  rw [HG.out, if_neg hsz, if_neg h1, if_neg (fun ⟨_, h⟩ => h2 h)] at this
                  injection this with a b
                  injection b with b d
                  exact ⟨a.symm, b.symm, d.symm⟩)
                obtain ⟨rfl, rfl, rfl⟩ := HR.out
                clear HR h1 hsz h2
                go_wp2
                go_ret3
                exact ⟨rfl, HB.out⟩
      · have his : i = s.size := by omega
        have HIS := Lib.hid his
        clear hit his
        go_upto_if 23 with fail
        go_cut [6, 7] (fun s6 s7 wx => s6 = .int .i64 cv ∧ s7 = .bool ob ∧ Hid (Below wr.heap.size wr wx))
        case first =>
          by_cases h0 : 0 < i
          · have hz : (s.extract 0 i).size ≤ 1048576 := by rw [ByteArray.size_extract]; omega
            have HC1 : Hid (cv = lvV (s.extract 0 i).data.toList ∧ ob = lvB (s.extract 0 i).data.toList) := Lib.hid (by
              have a := HCV.out
              have b := HOB.out
              rw [if_neg (by omega)] at a b
              exact ⟨a, b⟩)
            clear HCV HOB
            go_wp2_with fail
            refine (l01Value_at HC1.out.1 HC1.out.2 hz _).mono ?_
            rintro e w1 ⟨rfl, hb1⟩
            have HB1 := Lib.hid hb1
            clear hb1
            go_wp2
            go_meet
            exact ⟨rfl, rfl, HB1⟩
          · have h00 : i = 0 := by omega
            obtain rfl : cv = 1 := by rw [HCV.out, if_pos h00]
            obtain rfl : ob = true := by rw [HOB.out, if_pos h00]
            clear HCV HOB
            go_wp2
            go_meet
            exact ⟨rfl, rfl, Lib.hid (Below.refl _ _)⟩
        case rest =>
          obtain ⟨rfl, rfl, HB⟩ := hcut
          clear HCV HOB HN
          by_cases hbad : s.data.toList = [] ∨ ob = false
          · have HR : Hid (c = 0 ∧ k = 0 ∧ ok = false) := Lib.hid (by
              have := HQ.out
              rw [HT.out.bad hbad] at this
              injection this with a b
              injection b with b d
              exact ⟨a.symm, b.symm, d.symm⟩)
            obtain ⟨rfl, rfl, rfl⟩ := HR.out
            clear HR
            cases ob with
            | false =>
              clear hbad
              go_wp2
              go_ret3
              exact ⟨rfl, HB.out⟩
            | true =>
              have he1 : s.toList.isEmpty = true := by
                rcases hbad with h | h
                · rw [ByteArray.toList_eq, h]; rfl
                · cases h
              clear hbad
              go_wp2
              go_ret3
              exact ⟨rfl, HB.out⟩
          · obtain rfl : ob = true := by cases ob with
              | false => exact absurd (.inr rfl) hbad
              | true => rfl
            have hsne : ¬ s.data.toList = [] := fun h => hbad (.inl h)
            have he1 : s.toList.isEmpty = false := by rw [ByteArray.toList_eq]; simpa using hsne
            have HR : Hid (c = cv ∧ k = 0 ∧ ok = true) := Lib.hid (by
              have := HQ.out
              rw [HT.out.good hsne, if_pos HIS.out] at this
              injection this with a b
              injection b with b d
              exact ⟨a.symm, b.symm, d.symm⟩)
            obtain ⟨rfl, rfl, rfl⟩ := HR.out
            have hne1 : ((i : Int) == (s.size : Int)) = true := by rw [HIS.out]; simp
            clear HR hbad hsne
            go_wp2
            go_ret3
            exact ⟨rfl, HB.out⟩
end Go.Proofs.YtgajgonepcikbaaDoor

namespace Go.Proofs.YtgajgonepcikbaaDoor
open Go.RowKit Go.Joins

theorem rf_S {l : List UInt8} {F : List Int} (h : plS l = some F) : (RfOk l (trimL (plP l)) → RfOk l (trimL F) ∧ trimL F = trimL (plP l)) ∧ (RfOk l (trimL F) → RfOk l (trimL (plP l)) ∧ trimL F = trimL (plP l)) := by
  constructor
  · intro hr
    have e := hr.both.2
    rw [h] at e
    injection e with e
    have e2 : trimL F = trimL (plP l) := by rw [e, trim_pad hr.1]
    exact ⟨by rw [e2]; exact hr, e2⟩
  · intro hr
    have e := hr.both.1
    exact ⟨by rw [e]; exact hr, e.symm⟩
theorem byte_ne {x y : UInt8} {z : Int} (h : ¬ x = y) (hz : z = y.toNat := by rfl) : ((x.toNat : Int) != z) = true := by
  have : ¬ x.toNat = y.toNat := fun e => h (UInt8.toNat_inj.1 e)
  subst hz
  simp; omega
theorem byte_nb {x y : UInt8} {z : Int} (h : ¬ x = y) (hz : z = y.toNat := by rfl) : ((x.toNat : Int) == z) = false := by
  have : ¬ x.toNat = y.toNat := fun e => h (UInt8.toNat_inj.1 e)
  subst hz
  simp; omega
theorem strip_no {s : ByteArray} (h : ∀ h : 0 < s.size, ¬ isS s[0]) : stripW s.data.toList = s.data.toList ∧ signW s.data.toList = 1 := by
  rcases Nat.eq_zero_or_pos s.size with h0 | h0
  · have : s.data.toList = [] := List.eq_nil_of_length_eq_zero (by rw [size_data]; exact h0)
    rw [this]
    decide
  · have hc := data_cons h0
    have hn := h h0
    unfold isS at hn
    rw [hc]
    unfold stripW signW
    simp only [List.head?_cons, Option.some.injEq, List.tail_cons]
    rw [if_neg hn, if_neg (fun e => hn (.inr e))]
    exact ⟨rfl, rfl⟩
theorem strip_yes {s : ByteArray} (h0 : 0 < s.size) (h : isS s[0]) : stripW s.data.toList = s.data.toList.drop 1 ∧ signW s.data.toList = if s[0] = 45 then -1 else 1 := by
  have hc := data_cons h0
  unfold isS at h
  rw [hc]
  unfold stripW signW
  simp only [List.head?_cons, Option.some.injEq, List.tail_cons, List.drop_one]
  rw [if_pos h]
  exact ⟨rfl, trivial⟩
theorem rf_none {l : List UInt8} (h : plS l = none) : rfL l = [] ∧ rfC l = 6 := rf_no fun hr => by
  have := hr.both.2
  rw [h] at this
  cases this

set_option maxRecDepth 100000 in
set_option maxHeartbeats 3200000 in
theorem specReadPolynomial_at {s : ByteArray} {L : List Int} {C : Int} (hL : L = rfL s.data.toList) (hC : C = rfC s.data.toList) (hs : s.size ≤ 1048576) (w : World) :
    Calls Tryd.prog 43 #[.string s] w fun e w' => ∃ A c, e = .returned (.tuple #[.slice A L.length c, .int .i64 C]) ∧ OwnI w' w.heap.size A L.length c L ∧ Below w.heap.size w w' := by
  obtain ⟨i0, hi, hz0, hz1, hz2⟩ := info_parts infoI64
  have HI := Lib.hid hi
  have HZ0 := Lib.hid hz0
  have HZ1 := Lib.hid hz1
  have hm1 : i0.bytes * 9 ≤ 281474976710656 := by rw [hz2]; omega
  have hm2 : 9 ≤ maxLen := by unfold maxLen; omega
  clear hi hz0 hz1 hz2
  have HL := Lib.hid hL
  have HC := Lib.hid hC
  have HLn := Lib.hid (size_data s)
  clear hL hC
  go_enter Tryd.func43, Tryd.ntmps43
  go_wp2_with (at_make; refine wpList_make_full _ rfl _ _ _ rfl w.heap.size 2 i0 (.int .i64 0) 1 Tryd.underlying29 HI.out HZ0.out HZ1.out .i64 .i64 9 9 9 rfl rfl rfl rfl hm1 hm2 (Nat.le_refl _) ?_; intro w1 hown hgrow)
  have HO1 : Hid (OwnI w1 w.heap.size (some ⟨w.heap.size, 0, none⟩) 9 9 zer9) := Lib.hid ((show tab 9 (fun _ => 0) = zer9 from by decide) ▸ own_tab hown)
  have HB1 := Lib.hid ((Below.refl w.heap.size w).grown hgrow (Nat.le_refl _) (by simp))
  clear hown hgrow hm1 hm2
  go_wp2
  go_loopg [5, 6, 7, 8, 9, 10, 11] (s.size + 1) (fun g sf si _ _ _ _ _ wr => ∃ (f i : Nat) (F : List Int), g = s.size + 1 - i ∧ i ≤ s.size + 1 ∧ f ≤ i ∧ sf = .int .i64 f ∧ si = .int .i64 i ∧ Hid (RdI s.data.toList F f i) ∧ Hid (OwnI wr w.heap.size (some ⟨w.heap.size, 0, none⟩) 9 9 F) ∧ Hid (Below w.heap.size w wr))
  case atStart => exact ⟨0, 0, zer9, rfl, by omega, by omega, rfl, rfl, Lib.hid (RdI.start _), HO1, HB1⟩
  case round =>
    obtain ⟨f, i, F, rfl, hi, hfi, rfl, rfl, HI, HO, HB⟩ := hrel
    by_cases hle : i ≤ s.size
    · obtain ⟨sk, hsk⟩ : ∃ sk : Bool, sk = decide (∃ h : i < s.size, ¬ isS s[i] ∨ i = 0) := ⟨_, rfl⟩
      have HSk := Lib.hid hsk
      clear hsk
      go_upto_region 6 with fail
      go_cut [39] (fun t wx => wr = wx ∧ t = .bool sk)
      case first =>
        rcases Nat.lt_or_ge i s.size with hlt | hge
        · rcases Nat.eq_zero_or_pos i with h0 | h0
          · subst h0
            by_cases hx : s[0] = 43
            · obtain rfl : sk = true := HSk.out.trans (decide_eq_true ⟨hlt, .inr rfl⟩)
              have f1 : ((s[0].toNat : Int) != 43) = false := by rw [hx]; rfl
              clear HSk
              clear hx
              go_wp2
              go_meet
              exact ⟨rfl, rfl⟩
            · have hn43 : ¬ s[0] = 43 := hx
              clear hx
              by_cases hx : s[0] = 45
              · obtain rfl : sk = true := HSk.out.trans (decide_eq_true ⟨hlt, .inr rfl⟩)
                have f1 : ((s[0].toNat : Int) != 43) = true := byte_ne hn43
                have f2 : ((s[0].toNat : Int) != 45) = false := by rw [hx]; rfl
                clear HSk
                clear hx hn43
                go_wp2
                go_meet
                exact ⟨rfl, rfl⟩
              · have hn45 : ¬ s[0] = 45 := hx
                clear hx
                have hx : ¬ isS s[0] := fun h => h.elim hn43 hn45
                obtain rfl : sk = true := HSk.out.trans (decide_eq_true ⟨hlt, .inr rfl⟩)
                have f1 : ((s[0].toNat : Int) != 43) = true := byte_ne hn43
                have f2 : ((s[0].toNat : Int) != 45) = true := byte_ne hn45
                clear HSk
                clear hx hn43 hn45
                go_wp2
                go_meet
                exact ⟨rfl, rfl⟩
          · have hi0 : ((i : Int) == 0) = false := by simp; omega
            by_cases hx : s[i] = 43
            · obtain rfl : sk = false := HSk.out.trans (decide_eq_false (fun ⟨_, h⟩ => h.elim (fun h => h (by unfold isS; rw [hx]; simp)) (by omega)))
              have f1 : ((s[i].toNat : Int) != 43) = false := by rw [hx]; rfl
              clear HSk
              clear hx
              go_wp2
              go_meet
              exact ⟨rfl, rfl⟩
            · have hn43 : ¬ s[i] = 43 := hx
              clear hx
              by_cases hx : s[i] = 45
              · obtain rfl : sk = false := HSk.out.trans (decide_eq_false (fun ⟨_, h⟩ => h.elim (fun h => h (by unfold isS; rw [hx]; simp)) (by omega)))
                have f1 : ((s[i].toNat : Int) != 43) = true := byte_ne hn43
                have f2 : ((s[i].toNat : Int) != 45) = false := by rw [hx]; rfl
                clear HSk
                clear hx hn43
                go_wp2
                go_meet
                exact ⟨rfl, rfl⟩
              · have hn45 : ¬ s[i] = 45 := hx
                clear hx
                have hx : ¬ isS s[i] := fun h => h.elim hn43 hn45
                obtain rfl : sk = true := HSk.out.trans (decide_eq_true ⟨hlt, .inl hx⟩)
                have f1 : ((s[i].toNat : Int) != 43) = true := byte_ne hn43
                have f2 : ((s[i].toNat : Int) != 45) = true := byte_ne hn45
                clear HSk
                clear hx hn43 hn45
                go_wp2
                go_meet
                exact ⟨rfl, rfl⟩
        · obtain rfl : sk = false := by rw [HSk.out]; simp; omega
          clear HSk
          go_wp2
          go_meet
          exact ⟨rfl, rfl⟩
      case rest =>
        obtain ⟨rfl, rfl⟩ := hcut
        cases sk with
        | true =>
          have HI2 : Hid (RdI s.data.toList F f (i + 1)) := Lib.hid (by
            obtain ⟨h, hx⟩ := of_decide_eq_true HSk.out.symm
            exact HI.out.skip (by rw [HLn.out]; exact h) hx)
          have hlt : i < s.size := (of_decide_eq_true HSk.out.symm).1
          clear HSk HI
          go_wp2
          go_roundg (s.size + 1 - (i + 1))
          case measure => omega
          case rel => exact ⟨f, i + 1, F, rfl, by omega, by omega, rfl, by go_num, HI2, HO, HB⟩
        | false =>
          have HSt := Lib.hid (HI.out.step (by rw [HLn.out]; exact hle) (fun h => by
            have := of_decide_eq_false HSk.out.symm
            rw [HLn.out] at h
            constructor
            · exact Classical.byContradiction fun hn => this ⟨h, .inl hn⟩
            · exact fun hn => this ⟨h, .inr hn⟩))
          clear HSk HI
          obtain ⟨W, hW⟩ : ∃ W, W = s.extract f i := ⟨_, rfl⟩
          have HWd : Hid (W.data.toList = (s.data.toList.drop f).take (i - f)) := Lib.hid (by rw [hW, ext_data])
          have hWz : W.size ≤ 1048576 := by rw [hW, ByteArray.size_extract]; omega
          have HW := Lib.hid hW
          clear hW
          obtain ⟨V, hV⟩ : ∃ V, V = bs (stripW W.data.toList) := ⟨_, rfl⟩
          obtain ⟨sg, hsg⟩ : ∃ x, x = signW W.data.toList := ⟨_, rfl⟩
          have HV := Lib.hid hV
          have HSg := Lib.hid hsg
          clear hV hsg
          go_upto_region 9 with fail
          rw [← HW.out]
          obtain ⟨tb, htb⟩ : ∃ tb : Bool, tb = decide (∃ h : 0 < W.size, isS W[0]) := ⟨_, rfl⟩
          have HTb := Lib.hid htb
          clear htb
          go_cut [56] (fun t wx => wr = wx ∧ t = .bool tb)
          case first =>
            by_cases h0 : 0 < W.size
            · by_cases hx : W[0] = 43
              · obtain rfl : tb = true := HTb.out.trans (decide_eq_true ⟨h0, by unfold isS; rw [hx]; simp⟩)
                have f1 : ((W[0].toNat : Int) == 43) = true := by rw [hx]; rfl
                clear hx HTb
                go_wp2
                go_meet
                exact ⟨rfl, rfl⟩
              · have hn43 : ¬ W[0] = 43 := hx
                have f1 : ((W[0].toNat : Int) == 43) = false := byte_nb hn43
                clear hx
                by_cases hx : W[0] = 45
                · obtain rfl : tb = true := HTb.out.trans (decide_eq_true ⟨h0, by unfold isS; rw [hx]; simp⟩)
                  have f2 : ((W[0].toNat : Int) == 45) = true := by rw [hx]; rfl
                  clear hx hn43 HTb
                  go_wp2
                  go_meet
                  exact ⟨rfl, rfl⟩
                · obtain rfl : tb = false := HTb.out.trans (decide_eq_false (fun ⟨_, h⟩ => h.elim hn43 hx))
                  have f2 : ((W[0].toNat : Int) == 45) = false := byte_nb hx
                  clear hx hn43 HTb
                  go_wp2
                  go_meet
                  exact ⟨rfl, rfl⟩
            · obtain rfl : tb = false := HTb.out.trans (decide_eq_false (fun ⟨h, _⟩ => h0 h))
              clear HTb
              go_wp2
              go_meet
              exact ⟨rfl, rfl⟩
          case rest =>
            obtain ⟨rfl, rfl⟩ := hcut
            go_upto_if 56 with fail
            go_cut [7, 8] (fun s7 s8 wx => wr = wx ∧ s7 = .string V ∧ s8 = .int .i64 sg)
            case first =>
              cases tb with
              | false =>
                have HE : Hid (V = W ∧ sg = 1) := Lib.hid (by
                  have hn := of_decide_eq_false HTb.out.symm
                  have := strip_no (s := W) (fun h hx => hn ⟨h, hx⟩)
                  rw [HV.out, HSg.out, this.1, this.2]
                  exact ⟨(bs_of W).symm, rfl⟩)
                obtain ⟨rfl, rfl⟩ := HE.out
                clear HTb HE
                go_wp2
                go_meet
                exact ⟨rfl, rfl, rfl⟩
              | true =>
                obtain ⟨h0, hx⟩ := of_decide_eq_true HTb.out.symm
                have HE : Hid (V = W.extract 1 W.size ∧ sg = if W[0] = 45 then -1 else 1) := Lib.hid (by
                  have := strip_yes h0 hx
                  rw [HV.out, HSg.out, this.1, this.2]
                  exact ⟨by rw [ext_bs, List.take_of_length_le (by rw [List.length_drop, size_data]; omega)], rfl⟩)
                clear HTb
                rcases hx with hx | hx
                · obtain rfl : sg = 1 := by rw [HE.out.2, hx]; rfl
                  have HE1 := Lib.hid HE.out.1
                  have f1 : ((W[0].toNat : Int) == 45) = false := by rw [hx]; rfl
                  clear hx HE
                  go_wp2
                  go_meet
                  exact ⟨rfl, by rw [HE1.out], rfl⟩
                · obtain rfl : sg = -1 := by rw [HE.out.2, hx]; rfl
                  have HE1 := Lib.hid HE.out.1
                  have f1 : ((W[0].toNat : Int) == 45) = true := by rw [hx]; rfl
                  clear hx HE
                  go_wp2
                  go_meet
                  exact ⟨rfl, by rw [HE1.out], rfl⟩
            case rest =>
              obtain ⟨rfl, rfl, rfl⟩ := hcut
              clear HTb
              have hVz : V.size ≤ 1048576 := by
                rw [HV.out, bs_size]
                have : (stripW W.data.toList).length ≤ W.data.toList.length := by
                  unfold stripW
                  split
                  · simp
                  · exact Nat.le_refl _
                rw [size_data] at this
                omega
              obtain ⟨c, hc⟩ : ∃ c, c = (tmQ V.data.toList).1 := ⟨_, rfl⟩
              obtain ⟨k, hk⟩ : ∃ c, c = (tmQ V.data.toList).2.1 := ⟨_, rfl⟩
              obtain ⟨ok, hok⟩ : ∃ c, c = (tmQ V.data.toList).2.2 := ⟨_, rfl⟩
              have HQ : Hid (tmQ V.data.toList = (c, k, ok)) := Lib.hid (by rw [hc, hk, hok])
              have hbd := tmQ_bd V.data.toList
              rw [← hc, ← hk, ← hok] at hbd
              obtain ⟨⟨c1, c2⟩, ⟨k1, k2⟩, hk8⟩ := hbd
              have HK := Lib.hid hk8
              have HSS : Hid (stS F ((s.data.toList.drop f).take (i - f)) = if ok = true ∧ c ≤ 1000000 then some (F.set k.toNat (sg * c)) else none) := Lib.hid (by
                rw [← HWd.out]
                exact stS_Q (by rw [HV.out, bs_data]) HSg.out HQ.out)
              have hsg : sg = 1 ∨ sg = -1 := by
                rw [HSg.out]; unfold signW; split <;> simp
              clear hc hk hok hk8 HV HSg HW HWd
              go_wp2_with fail
              refine (l06Term_at HQ.out hVz _).mono ?_
              rintro e w3 ⟨rfl, hb3⟩
              have HO3 := Lib.hid (HO.out.below hb3)
              have HB3 := Lib.hid (bl_trans HB.out hb3)
              clear hb3 HO HB HQ
              by_cases hgood : ok = true ∧ c ≤ 1000000
              · obtain ⟨rfl, hcm⟩ := hgood
                have hk9 := HK.out rfl
                obtain ⟨j, rfl⟩ : ∃ j : Nat, k = (j : Int) := ⟨k.toNat, by omega⟩
                have hj : j < 9 := by omega
                obtain ⟨P, hP⟩ : ∃ P, P = sg * c := ⟨_, rfl⟩
                have HI2 : Hid (RdI s.data.toList (F.set j P) i (i + 1)) := Lib.hid (HSt.out.2 _ (by rw [HSS.out, if_pos ⟨rfl, hcm⟩, hP]; rfl))
                have ⟨q1, q2⟩ := HO3.out.at_ hj
                have HSet := Lib.hid (HO3.out.set_ j P).1
                have HB5 : Hid (Below w.heap.size w (w3.setCell ⟨w.heap.size, j, none⟩ (.int .i64 P))) := Lib.hid (bl_set HB3.out _ _ (Nat.le_refl _) _)
                have hj1 : (0 : Int) ≤ (j : Int) := by omega
                have hj2 : (j : Int) < 9 := by omega
                clear HSt HSS HK hk9 k1 k2
                rcases hsg with rfl | rfl
                · obtain rfl : P = c := by rw [hP]; omega
                  clear hP
                  go_wp2
                  go_roundg (s.size + 1 - (i + 1))
                  case measure => omega
                  case rel => exact ⟨i, i + 1, _, rfl, by omega, by omega, rfl, by go_num, HI2, HSet, HB5⟩
                · obtain rfl : P = -c := by rw [hP]; omega
                  clear hP
                  go_wp2
                  go_roundg (s.size + 1 - (i + 1))
                  case measure => omega
                  case rel => exact ⟨i, i + 1, _, rfl, by omega, by omega, rfl, by go_num, HI2, HSet, HB5⟩
              · have HR : Hid (L = [] ∧ C = 6) := Lib.hid (by
                  rw [HL.out, HC.out]
                  exact rf_none (HSt.out.1 (by rw [HSS.out, if_neg hgood])))
                obtain ⟨rfl, rfl⟩ := HR.out
                clear HSt HSS HK hsg
                cases ok with
                | false =>
                  clear hgood
                  go_wp2
                  go_ret2
                  exact ⟨none, 0, rfl, OwnC.nil (by unfold maxLen; omega), HB3.out⟩
                | true =>
                  have hbig : 1000000 < c := Classical.byContradiction fun h => hgood ⟨rfl, by omega⟩
                  clear hgood
                  go_wp2
                  go_ret2
                  exact ⟨none, 0, rfl, OwnC.nil (by unfold maxLen; omega), HB3.out⟩
    · have HS : Hid (plS s.data.toList = some F) := Lib.hid (HI.out.done (by rw [HLn.out]; omega))
      obtain ⟨G, hG⟩ : ∃ G, G = trimL F := ⟨_, rfl⟩
      have HGe := Lib.hid hG
      go_wp2_with fail
      refine (l06Trim_any _ _ _ _ _ HO.out.rd (by omega)).mono ?_
      rintro e w5 ⟨A5, c5, rfl, ho5, hb5⟩
      rw [← hG] at ho5 ⊢
      have HO7 : Hid (OwnI w5 w.heap.size A5 G.length c5 G) := Lib.hid (OwnC_loF ho5 HB.out.size)
      have HB7 := Lib.hid (bl_trans HB.out hb5)
      clear ho5 hb5 hG HO HI HB
      by_cases hpk : POk G
      · have H := Lib.hid hpk
        obtain ⟨T, hT⟩ : ∃ T, T = bs (plT G) := ⟨_, rfl⟩
        have HTx := Lib.hid hT
        by_cases hts : T.toList = s.toList
        · have HR : Hid (L = G ∧ C = 0) := Lib.hid (by
            have h : RfOk s.data.toList (trimL F) := by
              rw [← HGe.out]
              rw [ByteArray.toList_eq, ByteArray.toList_eq, hT, bs_data] at hts
              exact ⟨hpk, hts⟩
            have ⟨h2, h3⟩ := (rf_S HS.out).2 h
            rw [HL.out, HC.out, (rf_yes h2).1, (rf_yes h2).2, HGe.out, h3]
            exact ⟨rfl, rfl⟩)
          obtain ⟨rfl, rfl⟩ := HR.out
          have hb1 : (T.toList == s.toList) = true := by rw [hts]; simp
          have hb2 : (T.toList != s.toList) = false := by rw [hts]; simp
          clear hpk hT hts
          go_wp2_with fail
          refine (specIsPolynomial_yes _ _ _ _ _ HO7.out.rd H.out).mono ?_
          rintro e w' ⟨rfl, rfl⟩
          go_wp2_with fail
          refine (l06Text_at HTx.out _ HO7.out.rd H.out).mono ?_
          rintro e w8 ⟨rfl, hb8⟩
          have HB8 := Lib.hid (bl_trans HB7.out hb8)
          have HO8 := Lib.hid (HO7.out.below hb8)
          clear hb8
          go_wp2
          go_ret2
          exact ⟨A5, c5, rfl, HO8.out, HB8.out⟩
        · have HR : Hid (L = [] ∧ C = 6) := Lib.hid (by
            rw [HL.out, HC.out]
            exact rf_no (fun h => hts (by rw [ByteArray.toList_eq, ByteArray.toList_eq, hT, bs_data, HGe.out]; exact ((rf_S HS.out).1 h).1.2)))
          obtain ⟨rfl, rfl⟩ := HR.out
          have hb1 : (T.toList == s.toList) = false := by rw [beq_eq_false_iff_ne]; exact hts
          have hb2 : (T.toList != s.toList) = true := by rw [bne, hb1]; rfl
          clear hpk hT hts
          go_wp2_with fail
          refine (specIsPolynomial_yes _ _ _ _ _ HO7.out.rd H.out).mono ?_
          rintro e w' ⟨rfl, rfl⟩
          go_wp2_with fail
          refine (l06Text_at HTx.out _ HO7.out.rd H.out).mono ?_
          rintro e w8 ⟨rfl, hb8⟩
          have HB8 := Lib.hid (bl_trans HB7.out hb8)
          clear hb8
          go_wp2
          go_ret2
          exact ⟨none, 0, rfl, OwnC.nil (by unfold maxLen; omega), HB8.out⟩
      · have H := Lib.hid hpk
        have HR : Hid (L = [] ∧ C = 6) := Lib.hid (by
          rw [HL.out, HC.out]
          exact rf_no (fun h => hpk (by rw [HGe.out]; exact ((rf_S HS.out).1 h).1.1)))
        obtain ⟨rfl, rfl⟩ := HR.out
        clear hpk
        go_wp2_with fail
        refine (specIsPolynomial_no _ _ _ _ _ HO7.out.rd H.out).mono ?_
        rintro e w' ⟨rfl, rfl⟩
        go_wp2
        go_ret2
        exact ⟨none, 0, rfl, OwnC.nil (by unfold maxLen; omega), HB7.out⟩
end Go.Proofs.YtgajgonepcikbaaDoor
