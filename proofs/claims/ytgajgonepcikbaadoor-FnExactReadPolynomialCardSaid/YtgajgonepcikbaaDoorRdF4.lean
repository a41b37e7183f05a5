
/- A term read, by the reference. -/
import Derived.Test.YtgajgonepcikbaaDoorRdF3
namespace Go.Proofs.YtgajgonepcikbaaDoor
open Go.RowKit Go.Joins

set_option maxRecDepth 100000 in
set_option maxHeartbeats 3200000 in
theorem l06Term_at {s : ByteArray} {c k : Int} {ok : Bool} (hq : tmQ s.data.toList = (c, k, ok)) (hs : s.size ≤ 1048576) (w : World) :
    Calls Tryd.prog 86 #[.string s] w fun e w' => e = .returned (.tuple #[.int .i64 c, .int .i64 k, .bool ok]) ∧ Below w.heap.size w w' := by
  have HQ := Lib.hid hq
  have HLn := Lib.hid (size_data s)
  clear hq
  go_enter Tryd.func86, Tryd.ntmps86
  go_wp2
  go_loopg [5] s.size (fun g iv wr => ∃ i : Nat, g = s.size - i ∧ i ≤ s.size ∧ iv = .int .i64 i ∧ wr = w ∧ Hid ((120 : UInt8) ∉ s.data.toList.take i))
  case atStart => exact ⟨0, by omega, Nat.zero_le _, rfl, rfl, Lib.hid (by simp)⟩
  case round =>
    obtain ⟨i, rfl, hi, rfl, rfl, HN⟩ := hrel
    by_cases hgo : ∃ h : i < s.size, ¬ s[i] = 120
    · obtain ⟨hlt, hne⟩ := hgo
      have hb : ((s[i].toNat : Int) != 120) = true := by
        have : ¬ s[i].toNat = 120 := fun h => hne (UInt8.toNat_inj.1 h)
        simp; omega
      have HN2 : Hid ((120 : UInt8) ∉ s.data.toList.take (i + 1)) := Lib.hid (by
        rw [take_snocB s i hlt]
        intro hm
        rcases List.mem_append.1 hm with h | h
        · exact HN.out h
        · simp at h; exact hne h.symm)
      clear hne HN
      go_wp2
      go_roundg (s.size - (i + 1))
      case measure => omega
      case rel => exact ⟨i + 1, rfl, by omega, by go_num, rfl, HN2⟩
    · have hit : ∀ h : i < s.size, s[i] = 120 := fun h => Classical.byContradiction fun hn => hgo ⟨h, hn⟩
      obtain ⟨A, hA⟩ : ∃ A, A = s.extract 0 i := ⟨_, rfl⟩
      obtain ⟨cv, hcv⟩ : ∃ v : Int, v = if i = 0 then 1 else lvV (s.extract 0 i).data.toList := ⟨_, rfl⟩
      obtain ⟨ob, hob⟩ : ∃ v : Bool, v = if i = 0 then true else lvB (s.extract 0 i).data.toList := ⟨_, rfl⟩
      have HT : Hid (TmI s i cv ob) := Lib.hid ⟨hi, HN.out, hit, hcv, hob⟩
      have HCV := Lib.hid hcv
      have HOB := Lib.hid hob
      clear hA hcv hob hgo
      have hc1 : ((i : Int) < (s.size : Int) → True) := fun _ => trivial
      clear hc1
      rcases Nat.lt_or_ge i s.size with hlt | hge
      · have hb : ((s[i].toNat : Int) != 120) = false := by rw [hit hlt]; rfl
        have hsne : ¬ s.data.toList = [] := by intro h; have := HLn.out; rw [h] at this; simp at this; omega
        clear hit
        go_upto_if 23 with fail
        go_cut [6, 7] (fun s6 s7 wx => s6 = .int .i64 cv ∧ s7 = .bool ob ∧ Hid (Below wr.heap.size wr wx))
        case first =>
          by_cases h0 : 0 < i
          · have hz : (s.extract 0 i).size ≤ 1048576 := by rw [ByteArray.size_extract]; omega
            have HC1 : Hid (cv = lvV (s.extract 0 i).data.toList ∧ ob = lvB (s.extract 0 i).data.toList) := Lib.hid (by
              have a := HCV.out
              have b := HOB.out
              rw [if_neg (by omega)] at a b
              exact ⟨a, b⟩)
            clear HCV HOB
            go_wp2_with fail
            refine (l01Value_at HC1.out.1 HC1.out.2 hz _).mono ?_
            rintro e w1 ⟨rfl, hb1⟩
            have HB1 := Lib.hid hb1
            clear hb1
            go_wp2
            go_meet
            exact ⟨rfl, rfl, HB1⟩
          · obtain rfl : i = 0 := by omega
            obtain rfl : cv = 1 := HCV.out
            obtain rfl : ob = true := HOB.out
            clear HCV HOB h0
            go_wp2
            go_meet
            exact ⟨rfl, rfl, Lib.hid (Below.refl _ _)⟩
        case rest =>
          obtain ⟨rfl, rfl, HB⟩ := hcut
          clear HCV HOB HN
          have he1 : s.toList.isEmpty = false := by rw [ByteArray.toList_eq]; simpa using hsne
          have hne1 : ((i : Int) == (s.size : Int)) = false := by simp; omega
          cases ob with
          | false =>
            have HR : Hid (c = 0 ∧ k = 0 ∧ ok = false) := Lib.hid (by
              have := HQ.out
              rw [HT.out.bad (.inr rfl)] at this
              injection this with a b
              injection b with b d
              exact ⟨a.symm, b.symm, d.symm⟩)
            obtain ⟨rfl, rfl, rfl⟩ := HR.out
            clear HR hsne
            go_wp2
            go_ret3
            exact ⟨rfl, HB.out⟩
          | true =>
            have HG := Lib.hid (HT.out.good hsne)
            have hsz : ¬ i = s.size := by omega
            clear hsne
            by_cases h1 : i = s.size - 1
            · have hne2 : ((i : Int) == (s.size : Int) - 1) = true := by simp; omega
              have HR : Hid (c = cv ∧ k = 1 ∧ ok = true) := Lib.hid (by
                have := HQ.out
                rw [HG.out, if_neg hsz, if_pos h1] at this
                injection this with a b
                injection b with b d
                exact ⟨a.symm, b.symm, d.symm⟩)
              obtain ⟨rfl, rfl, rfl⟩ := HR.out
              clear HR h1 hsz
              go_wp2
              go_ret3
              exact ⟨rfl, HB.out⟩
            · have hne2 : ((i : Int) == (s.size : Int) - 1) = false := by simp; omega
              have hl1 : i + 1 < s.size := by omega
              by_cases h2 : s[i + 1] = 94
              · obtain ⟨x, hx⟩ : ∃ x, x = lvV (s.extract (i + 2) s.size).data.toList := ⟨_, rfl⟩
                obtain ⟨xb, hxb⟩ : ∃ x, x = lvB (s.extract (i + 2) s.size).data.toList := ⟨_, rfl⟩
                have HR : Hid (c = cv ∧ k = x ∧ ok = (xb && (decide (2 ≤ x) && decide (x ≤ 8)))) := Lib.hid (by
                  have := HQ.out
                  rw [HG.out, if_neg hsz, if_neg h1, if_pos ⟨hl1, h2⟩, ← hx, ← hxb] at this
                  injection this with a b
                  injection b with b d
                  exact ⟨a.symm, b.symm, d.symm⟩)
                obtain ⟨rfl, rfl, rfl⟩ := HR.out
                have HX := Lib.hid hx
                have HXb := Lib.hid hxb
                have hz : (s.extract (i + 2) s.size).size ≤ 1048576 := by rw [ByteArray.size_extract]; omega
                have hb2 : ((s[i + 1].toNat : Int) != 94) = false := by rw [h2]; rfl
                clear HR h1 hsz h2 hx hxb
                go_wp2_with fail
                refine (l01Value_at HX.out HXb.out hz _).mono ?_
                rintro e w1 ⟨rfl, hb1⟩
                have HB1 := Lib.hid (bl_trans HB.out hb1)
                clear hb1
                cases xb with
                | false =>
                  go_wp2
                  go_ret3
                  exact ⟨rfl, HB1.out⟩
                | true =>
                  go_wp2_with (go_at_call 103; refine (l01In_any _ _ _ _).mono ?_; rintro e w' ⟨rfl, rfl⟩)
                  go_ret3
                  exact ⟨by simp, HB1.out⟩
              · have hb2 : ((s[i + 1].toNat : Int) != 94) = true := by
                  have : ¬ s[i + 1].toNat = 94 := fun h => h2 (UInt8.toNat_inj.1 h)
                  simp; omega
                have HR : Hid (c = 0 ∧ k = 0 ∧ ok = false) := Lib.hid (by
                  have := HQ.out
                  rw [HG.out, if_neg hsz, if_neg h1, if_neg (fun ⟨_, h⟩ => h2 h)] at this
                  injection this with a b
                  injection b with b d
                  exact ⟨a.symm, b.symm, d.symm⟩)
                obtain ⟨rfl, rfl, rfl⟩ := HR.out
                clear HR h1 hsz h2
                go_wp2
                go_ret3
                exact ⟨rfl, HB.out⟩
      · have his : i = s.size := by omega
        have HIS := Lib.hid his
        clear hit his
        go_upto_if 23 with fail
        go_cut [6, 7] (fun s6 s7 wx => s6 = .int .i64 cv ∧ s7 = .bool ob ∧ Hid (Below wr.heap.size wr wx))
        case first =>
          by_cases h0 : 0 < i
          · have hz : (s.extract 0 i).size ≤ 1048576 := by rw [ByteArray.size_extract]; omega
            have HC1 : Hid (cv = lvV (s.extract 0 i).data.toList ∧ ob = lvB (s.extract 0 i).data.toList) := Lib.hid (by
              have a := HCV.out
              have b := HOB.out
              rw [if_neg (by omega)] at a b
              exact ⟨a, b⟩)
            clear HCV HOB
            go_wp2_with fail
            refine (l01Value_at HC1.out.1 HC1.out.2 hz _).mono ?_
            rintro e w1 ⟨rfl, hb1⟩
            have HB1 := Lib.hid hb1
            clear hb1
            go_wp2
            go_meet
            exact ⟨rfl, rfl, HB1⟩
          · have h00 : i = 0 := by omega
            obtain rfl : cv = 1 := by rw [HCV.out, if_pos h00]
            obtain rfl : ob = true := by rw [HOB.out, if_pos h00]
            clear HCV HOB
            go_wp2
            go_meet
            exact ⟨rfl, rfl, Lib.hid (Below.refl _ _)⟩
        case rest =>
          obtain ⟨rfl, rfl, HB⟩ := hcut
          clear HCV HOB HN
          by_cases hbad : s.data.toList = [] ∨ ob = false
          · have HR : Hid (c = 0 ∧ k = 0 ∧ ok = false) := Lib.hid (by
              have := HQ.out
              rw [HT.out.bad hbad] at this
              injection this with a b
              injection b with b d
              exact ⟨a.symm, b.symm, d.symm⟩)
            obtain ⟨rfl, rfl, rfl⟩ := HR.out
            clear HR
            cases ob with
            | false =>
              clear hbad
              go_wp2
              go_ret3
              exact ⟨rfl, HB.out⟩
            | true =>
              have he1 : s.toList.isEmpty = true := by
                rcases hbad with h | h
                · rw [ByteArray.toList_eq, h]; rfl
                · cases h
              clear hbad
              go_wp2
              go_ret3
              exact ⟨rfl, HB.out⟩
          · obtain rfl : ob = true := by cases ob with
              | false => exact absurd (.inr rfl) hbad
              | true => rfl
            have hsne : ¬ s.data.toList = [] := fun h => hbad (.inl h)
            have he1 : s.toList.isEmpty = false := by rw [ByteArray.toList_eq]; simpa using hsne
            have HR : Hid (c = cv ∧ k = 0 ∧ ok = true) := Lib.hid (by
              have := HQ.out
              rw [HT.out.good hsne, if_pos HIS.out] at this
              injection this with a b
              injection b with b d
              exact ⟨a.symm, b.symm, d.symm⟩)
            obtain ⟨rfl, rfl, rfl⟩ := HR.out
            have hne1 : ((i : Int) == (s.size : Int)) = true := by rw [HIS.out]; simp
            clear HR hbad hsne
            go_wp2
            go_ret3
            exact ⟨rfl, HB.out⟩
end Go.Proofs.YtgajgonepcikbaaDoor
