
/- Texts in a walk: a text cut at a byte, by the reference and by the program. -/
import Derived.Test.YtgajgonepcikbaaDoorStr3
import Derived.Test.YtgajgonepcikbaaDoorOwn
import Derived.Lib.SplitLaws
namespace Go.Proofs.YtgajgonepcikbaaDoor
open Go.RowKit Go.Joins

theorem infoStr : (Tryd.prog.info? 9).map (fun i => (i.zero, i.size, i.bytes)) = some (some (.string ByteArray.empty), 1, 16) := by kernel_rfl
theorem ext_bs (s : ByteArray) (a b : Nat) : s.extract a b = bs ((s.data.toList.drop a).take (b - a)) := by
  rw [← ext_data, ← bs_of]
theorem newS (w : World) (x : ByteArray) (T : TypeId) : ∀ j u, [Value.string x][j]? = some u → (w.alloc (.cells #[.string x] T)).cell? ((⟨w.heap.size, 0, none⟩ : Addr).add j) = some u := by
  intro j u hj
  match j, hj with
  | 0, hj => simp at hj; subst hj; simp [Addr.add]
theorem oneS (x : ByteArray) : ∀ u ∈ [Value.string x], u.oneCell' = true := by
  intro u hu; simp at hu; subst hu; rfl
/-- the cells of texts -/
def tcs (W : List (List UInt8)) : List Value := W.map fun l => .string (bs l)
theorem tcs_app (W : List (List UInt8)) (l : List UInt8) : tcs (W ++ [l]) = tcs W ++ [.string (bs l)] := by simp [tcs]
theorem tcs_len (W : List (List UInt8)) : (tcs W).length = W.length := by simp [tcs]
theorem tcs_at (W : List (List UInt8)) {i : Nat} (h : i < W.length) : (tcs W)[i]? = some (.string (bs (W.getD i []))) := by
  simp [tcs, List.getElem?_eq_getElem h, List.getD]
/-- the slice holds the texts W -/
def RdT (w : World) (A : Option Addr) (n c : Nat) (W : List (List UInt8)) : Prop := RdC 1 w A n c (tcs W)
theorem RdT.below {w w' : World} {A : Option Addr} {n c : Nat} {W : List (List UInt8)} (h : RdT w A n c W) (hb : Below w.heap.size w w') : RdT w' A n c W := RdC.below h hb
theorem RdT.len {w : World} {A : Option Addr} {n c : Nat} {W : List (List UInt8)} (h : RdT w A n c W) : W.length = n := by have := h.1; rw [tcs_len] at this; omega
theorem RdT.at_ {w : World} {A : Option Addr} {n c : Nat} {W : List (List UInt8)} (h : RdT w A n c W) (hn : 0 < n) : ∃ b off, A = some ⟨b, off, none⟩ ∧ b < w.heap.size ∧ ∀ i, i < n → w.cell? ⟨b, off + i, none⟩ = some (.string (bs (W.getD i []))) := by
  obtain ⟨b, off, e, hb, hc⟩ := h.2.2.2 hn
  exact ⟨b, off, e, hb, fun i hi => by rw [hc i (by omega), tcs_at _ (by rw [h.len]; exact hi)]⟩
/-- the words so far -/
def SplI (c : UInt8) (l : List UInt8) (W : List (List UInt8)) (f i : Nat) : Prop :=
  (i ≤ l.length ∧ f ≤ i ∧ spl c l = W ++ spl c (l.drop f) ∧ c ∉ (l.drop f).take (i - f)) ∨ (i = l.length + 1 ∧ f = i ∧ W = spl c l)
theorem SplI.start (c : UInt8) (l : List UInt8) : SplI c l [] 0 0 := .inl ⟨by omega, by omega, by simp, by simp⟩
theorem take_at {l : List UInt8} {f i : Nat} (hf : f ≤ i) (hi : i < l.length) : (l.drop f).take (i + 1 - f) = (l.drop f).take (i - f) ++ [l[i]] := by
  rw [show i + 1 - f = (i - f) + 1 by omega, List.take_succ_eq_append_getElem (by rw [List.length_drop]; omega)]
  congr 2
  rw [List.getElem_drop]
  congr 1
  omega
theorem drop_at {l : List UInt8} {f i : Nat} (hf : f ≤ i) (hi : i < l.length) : l.drop f = (l.drop f).take (i - f) ++ l[i] :: l.drop (i + 1) := by
  conv => lhs; rw [← List.take_append_drop (i - f) (l.drop f)]
  rw [List.drop_drop, show f + (i - f) = i by omega, List.drop_eq_getElem_cons hi]
theorem SplI.hit {c : UInt8} {l : List UInt8} {W : List (List UInt8)} {f i : Nat} (h : SplI c l W f i) (hi : i < l.length) (hc : l[i] = c) : SplI c l (W ++ [(l.drop f).take (i - f)]) (i + 1) (i + 1) := by
  rcases h with ⟨h1, h2, h3, h4⟩ | ⟨h1, _⟩
  · refine .inl ⟨by omega, by omega, ?_, by simp⟩
    rw [h3]
    conv => lhs; rw [drop_at h2 hi, hc, spl_app _ h4]
    simp
  · omega
theorem SplI.miss {c : UInt8} {l : List UInt8} {W : List (List UInt8)} {f i : Nat} (h : SplI c l W f i) (hi : i < l.length) (hc : ¬ l[i] = c) : SplI c l W f (i + 1) := by
  rcases h with ⟨h1, h2, h3, h4⟩ | ⟨h1, _⟩
  · refine .inl ⟨by omega, by omega, h3, ?_⟩
    rw [take_at h2 hi]
    intro hm
    rcases List.mem_append.1 hm with hm | hm
    · exact h4 hm
    · simp at hm; exact hc hm.symm
  · omega
theorem SplI.last {c : UInt8} {l : List UInt8} {W : List (List UInt8)} {f i : Nat} (h : SplI c l W f i) (hi : i = l.length) : SplI c l (W ++ [(l.drop f).take (i - f)]) (i + 1) (i + 1) := by
  rcases h with ⟨h1, h2, h3, h4⟩ | ⟨h1, _⟩
  · refine .inr ⟨by omega, rfl, ?_⟩
    have e : (l.drop f).take (i - f) = l.drop f := List.take_of_length_le (by rw [List.length_drop]; omega)
    rw [e] at h4 ⊢
    rw [h3, spl_not h4]
  · omega
theorem SplI.done {c : UInt8} {l : List UInt8} {W : List (List UInt8)} {f i : Nat} (h : SplI c l W f i) (hi : l.length < i) : W = spl c l := by
  rcases h with ⟨h1, _⟩ | ⟨_, _, h⟩
  · omega
  · exact h
theorem SplI.le {c : UInt8} {l : List UInt8} {W : List (List UInt8)} {f i : Nat} (h : SplI c l W f i) : f ≤ i := by
  rcases h with ⟨_, h, _⟩ | ⟨_, h, _⟩ <;> omega

set_option maxRecDepth 100000 in
set_option maxHeartbeats 1600000 in
theorem l01Split_any (s : ByteArray) (c : UInt8) (ci : Int) (hci : ci = c.toNat) (w : World) (hs : s.size ≤ 1048576) :
    Calls Tryd.prog 79 #[.string s, .int .u8 ci] w fun e w' => ∃ A cap, e = .returned (.slice A (spl c s.data.toList).length cap) ∧ OwnC 9 1 w' w.heap.size A (spl c s.data.toList).length cap (tcs (spl c s.data.toList)) ∧ Below w.heap.size w w' := by
  obtain ⟨i0, hi, hz0, hz1, hz2⟩ := info_parts infoStr
  have HI := Lib.hid hi
  have HZ0 := Lib.hid hz0
  have HZ1 := Lib.hid hz1
  have HZ2 := Lib.hid hz2
  clear hi hz0 hz1 hz2
  have HLn := Lib.hid (size_data s)
  have HCi := Lib.hid hci
  have c1 : 0 ≤ ci := by omega
  have c2 : ci ≤ 255 := by have := c.toNat_lt; omega
  clear hci
  go_enter Tryd.func79, Tryd.ntmps79
  go_wp2
  go_loopw [5, 6, 7] (fun v fv iv wr => ∃ (f i cnt : Nat) (W : List (List UInt8)), f ≤ i ∧ i ≤ s.size + 1 ∧ cnt ≤ i ∧ fv = .int .i64 f ∧ iv = .int .i64 i ∧ Hid (SplI c s.data.toList W f i ∧ W.length = cnt) ∧ Hid (wr.ownsRow w.heap.size 9 1 v cnt (tcs W)) ∧ Hid (Below w.heap.size w wr)) (fun _ _ iv _ => s.size + 1 - (intOf iv).toNat)
  case atStart => exact ⟨0, 0, 0, [], by omega, by omega, by omega, rfl, rfl, Lib.hid ⟨SplI.start _ _, rfl⟩, Lib.hid ⟨rfl, .inr ⟨w.heap.size, 0, #[], rfl, Nat.le_refl _, heap_alloc_new w _, Nat.le_refl _, by unfold maxLen; omega, rfl, rfl⟩⟩, Lib.hid (bl_alloc (Below.refl _ _) _)⟩
  case round =>
    obtain ⟨f, i, cnt, W, hfi, hin, hcnt, rfl, rfl, HS, HO, HB⟩ := hrel
    obtain ⟨wo, rfl⟩ : ∃ wo : World, wo = wr := ⟨_, rfl⟩
    have hl1 : cnt + 1 ≤ maxLen := by unfold maxLen; omega
    have hl2 : (cnt + 1) * 16 ≤ 140737488355328 := by omega
    by_cases hlt : i < s.size
    · have hne : ((i : Int) == (s.size : Int)) = false := by simp; omega
      have HAt : Hid (s.data.toList[i]'(by rw [HLn.out]; exact hlt) = s[i]) := Lib.hid rfl
      by_cases hb : s[i] = c
      · have hbt : ((s[i].toNat : Int) == ci) = true := by rw [HCi.out, hb]; simp
        have HS2 := Lib.hid (HS.out.1.hit (by rw [HLn.out]; exact hlt) (HAt.out.trans hb))
        obtain ⟨T, hT⟩ : ∃ T, T = s.extract f i := ⟨_, rfl⟩
        have HT : Hid (T = bs ((s.data.toList.drop f).take (i - f))) := Lib.hid (by rw [hT, ext_bs])
        have HTe := Lib.hid hT
        clear hb HAt hT
        go_wp2_with (at_builtin; refine wpList_append_own _ rfl _ _ _ rfl w.heap.size 9 i0 (.string ByteArray.empty) 1 16 Tryd.underlying85 HI.out HZ0.out HZ1.out HZ2.out rfl (by decide) _ cnt (tcs W) rfl (HO.out.alloc _) ⟨wo.heap.size, 0, none⟩ 1 1 [.string (s.extract f i)] rfl rfl (newS _ _ _) (oneS _) hl1 hl2 (by have := HB.out.size; simp; omega) ?_; intro v' w2 hown' hgrow _)
        have HO2 : Hid (w2.ownsRow w.heap.size 9 1 v' (cnt + 1) (tcs (W ++ [(s.data.toList.drop f).take (i - f)]))) := Lib.hid (by rw [tcs_app, ← HT.out, HTe.out]; exact hown')
        have HB2 : Hid (Below w.heap.size w w2) := Lib.hid (Below.grown (bl_alloc HB.out _) hgrow (by have := HB.out.size; simp; omega) (fun k hk => (HO.out.lt k hk).1))
        clear hown' hgrow hl1 hl2
        go_wp2
        go_roundw
        case rel => exact ⟨i + 1, i + 1, cnt + 1, _, by omega, by omega, by omega, by go_num, by go_num, Lib.hid ⟨HS2.out, by rw [List.length_append, HS.out.2]; rfl⟩, HO2, HB2⟩
        case measure => simp [intOf]; omega
      · have hbt : ((s[i].toNat : Int) == ci) = false := by
          rw [HCi.out]
          have : ¬ s[i].toNat = c.toNat := fun h => hb (UInt8.toNat_inj.1 h)
          simp; omega
        have HS2 := Lib.hid (HS.out.1.miss (by rw [HLn.out]; exact hlt) (fun h => hb (HAt.out.symm.trans h)))
        clear hb HAt hl1 hl2
        go_wp2
        go_roundw
        case rel => exact ⟨f, i + 1, cnt, W, by omega, by omega, by omega, rfl, by go_num, Lib.hid ⟨HS2.out, HS.out.2⟩, HO, HB⟩
        case measure => simp [intOf]; omega
    · by_cases hq : i = s.size
      · have hne : ((i : Int) == (s.size : Int)) = true := by simp; omega
        have HS2 := Lib.hid (HS.out.1.last (by rw [HLn.out]; exact hq))
        obtain ⟨T, hT⟩ : ∃ T, T = s.extract f i := ⟨_, rfl⟩
        have HT : Hid (T = bs ((s.data.toList.drop f).take (i - f))) := Lib.hid (by rw [hT, ext_bs])
        have HTe := Lib.hid hT
        have hle : i ≤ s.size := by omega
        clear hq hT
        go_wp2_with (at_builtin; refine wpList_append_own _ rfl _ _ _ rfl w.heap.size 9 i0 (.string ByteArray.empty) 1 16 Tryd.underlying85 HI.out HZ0.out HZ1.out HZ2.out rfl (by decide) _ cnt (tcs W) rfl (HO.out.alloc _) ⟨wo.heap.size, 0, none⟩ 1 1 [.string (s.extract f i)] rfl rfl (newS _ _ _) (oneS _) hl1 hl2 (by have := HB.out.size; simp; omega) ?_; intro v' w2 hown' hgrow _)
        have HO2 : Hid (w2.ownsRow w.heap.size 9 1 v' (cnt + 1) (tcs (W ++ [(s.data.toList.drop f).take (i - f)]))) := Lib.hid (by rw [tcs_app, ← HT.out, HTe.out]; exact hown')
        have HB2 : Hid (Below w.heap.size w w2) := Lib.hid (Below.grown (bl_alloc HB.out _) hgrow (by have := HB.out.size; simp; omega) (fun k hk => (HO.out.lt k hk).1))
        clear hown' hgrow hl1 hl2
        go_wp2
        go_roundw
        case rel => exact ⟨i + 1, i + 1, cnt + 1, _, by omega, by omega, by omega, by go_num, by go_num, Lib.hid ⟨HS2.out, by rw [List.length_append, HS.out.2]; rfl⟩, HO2, HB2⟩
        case measure => simp [intOf]; omega
      · have HW : Hid (W = spl c s.data.toList ∧ cnt = (spl c s.data.toList).length) := Lib.hid (by
          have e := HS.out.1.done (by rw [HLn.out]; omega)
          exact ⟨e, by rw [← e, HS.out.2]⟩)
        obtain ⟨A2, c2', rfl, _⟩ := own_cells HO.out
        go_wp2
        go_ret
        exact ⟨A2, c2', by rw [← HW.out.2]; rfl, by rw [← HW.out.2, ← HW.out.1]; exact OwnC.of_row HO.out, HB.out⟩
end Go.Proofs.YtgajgonepcikbaaDoor
