
/- The rows of a Sylvester matrix, as the reference makes them. -/
import Derived.Test.YthdmanngjnfamaaMat
import Derived.Test.YthdmanngjnfamaaCodes
import Derived.Deep.LoopGhost
namespace Go.Proofs.Ythdmanngjnfamaa
open Go.RowKit

/-- a row under way, from the first cell on -/
def rowP (f : List Int) (k i : Nat) : Nat → Int := fun j => if k ≤ j ∧ j < k + i then f.getD (f.length - 1 - (j - k)) 0 else 0
theorem rowP_zero (f : List Int) (N k : Nat) : tab N (rowP f k 0) = tab N (fun _ => 0) := tab_ext fun j _ => by unfold rowP; rw [if_neg (by omega)]
theorem rowP_set {f : List Int} {N k i : Nat} : tab N (fun j => if j = k + i then f.getD (f.length - 1 - i) 0 else rowP f k i j) = tab N (rowP f k (i + 1)) := tab_ext fun j _ => by
  unfold rowP
  by_cases e : j = k + i
  · rw [if_pos e, if_pos (by omega), show j - k = i by omega]
  · rw [if_neg e]
    by_cases e2 : k ≤ j ∧ j < k + i
    · rw [if_pos e2, if_pos (by omega)]
    · rw [if_neg e2, if_neg (by omega)]
theorem rowP_done (f : List Int) (N k : Nat) : tab N (rowP f k f.length) = rowF f N k := rfl
theorem rowsL_succ (f : List Int) (N k : Nat) (rs : List (List Int)) : (rs ++ rowsL f N k) ++ [rowF f N k] = rs ++ rowsL f N (k + 1) := by rw [List.append_assoc]; rfl

set_option maxRecDepth 100000 in
set_option maxHeartbeats 3200000 in
theorem l07Rows_any (W w : World) (v : Value) (gs : List Nat) (rs : List (List Int)) (N K : Nat) (B : Option Addr) (nf d : Nat) (f : List Int) (hR : Rd .i64 W B nf d f) (hb : Below W.heap.size W w) (hm : Mx w W.heap.size v N gs rs) (hN : 0 < N) (hN2 : N ≤ 100) (hf : 0 < nf) (hK : K + nf ≤ N + 1) (hg : gs.length ≤ 100) :
    Calls Try.prog 125 #[v, .slice B nf d, .int .i64 K, .int .i64 N] w fun e w' => ∃ (v' : Value) (gs' : List Nat), e = .returned v' ∧ gs'.length = gs.length + K ∧ Mx w' W.heap.size v' N gs' (rs ++ rowsL f N K) ∧ Below W.heap.size W w' := by
  obtain ⟨i0, hi, hz0, hz1, hz2⟩ := info_parts infoI64
  obtain ⟨ir, hri, hrz0, hrz1, hrz2⟩ := info_parts infoRow
  have hm1 : i0.bytes * N ≤ 281474976710656 := by rw [hz2]; omega
  have hm2 : N ≤ maxLen := by unfold maxLen; omega
  have HI := Lib.hid hi
  have HZ0 := Lib.hid hz0
  have HZ1 := Lib.hid hz1
  have HRI := Lib.hid hri
  have HRZ0 := Lib.hid hrz0
  have HRZ1 := Lib.hid hrz1
  have HRZ2 := Lib.hid hrz2
  have HF := Lib.hid hR
  have HL := Lib.hid hR.1
  have HM0 := Lib.hid hm
  have HB0 := Lib.hid hb
  have HM1 := Lib.hid hm1
  have HM2 := Lib.hid hm2
  clear hi hz0 hz1 hz2 hri hrz0 hrz1 hrz2 hR hb hm hm1 hm2
  go_enter Try.func125, Try.ntmps125
  go_wp2_with fail
  go_loopg [0, 9] K (fun g u i wr => ∃ (k : Nat) (gs2 : List Nat), g = K - k ∧ k ≤ K ∧ i = .int .i64 k ∧ gs2.length = gs.length + k ∧ Hid (Mx wr W.heap.size u N gs2 (rs ++ rowsL f N k)) ∧ Hid (Below W.heap.size W wr))
  case atStart => exact ⟨0, gs, by omega, Nat.zero_le _, rfl, rfl, Lib.hid (by have := HM0.out; simpa [rowsL] using this), HB0⟩
  case round =>
    obtain ⟨k, gs2, rfl, hk, rfl, hlen, HM, HB⟩ := hrel
    obtain ⟨wo, rfl⟩ : ∃ wo : World, wo = wr := ⟨_, rfl⟩
    by_cases hlt : k < K
    · go_wp2_with (at_make; refine wpList_make_full _ rfl _ _ _ rfl wo.heap.size 2 i0 (.int .i64 0) 1 Try.underlying22 HI.out HZ0.out HZ1.out .i64 .i64 N N N rfl rfl rfl rfl HM1.out HM2.out (Nat.le_refl _) ?_; intro w1 hown hgrow)
      have HO1 : Hid (OwnI w1 wo.heap.size (some ⟨wo.heap.size, 0, none⟩) N N (tab N (rowP f k 0))) := Lib.hid (by rw [rowP_zero]; exact own_tab hown)
      have HB1 : Hid (Below wo.heap.size wo w1) := Lib.hid ((Below.refl _ _).grown hgrow (Nat.le_refl _) (by simp))
      clear hown hgrow
      obtain ⟨g0, hg0⟩ : ∃ z, z = wo.heap.size := ⟨_, rfl⟩
      rw [← hg0] at HO1 ⊢
      have hg0o : wo.heap.size ≤ g0 := by omega
      have hg0p : g0 ≤ wo.heap.size := by omega
      clear hg0
      go_wp2_with fail
      go_loopg [11] nf (fun g j wr => ∃ i : Nat, g = nf - i ∧ i ≤ nf ∧ j = .int .i64 i ∧ Hid (OwnI wr g0 (some ⟨g0, 0, none⟩) N N (tab N (rowP f k i))) ∧ Hid (Below wo.heap.size wo wr))
      case atStart => exact ⟨0, by omega, Nat.zero_le _, rfl, HO1, HB1⟩
      case round =>
        obtain ⟨i, rfl, hi, rfl, HO, HBo⟩ := hrel
        by_cases hin : i < nf
        · obtain ⟨b, off, rfl, hbb, hcell⟩ := HF.out.2.2.2 hf
          obtain ⟨p, hp⟩ : ∃ p : Nat, p = nf - 1 - i := ⟨_, rfl⟩
          obtain ⟨q, hq⟩ : ∃ q : Nat, q = k + i := ⟨_, rfl⟩
          have hp2 : (nf : Int) - 1 - (i : Int) = (p : Int) := by omega
          have hq2 : (k : Int) + (i : Int) = (q : Int) := by omega
          have hpn : p < nf := by omega
          have hqN : q < N := by omega
          have hx := keep_cell HBo.out (keep_cell HB.out (hcell p hpn))
          have ⟨c0, c1⟩ := own_cell HO.out hqN
          obtain ⟨x, hxe⟩ : ∃ x, x = f.getD p 0 := ⟨_, rfl⟩
          rw [← hxe] at hx
          generalize rowP f k i q = y at c0
          have HX : Hid (x = f.getD (f.length - 1 - i) 0 ∧ q = k + i) := Lib.hid ⟨by rw [hxe, hp, HL.out], hq⟩
          have hpi : (p : Int) < (nf : Int) := by omega
          have hqi : (q : Int) < (N : Int) := by omega
          have hne : ¬ b = g0 := by have := HB.out.size; omega
          clear hcell hxe hp hq
          go_wp2
          go_roundg (nf - (i + 1))
          case measure => omega
          case rel => exact ⟨i + 1, rfl, by omega, by go_num, Lib.hid (by
            have h1 := own_store HO.out q x
            rw [HX.out.1, HX.out.2, rowP_set] at h1
            rw [HX.out.1, HX.out.2]
            exact h1), Lib.hid (bl_set HBo.out _ _ hg0o _)⟩
        · obtain rfl : i = nf := by omega
          have HMr := Lib.hid (HM.out.below hN HBo.out)
          have hsr := HBo.out.size
          have hsW := HB.out.size
          have HNe : Hid (∀ i, i < gs2.length → gs2.getD i 0 ≠ g0) := Lib.hid (fun i hi e => by have := (HM.out.ge hN hi).2; omega)
          have HV : Hid (∀ z, Value.ownBlock _ = some z → z ≠ g0) := Lib.hid (fun z hz e => by have := (HM.out.own.lt z hz).2; omega)
          have hl1 : gs2.length + 1 ≤ maxLen := by unfold maxLen; omega
          have hl2 : (gs2.length + 1) * 24 ≤ 140737488355328 := by omega
          go_wp2_with (at_builtin; refine wpList_append_own _ rfl _ _ _ rfl W.heap.size 22 ir (.slice none 0 0) 1 24 Try.underlying23 HRI.out HRZ0.out HRZ1.out HRZ2.out rfl (by decide) _ gs2.length (gs2.map (rowV N)) rfl (HMr.out.own.alloc _) ⟨wr.heap.size, 0, none⟩ 1 1 [rowV N g0] rfl rfl (cell_one_new _ _ _) (rowV_one N g0) hl1 hl2 (by simp; omega) ?_; intro v' w5 hown' hgrow _)
          have HMa := Lib.hid (HMr.out.below hN (bl_alloc (Below.refl _ _) (.cells #[rowV N g0] 22)))
          have HOa := Lib.hid (HO.out.below (bl_alloc (Below.refl _ _) (.cells #[rowV N g0] 22)))
          have HR1 : Hid (OwnI (wr.alloc (.cells #[rowV N g0] 22)) W.heap.size (some ⟨g0, 0, none⟩) N N (rowF f N k)) := Lib.hid (own_lo (by have := HOa.out; rw [← HL.out, rowP_done] at this; exact this) (by omega))
          have HM5 : Hid (Mx w5 W.heap.size v' N (gs2 ++ [g0]) (rs ++ rowsL f N (k + 1))) := Lib.hid (by
            rw [← rowsL_succ]
            exact HMa.out.snoc hN HR1.out HNe.out (fun e => HV.out _ e rfl) hown' hgrow)
          have HB5 : Hid (Below W.heap.size W w5) := Lib.hid ((bl_alloc (bl_trans HB.out HBo.out) _).grown hgrow (by simp; omega) (fun z hz => (HMr.out.own.lt z hz).1))
          clear hown' hgrow hl1 hl2
          go_wp2
          go_roundg (K - (k + 1))
          case measure => omega
          case rel => exact ⟨k + 1, _, rfl, by omega, by go_num, by simp; omega, HM5, HB5⟩
    · obtain rfl : k = K := by omega
      go_wp2
      go_ret
      exact ⟨_, _, rfl, hlen, HM.out, HB.out⟩
end Go.Proofs.Ythdmanngjnfamaa
