
/- The walks of the product of two polynomials. -/
import Derived.Test.YthdmanngjnfamaaAdd
namespace Go.Proofs.Ythdmanngjnfamaa
open Go.RowKit

/-- what row i of the product adds at place m -/
def rowF (f g : List Int) (i m : Nat) : Int := if i ≤ m then f.getD i 0 * g.getD (m - i) 0 else 0
/-- the sum of the first i rows at place m -/
def convP (f g : List Int) : Nat → Nat → Int
  | 0, _ => 0
  | i + 1, m => convP f g i m + rowF f g i m
/-- the product's coefficients -/
def mulL (f g : List Int) : List Int := if f.length = 0 ∨ g.length = 0 then [] else tab (f.length + g.length - 1) (convP f g f.length)
theorem mulL_len (f g : List Int) : (mulL f g).length ≤ f.length + g.length := by
  unfold mulL
  by_cases h : f.length = 0 ∨ g.length = 0
  · rw [if_pos h]; simp
  · rw [if_neg h, tab_len]; omega
theorem mul_bd {x y : Int} (x1 : -1000000 ≤ x) (x2 : x ≤ 1000000) (y1 : -1000000 ≤ y) (y2 : y ≤ 1000000) : -1000000000000 ≤ x * y ∧ x * y ≤ 1000000000000 := by
  have h : (x * y).natAbs ≤ 1000000 * 1000000 := by
    rw [Int.natAbs_mul]
    exact Nat.mul_le_mul (by omega) (by omega)
  generalize x * y = z at *
  omega
theorem rowF_bd {f g : List Int} (h0 : POk f) (h1 : POk g) (i m : Nat) : -1000000000000 ≤ rowF f g i m ∧ rowF f g i m ≤ 1000000000000 := by
  unfold rowF
  by_cases h : i ≤ m
  · rw [if_pos h]
    have a := pok_at h0 i
    have b := pok_at h1 (m - i)
    exact mul_bd a.1 a.2 b.1 b.2
  · rw [if_neg h]; omega
theorem convP_bd {f g : List Int} (h0 : POk f) (h1 : POk g) (i m : Nat) : -1000000000000 * (i : Int) ≤ convP f g i m ∧ convP f g i m ≤ 1000000000000 * (i : Int) := by
  induction i with
  | zero => simp [convP]
  | succ i ih =>
    have := rowF_bd h0 h1 i m
    unfold convP
    omega
/-- the state inside row i behind k columns -/
def mulS (f g : List Int) (i k m : Nat) : Int := convP f g i m + if i ≤ m ∧ m - i < k then f.getD i 0 * g.getD (m - i) 0 else 0
theorem mulS_zero (f g : List Int) (i m : Nat) : mulS f g i 0 m = convP f g i m := by
  unfold mulS
  rw [if_neg (by omega), Int.add_zero]
theorem mulS_all {f g : List Int} (i m : Nat) {k : Nat} (h : g.length ≤ k) : mulS f g i k m = convP f g (i + 1) m := by
  unfold mulS
  show _ = convP f g i m + rowF f g i m
  unfold rowF
  by_cases h1 : i ≤ m
  · by_cases h2 : m - i < k
    · rw [if_pos ⟨h1, h2⟩, if_pos h1]
    · rw [if_neg (fun h => h2 h.2), if_pos h1, getD_over (xs := g) (by omega), Int.mul_zero]
  · rw [if_neg (fun h => h1 h.1), if_neg h1]
theorem mulS_step {f g : List Int} {i k m : Nat} : (if m = i + k then convP f g i (i + k) + f.getD i 0 * g.getD k 0 else mulS f g i k m) = mulS f g i (k + 1) m := by
  unfold mulS
  by_cases h : m = i + k
  · subst h
    rw [if_pos rfl, if_pos (by omega), show i + k - i = k by omega]
  · rw [if_neg h]
    by_cases h1 : i ≤ m ∧ m - i < k
    · rw [if_pos h1, if_pos (by omega)]
    · rw [if_neg h1, if_neg (by omega)]
theorem mulS_at (f g : List Int) (i k : Nat) : mulS f g i k (i + k) = convP f g i (i + k) := by
  unfold mulS
  rw [if_neg (by omega), Int.add_zero]

set_option maxHeartbeats 3200000 in
theorem l06Multiply_any (A0 : Option Addr) (n0 c0 : Nat) (f : List Int) (A1 : Option Addr) (n1 c1 : Nat) (g : List Int) (w : World) (hf : Rd .i64 w A0 n0 c0 f) (hg : Rd .i64 w A1 n1 c1 g) (h0 : POk f) (h1 : POk g) :
    Calls Try.prog 100 #[.slice A0 n0 c0, .slice A1 n1 c1] w fun e w' => ∃ A c, e = .returned (.slice A (trimL (mulL f g)).length c) ∧ OwnI w' w.heap.size A (trimL (mulL f g)).length c (trimL (mulL f g)) ∧ Below w.heap.size w w' := by
  obtain ⟨i0, hi, hz0, hz1, hz2⟩ := info_parts infoI64
  have HI := Lib.hid hi
  have HZ0 := Lib.hid hz0
  have HZ1 := Lib.hid hz1
  have HZ2 := Lib.hid hz2
  clear hi hz0 hz1 hz2
  have HF := Lib.hid hf
  have HG := Lib.hid hg
  have H0 := Lib.hid h0
  have H1 := Lib.hid h1
  have L0 := Lib.hid hf.1
  have L1 := Lib.hid hg.1
  have hn0 : n0 ≤ 9 := by have := h0.1; have := hf.1; omega
  have hn1 : n1 ≤ 9 := by have := h1.1; have := hg.1; omega
  clear hf hg h0 h1

  by_cases hz : n0 = 0 ∨ n1 = 0
  · have HE : Hid (trimL (mulL f g) = []) := Lib.hid (by unfold mulL; rw [if_pos (by rw [L0.out, L1.out]; exact hz)]; rfl)
    rcases Nat.eq_zero_or_pos n0 with hz0 | hz0
    · subst hz0
      clear hz
      go_enter Try.func100, Try.ntmps100
      go_wp2
      go_ret
      exact ⟨_, 0, by rw [HE.out]; rfl, by rw [HE.out]; exact OwnC.nil (by unfold maxLen; omega), bl_alloc (Below.refl _ _) _⟩
    · have hz1 : n1 = 0 := by omega
      subst hz1
      have hn0' : ((n0 : Int) == 0) = false := by simp; omega
      clear hz
      go_enter Try.func100, Try.ntmps100
      go_wp2
      go_ret
      exact ⟨_, 0, by rw [HE.out]; rfl, by rw [HE.out]; exact OwnC.nil (by unfold maxLen; omega), bl_alloc (Below.refl _ _) _⟩
  have hp0 : 0 < n0 := by omega
  have hp1 : 0 < n1 := by omega
  have hn0' : ((n0 : Int) == 0) = false := by simp; omega
  have hn1' : ((n1 : Int) == 0) = false := by simp; omega
  obtain ⟨N, hNe⟩ : ∃ N, N = n0 + n1 - 1 := ⟨_, rfl⟩
  have hLN : (n0 : Int) + (n1 : Int) - 1 = (N : Int) := by rw [hNe]; omega
  have HM : Hid (mulL f g = tab N (convP f g n0)) := Lib.hid (by unfold mulL; rw [if_neg (by rw [L0.out, L1.out]; exact hz), L0.out, L1.out, hNe])
  have hN18 : N ≤ 18 := by omega
  have HNN := Lib.hid hNe
  have hNlt : ∀ i k : Nat, i < n0 → k < n1 → i + k < N := fun i k a b => by omega
  have HNlt := Lib.hid hNlt
  have hm1 : i0.bytes * N ≤ 281474976710656 := by rw [HZ2.out]; omega
  have hm2 : N ≤ maxLen := by unfold maxLen; omega
  clear hNe hz hNlt
  go_enter Try.func100, Try.ntmps100
  go_wp2_with (at_make; refine wpList_make_full _ rfl _ _ _ rfl w.heap.size 2 i0 (.int .i64 0) 1 Try.underlying22 HI.out HZ0.out HZ1.out .i64 .i64 N N N rfl rfl rfl rfl hm1 hm2 (Nat.le_refl _) ?_; intro w1 hown hgrow)
  have HO := Lib.hid (own_tab hown)
  have HB := Lib.hid ((Below.refl w.heap.size w).grown hgrow (Nat.le_refl _) (by simp))
  clear hown hgrow hm1 hm2 hLN
  go_wp2
  go_loopw [6] (fun j wr => ∃ i : Nat, i ≤ n0 ∧ j = .int .i64 i ∧ Hid (OwnI wr w.heap.size (some ⟨w.heap.size, 0, none⟩) N N (tab N (convP f g i))) ∧ Hid (Below w.heap.size w wr)) (fun j _ => n0 - (intOf j).toNat)
  case atStart => exact ⟨0, Nat.zero_le _, rfl, Lib.hid HO.out, HB⟩
  case round =>
    obtain ⟨i, hi, rfl, HW, HB2⟩ := hrel
    by_cases hlt : i < n0
    · obtain ⟨b, off, rfl, hb, hcell⟩ := HF.out.2.2.2 (by omega)
      have hc0 := hcell i hlt
      have hx := keep_cell HB2.out hc0
      have hx0 := pok_at H0.out i
      obtain ⟨x, hxe⟩ : ∃ x, x = f.getD i 0 := ⟨_, rfl⟩
      rw [← hxe] at hx hx0 hc0
      have HC0 := Lib.hid hc0
      have HX := Lib.hid hxe
      obtain ⟨x1, x2⟩ := hx0
      clear hxe hcell hc0
      obtain ⟨wo, rfl⟩ : ∃ wo : World, wo = wr := ⟨_, rfl⟩
      go_wp2
      go_loopw [7] (fun j wr => ∃ k : Nat, k ≤ n1 ∧ j = .int .i64 k ∧ Hid (OwnI wr w.heap.size (some ⟨w.heap.size, 0, none⟩) N N (tab N (mulS f g i k))) ∧ Hid (Below w.heap.size w wr)) (fun j _ => n1 - (intOf j).toNat)
      case atStart => exact ⟨0, Nat.zero_le _, rfl, Lib.hid (by rw [tab_ext (fun m _ => mulS_zero f g i m)]; exact HW.out), HB2⟩
      case round =>
        obtain ⟨k, hk, rfl, HW2, HB3⟩ := hrel
        by_cases hlt2 : k < n1
        · obtain ⟨b', off', rfl, hb', hcell'⟩ := HG.out.2.2.2 (by omega)
          have hy := keep_cell HB3.out (hcell' k hlt2)
          have hy0 := pok_at H1.out k
          obtain ⟨y, hye⟩ : ∃ y, y = g.getD k 0 := ⟨_, rfl⟩
          rw [← hye] at hy hy0
          have HY := Lib.hid hye
          obtain ⟨y1, y2⟩ := hy0
          have hx := keep_cell HB3.out HC0.out
          have hik := HNlt.out i k hlt hlt2
          have ⟨ho, hfz⟩ := own_cell HW2.out hik
          rw [mulS_at] at ho
          have hz0 := convP_bd H0.out H1.out i (i + k)
          obtain ⟨z, hze⟩ : ∃ z, z = convP f g i (i + k) := ⟨_, rfl⟩
          rw [← hze] at ho hz0
          have HZ := Lib.hid hze
          have ⟨m1, m2⟩ := mul_bd x1 x2 y1 y2
          obtain ⟨q1, q2⟩ := hz0
          have s1 : -10000000000000 ≤ z + x * y := by omega
          have s2 : z + x * y ≤ 10000000000000 := by omega
          clear hye hze hcell' q1 q2
          go_wp2
          go_region
          go_wp2
          go_roundw
          case rel => exact ⟨k + 1, by omega, by go_num, Lib.hid (by
              have := own_store HW2.out (i + k) (z + x * y)
              rw [tab_ext (h' := mulS f g i (k + 1)) (fun m _ => by rw [HZ.out, HX.out, HY.out]; exact mulS_step)] at this
              exact this), Lib.hid (below_drewN (bl_set HB3.out _ _ (Nat.le_refl _) _) 1)⟩
          case measure => simp [intOf]; omega
        · have HW3 : Hid (OwnI wr w.heap.size (some ⟨w.heap.size, 0, none⟩) N N (tab N (convP f g (i + 1)))) := Lib.hid (by
            rw [← tab_ext (fun m _ => mulS_all (f := f) (g := g) i m (k := k) (by have := L1.out; omega))]
            exact HW2.out)
          go_wp2
          go_roundw
          case rel => exact ⟨i + 1, by omega, by go_num, HW3, HB3⟩
          case measure => simp [intOf]; omega
    · have HR : Hid (Rd .i64 wr (some ⟨w.heap.size, 0, none⟩) N N (mulL f g)) := Lib.hid (by rw [HM.out, show n0 = i by omega]; exact HW.out.rd)
      go_wp2_with (go_at_call 138; refine (l06Trim_any _ _ _ _ _ HR.out (by omega)).mono ?_; rintro e w2 ⟨A', c', rfl, ho2, hb2⟩; have HO2 := Lib.hid ho2; have HB3 := Lib.hid hb2; clear ho2 hb2)
      go_ret
      exact ⟨A', c', rfl, own_lo HO2.out HB2.out.size, bl_trans HB2.out HB3.out⟩
set_option maxHeartbeats 3200000 in
theorem productOf_any (A0 : Option Addr) (n0 c0 : Nat) (f : List Int) (A1 : Option Addr) (n1 c1 : Nat) (g : List Int) (w : World) (hf : Rd .i64 w A0 n0 c0 f) (hg : Rd .i64 w A1 n1 c1 g) (h0 : POk f) (h1 : POk g) :
    Calls Try.prog 98 #[.slice A0 n0 c0, .slice A1 n1 c1] w fun e w' => ∃ A c, e = .returned (.slice A (trimL (mulL f g)).length c) ∧ OwnI w' w.heap.size A (trimL (mulL f g)).length c (trimL (mulL f g)) ∧ Below w.heap.size w w' := by
  obtain ⟨i0, hi, hz0, hz1, hz2⟩ := info_parts infoI64
  have HI := Lib.hid hi
  have HZ0 := Lib.hid hz0
  have HZ1 := Lib.hid hz1
  have HZ2 := Lib.hid hz2
  clear hi hz0 hz1 hz2
  have HF := Lib.hid hf
  have HG := Lib.hid hg
  have H0 := Lib.hid h0
  have H1 := Lib.hid h1
  have L0 := Lib.hid hf.1
  have L1 := Lib.hid hg.1
  have hn0 : n0 ≤ 9 := by have := h0.1; have := hf.1; omega
  have hn1 : n1 ≤ 9 := by have := h1.1; have := hg.1; omega
  clear hf hg h0 h1

  by_cases hz : n0 = 0 ∨ n1 = 0
  · have HE : Hid (trimL (mulL f g) = []) := Lib.hid (by unfold mulL; rw [if_pos (by rw [L0.out, L1.out]; exact hz)]; rfl)
    rcases Nat.eq_zero_or_pos n0 with hz0 | hz0
    · subst hz0
      clear hz
      go_enter Try.func98, Try.ntmps98
      go_wp2
      go_ret
      exact ⟨_, 0, by rw [HE.out]; rfl, by rw [HE.out]; exact OwnC.nil (by unfold maxLen; omega), Below.refl _ _⟩
    · have hz1 : n1 = 0 := by omega
      subst hz1
      have hn0' : ((n0 : Int) == 0) = false := by simp; omega
      clear hz
      go_enter Try.func98, Try.ntmps98
      go_wp2
      go_ret
      exact ⟨_, 0, by rw [HE.out]; rfl, by rw [HE.out]; exact OwnC.nil (by unfold maxLen; omega), Below.refl _ _⟩
  have hp0 : 0 < n0 := by omega
  have hp1 : 0 < n1 := by omega
  have hn0' : ((n0 : Int) == 0) = false := by simp; omega
  have hn1' : ((n1 : Int) == 0) = false := by simp; omega
  obtain ⟨N, hNe⟩ : ∃ N, N = n0 + n1 - 1 := ⟨_, rfl⟩
  have hLN : (n0 : Int) + (n1 : Int) - 1 = (N : Int) := by rw [hNe]; omega
  have HM : Hid (mulL f g = tab N (convP f g n0)) := Lib.hid (by unfold mulL; rw [if_neg (by rw [L0.out, L1.out]; exact hz), L0.out, L1.out, hNe])
  have hN18 : N ≤ 18 := by omega
  have HNN := Lib.hid hNe
  have hNlt : ∀ i k : Nat, i < n0 → k < n1 → i + k < N := fun i k a b => by omega
  have HNlt := Lib.hid hNlt
  have hm1 : i0.bytes * N ≤ 281474976710656 := by rw [HZ2.out]; omega
  have hm2 : N ≤ maxLen := by unfold maxLen; omega
  clear hNe hz hNlt
  go_enter Try.func98, Try.ntmps98
  go_wp2_with (at_make; refine wpList_make_full _ rfl _ _ _ rfl w.heap.size 2 i0 (.int .i64 0) 1 Try.underlying22 HI.out HZ0.out HZ1.out .i64 .i64 N N N rfl rfl rfl rfl hm1 hm2 (Nat.le_refl _) ?_; intro w1 hown hgrow)
  have HO := Lib.hid (own_tab hown)
  have HB := Lib.hid ((Below.refl w.heap.size w).grown hgrow (Nat.le_refl _) (by simp))
  clear hown hgrow hm1 hm2 hLN
  go_wp2
  go_loopw [6, 7, 27] (fun _ _ j wr => ∃ i : Nat, i ≤ n0 ∧ j = .int .i64 i ∧ Hid (OwnI wr w.heap.size (some ⟨w.heap.size, 0, none⟩) N N (tab N (convP f g i))) ∧ Hid (Below w.heap.size w wr)) (fun _ _ j _ => n0 - (intOf j).toNat)
  case atStart => exact ⟨0, Nat.zero_le _, rfl, Lib.hid HO.out, HB⟩
  case round =>
    obtain ⟨i, hi, rfl, HW, HB2⟩ := hrel
    by_cases hlt : i < n0
    · obtain ⟨b, off, rfl, hb, hcell⟩ := HF.out.2.2.2 (by omega)
      have hc0 := hcell i hlt
      have hx := keep_cell HB2.out hc0
      have hx0 := pok_at H0.out i
      obtain ⟨x, hxe⟩ : ∃ x, x = f.getD i 0 := ⟨_, rfl⟩
      rw [← hxe] at hx hx0 hc0
      have HC0 := Lib.hid hc0
      have HX := Lib.hid hxe
      obtain ⟨x1, x2⟩ := hx0
      clear hxe hcell hc0
      obtain ⟨wo, rfl⟩ : ∃ wo : World, wo = wr := ⟨_, rfl⟩
      go_wp2
      go_loopw [8, 9, 34] (fun _ _ j wr => ∃ k : Nat, k ≤ n1 ∧ j = .int .i64 k ∧ Hid (OwnI wr w.heap.size (some ⟨w.heap.size, 0, none⟩) N N (tab N (mulS f g i k))) ∧ Hid (Below w.heap.size w wr)) (fun _ _ j _ => n1 - (intOf j).toNat)
      case atStart => exact ⟨0, Nat.zero_le _, rfl, Lib.hid (by rw [tab_ext (fun m _ => mulS_zero f g i m)]; exact HW.out), HB2⟩
      case round =>
        obtain ⟨k, hk, rfl, HW2, HB3⟩ := hrel
        by_cases hlt2 : k < n1
        · obtain ⟨b', off', rfl, hb', hcell'⟩ := HG.out.2.2.2 (by omega)
          have hy := keep_cell HB3.out (hcell' k hlt2)
          have hy0 := pok_at H1.out k
          obtain ⟨y, hye⟩ : ∃ y, y = g.getD k 0 := ⟨_, rfl⟩
          rw [← hye] at hy hy0
          have HY := Lib.hid hye
          obtain ⟨y1, y2⟩ := hy0
          have hx := keep_cell HB3.out HC0.out
          have hik := HNlt.out i k hlt hlt2
          have ⟨ho, hfz⟩ := own_cell HW2.out hik
          rw [mulS_at] at ho
          have hz0 := convP_bd H0.out H1.out i (i + k)
          obtain ⟨z, hze⟩ : ∃ z, z = convP f g i (i + k) := ⟨_, rfl⟩
          rw [← hze] at ho hz0
          have HZ := Lib.hid hze
          have ⟨m1, m2⟩ := mul_bd x1 x2 y1 y2
          obtain ⟨q1, q2⟩ := hz0
          have s1 : -10000000000000 ≤ z + x * y := by omega
          have s2 : z + x * y ≤ 10000000000000 := by omega
          clear hye hze hcell' q1 q2
          go_wp2
          go_roundw
          case rel => exact ⟨k + 1, by omega, by go_num, Lib.hid (by
              have := own_store HW2.out (i + k) (z + x * y)
              rw [tab_ext (h' := mulS f g i (k + 1)) (fun m _ => by rw [HZ.out, HX.out, HY.out]; exact mulS_step)] at this
              exact this), Lib.hid (bl_set HB3.out _ _ (Nat.le_refl _) _)⟩
          case measure => simp [intOf]; omega
        · have HW3 : Hid (OwnI wr w.heap.size (some ⟨w.heap.size, 0, none⟩) N N (tab N (convP f g (i + 1)))) := Lib.hid (by
            rw [← tab_ext (fun m _ => mulS_all (f := f) (g := g) i m (k := k) (by have := L1.out; omega))]
            exact HW2.out)
          go_wp2
          go_roundw
          case rel => exact ⟨i + 1, by omega, by go_num, HW3, HB3⟩
          case measure => simp [intOf]; omega
    · have HR : Hid (Rd .i64 wr (some ⟨w.heap.size, 0, none⟩) N N (mulL f g)) := Lib.hid (by rw [HM.out, show n0 = i by omega]; exact HW.out.rd)
      go_wp2_with (go_at_call 137; refine (trim_any _ _ _ _ _ HR.out (by omega)).mono ?_; rintro e w2 ⟨A', c', rfl, ho2, hb2⟩; have HO2 := Lib.hid ho2; have HB3 := Lib.hid hb2; clear ho2 hb2)
      go_ret
      exact ⟨A', c', rfl, own_lo HO2.out HB2.out.size, bl_trans HB2.out HB3.out⟩
end Go.Proofs.Ythdmanngjnfamaa