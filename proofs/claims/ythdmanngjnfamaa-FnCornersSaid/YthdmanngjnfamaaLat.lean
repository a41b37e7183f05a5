
/- The walks of LatticeBelow, and of the law over it. -/
import Derived.Test.YthdmanngjnfamaaHof
import Derived.Test.YthdmanngjnfamaaOwn
namespace Go.Proofs.Ythdmanngjnfamaa
open Go.RowKit

set_option maxHeartbeats 800000 in
theorem l01Floor_any (a b : Int) (h1 : 0 ≤ a) (h2 : a ≤ 1000) (h3 : 1 ≤ b) (h4 : b ≤ 1000) (w : World) :
    Calls Try.prog 123 #[.int .i64 a, .int .i64 b] w fun e w' => e = .returned (.int .i64 (a / b)) ∧ w = w' := by
  have e1 := Int.emod_nonneg a (show b ≠ 0 by omega)
  have e2 : ¬ a % b < 0 := by omega
  have e3 : 0 ≤ a / b := Int.ediv_nonneg h1 (by omega)
  have e4 : a / b ≤ a := Int.ediv_le_self _ h1
  have e5 : ¬ b = 0 := by omega
  have e6 : ¬ b < 0 := by omega
  go_enter Try.func123, Try.ntmps123
  go_wp2
  go_ret
  exact ⟨rfl, rfl⟩
theorem floor_at {a b q : Int} (hq : q = a / b) (h1 : 0 ≤ a) (h2 : a ≤ 1000) (h3 : 1 ≤ b) (h4 : b ≤ 1000) (w : World) :
    Calls Try.prog 123 #[.int .i64 a, .int .i64 b] w fun e w' => e = .returned (.int .i64 q) ∧ w = w' := by
  subst hq; exact l01Floor_any a b h1 h2 h3 h4 w
theorem sHgt_at {A : Option Addr} {M c : Nat} {C : List (Int × Int)} {x u v : Int} (w : World) (hu : u = (htL C x).1) (hv : v = (htL C x).2) (hr : RdC 2 w A M c (V2 C)) (hM : M = C.length) (h0 : 0 < M) (h9 : M ≤ 9) (hb : Bd C) (x1 : pX C 0 ≤ x) (x2 : x ≤ 8) :
    Calls Try.prog 121 #[.slice A M c, .int .i64 x] w fun e w' => e = .returned (.tuple #[.int .i64 u, .int .i64 v]) ∧ Below w.heap.size w w' := by
  subst hu; subst hv; exact l13Height_any A M c C x w hr hM h0 h9 hb x1 x2
theorem iHgt_at {A : Option Addr} {M c : Nat} {C : List (Int × Int)} {x u v : Int} (w : World) (hu : u = rdN (htL C x).1 (htL C x).2) (hv : v = rdD (htL C x).1 (htL C x).2) (hr : RdC 2 w A M c (V2 C)) (hM : M = C.length) (h0 : 0 < M) (h9 : M ≤ 9) (hb : Bd C) (hin : Inc (pX C) C.length) (x1 : pX C 0 ≤ x) (x2 : x ≤ 8) :
    Calls Try.prog 120 #[.slice A M c, .int .i64 x] w fun e w' => e = .returned (.agg #[.int .i64 u, .int .i64 v]) ∧ Below w.heap.size w w' := by
  subst hu; subst hv; exact height_any A M c C x w hr hM h0 h9 hb hin x1 x2
theorem tdiv_abs (a b : Int) : (a.tdiv b).natAbs ≤ a.natAbs := by rw [Int.natAbs_tdiv]; exact Nat.div_le_self _ _
theorem red_pos {n d : Int} (hn : 0 ≤ n) (hn2 : n ≤ 624) (hd : 1 ≤ d) (hd2 : d ≤ 8) : (0 ≤ rdN n d ∧ rdN n d ≤ 624) ∧ (1 ≤ rdD n d ∧ rdD n d ≤ 8) ∧ rdN n d / rdD n d = n / d := by
  have h1 := rdD_pos n d (by omega)
  have e1 : rdN n d = n.tdiv (Int.gcd n d : Int) := by unfold rdN; rw [if_neg (by omega)]
  have e2 : rdD n d = d.tdiv (Int.gcd n d : Int) := by unfold rdD; rw [if_neg (by omega)]
  have a1 := tdiv_abs n (Int.gcd n d : Int)
  have a2 := tdiv_abs d (Int.gcd n d : Int)
  have n0 : 0 ≤ n.tdiv (Int.gcd n d : Int) := Int.tdiv_nonneg hn (by omega)
  have h2 := tdiv_red hn (show 0 < d by omega)
  rw [← e1] at a1 n0 h2
  rw [← e2] at a2 h2
  rw [Int.tdiv_eq_ediv_of_nonneg n0] at h2
  exact ⟨by omega, by omega, h2⟩
noncomputable def lbV (p : Int) (xs : List Int) : Int := if pgC p xs = 0 then latF (plL p xs) (pX (plL p xs) 0 + 1) (pX (plL p xs) ((plL p xs).length - 1) - pX (plL p xs) 0 - 1).toNat else 0

set_option maxRecDepth 100000 in
set_option maxHeartbeats 1600000 in
theorem specLatticeBelow_any (p : Int) (A : Option Addr) (n c : Nat) (xs : List Int) (w : World) (hr : Rd .i64 w A n c xs) :
    Calls Try.prog 64 #[.int .i64 p, .slice A n c] w fun e w' => e = .returned (.tuple #[.int .i64 (lbV p xs), .int .i64 (pgC p xs)]) ∧ Below w.heap.size w w' := by
  have HR := Lib.hid hr
  clear hr
  obtain ⟨k, hk⟩ : ∃ k, k = pgC p xs := ⟨_, rfl⟩
  have HK := Lib.hid hk
  by_cases hz : k = 0
  · subst hz
    have ⟨hp, hx, h0⟩ := pgC_zero hk.symm
    obtain ⟨C, hC⟩ : ∃ C, C = plL p xs := ⟨_, rfl⟩
    obtain ⟨M, hM⟩ : ∃ M, M = (plL p xs).length := ⟨_, rfl⟩
    have hbd : Bd C := by rw [hC]; exact plL_bd hp hx h0
    have hin : Inc (pX C) C.length := by rw [hC]; exact pw_inc (plL_inc hx h0)
    have ⟨hM0, hM9⟩ := plL_len (p := p) hx h0
    rw [← hM] at hM0 hM9
    have HM : Hid (M = C.length) := Lib.hid (by rw [hM, hC])
    have z1 := bd_at hbd (i := 0) (by have := HM.out; omega)
    have z2 := bd_at hbd (i := C.length - 1) (by have := HM.out; omega)
    have HP := Lib.hid hp
    have HXp := Lib.hid hx
    have H0 := Lib.hid h0
    have HMp := Lib.hid hM
    have HC := Lib.hid hC
    have HBd := Lib.hid hbd
    have HIn := Lib.hid hin
    obtain ⟨lo, hlo⟩ : ∃ y, y = pX C 0 := ⟨_, rfl⟩
    obtain ⟨hi, hhi⟩ : ∃ y, y = pX C (C.length - 1) := ⟨_, rfl⟩
    have hlh : lo ≤ hi := by
      rw [hlo, hhi]
      by_cases e : C.length - 1 = 0
      · rw [e]; exact Int.le_refl _
      · exact Int.le_of_lt (hin 0 (C.length - 1) (by omega) (by omega))
    have HE : Hid (lbV p xs = latF C (lo + 1) (hi - lo - 1).toNat ∧ pgC p xs = 0) := Lib.hid ⟨by unfold lbV; rw [← hk, if_pos rfl, ← hC, hlo, hhi], hk.symm⟩
    have HLO := Lib.hid hlo
    have HHI := Lib.hid hhi
    rw [← hlo] at z1
    rw [← hhi] at z2
    have ⟨⟨lo1, lo2⟩, _⟩ := z1
    have ⟨⟨hi1, hi2⟩, _⟩ := z2
    clear hk hp hx h0 hC hM hbd hin hlo hhi z1 z2
    go_enter Try.func64, Try.ntmps64
    go_wp2_with (go_at_call 110; refine (l13Code_at _ HR.out HK.out).mono ?_; rintro e w' ⟨rfl, rfl⟩)
    refine (l13Polygon_at _ HMp.out HR.out HP.out HXp.out H0.out).mono ?_
    rintro e w1 ⟨A1, c3, rfl, ho, hb⟩
    rw [← HC.out] at ho
    have HB1 := Lib.hid hb
    have hcs := ho.2.1
    have hcs2 := ho.2.2.1
    unfold maxLen at hcs2
    have HRd := Lib.hid ho.rd
    obtain ⟨b1, off1, rfl, hcell⟩ := RdC.atF (zs := flatI C) ho.rd (by omega)
    have p0 := hcell (0 * 2 + 0) (fl_lt (show 0 < M by omega) (by omega))
    rw [Nat.add_zero, (flatI_at C 0 (by have := HM.out; omega)).1] at p0
    have p1 := hcell ((M - 1) * 2 + 0) (fl_lt (show M - 1 < M by omega) (by omega))
    rw [Nat.add_zero, (flatI_at C (M - 1) (by have := HM.out; omega)).1] at p1
    try simp only [Nat.zero_mul, Nat.add_zero] at p0
    change _ = some (Value.int .i64 (pX C 0)) at p0
    change _ = some (Value.int .i64 (pX C (M - 1))) at p1
    rw [← HLO.out] at p0
    rw [HM.out, ← HHI.out, ← HM.out] at p1
    have HP1 := Lib.hid p1
    clear ho hb hcell p1
    have i1 : (0 : Int) < (M : Int) := by omega
    have i2 : (0 : Int) ≤ (M : Int) - 1 := by omega
    have i3 : (M : Int) - 1 < (M : Int) := by omega
    have i4 : (1 : Int) ≤ (M : Int) := by omega
    go_wp2
    go_loopw [8, 9, 10, 11] (fun s i _ _ wr => ∃ (j : Nat) (S x : Int), j ≤ 8 ∧ (x ≤ hi ∨ j = 0) ∧ lo + 1 ≤ x ∧ x ≤ 9 ∧ (0 ≤ S ∧ S ≤ 624 * j) ∧ s = .int .i64 S ∧ i = .int .i64 x ∧ Hid (x = lo + 1 + j) ∧ Hid (S = latF C (lo + 1) j) ∧ Hid (Below w1.heap.size w1 wr)) (fun _ i _ _ _ => (hi - intOf i).toNat)
    case atStart => exact ⟨0, 0, lo + 1, by omega, .inr rfl, by omega, by omega, by omega, rfl, rfl, Lib.hid (by omega), Lib.hid rfl, Lib.hid (Below.refl _ _)⟩
    case round =>
      obtain ⟨j, S, x, j8, hj, x1, x2, ⟨S1, S2⟩, rfl, rfl, HX, HS, HB⟩ := hrel
      have p2 := keep_cell HB.out HP1.out
      have p3 := keep_cell HB.out p0
      by_cases hlt : x < hi
      · have hok := ht_ok HBd.out HIn.out (by have := HM.out; omega) (x := x) C.length 0 (by omega) (by rw [← HLO.out]; omega)
        rw [List.drop_zero] at hok
        change (0 ≤ (htL C x).1 ∧ (htL C x).1 ≤ 624) ∧ (1 ≤ (htL C x).2 ∧ (htL C x).2 ≤ 8) at hok
        obtain ⟨q, hq⟩ : ∃ q, q = (htL C x).1 / (htL C x).2 := ⟨_, rfl⟩
        have q1 : 0 ≤ q := by rw [hq]; exact Int.ediv_nonneg hok.1.1 (by omega)
        have q2 : q ≤ 624 := by rw [hq]; exact Int.le_trans (Int.ediv_le_self _ hok.1.1) hok.1.2
        have HS2 : Hid (S + q = latF C (lo + 1) (j + 1)) := Lib.hid (by
          show _ = latF C (lo + 1) j + (htL C (lo + 1 + j)).1 / (htL C (lo + 1 + j)).2
          rw [HS.out, hq, HX.out])
        have j7 : j ≤ 7 := by have := HX.out; omega
        obtain ⟨u, hu⟩ : ∃ u, u = (htL C x).1 := ⟨_, rfl⟩
        obtain ⟨v, hv⟩ : ∃ v, v = (htL C x).2 := ⟨_, rfl⟩
        have hok2 : (0 ≤ u ∧ u ≤ 624) ∧ (1 ≤ v ∧ v ≤ 8) := by rw [hu, hv]; exact hok
        have ⟨⟨r1, r2⟩, ⟨r3, r4⟩⟩ := hok2
        have HU := Lib.hid hu
        have HVv := Lib.hid hv
        have HQ2 : Hid (q = u / v) := Lib.hid (by rw [hq, hu, hv])
        clear hok hok2 hu hv hq
        go_wp2_with fail
        refine (sHgt_at _ HU.out HVv.out (HRd.out.below HB.out) HM.out (by omega) hM9 HBd.out (by rw [← HLO.out]; omega) (by omega)).mono ?_
        rintro e w2 ⟨rfl, hb2⟩
        have HB2 := Lib.hid (bl_trans HB.out hb2)
        clear hb2
        go_wp2_with (go_at_call 123; refine (floor_at HQ2.out r1 (by omega) r3 (by omega) _).mono ?_; rintro e w' ⟨rfl, rfl⟩)
        go_roundw
        case rel => exact ⟨j + 1, S + q, x + 1, by omega, by omega, by omega, by omega, by omega, rfl, rfl, Lib.hid (by rw [HX.out]; omega), HS2, HB2⟩
        case measure => simp [intOf]; omega
      · have HF : Hid (S = lbV p xs) := Lib.hid (by
          rw [HE.out.1, HS.out]
          congr 1
          have := HX.out
          omega)
        go_wp2
        go_ret2
        exact ⟨by rw [← HF.out, HE.out.2]; rfl, bl_trans HB1.out HB.out⟩
  · have hk2 : (k != 0) = true := by simpa using hz
    have HE : Hid (lbV p xs = 0 ∧ pgC p xs = k) := Lib.hid ⟨by unfold lbV; rw [← hk, if_neg hz], hk.symm⟩
    clear hk hz
    go_enter Try.func64, Try.ntmps64
    go_wp2_with (go_at_call 110; refine (l13Code_at _ HR.out HK.out).mono ?_; rintro e w' ⟨rfl, rfl⟩)
    go_ret2
    exact ⟨by rw [HE.out.1, HE.out.2]; rfl, Below.refl _ _⟩

set_option maxRecDepth 100000 in
set_option maxHeartbeats 1600000 in
theorem implLatticeBelow_any (p : Int) (A : Option Addr) (n c : Nat) (xs : List Int) (w : World) (hr : Rd .i64 w A n c xs) :
    Calls Try.prog 63 #[.int .i64 p, .slice A n c] w fun e w' => e = .returned (.tuple #[.int .i64 (lbV p xs), .int .i64 (pgC p xs)]) ∧ Below w.heap.size w w' := by
  have HR := Lib.hid hr
  clear hr
  obtain ⟨k, hk⟩ : ∃ k, k = pgC p xs := ⟨_, rfl⟩
  have HK := Lib.hid hk
  by_cases hz : k = 0
  · subst hz
    have ⟨hp, hx, h0⟩ := pgC_zero hk.symm
    obtain ⟨C, hC⟩ : ∃ C, C = plL p xs := ⟨_, rfl⟩
    obtain ⟨M, hM⟩ : ∃ M, M = (plL p xs).length := ⟨_, rfl⟩
    have hbd : Bd C := by rw [hC]; exact plL_bd hp hx h0
    have hin : Inc (pX C) C.length := by rw [hC]; exact pw_inc (plL_inc hx h0)
    have ⟨hM0, hM9⟩ := plL_len (p := p) hx h0
    rw [← hM] at hM0 hM9
    have HM : Hid (M = C.length) := Lib.hid (by rw [hM, hC])
    have z1 := bd_at hbd (i := 0) (by have := HM.out; omega)
    have z2 := bd_at hbd (i := C.length - 1) (by have := HM.out; omega)
    have HP := Lib.hid hp
    have HXp := Lib.hid hx
    have H0 := Lib.hid h0
    have HMp := Lib.hid hM
    have HC := Lib.hid hC
    have HBd := Lib.hid hbd
    have HIn := Lib.hid hin
    obtain ⟨lo, hlo⟩ : ∃ y, y = pX C 0 := ⟨_, rfl⟩
    obtain ⟨hi, hhi⟩ : ∃ y, y = pX C (C.length - 1) := ⟨_, rfl⟩
    have hlh : lo ≤ hi := by
      rw [hlo, hhi]
      by_cases e : C.length - 1 = 0
      · rw [e]; exact Int.le_refl _
      · exact Int.le_of_lt (hin 0 (C.length - 1) (by omega) (by omega))
    have HE : Hid (lbV p xs = latF C (lo + 1) (hi - lo - 1).toNat ∧ pgC p xs = 0) := Lib.hid ⟨by unfold lbV; rw [← hk, if_pos rfl, ← hC, hlo, hhi], hk.symm⟩
    have HLO := Lib.hid hlo
    have HHI := Lib.hid hhi
    rw [← hlo] at z1
    rw [← hhi] at z2
    have ⟨⟨lo1, lo2⟩, _⟩ := z1
    have ⟨⟨hi1, hi2⟩, _⟩ := z2
    clear hk hp hx h0 hC hM hbd hin hlo hhi z1 z2
    go_enter Try.func63, Try.ntmps63
    go_wp2_with (go_at_call 108; refine (polygonal_at _ HR.out HK.out).mono ?_; rintro e w' ⟨rfl, rfl⟩)
    refine (polygon_at _ HMp.out HR.out HP.out HXp.out H0.out).mono ?_
    rintro e w1 ⟨A1, c3, rfl, ho, hb⟩
    rw [← HC.out] at ho
    have HB1 := Lib.hid hb
    have hcs := ho.2.1
    have hcs2 := ho.2.2.1
    unfold maxLen at hcs2
    have HRd := Lib.hid ho.rd
    obtain ⟨b1, off1, rfl, hcell⟩ := RdC.atF (zs := flatI C) ho.rd (by omega)
    have p0 := hcell (0 * 2 + 0) (fl_lt (show 0 < M by omega) (by omega))
    rw [Nat.add_zero, (flatI_at C 0 (by have := HM.out; omega)).1] at p0
    have p1 := hcell ((M - 1) * 2 + 0) (fl_lt (show M - 1 < M by omega) (by omega))
    rw [Nat.add_zero, (flatI_at C (M - 1) (by have := HM.out; omega)).1] at p1
    try simp only [Nat.zero_mul, Nat.add_zero] at p0
    change _ = some (Value.int .i64 (pX C 0)) at p0
    change _ = some (Value.int .i64 (pX C (M - 1))) at p1
    rw [← HLO.out] at p0
    rw [HM.out, ← HHI.out, ← HM.out] at p1
    have HP1 := Lib.hid p1
    clear ho hb hcell p1
    have i1 : (0 : Int) < (M : Int) := by omega
    have i2 : (0 : Int) ≤ (M : Int) - 1 := by omega
    have i3 : (M : Int) - 1 < (M : Int) := by omega
    have i4 : (1 : Int) ≤ (M : Int) := by omega
    go_wp2
    go_loopw [8, 9, 10] (fun s i _ wr => ∃ (j : Nat) (S x : Int), j ≤ 8 ∧ (x ≤ hi ∨ j = 0) ∧ lo + 1 ≤ x ∧ x ≤ 9 ∧ (0 ≤ S ∧ S ≤ 624 * j) ∧ s = .int .i64 S ∧ i = .int .i64 x ∧ Hid (x = lo + 1 + j) ∧ Hid (S = latF C (lo + 1) j) ∧ Hid (Below w1.heap.size w1 wr)) (fun _ i _ _ => (hi - intOf i).toNat)
    case atStart => exact ⟨0, 0, lo + 1, by omega, .inr rfl, by omega, by omega, by omega, rfl, rfl, Lib.hid (by omega), Lib.hid rfl, Lib.hid (Below.refl _ _)⟩
    case round =>
      obtain ⟨j, S, x, j8, hj, x1, x2, ⟨S1, S2⟩, rfl, rfl, HX, HS, HB⟩ := hrel
      have p2 := keep_cell HB.out HP1.out
      have p3 := keep_cell HB.out p0
      by_cases hlt : x < hi
      · have hok := ht_ok HBd.out HIn.out (by have := HM.out; omega) (x := x) C.length 0 (by omega) (by rw [← HLO.out]; omega)
        rw [List.drop_zero] at hok
        change (0 ≤ (htL C x).1 ∧ (htL C x).1 ≤ 624) ∧ (1 ≤ (htL C x).2 ∧ (htL C x).2 ≤ 8) at hok
        obtain ⟨q, hq⟩ : ∃ q, q = (htL C x).1 / (htL C x).2 := ⟨_, rfl⟩
        have q1 : 0 ≤ q := by rw [hq]; exact Int.ediv_nonneg hok.1.1 (by omega)
        have q2 : q ≤ 624 := by rw [hq]; exact Int.le_trans (Int.ediv_le_self _ hok.1.1) hok.1.2
        have HS2 : Hid (S + q = latF C (lo + 1) (j + 1)) := Lib.hid (by
          show _ = latF C (lo + 1) j + (htL C (lo + 1 + j)).1 / (htL C (lo + 1 + j)).2
          rw [HS.out, hq, HX.out])
        have j7 : j ≤ 7 := by have := HX.out; omega
        have ⟨⟨r1, r2⟩, ⟨r3, r4⟩, r5⟩ := red_pos (n := (htL C x).1) (d := (htL C x).2) hok.1.1 hok.1.2 hok.2.1 hok.2.2
        obtain ⟨u, hu⟩ : ∃ u, u = rdN (htL C x).1 (htL C x).2 := ⟨_, rfl⟩
        obtain ⟨v, hv⟩ : ∃ v, v = rdD (htL C x).1 (htL C x).2 := ⟨_, rfl⟩
        rw [← hu] at r1 r2 r5
        rw [← hv] at r3 r4 r5
        have HU := Lib.hid hu
        have HVv := Lib.hid hv
        have HQ2 : Hid (u / v = q) := Lib.hid (by rw [r5, hq])
        have v0 : ¬ v = 0 := by omega
        have q3 : 0 ≤ u / v := by rw [r5, ← hq]; exact q1
        have q4 : u / v ≤ 624 := by rw [r5, ← hq]; exact q2
        clear hok hu hv hq r5
        go_wp2_with fail
        refine (iHgt_at _ HU.out HVv.out (HRd.out.below HB.out) HM.out (by omega) hM9 HBd.out HIn.out (by rw [← HLO.out]; omega) (by omega)).mono ?_
        rintro e w2 ⟨rfl, hb2⟩
        have HB2 := Lib.hid (bl_trans HB.out hb2)
        clear hb2
        go_wp2
        go_roundw
        case rel => exact ⟨j + 1, S + u / v, x + 1, by omega, by omega, by omega, by omega, by omega, rfl, rfl, Lib.hid (by rw [HX.out]; omega), Lib.hid (by rw [HQ2.out]; exact HS2.out), Lib.hid (bl_alloc HB2.out _)⟩
        case measure => simp [intOf]; omega
      · have HF : Hid (S = lbV p xs) := Lib.hid (by
          rw [HE.out.1, HS.out]
          congr 1
          have := HX.out
          omega)
        go_wp2
        go_ret2
        exact ⟨by rw [← HF.out, HE.out.2]; rfl, bl_trans HB1.out HB.out⟩
  · have hk2 : (k != 0) = true := by simpa using hz
    have HE : Hid (lbV p xs = 0 ∧ pgC p xs = k) := Lib.hid ⟨by unfold lbV; rw [← hk, if_neg hz], hk.symm⟩
    clear hk hz
    go_enter Try.func63, Try.ntmps63
    go_wp2_with (go_at_call 108; refine (polygonal_at _ HR.out HK.out).mono ?_; rintro e w' ⟨rfl, rfl⟩)
    go_ret2
    exact ⟨by rw [HE.out.1, HE.out.2]; rfl, Below.refl _ _⟩

end Go.Proofs.Ythdmanngjnfamaa