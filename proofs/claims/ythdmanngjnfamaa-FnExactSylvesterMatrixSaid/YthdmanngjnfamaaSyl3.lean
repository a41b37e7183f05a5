
/- The program's SylvesterMatrix. -/
import Derived.Test.YthdmanngjnfamaaSyl2
import Derived.Deep.AppendLies
namespace Go.Proofs.Ythdmanngjnfamaa
open Go.RowKit

/-- a row under way, from the last cell on -/
def rowQ (f : List Int) (k i : Nat) : Nat → Int := fun j => if k + f.length - i ≤ j ∧ j < k + f.length then f.getD (f.length - 1 - (j - k)) 0 else 0
theorem rowQ_zero (f : List Int) (N k : Nat) : tab N (rowQ f k 0) = tab N (fun _ => 0) := tab_ext fun j _ => by unfold rowQ; rw [if_neg (by omega)]
theorem rowQ_set {f : List Int} {N k i : Nat} (hi : i < f.length) : tab N (fun j => if j = k + f.length - 1 - i then f.getD i 0 else rowQ f k i j) = tab N (rowQ f k (i + 1)) := tab_ext fun j _ => by
  unfold rowQ
  by_cases e : j = k + f.length - 1 - i
  · rw [if_pos e, if_pos (by omega), show f.length - 1 - (j - k) = i by omega]
  · rw [if_neg e]
    by_cases e2 : k + f.length - i ≤ j ∧ j < k + f.length
    · rw [if_pos e2, if_pos (by omega)]
    · rw [if_neg e2, if_neg (by omega)]
theorem rowQ_done (f : List Int) (N k : Nat) : tab N (rowQ f k f.length) = rowF f N k := tab_ext fun j _ => by
  unfold rowQ
  by_cases e : k ≤ j ∧ j < k + f.length
  · rw [if_pos e, if_pos (by omega)]
  · rw [if_neg e, if_neg (by omega)]

theorem grown_set2 (w : World) (b o : Nat) (v : Value) : w.grownBy (w.setCell ⟨b, o, none⟩ v) (some b) :=
  ⟨rfl, rfl, rfl, by simp [World.setCell], fun k _ hk => Below.heap_setCell _ _ _ _ (fun e => hk (by rw [e]))⟩
/-- what the closure holds -/
structure Cap (w : World) (gn gm gr : Nat) (n m : Int) (v : Value) : Prop where
  n : w.cell? ⟨gn, 0, none⟩ = some (.int .i64 n)
  m : w.cell? ⟨gm, 0, none⟩ = some (.int .i64 m)
  r : w.cell? ⟨gr, 0, none⟩ = some v
  fr : w.frozen? ⟨gr, 0, none⟩ = false
theorem Cap.below {w w' : World} {gn gm gr : Nat} {n m : Int} {v : Value} (h : Cap w gn gm gr n m v) (hb : Below w.heap.size w w') : Cap w' gn gm gr n m v :=
  ⟨keep_cell hb h.n, keep_cell hb h.m, keep_cell hb h.r, keep_fr hb h.r h.fr⟩
theorem Cap.grown {w w' : World} {gn gm gr lo : Nat} {n m : Int} {v : Value} {r : Option Nat} (h : Cap w gn gm gr n m v) (hg : w.grownBy w' r) (hr : ∀ k, r = some k → lo ≤ k) (h1 : gn < lo) (h2 : gm < lo) (h3 : gr < lo) : Cap w' gn gm gr n m v := by
  have far : ∀ g : Nat, g < lo → some g ≠ r := fun g hg2 e => by have := hr g e.symm; omega
  exact ⟨(hg.cell_far ⟨gn, 0, none⟩ (block_lt_of_cell h.n) (far gn h1)).trans h.n, (hg.cell_far ⟨gm, 0, none⟩ (block_lt_of_cell h.m) (far gm h2)).trans h.m, (hg.cell_far ⟨gr, 0, none⟩ (block_lt_of_cell' h.r) (far gr h3)).trans h.r, (hg.frozen_far ⟨gr, 0, none⟩ (block_lt_of_cell' h.r) (far gr h3)).trans h.fr⟩

set_option maxRecDepth 100000 in
set_option maxHeartbeats 3200000 in
theorem add_any (W w : World) (lo gn gm gr : Nat) (n m : Int) (v : Value) (gs : List Nat) (rs : List (List Int)) (N K : Nat) (B : Option Addr) (nf d : Nat) (f : List Int) (hR : Rd .i64 W B nf d f) (hb : Below W.heap.size W w) (hm : Mx w lo v N gs rs) (hN : 0 < N) (hN2 : N ≤ 100) (hf : 0 < nf) (hK : K + nf ≤ N + 1) (hg : gs.length ≤ 100)
    (hc : Cap w gn gm gr n m v) (hnm : n + m = (N : Int)) (l1 : gn < lo) (l2 : gm < lo) (l3 : gr < lo) (l4 : W.heap.size ≤ gr) (hlo : lo ≤ w.heap.size) (hnr : gr ≠ gn) (hmr : gr ≠ gm) :
    Calls Try.prog 131 #[.slice B nf d, .int .i64 K, .pointer (some ⟨gn, 0, none⟩), .pointer (some ⟨gm, 0, none⟩), .pointer (some ⟨gr, 0, none⟩)] w fun e w' => ∃ (v' : Value) (gs' : List Nat), e = .returned (.tuple #[]) ∧ gs'.length = gs.length + K ∧ Mx w' lo v' N gs' (rs ++ rowsL f N K) ∧ Cap w' gn gm gr n m v' ∧ Below W.heap.size W w' ∧ lo ≤ w'.heap.size := by
  obtain ⟨i0, hi, hz0, hz1, hz2⟩ := info_parts infoI64
  obtain ⟨ir, hri, hrz0, hrz1, hrz2⟩ := info_parts infoRow
  have hm1 : i0.bytes * N ≤ 281474976710656 := by rw [hz2]; omega
  have hm2 : N ≤ maxLen := by unfold maxLen; omega
  have HI := Lib.hid hi
  have HZ0 := Lib.hid hz0
  have HZ1 := Lib.hid hz1
  have HRI := Lib.hid hri
  have HRZ0 := Lib.hid hrz0
  have HRZ1 := Lib.hid hrz1
  have HRZ2 := Lib.hid hrz2
  have HF := Lib.hid hR
  have HL := Lib.hid hR.1
  have HM0 := Lib.hid hm
  have HB0 := Lib.hid hb
  have HC0 := Lib.hid hc
  have HM1 := Lib.hid hm1
  have HM2 := Lib.hid hm2
  have hcd := hR.2.1
  have hcm := hR.2.2.1
  unfold maxLen at hcm
  have hnf9 : nf ≤ 101 := by omega
  clear hi hz0 hz1 hz2 hri hrz0 hrz1 hrz2 hR hb hm hm1 hm2 hc
  go_enter Try.func131, Try.ntmps131
  go_wp2_with fail
  go_loopg [12] K (fun g i wr => ∃ (k : Nat) (u : Value) (gs2 : List Nat), g = K - k ∧ k ≤ K ∧ i = .int .i64 k ∧ gs2.length = gs.length + k ∧ Hid (Mx wr lo u N gs2 (rs ++ rowsL f N k)) ∧ Hid (Cap wr gn gm gr n m u) ∧ Hid (Below W.heap.size W wr) ∧ lo ≤ wr.heap.size)
  case atStart => exact ⟨0, v, gs, by omega, Nat.zero_le _, rfl, rfl, Lib.hid (by have := HM0.out; simpa [rowsL] using this), HC0, HB0, hlo⟩
  case round =>
    obtain ⟨k, u, gs2, rfl, hk, rfl, hlen, HM, HC, HB, hlor⟩ := hrel
    obtain ⟨wo, rfl⟩ : ∃ wo : World, wo = wr := ⟨_, rfl⟩
    have HLn := Lib.hid hlen
    have hle : gs2.length ≤ 301 := by omega
    clear hlen
    by_cases hlt : k < K
    · have cn := HC.out.n
      have cm := HC.out.m
      go_wp2_with (at_make; refine wpList_make_full _ rfl _ _ _ rfl wo.heap.size 2 i0 (.int .i64 0) 1 Try.underlying22 HI.out HZ0.out HZ1.out .i64 .i64 N N N rfl rfl rfl rfl HM1.out HM2.out (Nat.le_refl _) ?_; intro w1 hown hgrow)
      have HO1 : Hid (OwnI w1 wo.heap.size (some ⟨wo.heap.size, 0, none⟩) N N (tab N (rowQ f k 0))) := Lib.hid (by rw [rowQ_zero]; exact own_tab hown)
      have HB1 : Hid (Below wo.heap.size wo w1) := Lib.hid ((Below.refl _ _).grown hgrow (Nat.le_refl _) (by simp))
      clear hown hgrow cn cm
      obtain ⟨g0, hg0⟩ : ∃ z, z = wo.heap.size := ⟨_, rfl⟩
      rw [← hg0] at HO1 ⊢
      have hg0o : wo.heap.size ≤ g0 := by omega
      have hg0p : g0 ≤ wo.heap.size := by omega
      clear hg0
      go_wp2_with fail
      go_loopg [21] nf (fun g j wr => ∃ i : Nat, g = nf - i ∧ i ≤ nf ∧ j = .int .i64 i ∧ Hid (OwnI wr g0 (some ⟨g0, 0, none⟩) N N (tab N (rowQ f k i))) ∧ Hid (Below wo.heap.size wo wr))
      case atStart => exact ⟨0, by omega, Nat.zero_le _, rfl, HO1, HB1⟩
      case round =>
        obtain ⟨i, rfl, hi, rfl, HO, HBo⟩ := hrel
        by_cases hin : i < nf
        · obtain ⟨b, off, rfl, hbb, hcell⟩ := HF.out.2.2.2 hf
          obtain ⟨q, hq⟩ : ∃ q : Nat, q = k + nf - 1 - i := ⟨_, rfl⟩
          have hq2 : (k : Int) + ((nf : Int) - 1) - (i : Int) = (q : Int) := by omega
          have hqN : q < N := by omega
          have hx := keep_cell HBo.out (keep_cell HB.out (hcell i hin))
          have ⟨c0, c1⟩ := own_cell HO.out hqN
          obtain ⟨x, hxe⟩ : ∃ x, x = f.getD i 0 := ⟨_, rfl⟩
          rw [← hxe] at hx
          generalize rowQ f k i q = y at c0
          have HX : Hid (x = f.getD i 0 ∧ q = k + f.length - 1 - i) := Lib.hid ⟨hxe, by rw [HL.out]; exact hq⟩
          have hii : (i : Int) < (nf : Int) := by omega
          have hqi : (q : Int) < (N : Int) := by omega
          have hne : ¬ b = g0 := by have := HB.out.size; omega
          clear hcell hxe hq
          go_wp2_with (go_at_call 130; refine (degree_any _ _ _ (by omega) _).mono ?_; rintro e w' ⟨rfl, rfl⟩)
          go_roundg (nf - (i + 1))
          case measure => omega
          case rel => exact ⟨i + 1, rfl, by omega, by go_num, Lib.hid (by
            have h1 := own_store HO.out q x
            rw [HX.out.1, HX.out.2, rowQ_set (by rw [HL.out]; exact hin)] at h1
            rw [HX.out.1, HX.out.2]
            exact h1), Lib.hid (bl_set HBo.out _ _ hg0o _)⟩
        · obtain rfl : i = nf := by omega
          have HMr := Lib.hid (HM.out.below hN HBo.out)
          have HCr := Lib.hid (HC.out.below HBo.out)
          have hsr := HBo.out.size
          have hsW := HB.out.size
          have HNe : Hid (∀ i, i < gs2.length → gs2.getD i 0 ≠ g0) := Lib.hid (fun i hi e => by have := (HM.out.ge hN hi).2; omega)
          have HV : Hid (∀ z, u.ownBlock = some z → z ≠ g0) := Lib.hid (fun z hz e => by have := (HM.out.own.lt z hz).2; omega)
          have hl1 : gs2.length + 1 ≤ maxLen := by unfold maxLen; omega
          have hl2 : (gs2.length + 1) * 24 ≤ 140737488355328 := by omega
          have cr := HCr.out.r
          have hgr : gr < wr.heap.size := by omega
          go_wp2_with (at_builtin; refine wpList_append_own _ rfl _ _ _ rfl lo 22 ir (.slice none 0 0) 1 24 Try.underlying23 HRI.out HRZ0.out HRZ1.out HRZ2.out rfl (by decide) _ gs2.length (gs2.map (rowV N)) rfl (HMr.out.own.alloc _) ⟨wr.heap.size, 0, none⟩ 1 1 [rowV N g0] rfl rfl (cell_one_new _ _ _) (rowV_one N g0) hl1 hl2 (by simp; omega) ?_; intro v' w5 hown' hgrow _; (have cr5 := (hgrow.cell_far ⟨gr, 0, none⟩ (by simp; omega) (fun e => by have := (HMr.out.own.lt gr e.symm).1; omega)).trans (keep_cell (bl_alloc (Below.refl _ _) _) cr)); (have cf5 := (hgrow.frozen_far ⟨gr, 0, none⟩ (by simp; omega) (fun e => by have := (HMr.out.own.lt gr e.symm).1; omega)).trans (keep_fr (bl_alloc (Below.refl _ _) _) cr HCr.out.fr)); (obtain ⟨A5, c5, rfl, _⟩ := own_cells hown'))
          have HMa := Lib.hid (HMr.out.below hN (bl_alloc (Below.refl _ _) (.cells #[rowV N g0] 22)))
          have HOa := Lib.hid (HO.out.below (bl_alloc (Below.refl _ _) (.cells #[rowV N g0] 22)))
          have HR1 : Hid (OwnI (wr.alloc (.cells #[rowV N g0] 22)) lo (some ⟨g0, 0, none⟩) N N (rowF f N k)) := Lib.hid (own_lo (by have := HOa.out; rw [← HL.out, rowQ_done] at this; exact this) (by omega))
          have HM5 : Hid (Mx w5 lo (.slice A5 (gs2.length + 1) c5) N (gs2 ++ [g0]) (rs ++ rowsL f N (k + 1))) := Lib.hid (by
            rw [← rowsL_succ]
            exact HMa.out.snoc hN HR1.out HNe.out (fun e => HV.out _ e rfl) hown' hgrow)
          have HB5 : Hid (Below W.heap.size W w5) := Lib.hid ((bl_alloc (bl_trans HB.out HBo.out) _).grown hgrow (by simp; omega) (fun z hz => by have := (HMr.out.own.lt z hz).1; omega))
          have HC5 : Hid (Cap w5 gn gm gr n m u) := Lib.hid ((HCr.out.below (bl_alloc (Below.refl _ _) _)).grown hgrow (fun z hz => (HMr.out.own.lt z hz).1) l1 l2 l3)
          have hs5 : wr.heap.size + 1 ≤ w5.heap.size := by have := hgrow.size; simp at this; omega
          clear hown' hgrow hl1 hl2 cr
          have HC6 : Hid (Cap (w5.setCell ⟨gr, 0, none⟩ (.slice A5 (gs2.length + 1) c5)) gn gm gr n m (.slice A5 (gs2.length + 1) c5)) := Lib.hid ⟨(World.cell?_setCell_other _ _ _ _ (fun e => hnr (by injection e))).trans HC5.out.n, (World.cell?_setCell_other _ _ _ _ (fun e => hmr (by injection e))).trans HC5.out.m, by simp [go_sem, cr5], by simp [go_sem, cf5]⟩
          have HM6 : Hid (Mx (w5.setCell ⟨gr, 0, none⟩ (.slice A5 (gs2.length + 1) c5)) lo (.slice A5 (gs2.length + 1) c5) N (gs2 ++ [g0]) (rs ++ rowsL f N (k + 1))) := Lib.hid (HM5.out.kept hN (row := some gr) (grown_set2 _ _ _ _) (.inr (fun e => by have := (HM5.out.own.lt gr e).1; omega)) (fun i hi e => by have := (HM5.out.ge hN hi).1; injection e with e; omega))
          have HB6 : Hid (Below W.heap.size W (w5.setCell ⟨gr, 0, none⟩ (.slice A5 (gs2.length + 1) c5))) := Lib.hid (bl_set HB5.out _ _ l4 _)
          have hlo6 : lo ≤ (w5.setCell ⟨gr, 0, none⟩ (.slice A5 (gs2.length + 1) c5)).heap.size := by simp; omega
          clear HC5 HM5 HB5
          go_wp2
          go_roundg (K - (k + 1))
          case measure => omega
          case rel => exact ⟨k + 1, _, _, rfl, by omega, by go_num, by have := HLn.out; simp; omega, HM6, HC6, HB6, hlo6⟩
    · obtain rfl : k = K := by omega
      go_wp2
      go_end0
      exact ⟨_, _, rfl, HLn.out, HM.out, HC.out, HB.out, hlor⟩
theorem Mx.lower {w : World} {lo lo' N : Nat} {v : Value} {gs : List Nat} {rs : List (List Int)} (h : Mx w lo v N gs rs) (hl : lo' ≤ lo) : Mx w lo' v N gs rs :=
  ⟨ownsRow_lo2 h.own hl, h.len, fun i hi => own_lo (h.row i hi) hl, h.nd⟩
set_option maxHeartbeats 1600000 in
theorem sylvester_any (A : Option Addr) (nf c : Nat) (f : List Int) (B : Option Addr) (ng d : Nat) (g : List Int) (n m N : Nat) (w : World) (hf : Rd .i64 w A nf c f) (hg : Rd .i64 w B ng d g) (hn : nf = n + 1) (hm : ng = m + 1) (hN : N = n + m) (n1 : 1 ≤ n) (n4 : n ≤ 4) (m1 : 1 ≤ m) (m4 : m ≤ 4) :
    Calls Try.prog 72 #[.slice A nf c, .slice B ng d] w fun e w' => ∃ (v : Value) (gs : List Nat), e = .returned v ∧ gs.length = m + n ∧ Mx w' w.heap.size v N gs (rowsL f N m ++ rowsL g N n) ∧ Below w.heap.size w w' := by
  have HF := Lib.hid hf
  have HG := Lib.hid hg
  have e1 : (nf : Int) - 1 = (n : Int) := by omega
  have e2 : (ng : Int) - 1 = (m : Int) := by omega
  have HH := Lib.hid (And.intro hn (And.intro hm hN))
  have hcf := hf.2.1
  have hcf2 := hf.2.2.1
  have hcg := hg.2.1
  have hcg2 := hg.2.2.1
  unfold maxLen at hcf2 hcg2
  clear hf hg hn hm hN
  go_enter Try.func72, Try.ntmps72
  go_wp2_with (go_at_call 130; refine (degree_any _ _ _ (by omega) _).mono ?_; rintro e w' ⟨rfl, rfl⟩)
  obtain ⟨w0, hw0⟩ : ∃ z, z = ((w.alloc (.cells #[.int .i64 (n : Int)] 2)).alloc (.cells #[.int .i64 (m : Int)] 2)).alloc (.cells #[.slice none 0 0] 23) := ⟨_, rfl⟩
  have HC0 : Hid (Cap w0 w.heap.size (w.heap.size + 1) (w.heap.size + 1 + 1) n m (.slice none 0 0)) := Lib.hid (by rw [hw0]; exact ⟨by simp [go_sem], by simp [go_sem], by simp [go_sem], by simp [go_sem]⟩)
  have HB0 : Hid (Below w.heap.size w w0) := Lib.hid (by rw [hw0]; exact bl_alloc (bl_alloc (bl_alloc (Below.refl _ _) _) _) _)
  have hs0 : w0.heap.size = w.heap.size + 3 := by rw [hw0]; simp
  rw [← hw0]
  clear hw0
  refine (add_any w w0 w0.heap.size w.heap.size (w.heap.size + 1) (w.heap.size + 1 + 1) n m _ [] [] N m A nf c f HF.out HB0.out (noneM _ _ _) (by have := HH.out; omega) (by have := HH.out; omega) (by have := HH.out; omega) (by have := HH.out; omega) (by simp) HC0.out (by have := HH.out; omega) (by omega) (by omega) (by omega) (by omega) (Nat.le_refl _) (by omega) (by omega)).mono ?_
  rintro e w1 ⟨v1, gs1, rfl, hl1, hm1, hc1, hb1, hlo1⟩
  rw [List.nil_append] at hm1
  have HM1 := Lib.hid hm1
  have HB1 := Lib.hid hb1
  have HL1 := Lib.hid hl1
  have HC1 := Lib.hid hc1
  have cn := hc1.n
  have cm := hc1.m
  clear hm1 hb1 hl1 hc1
  go_wp2_with fail
  refine (add_any w w1 w0.heap.size w.heap.size (w.heap.size + 1) (w.heap.size + 1 + 1) n m _ gs1 (rowsL f N m) N n B ng d g HG.out HB1.out HM1.out (by have := HH.out; omega) (by have := HH.out; omega) (by have := HH.out; omega) (by have := HH.out; omega) (by have := HL1.out; simp at this; omega) HC1.out (by have := HH.out; omega) (by omega) (by omega) (by omega) (by omega) hlo1 (by omega) (by omega)).mono ?_
  rintro e w2 ⟨v2, gs2, rfl, hl2, hm2, hc2, hb2, hlo2⟩
  obtain ⟨A2, c2, rfl⟩ := hm2.form
  have HM2 := Lib.hid (hm2.lower (show w.heap.size ≤ w0.heap.size by omega))
  have HB2 := Lib.hid hb2
  have HL2 := Lib.hid (And.intro HL1.out hl2)
  have cr := hc2.r
  clear hm2 hb2 hl2 hc2 cn cm HM1 HB1 HL1 HC1
  go_wp2
  go_ret
  exact ⟨_, gs2, rfl, by have := HL2.out; simp at this; omega, HM2.out, HB2.out⟩

set_option maxHeartbeats 1600000 in
theorem implSylvester_any (A : Option Addr) (nf c : Nat) (f : List Int) (B : Option Addr) (ng d : Nat) (g : List Int) (w : World) (hf : Rd .i64 w A nf c f) (hg : Rd .i64 w B ng d g) :
    Calls Try.prog 10 #[.slice A nf c, .slice B ng d] w (GivesM (sylN f g) (sylR f g) w) := by
  obtain ⟨k, hk⟩ : ∃ k, k = smC [f, g] := ⟨_, rfl⟩
  have HK := Lib.hid hk
  have hlf := hf.1
  have hlg := hg.1
  subst hlf hlg
  have HF := Lib.hid hf
  have HG := Lib.hid hg
  by_cases hz : k = 0
  · have hkb : (k != 0) = false := by simpa using hz
    have h0 : smC [f, g] = 0 := by rw [← hk]; exact hz
    have ⟨s1, s2⟩ := smC_zero h0
    have ⟨a1, a2⟩ := s1.2.1
    have ⟨b1, b2⟩ := s2.2.1
    have HE : Hid (sylR f g = (sylM f g, 0) ∧ sylN f g = f.length - 1 + (g.length - 1)) := Lib.hid ⟨by unfold sylR; rw [if_pos h0], by unfold sylN; rw [if_pos h0]⟩
    clear hk hf hg hz h0 s1 s2
    go_enter Try.func10, Try.ntmps10
    go_wp2_with fail
    refine (areSmallOnes_any HK.out _ (RdP.two HF.out HG.out) (by omega)).mono ?_
    rintro e w' ⟨rfl, rfl⟩
    go_wp2_with fail
    refine (sylvester_any A f.length c f B g.length d g (f.length - 1) (g.length - 1) _ _ (HF.out.below (bl_alloc (Below.refl _ _) _)) (HG.out.below (bl_alloc (Below.refl _ _) _)) (by omega) (by omega) rfl (by omega) (by omega) (by omega) (by omega)).mono ?_
    rintro e w1 ⟨v, gs, rfl, hl, hm, hb⟩
    have hs : (w.alloc (.cells #[.slice A f.length c, .slice B g.length d] 22)).heap.size = w.heap.size + 1 := by simp
    obtain ⟨A1, c1, rfl⟩ := hm.form
    have HM := Lib.hid hm
    have HB := Lib.hid (bl_trans (bl_alloc (Below.refl w.heap.size w) _) hb)
    have HL := Lib.hid hl
    clear hb hl hm
    go_wp2
    go_ret2
    have hlen : gs.length = (sylR f g).1.length := by
      rw [HE.out.1, HL.out]
      show _ = (sylM f g).length
      unfold sylM
      rw [List.length_append, rowsL_len, rowsL_len]
    refine ⟨A1, c1, gs, by rw [← hlen, HE.out.1]; rfl, hlen, ?_, HB.out⟩
    rw [← hlen, HE.out.1, HE.out.2]
    exact HM.out.lower (by omega)
  · have hkb : (k != 0) = true := by simpa using hz
    have h0 : ¬ smC [f, g] = 0 := by rw [← hk]; exact hz
    have HE : Hid (sylR f g = ([], k)) := Lib.hid (by unfold sylR; rw [if_neg h0, hk])
    clear hk hf hg hz h0
    go_enter Try.func10, Try.ntmps10
    go_wp2_with fail
    refine (areSmallOnes_any HK.out _ (RdP.two HF.out HG.out) (by omega)).mono ?_
    rintro e w' ⟨rfl, rfl⟩
    go_wp2
    go_ret2
    exact ⟨none, 0, [], by rw [HE.out]; rfl, by rw [HE.out]; rfl, by rw [HE.out]; exact noneM _ _ _, bl_alloc (Below.refl _ _) _⟩
end Go.Proofs.Ythdmanngjnfamaa
