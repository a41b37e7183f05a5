
/- Splittings' text read: what is read, plain. -/
import Derived.Test.YtgajgonepcikbaaDoorRdP1
import Derived.Test.YtgajgonepcikbaaDoorSpT2
import Derived.Deep.LoopGhost
namespace Go.Proofs.YtgajgonepcikbaaDoor
open Go.RowKit Go.Joins

/-- the cells of a list of triples -/
def flat3 (l : List (Int × Int × Int)) : List Value := l.flatMap fun x => [.int .i64 x.1, .int .i64 x.2.1, .int .i64 x.2.2]
theorem flat3_len (l : List (Int × Int × Int)) : (flat3 l).length = l.length * 3 := by
  unfold flat3
  induction l with
  | nil => rfl
  | cons x l ih => rw [List.flatMap_cons, List.length_append, ih]; simp; omega
theorem flat3_snoc (l : List (Int × Int × Int)) (p q t : Int) : flat3 (l ++ [(p, q, t)]) = flat3 l ++ [.int .i64 p, .int .i64 q, .int .i64 t] := by
  unfold flat3; rw [List.flatMap_append]; rfl
def fl3 (L : List (Int × Int × Int)) : List Int := L.flatMap fun x => [x.1, x.2.1, x.2.2]
theorem fl3_flat (L : List (Int × Int × Int)) : flat3 L = (fl3 L).map (Value.int .i64) := by
  unfold flat3 fl3
  induction L with
  | nil => rfl
  | cons x L ih => rw [List.flatMap_cons, List.flatMap_cons, List.map_append, ih]; rfl
theorem fl3_at (L : List (Int × Int × Int)) {i : Nat} (h : i < L.length) : zR (fl3 L) i = (L.getD i (0, 0, 0)).1 ∧ zI (fl3 L) i = (L.getD i (0, 0, 0)).2.1 ∧ zT (fl3 L) i = (L.getD i (0, 0, 0)).2.2 := by
  induction L generalizing i with
  | nil => simp at h
  | cons x L ih =>
    unfold zR zI zT at *
    have e : fl3 (x :: L) = x.1 :: x.2.1 :: x.2.2 :: fl3 L := rfl
    rw [e]
    cases i with
    | zero => simp
    | succ i =>
      have := ih (i := i) (by simpa using h)
      rw [show (i + 1) * 3 = i * 3 + 3 by omega]
      simpa [List.getD] using this
theorem spL_fl3 (L : List (Int × Int × Int)) : spL (fl3 L) L.length = L := by
  apply List.ext_getElem
  · rw [spL_len]
  · intro i h1 h2
    have ⟨a, b, c⟩ := fl3_at L h2
    simp only [spL, List.getElem_map, List.getElem_range, a, b, c, List.getD, List.getElem?_eq_getElem h2, Option.getD_some]
def l3 (l : List UInt8) : List (Int × Int × Int) := if l = [45] then [] else (spl 32 l).map spP1
/-- the list is one of splittings, and the text is its text -/
def RsOk (l : List UInt8) (L : List (Int × Int × Int)) : Prop := SpOk (fl3 L) L.length ∧ spT L = l
instance (l : List UInt8) (L : List (Int × Int × Int)) : Decidable (RsOk l L) := by unfold RsOk; infer_instance
theorem SpOk.b02 {L : List (Int × Int × Int)} (h : SpOk (fl3 L) L.length) : ∀ x ∈ L, B02 x := by
  intro x hx
  obtain ⟨i, hi, rfl⟩ := List.getElem_of_mem hx
  have hk := (h.1 i hi).1
  have ⟨a, b, c⟩ := fl3_at L hi
  rw [a, b, c] at hk
  simp only [List.getD, List.getElem?_eq_getElem hi, Option.getD_some] at hk
  unfold O8 at hk
  unfold B02
  omega
/-- the reference's words -/
def wV (x : List UInt8) : List (List UInt8) := spl 120 x
def wU (x : List UInt8) : List (List UInt8) := spl 44 ((wV x).getD 0 [])
def wOk (x : List UInt8) : Bool := (wU x).all lsB && decide ((wU x).length = 2)
def wS (x : List UInt8) : Int × Int × Int := (lsV ((wU x).getD 0 []), lsV ((wU x).getD 1 []), if (wV x).length = 2 then lvV ((wV x).getD 1 []) else 0)
theorem w_word {x : Int × Int × Int} (h : B02 x) : wOk (spW x) = true ∧ wS (spW x) = x := by
  have e := spS1_word h
  unfold spS1 at e
  have e1 : wU (spW x) = [Lib.itoa x.1, Lib.itoa x.2.1] := congrArg Prod.fst e
  have e2 : (if (wV (spW x)).length = 2 then lvV ((wV (spW x)).getD 1 []) else 0) = x.2.2 := congrArg Prod.snd e
  unfold B02 at h
  have ⟨a1, a2⟩ := ls_itoa (n := x.1) (by omega) (by omega)
  have ⟨b1, b2⟩ := ls_itoa (n := x.2.1) (by omega) (by omega)
  unfold wOk wS
  rw [e1, e2]
  simp [a1, a2, b1, b2]
theorem l3_ne {l : List UInt8} (h : l ≠ [45]) : l3 l ≠ [] := by
  unfold l3
  rw [if_neg h]
  simpa using spl_ne 32 l
theorem rs_fw {l : List UInt8} (h : l ≠ [45]) (hr : RsOk l (l3 l)) : (∀ x ∈ spl 32 l, wOk x = true) ∧ (spl 32 l).map wS = l3 l := by
  obtain ⟨h1, h2⟩ := hr
  have hw := sp_words (l3_ne h)
  rw [h2] at hw
  rw [hw]
  have hb := h1.b02
  constructor
  · intro x hx
    obtain ⟨y, hy, rfl⟩ := List.mem_map.1 hx
    exact (w_word (hb y hy)).1
  · exact map_id_of fun y hy => (w_word (hb y hy)).2
theorem rs_bw {l : List UInt8} (h : l ≠ [45]) (hr : RsOk l ((spl 32 l).map wS)) : l3 l = (spl 32 l).map wS := by
  obtain ⟨h1, h2⟩ := hr
  have hne : (spl 32 l).map wS ≠ [] := by simpa using spl_ne 32 l
  have := spP_text hne h1.b02
  rw [h2] at this
  unfold l3
  rw [if_neg h]
  exact this
/-- what ReadSplitting gives -/
def rsL (l : List UInt8) : List (Int × Int × Int) := if RsOk l (l3 l) then l3 l else []
def rsC (l : List UInt8) : Int := if RsOk l (l3 l) then 0 else 6
theorem rs_yes {l : List UInt8} (h : RsOk l (l3 l)) : rsL l = l3 l ∧ rsC l = 0 := by unfold rsL rsC; rw [if_pos h, if_pos h]; exact ⟨rfl, rfl⟩
theorem rs_no {l : List UInt8} (h : ¬ RsOk l (l3 l)) : rsL l = [] ∧ rsC l = 6 := by unfold rsL rsC; rw [if_neg h, if_neg h]; exact ⟨rfl, rfl⟩
theorem rsL_len {l : List UInt8} : (rsL l).length ≤ 1048576 := by
  by_cases h : RsOk l (l3 l)
  · rw [(rs_yes h).1]; have := h.1.len; omega
  · rw [(rs_no h).1]; simp
theorem rs_one : RsOk [45] (l3 [45]) ∧ l3 [45] = [] := by
  have e : l3 [45] = [] := by unfold l3; rw [if_pos rfl]
  refine ⟨?_, e⟩
  rw [e]
  exact ⟨⟨fun k hk => absurd hk (Nat.not_lt_zero _), by decide⟩, rfl⟩
theorem infoSp3 : (Tryd.prog.info? 81).map (fun i => (i.zero, i.size, i.bytes)) = some (some (.agg #[.int .i64 0, .int .i64 0, .int .i64 0]), 3, 24) := by kernel_rfl
theorem newT3 (w : World) (x y z : Int) (T : TypeId) : ∀ j u, [Value.int .i64 x, .int .i64 y, .int .i64 z][j]? = some u → (w.alloc (.cells #[.int .i64 x, .int .i64 y, .int .i64 z] T)).cell? ((⟨w.heap.size, 0, none⟩ : Addr).add j) = some u := by
  intro j u hj
  match j, hj with
  | 0, hj => simp at hj; subst hj; simp [Addr.add]
  | 1, hj => simp at hj; subst hj; simp [Addr.add]
  | 2, hj => simp at hj; subst hj; simp [Addr.add]
theorem oneT3 (x y z : Int) : ∀ u ∈ [Value.int .i64 x, .int .i64 y, .int .i64 z], u.oneCell' = true := by
  intro u hu; simp at hu; rcases hu with rfl | rfl | rfl <;> rfl
end Go.Proofs.YtgajgonepcikbaaDoor

namespace Go.Proofs.YtgajgonepcikbaaDoor
open Go.RowKit Go.Joins

set_option maxRecDepth 100000 in
set_option maxHeartbeats 3200000 in
theorem implReadSplitting_at {s : ByteArray} {L : List (Int × Int × Int)} {C : Int} (hL : L = rsL s.data.toList) (hC : C = rsC s.data.toList) (hs : s.size ≤ 1048576) (w : World) (hE : Er w) :
    Calls Tryd.prog 40 #[.string s] w fun e w' => ∃ A c, e = .returned (.tuple #[.slice A L.length c, .int .i64 C]) ∧ OwnC 81 3 w' w.heap.size A L.length c ((fl3 L).map (Value.int .i64)) ∧ Below w.heap.size w w' := by
  have HE := Lib.hid hE
  clear hE
  by_cases h1 : s.data.toList = [45]
  · have HL : Hid (L = [] ∧ C = 0) := Lib.hid (by
      rw [hL, hC, h1, (rs_yes rs_one.1).1, (rs_yes rs_one.1).2, rs_one.2]; exact ⟨rfl, rfl⟩)
    obtain ⟨rfl, rfl⟩ := HL.out
    have ⟨b1, b2⟩ := str_eq h1
    clear h1 hL hC
    go_enter Tryd.func40, Tryd.ntmps40
    go_wp2
    go_ret2
    exact ⟨none, 0, rfl, OwnC.nil (by unfold maxLen; omega), Below.refl _ _⟩
  have ⟨b1, b2⟩ := str_ne h1
  obtain ⟨i0, hi, hz0, hz1, hz2⟩ := info_parts infoSp3
  have HI := Lib.hid hi
  have HZ0 := Lib.hid hz0
  have HZ1 := Lib.hid hz1
  have HZ2 := Lib.hid hz2
  clear hi hz0 hz1 hz2
  obtain ⟨W, hW⟩ : ∃ W, W = spl 32 s.data.toList := ⟨_, rfl⟩
  have hn : W.length ≤ 1048577 := by
    rw [hW]; have := spl_cnt 32 s.data.toList; rw [size_data] at this; omega
  have HWl : Hid (∀ k, (W.getD k []).length ≤ 1048576) := Lib.hid (fun k => by rw [hW]; have := spl_getD (c := 32) (l := s.data.toList) k; rw [size_data] at this; omega)
  have HW := Lib.hid hW
  have H1 := Lib.hid h1
  have HL := Lib.hid hL
  have HC := Lib.hid hC
  have hp : 0 < W.length := by rw [hW]; exact spl_pos _ _
  obtain ⟨n, hnW⟩ : ∃ n, n = W.length := ⟨_, rfl⟩
  have HN := Lib.hid hnW
  rw [← hnW] at hn hp
  clear hW h1 hL hC
  go_enter Tryd.func40, Tryd.ntmps40
  go_wp2_with fail
  refine (split_at HW.out hs _ HE.out).mono ?_
  rintro e w1 ⟨rfl, hrt, hb1⟩
  rw [← hnW] at hrt ⊢
  have HRt := Lib.hid hrt
  have HB1 := Lib.hid hb1
  have HE1 : Hid (Er w1) := Lib.hid (HE.out.below hb1)
  clear hrt hb1 hnW
  go_wp2_with fail
  go_loopg [4, 6, 7, 8, 9, 10, 11, 12, 13, 19] n (fun g v _ _ _ _ _ _ _ _ i wr => ∃ k : Nat, g = n - k ∧ k ≤ n ∧ i = .int .i64 k ∧ Hid (wr.ownsRow w1.heap.size 81 3 v k (flat3 ((W.take k).map spP1))) ∧ Hid (Below w1.heap.size w1 wr))
  case atStart => exact ⟨0, by omega, Nat.zero_le _, rfl, Lib.hid (World.ownsRow_nil _ _ _ _), Lib.hid (Below.refl _ _)⟩
  case round =>
    obtain ⟨k, rfl, hk, rfl, HO, HB⟩ := hrel
    by_cases hlt : k < n
    · obtain ⟨b, off, hbo, hbl, hcell⟩ := (HRt.out.below HB.out).at_ hp
      have hbw : b = w.heap.size ∧ off = 0 := by simp at hbo; exact ⟨hbo.1.symm, hbo.2.symm⟩
      obtain ⟨rfl, rfl⟩ := hbw
      have hx := hcell k hlt
      rw [Nat.zero_add] at hx
      obtain ⟨S, hS⟩ : ∃ S, S = bs (W.getD k []) := ⟨_, rfl⟩
      rw [← hS] at hx
      have hSd : S.data.toList = W.getD k [] := by rw [hS, bs_data]
      have hsz : S.size ≤ 1048576 := by rw [hS, bs_size]; exact HWl.out k
      obtain ⟨A, hA⟩ : ∃ A, A = bs (Lib.cut S.data.toList [120]).1 := ⟨_, rfl⟩
      obtain ⟨B, hB⟩ : ∃ A, A = bs (Lib.cut S.data.toList [120]).2.1 := ⟨_, rfl⟩
      obtain ⟨has, hh⟩ : ∃ A, A = (Lib.cut S.data.toList [120]).2.2 := ⟨_, rfl⟩
      have za : A.size ≤ 1048576 := by rw [hA, bs_size]; have := (cut_le S.data.toList 120).1; rw [size_data] at this; omega
      have zb : B.size ≤ 1048576 := by rw [hB, bs_size]; have := (cut_le S.data.toList 120).2; rw [size_data] at this; omega
      obtain ⟨A1, hA1⟩ : ∃ X, X = bs (Lib.cut A.data.toList [44]).1 := ⟨_, rfl⟩
      obtain ⟨A2, hA2⟩ : ∃ X, X = bs (Lib.cut A.data.toList [44]).2.1 := ⟨_, rfl⟩
      obtain ⟨has2, hh2⟩ : ∃ X, X = (Lib.cut A.data.toList [44]).2.2 := ⟨_, rfl⟩
      have za1 : A1.size ≤ 1048576 := by rw [hA1, bs_size]; have := (cut_le A.data.toList 44).1; rw [size_data] at this; omega
      have za2 : A2.size ≤ 1048576 := by rw [hA2, bs_size]; have := (cut_le A.data.toList 44).2; rw [size_data] at this; omega
      obtain ⟨p, hpv⟩ : ∃ n, n = rdV A1.data.toList := ⟨_, rfl⟩
      obtain ⟨pb, hpb⟩ : ∃ n, n = rdB A1.data.toList := ⟨_, rfl⟩
      obtain ⟨q, hqv⟩ : ∃ n, n = rdV A2.data.toList := ⟨_, rfl⟩
      obtain ⟨qb, hqb⟩ : ∃ n, n = rdB A2.data.toList := ⟨_, rfl⟩
      obtain ⟨t, htv⟩ : ∃ n, n = rdV B.data.toList := ⟨_, rfl⟩
      obtain ⟨tb, htb⟩ : ∃ n, n = rdB B.data.toList := ⟨_, rfl⟩
      have HT : Hid (flat3 ((W.take (k + 1)).map spP1) = flat3 ((W.take k).map spP1) ++ [.int .i64 p, .int .i64 q, .int .i64 t]) := Lib.hid (by
        have e : spP1 (W.getD k []) = (p, q, t) := by
          unfold spP1
          rw [hpv, hqv, htv, hA1, hA2, hA, hB, bs_data, bs_data, bs_data, bs_data, hSd]
        have hkW : k < W.length := by rw [← HN.out]; exact hlt
        rw [List.take_succ_eq_append_getElem hkW, List.map_append, List.map_singleton, ← flat3_snoc]
        rw [show W[k] = W.getD k [] by simp [List.getD, List.getElem?_eq_getElem hkW], e])
      have HA := Lib.hid hA
      have HBb := Lib.hid hB
      have HH := Lib.hid hh
      have HA1 := Lib.hid hA1
      have HA2 := Lib.hid hA2
      have HH2 := Lib.hid hh2
      have HP := Lib.hid hpv
      have HPb := Lib.hid hpb
      have HQ := Lib.hid hqv
      have HQb := Lib.hid hqb
      have HTv := Lib.hid htv
      have HTb := Lib.hid htb
      have hl1 : k + 1 ≤ maxLen := by unfold maxLen; omega
      have hl2 : (k + 1) * 24 ≤ 140737488355328 := by omega
      clear hA hB hh hA1 hA2 hh2 hpv hpb hqv hqb htv htb hcell hbo hS hSd
      go_wp2_with fail
      refine (cut_at HA.out HBb.out HH.out hsz _ (HE1.out.below HB.out)).mono ?_
      rintro e wb ⟨rfl, nq, hwb⟩
      have hbd : Below wr.heap.size wr wb := by subst hwb; exact below_drewN (Below.refl _ _) nq
      have HOb := Lib.hid (ownsRow_below HO.out hbd)
      have HBx := Lib.hid (bl_trans HB.out hbd)
      clear hwb hbd HO HB hx
      go_wp2_with fail
      refine (cut_at HA1.out HA2.out HH2.out za _ (HE1.out.below HBx.out)).mono ?_
      rintro e wd ⟨rfl, nq2, hwd⟩
      have hbd : Below wb.heap.size wb wd := by subst hwd; exact below_drewN (Below.refl _ _) nq2
      have HOd := Lib.hid (ownsRow_below HOb.out hbd)
      have HBd := Lib.hid (bl_trans HBx.out hbd)
      clear hwd hbd HOb HBx
      go_wp2_with fail
      refine (readDecimal_at HP.out HPb.out za1 _ (HE1.out.below (bl_trans HBd.out (by repeat (first | exact Below.refl _ _ | apply below_drewN | refine bl_alloc ?_ _))))).mono ?_
      rintro e w2 ⟨rfl, hb2⟩
      have HB2 : Hid (Below wd.heap.size wd w2) := Lib.hid (bl_trans (by repeat (first | exact Below.refl _ _ | apply below_drewN | refine bl_alloc ?_ _)) hb2)
      have q0 := keep_cell hb2 (b := wd.heap.size) (o := 0) (v := .int .i64 0) (by simp [go_sem])
      have q1 := keep_cell hb2 (b := wd.heap.size) (o := 1) (v := .int .i64 0) (by simp [go_sem])
      have q2 := keep_cell hb2 (b := wd.heap.size) (o := 2) (v := .int .i64 0) (by simp [go_sem])
      have qf0 := keep_fr hb2 (b := wd.heap.size) (o := 0) (v := .int .i64 0) (by simp [go_sem]) (by simp [go_sem])
      have qf1 := keep_fr hb2 (b := wd.heap.size) (o := 1) (v := .int .i64 0) (by simp [go_sem]) (by simp [go_sem])
      have qf2 := keep_fr hb2 (b := wd.heap.size) (o := 2) (v := .int .i64 0) (by simp [go_sem]) (by simp [go_sem])
      clear hb2
      have HBs : Hid (Below wd.heap.size wd (w2.setCell ⟨wd.heap.size, 0, none⟩ (.int .i64 p))) := Lib.hid (bl_set HB2.out _ _ (Nat.le_refl _) _)
      go_wp2_with fail
      refine (readDecimal_at HQ.out HQb.out za2 _ (HE1.out.below (bl_trans HBd.out HBs.out))).mono ?_
      rintro e w3 ⟨rfl, hb3⟩
      have HB3 : Hid (Below wd.heap.size wd w3) := Lib.hid (bl_trans HBs.out hb3)
      have Q0 := keep_cell hb3 (b := wd.heap.size) (o := 0) (v := .int .i64 p) (by simp [go_sem, q0])
      have Q1 := keep_cell hb3 (b := wd.heap.size) (o := 1) (v := .int .i64 0) (by simp [go_sem, q1])
      have Q2 := keep_cell hb3 (b := wd.heap.size) (o := 2) (v := .int .i64 0) (by simp [go_sem, q2])
      have QF1 := keep_fr hb3 (b := wd.heap.size) (o := 1) (v := .int .i64 0) (by simp [go_sem, q1]) (by simp [go_sem, qf1])
      have QF2 := keep_fr hb3 (b := wd.heap.size) (o := 2) (v := .int .i64 0) (by simp [go_sem, q2]) (by simp [go_sem, qf2])
      clear hb3 q0 q1 q2 qf0 qf1 qf2 HB2
      have HBs3 : Hid (Below wd.heap.size wd (w3.setCell ⟨wd.heap.size, 1, none⟩ (.int .i64 q))) := Lib.hid (bl_set HB3.out _ _ (Nat.le_refl _) _)
      go_wp2_with fail
      refine (readDecimal_at HTv.out HTb.out zb _ (HE1.out.below (bl_trans HBd.out HBs3.out))).mono ?_
      rintro e wc ⟨rfl, hb4⟩
      have HB4 : Hid (Below wd.heap.size wd wc) := Lib.hid (bl_trans HBs3.out hb4)
      have q0 := keep_cell hb4 (b := wd.heap.size) (o := 0) (v := .int .i64 p) (by simp [go_sem, Q0])
      have q1 := keep_cell hb4 (b := wd.heap.size) (o := 1) (v := .int .i64 q) (by simp [go_sem, Q1])
      have q2 := keep_cell hb4 (b := wd.heap.size) (o := 2) (v := .int .i64 0) (by simp [go_sem, Q2])
      have qf2 := keep_fr hb4 (b := wd.heap.size) (o := 2) (v := .int .i64 0) (by simp [go_sem, Q2]) (by simp [go_sem, QF2])
      clear hb4 Q0 Q1 Q2 QF1 QF2 HB3 HBs HBs3
      have HBc : Hid (Below wd.heap.size wd (wc.setCell ⟨wd.heap.size, 2, none⟩ (.int .i64 t))) := Lib.hid (bl_set HB4.out _ _ (Nat.le_refl _) _)
      obtain ⟨wg, hwg⟩ : ∃ x, x = wc.setCell ⟨wd.heap.size, 2, none⟩ (.int .i64 t) := ⟨_, rfl⟩
      have c0 : wg.cell? ⟨wd.heap.size, 0, none⟩ = some (.int .i64 p) := by rw [hwg]; simp [go_sem, q0]
      have c1 : wg.cell? ⟨wd.heap.size, 1, none⟩ = some (.int .i64 q) := by rw [hwg]; simp [go_sem, q1]
      have c2 : wg.cell? ⟨wd.heap.size, 2, none⟩ = some (.int .i64 t) := by rw [hwg]; simp [go_sem, q2]
      go_upto_region 13 with fail
      rw [← hwg] at HBc ⊢
      clear hwg q0 q1 q2 qf2 HB4
      have HOc := Lib.hid (ownsRow_below HOd.out HBc.out)
      have HBw := Lib.hid (bl_trans HBd.out HBc.out)
      go_wp2_with (at_builtin; refine wpList_append_own _ rfl _ _ _ rfl w1.heap.size 81 i0 _ 3 24 Tryd.underlying44 HI.out HZ0.out HZ1.out HZ2.out rfl (by decide) _ k (flat3 ((W.take k).map spP1)) rfl (HOc.out.alloc _) ⟨wg.heap.size, 0, none⟩ 1 1 [.int .i64 p, .int .i64 q, .int .i64 t] rfl rfl (newT3 _ _ _ _ _) (oneT3 _ _ _) hl1 hl2 (base_alloc HBw.out _) ?_; intro v' w4 hown' hgrow _)
      have HO3 : Hid (w4.ownsRow w1.heap.size 81 3 v' (k + 1) (flat3 ((W.take (k + 1)).map spP1))) := Lib.hid (by rw [HT.out]; exact hown')
      have HB3 : Hid (Below w1.heap.size w1 w4) := Lib.hid (Below.grown (bl_alloc HBw.out _) hgrow (base_alloc HBw.out _) (fun k hk => (HOc.out.lt k hk).1))
      clear hown' hgrow hl1 hl2
      go_wp2
      go_roundg (n - (k + 1))
      case measure => omega
      case rel => exact ⟨k + 1, rfl, by omega, by go_num, HO3, HB3⟩
    · obtain rfl : k = n := by omega
      have HLP : Hid ((W.take k).map spP1 = l3 s.data.toList ∧ (l3 s.data.toList).length = k) := Lib.hid (by
        have e : (W.take k).map spP1 = l3 s.data.toList := by unfold l3; rw [if_neg H1.out, HN.out, List.take_length, HW.out]
        exact ⟨e, by rw [← e, List.length_map, List.length_take, ← HN.out]; omega⟩)
      obtain ⟨LP, hLP⟩ : ∃ LP, LP = l3 s.data.toList := ⟨_, rfl⟩
      rw [← hLP] at HLP
      have HLp := Lib.hid hLP
      have HO2 : Hid (wr.ownsRow w1.heap.size 81 3 u4 k (flat3 LP)) := Lib.hid (by rw [← HLP.out.1]; exact HO.out)
      clear HO hLP
      obtain ⟨A2, c2, rfl, hrd⟩ := own_cells HO2.out
      rw [fl3_flat] at hrd
      have HRd : Hid (RdC 3 wr A2 k c2 ((fl3 LP).map (Value.int .i64))) := Lib.hid hrd
      have HBw := Lib.hid (bl_trans HB1.out HB.out)
      have hkl : LP.length = k := HLP.out.2
      clear hrd
      cases hpw : spOkB (fl3 LP) k with
      | false =>
        have HPw := Lib.hid hpw
        have HR : Hid (L = [] ∧ C = 6) := Lib.hid (by
          have hno : ¬ RsOk s.data.toList (l3 s.data.toList) := fun h => by
            have h2 := h
            rw [← HLp.out] at h2
            have h3 : SpOk (fl3 LP) k := by rw [← hkl]; exact h2.1
            have : spOkB (fl3 LP) k = true := decide_eq_true h3
            rw [hpw] at this
            cases this
          rw [HL.out, HC.out]
          exact rs_no hno)
        obtain ⟨rfl, rfl⟩ := HR.out
        clear hpw
        go_wp2_with fail
        refine (areSplittings_any _ _ _ _ _ HRd.out (by omega)).mono ?_
        rintro e w5 ⟨rfl, hb5⟩
        have HB5 := Lib.hid (bl_trans HBw.out hb5)
        clear hb5
        rw [HPw.out]
        go_wp2
        go_ret2
        exact ⟨none, 0, rfl, OwnC.nil (by unfold maxLen; omega), HB5.out⟩
      | true =>
        have HPw := Lib.hid hpw
        have hok : SpOk (fl3 LP) k := of_decide_eq_true hpw
        have HOk := Lib.hid hok
        obtain ⟨T, hT⟩ : ∃ T, T = bs (spT (spL (fl3 LP) k)) := ⟨_, rfl⟩
        have HTx := Lib.hid hT
        have hT2 : T = bs (spT LP) := by rw [hT, ← hkl, spL_fl3]
        by_cases hts : T.toList = s.toList
        · have HR : Hid (L = LP ∧ C = 0) := Lib.hid (by
            have h : RsOk s.data.toList (l3 s.data.toList) := by
              rw [← HLp.out]
              refine ⟨by rw [hkl]; exact hok, ?_⟩
              rw [ByteArray.toList_eq, ByteArray.toList_eq, hT2, bs_data] at hts
              exact hts
            rw [HL.out, HC.out, (rs_yes h).1, (rs_yes h).2, HLp.out]
            exact ⟨rfl, rfl⟩)
          obtain ⟨rfl, rfl⟩ := HR.out
          have hb1' : (T.toList == s.toList) = true := by rw [hts]; simp
          have hb2' : (T.toList != s.toList) = false := by rw [hts]; simp
          clear hpw hok hT hT2 hts
          go_wp2_with fail
          refine (areSplittings_any _ _ _ _ _ HRd.out (by omega)).mono ?_
          rintro e w5 ⟨rfl, hb5⟩
          have HB5 := Lib.hid (bl_trans HBw.out hb5)
          have HRd5 := Lib.hid (HRd.out.below hb5)
          have HO5 := Lib.hid (ownsRow_below HO2.out hb5)
          have HE5 := Lib.hid (HE.out.below HB5.out)
          clear hb5
          rw [HPw.out]
          go_wp2_with fail
          refine (splittingText_at HTx.out _ HRd5.out HOk.out HE5.out.1).mono ?_
          rintro e w6 ⟨rfl, hb6⟩
          have HB6 := Lib.hid (bl_trans HB5.out hb6)
          have HO6 := Lib.hid (ownsRow_lo (ownsRow_below HO5.out hb6) HB1.out.size)
          clear hb6
          go_wp2
          go_ret2
          refine ⟨A2, c2, by rw [hkl]; rfl, ?_, HB6.out⟩
          rw [hkl, ← fl3_flat]
          exact OwnC.of_row HO6.out
        · have HR : Hid (L = [] ∧ C = 6) := Lib.hid (by
            have hno : ¬ RsOk s.data.toList (l3 s.data.toList) := fun h => by
              have h2 := h
              rw [← HLp.out] at h2
              exact hts (by rw [ByteArray.toList_eq, ByteArray.toList_eq, hT2, bs_data]; exact h2.2)
            rw [HL.out, HC.out]
            exact rs_no hno)
          obtain ⟨rfl, rfl⟩ := HR.out
          have hb1' : (T.toList == s.toList) = false := by rw [beq_eq_false_iff_ne]; exact hts
          have hb2' : (T.toList != s.toList) = true := by rw [bne, hb1']; rfl
          clear hpw hok hT hT2 hts
          go_wp2_with fail
          refine (areSplittings_any _ _ _ _ _ HRd.out (by omega)).mono ?_
          rintro e w5 ⟨rfl, hb5⟩
          have HB5 := Lib.hid (bl_trans HBw.out hb5)
          have HRd5 := Lib.hid (HRd.out.below hb5)
          have HE5 := Lib.hid (HE.out.below HB5.out)
          clear hb5
          rw [HPw.out]
          go_wp2_with fail
          refine (splittingText_at HTx.out _ HRd5.out HOk.out HE5.out.1).mono ?_
          rintro e w6 ⟨rfl, hb6⟩
          have HB6 := Lib.hid (bl_trans HB5.out hb6)
          clear hb6
          go_wp2
          go_ret2
          exact ⟨none, 0, rfl, OwnC.nil (by unfold maxLen; omega), HB6.out⟩
end Go.Proofs.YtgajgonepcikbaaDoor
