
/- Texts of splittings in a walk: the reference's. -/
import Derived.Test.YtgajgonepcikbaaDoorSpT
import Derived.Deep.LoopGhost
import Derived.Deep.CutBlock
import Derived.Deep.DeepCutAuto
namespace Go.Proofs.YtgajgonepcikbaaDoor
open Go.RowKit Go.Joins

set_option maxRecDepth 100000 in
set_option maxHeartbeats 3200000 in
theorem l14Text_at {A : Option Addr} {n c : Nat} {zs : List Int} {T : ByteArray} (hTx : T = bs (spT (spL zs n))) (w : World) (hr : RdC 3 w A n c (zs.map (Value.int .i64))) (h : SpOk zs n) :
    Calls Tryd.prog 74 #[.slice A n c] w fun e w' => e = .returned (.string T) ∧ Below w.heap.size w w' := by
  have HR := Lib.hid hr
  have hc := hr.2.1
  have hm := hr.2.2.1
  unfold maxLen at hm
  have hn8 : n ≤ 8 := h.len
  have HK := Lib.hid h.1
  clear hr h
  rcases Nat.eq_zero_or_pos n with h0 | h0
  · subst h0
    obtain rfl : T = ⟨#[45]⟩ := by rw [hTx]; rfl
    clear hTx
    go_enter Tryd.func74, Tryd.ntmps74
    go_wp2
    go_ret
    exact ⟨rfl, Below.refl _ _⟩
  have HTx : Hid (T = bs (Lib.join ((spL zs n).map spW) [32])) := Lib.hid (by
    rw [hTx]; unfold spT; rw [if_neg (fun e => by have := spL_len zs n; rw [e] at this; simp at this; omega)])
  have hnz : ((n : Int) == 0) = false := by simp; omega
  clear hTx
  go_enter Tryd.func74, Tryd.ntmps74
  go_wp2
  go_loopg [3, 4] n (fun g v i wr => ∃ (k : Nat) (D : ByteArray), g = n - k ∧ k ≤ n ∧ i = .int .i64 k ∧ v = .string D ∧ D.size ≤ 66 * k ∧ Hid (D = bs (Lib.join ((spL zs k).map spW) [32])) ∧ Hid (Below w.heap.size w wr))
  case atStart => exact ⟨0, ⟨#[]⟩, by omega, Nat.zero_le _, rfl, rfl, by show 0 ≤ 66 * 0; omega, Lib.hid rfl, Lib.hid (Below.refl _ _)⟩
  case round =>
    obtain ⟨k, D, rfl, hk, rfl, rfl, hz, HD, HB⟩ := hrel
    by_cases hlt : k < n
    · obtain ⟨b, off, rfl, hcell⟩ := (HR.out.below HB.out).atF (by omega)
      have h0 := hcell (k * 3 + 0) (fl_lt hlt (by omega))
      rw [Nat.add_zero] at h0
      have h1 := hcell (k * 3 + 1) (fl_lt hlt (by omega))
      rw [← Nat.add_assoc] at h1
      have h2 := hcell (k * 3 + 2) (fl_lt hlt (by omega))
      rw [← Nat.add_assoc] at h2
      have HS2 : Hid ((spL zs (k + 1)).map spW = (spL zs k).map spW ++ [spW (zR zs k, zI zs k, zT zs k)]) := Lib.hid (by rw [spL_succ, List.map_append]; rfl)
      have hKk := (HK.out k hlt).1
      change _ = some (Value.int .i64 (zR zs k)) at h0
      change _ = some (Value.int .i64 (zI zs k)) at h1
      change _ = some (Value.int .i64 (zT zs k)) at h2
      generalize zR zs k = r at h0 hKk HS2
      generalize zI zs k = q at h1 hKk HS2
      generalize zT zs k = t at h2 hKk HS2
      have hbk := block_lt_of_cell h0
      have hbk2 : b < wr.heap.size + 1 := by omega
      obtain ⟨⟨r1, r2⟩, ⟨q1, q2⟩, ⟨t1, t2⟩⟩ := hKk
      obtain ⟨D1, hD1⟩ : ∃ D, D = bs (Lib.decDigits r.toNat) := ⟨_, rfl⟩
      obtain ⟨D2, hD2⟩ : ∃ D, D = bs (Lib.decDigits q.toNat) := ⟨_, rfl⟩
      obtain ⟨D3, hD3⟩ : ∃ D, D = bs (Lib.decDigits t.toNat) := ⟨_, rfl⟩
      have HD1 := Lib.hid hD1
      have HD2 := Lib.hid hD2
      have HD3 := Lib.hid hD3
      have z1 : D1.size ≤ 21 := by rw [hD1, ← itoa_dec (by omega), bs_size]; exact itoa_len (by omega) (by omega)
      have z2 : D2.size ≤ 21 := by rw [hD2, ← itoa_dec (by omega), bs_size]; exact itoa_len (by omega) (by omega)
      have z3 : D3.size ≤ 21 := by rw [hD3, ← itoa_dec (by omega), bs_size]; exact itoa_len (by omega) (by omega)
      have HW : Hid (D1 ++ ⟨#[44]⟩ ++ D2 ++ ⟨#[120]⟩ ++ D3 = bs (spW (r, q, t)) ∧ (spW (r, q, t)).length ≤ 65) := Lib.hid (by
        have e : D1 ++ ⟨#[44]⟩ ++ D2 ++ ⟨#[120]⟩ ++ D3 = bs (spW (r, q, t)) := by
          rw [hD1, hD2, hD3, ← itoa_dec (p := r) (by omega), ← itoa_dec (p := q) (by omega), ← itoa_dec (p := t) (by omega), size1s 44, size1s 120, bs_app, bs_app, bs_app, bs_app]
          congr 1
          simp [spW]
        refine ⟨e, ?_⟩
        rw [← bs_size, ← e]
        simp only [ByteArray.size_append, size1]
        omega)
      clear hcell hD1 hD2 hD3
      have HJ : Hid (Lib.join ((spL zs (k + 1)).map spW) [32] = (Lib.join ((spL zs k).map spW) [32] ++ if 0 < k then [32] else []) ++ spW (r, q, t)) := Lib.hid (by
        rw [HS2.out]
        by_cases k0 : k = 0
        · rw [k0]; simp [spL, Lib.join]
        · rw [join_snoc 32 _ _ (fun e => by have := congrArg List.length e; rw [List.length_map, spL_len] at this; simp at this; omega), if_pos (by omega)]
          simp)
      go_upto_if 15 with fail
      go_cut [3, 4] (fun s3 s4 wx => wr = wx ∧ ∃ P : ByteArray, s3 = .string P ∧ s4 = .int .i64 k ∧ P.size ≤ 66 * k + 1 ∧ Hid (P ++ bs (spW (r, q, t)) = bs (Lib.join ((spL zs (k + 1)).map spW) [32])))
      case first =>
        clear h0 h1 h2
        by_cases k0 : 0 < k
        · have HP : Hid (D ++ ⟨#[32]⟩ ++ bs (spW (r, q, t)) = bs (Lib.join ((spL zs (k + 1)).map spW) [32])) := Lib.hid (by
            rw [HJ.out, if_pos k0, HD.out, size1s 32, bs_app, bs_app])
          have hd0 : decide (0 < k) = true := by simp; omega
          have y1 : ¬ D.size + 1 > 9223372036854775807 := by omega
          clear HD HJ
          go_wp2
          go_meet
          exact ⟨rfl, _, rfl, rfl, by rw [ByteArray.size_append, size1]; omega, HP⟩
        · have HP : Hid (D ++ bs (spW (r, q, t)) = bs (Lib.join ((spL zs (k + 1)).map spW) [32])) := Lib.hid (by
            rw [HJ.out, if_neg k0, HD.out, bs_app, List.append_nil])
          have hd0 : decide (0 < k) = false := by simp; omega
          clear HD HJ
          go_wp2
          go_meet
          exact ⟨rfl, _, rfl, rfl, by omega, HP⟩
      case rest =>
        clear HD HJ hz
        obtain ⟨rfl, P, rfl, rfl, hzP, HP⟩ := hcut
        have HP2 : Hid (P ++ D1 ++ ⟨#[44]⟩ ++ D2 ++ ⟨#[120]⟩ ++ D3 = bs (Lib.join ((spL zs (k + 1)).map spW) [32])) := Lib.hid (by
          rw [← HP.out, ← HW.out.1]; simp only [ByteArray.append_assoc])
        have HZ : Hid ((P ++ D1 ++ ⟨#[44]⟩ ++ D2 ++ ⟨#[120]⟩ ++ D3).size ≤ 66 * (k + 1)) := Lib.hid (by
          simp only [ByteArray.size_append, size1]; omega)
        have y1 : ¬ P.size + D1.size > 9223372036854775807 := by omega
        have y2 : ¬ P.size + D1.size + 1 > 9223372036854775807 := by omega
        have y3 : ¬ P.size + D1.size + 1 + D2.size > 9223372036854775807 := by omega
        have y4 : ¬ P.size + D1.size + 1 + D2.size + 1 > 9223372036854775807 := by omega
        have y5 : ¬ P.size + D1.size + 1 + D2.size + 1 + D3.size > 9223372036854775807 := by omega
        clear HP
        go_wp2_with fail
        go_region_held3 (fun w' => w'.cell? ⟨b, off + k * 3, none⟩ = some (.int .i64 r) ∧ w'.cell? ⟨b, off + k * 3 + 1, none⟩ = some (.int .i64 q) ∧ w'.cell? ⟨b, off + k * 3 + 2, none⟩ = some (.int .i64 t)) (first | go_keep | exact ⟨hk3 _ _ (hk2 _ _ (hk1 _ _ h0)), hk3 _ _ (hk2 _ _ (hk1 _ _ h1)), hk3 _ _ (hk2 _ _ (hk1 _ _ h2))⟩ | exact ⟨hk2 _ _ (hk1 _ _ h0), hk2 _ _ (hk1 _ _ h1), hk2 _ _ (hk1 _ _ h2)⟩ | exact ⟨hk1 _ _ h0, hk1 _ _ h1, hk1 _ _ h2⟩) (first | (go_at_call 106; ((with_reducible refine (l01Dec_at HD1.out _ (by omega) (by omega)).mono ?_); rintro e wa ⟨rfl, hbc⟩; have HBa : Hid (Below w.heap.size w wa) := Lib.hid (bl_trans (by repeat (first | exact HBc.out | exact HBb.out | exact HBa.out | exact HB.out | apply Below.drew | apply below_drewN | refine bl_alloc ?_ _)) hbc); have hk1 := fun o v h => keep_cell (b := b) (o := o) (v := v) hbc h; clear hbc)) | (go_at_call 106; ((with_reducible refine (l01Dec_at HD2.out _ (by omega) (by omega)).mono ?_); rintro e wb ⟨rfl, hbc⟩; have HBb : Hid (Below w.heap.size w wb) := Lib.hid (bl_trans (by repeat (first | exact HBc.out | exact HBb.out | exact HBa.out | exact HB.out | apply Below.drew | apply below_drewN | refine bl_alloc ?_ _)) hbc); have hk2 := fun o v h => keep_cell (b := b) (o := o) (v := v) hbc h; clear hbc)) | (go_at_call 106; ((with_reducible refine (l01Dec_at HD3.out _ (by omega) (by omega)).mono ?_); rintro e wc ⟨rfl, hbc⟩; have HBc : Hid (Below w.heap.size w wc) := Lib.hid (bl_trans (by repeat (first | exact HBc.out | exact HBb.out | exact HBa.out | exact HB.out | apply Below.drew | apply below_drewN | refine bl_alloc ?_ _)) hbc); have hk3 := fun o v h => keep_cell (b := b) (o := o) (v := v) hbc h; clear hbc)))
        go_wp2
        go_roundg (n - (k + 1))
        case measure => omega
        case rel => exact ⟨k + 1, P ++ D1 ++ ⟨#[44]⟩ ++ D2 ++ ⟨#[120]⟩ ++ D3, rfl, by omega, by go_num, rfl, HZ.out, HP2, HBc⟩
    · obtain rfl : k = n := by omega
      obtain rfl : T = D := by rw [HTx.out, HD.out]
      clear HTx HD
      go_wp2
      go_ret
      exact ⟨rfl, HB.out⟩

/-- what SplittingText gives -/
def spTx (zs : List Int) (n : Nat) : ByteArray := if spOkB zs n = true then bs (spT (spL zs n)) else ⟨#[]⟩
def spTc (zs : List Int) (n : Nat) : Int := if spOkB zs n = true then 0 else 1

set_option maxHeartbeats 800000 in
theorem implSplittingText_at {A : Option Addr} {n c : Nat} {zs : List Int} {T : ByteArray} {C : Int} (hTx : T = spTx zs n) (hC : C = spTc zs n) (w : World) (hr : RdC 3 w A n c (zs.map (Value.int .i64))) (hn : n ≤ 1048576) (hT : Tb w) :
    Calls Tryd.prog 30 #[.slice A n c] w fun e w' => e = .returned (.tuple #[.string T, .int .i64 C]) ∧ Below w.heap.size w w' := by
  have HT := Lib.hid hT
  clear hT
  have HR := Lib.hid hr
  clear hr
  cases hB : spOkB zs n with
  | true =>
    have H : Hid (SpOk zs n) := Lib.hid (of_decide_eq_true hB)
    have HE : Hid (T = bs (spT (spL zs n))) := Lib.hid (by rw [hTx]; unfold spTx; rw [if_pos hB])
    obtain rfl : C = 0 := by rw [hC]; unfold spTc; rw [if_pos hB]
    have HBq := Lib.hid hB
    clear hB hTx hC
    go_enter Tryd.func30, Tryd.ntmps30
    go_wp2_with fail
    refine (areSplittings_any _ _ _ _ _ HR.out (by omega)).mono ?_
    rintro e w1 ⟨rfl, hb⟩
    have HB := Lib.hid hb
    have HR2 := Lib.hid (HR.out.below hb)
    clear hb
    rw [HBq.out]
    go_wp2_with fail
    refine (splittingText_at HE.out _ HR2.out H.out (HT.out.below HB.out)).mono ?_
    rintro e w2 ⟨rfl, hb⟩
    have HB2 := Lib.hid (bl_trans HB.out hb)
    clear hb
    go_wp2
    go_ret2
    exact ⟨rfl, HB2.out⟩
  | false =>
    obtain rfl : T = ⟨#[]⟩ := by rw [hTx]; unfold spTx; rw [if_neg (by rw [hB]; simp)]
    obtain rfl : C = 1 := by rw [hC]; unfold spTc; rw [if_neg (by rw [hB]; simp)]
    have HBq := Lib.hid hB
    clear hB hTx hC
    go_enter Tryd.func30, Tryd.ntmps30
    go_wp2_with fail
    refine (areSplittings_any _ _ _ _ _ HR.out (by omega)).mono ?_
    rintro e w1 ⟨rfl, hb⟩
    have HB := Lib.hid hb
    clear hb
    rw [HBq.out]
    go_wp2
    go_ret2
    exact ⟨rfl, HB.out⟩

set_option maxHeartbeats 800000 in
theorem specSplittingText_at {A : Option Addr} {n c : Nat} {zs : List Int} {T : ByteArray} {C : Int} (hTx : T = spTx zs n) (hC : C = spTc zs n) (w : World) (hr : RdC 3 w A n c (zs.map (Value.int .i64))) (hn : n ≤ 1048576) :
    Calls Tryd.prog 28 #[.slice A n c] w fun e w' => e = .returned (.tuple #[.string T, .int .i64 C]) ∧ Below w.heap.size w w' := by
  have HR := Lib.hid hr
  clear hr
  cases hB : spOkB zs n with
  | true =>
    have H : Hid (SpOk zs n) := Lib.hid (of_decide_eq_true hB)
    have HE : Hid (T = bs (spT (spL zs n))) := Lib.hid (by rw [hTx]; unfold spTx; rw [if_pos hB])
    obtain rfl : C = 0 := by rw [hC]; unfold spTc; rw [if_pos hB]
    have HBq := Lib.hid hB
    clear hB hTx hC
    go_enter Tryd.func28, Tryd.ntmps28
    go_wp2_with fail
    refine (l14List_any _ _ _ _ _ HR.out (by omega)).mono ?_
    rintro e w1 ⟨rfl, hb⟩
    have HB := Lib.hid hb
    have HR2 := Lib.hid (HR.out.below hb)
    clear hb
    rw [HBq.out]
    go_wp2_with fail
    refine (l14Text_at HE.out _ HR2.out H.out).mono ?_
    rintro e w2 ⟨rfl, hb⟩
    have HB2 := Lib.hid (bl_trans HB.out hb)
    clear hb
    go_wp2
    go_ret2
    exact ⟨rfl, HB2.out⟩
  | false =>
    obtain rfl : T = ⟨#[]⟩ := by rw [hTx]; unfold spTx; rw [if_neg (by rw [hB]; simp)]
    obtain rfl : C = 1 := by rw [hC]; unfold spTc; rw [if_neg (by rw [hB]; simp)]
    have HBq := Lib.hid hB
    clear hB hTx hC
    go_enter Tryd.func28, Tryd.ntmps28
    go_wp2_with fail
    refine (l14List_any _ _ _ _ _ HR.out (by omega)).mono ?_
    rintro e w1 ⟨rfl, hb⟩
    have HB := Lib.hid hb
    clear hb
    rw [HBq.out]
    go_wp2
    go_ret2
    exact ⟨rfl, HB.out⟩
end Go.Proofs.YtgajgonepcikbaaDoor
