
/- Factor lists: the plain law and the walks. -/
import Derived.Test.YtgajgonepcikbaaDoorVal
namespace Go.Proofs.YtgajgonepcikbaaDoor
open Go.RowKit

/-- n with all factors p taken out, with fuel -/
def snF : Nat → Int → Int → Int
  | 0, n, _ => n
  | f + 1, n, p => if n % p = 0 then snF f (n / p) p else n
def sn (n p : Int) : Int := snF n.natAbs n p
theorem ediv_lt' {n p : Int} (hn : 1 ≤ n) (hp : 2 ≤ p) : n / p < n := Int.ediv_lt_of_lt_mul (by omega) (by
  have : n * 2 ≤ n * p := Int.mul_le_mul_of_nonneg_left hp (by omega)
  omega)
theorem ediv_ge' {n p : Int} (hn : 1 ≤ n) (hp : 2 ≤ p) (hz : n % p = 0) : 1 ≤ n / p := by
  have h := Int.mul_ediv_add_emod n p
  rw [hz] at h
  apply Int.not_lt.1
  intro hlt
  have : p * (n / p) ≤ 0 := Int.mul_nonpos_of_nonneg_of_nonpos (by omega) (by omega)
  omega
theorem snF_eq {p : Int} (hp : 2 ≤ p) : ∀ (f : Nat) (n : Int), 1 ≤ n → n.natAbs ≤ f → snF f n p = snF n.natAbs n p := by
  intro f
  induction f using Nat.strongRecOn with
  | ind f ih =>
    intro n hn hf
    obtain ⟨g, rfl⟩ : ∃ g, f = g + 1 := ⟨f - 1, by omega⟩
    obtain ⟨k, hk⟩ : ∃ k, n.natAbs = k + 1 := ⟨n.natAbs - 1, by omega⟩
    rw [hk]
    unfold snF
    by_cases hz : n % p = 0
    · rw [if_pos hz, if_pos hz]
      have h1 := ediv_lt' hn hp
      have h2 := ediv_ge' hn hp hz
      obtain ⟨q, hq⟩ : ∃ q, n / p = q := ⟨_, rfl⟩
      rw [hq] at h1 h2 ⊢
      rw [ih g (by omega) _ h2 (by omega), ih k (by omega) _ h2 (by omega)]
    · rw [if_neg hz, if_neg hz]
theorem sn_yes {n p : Int} (hn : 1 ≤ n) (hp : 2 ≤ p) (hz : n % p = 0) : sn n p = sn (n / p) p := by
  obtain ⟨k, hk⟩ : ∃ k, n.natAbs = k + 1 := ⟨n.natAbs - 1, by omega⟩
  have h3 : (n / p).natAbs ≤ k := by
    have h1 := ediv_lt' hn hp
    have h2 := ediv_ge' hn hp hz
    obtain ⟨q, hq⟩ : ∃ q, n / p = q := ⟨_, rfl⟩
    rw [hq] at h1 h2 ⊢
    omega
  unfold sn
  rw [hk]
  conv => lhs; unfold snF
  rw [if_pos hz, snF_eq hp k _ (ediv_ge' hn hp hz) h3]
theorem sn_no {n p : Int} (hn : 1 ≤ n) (hz : ¬ n % p = 0) : sn n p = n := by
  obtain ⟨k, hk⟩ : ∃ k, n.natAbs = k + 1 := ⟨n.natAbs - 1, by omega⟩
  unfold sn
  rw [hk]
  unfold snF
  rw [if_neg hz]
theorem vlp_yes {n p : Int} (hn : 1 ≤ n) (hp : 2 ≤ p) (hz : n % p = 0) : vl n p = 1 + vl (n / p) p := by
  have := vl_yes (n := n) (p := p) (by omega) hp (by rw [Int.tmod_eq_emod_of_nonneg (by omega)]; exact hz)
  rw [Int.tdiv_eq_ediv_of_nonneg (by omega)] at this
  exact this
theorem vlp_no {n p : Int} (hn : 1 ≤ n) (hz : ¬ n % p = 0) : vl n p = 0 :=
  vl_no (by omega) (by rw [Int.tmod_eq_emod_of_nonneg (by omega)]; exact hz)
theorem vl_self {n : Int} (hn : 2 ≤ n) : vl n n = 1 ∧ sn n n = 1 := by
  have h1 : n % n = 0 := Int.emod_self
  have h2 : n / n = 1 := Int.ediv_self (by omega)
  have h3 : ¬ (1 : Int) % n = 0 := by rw [Int.emod_eq_of_lt (by omega) (by omega)]; omega
  rw [vlp_yes (by omega) hn h1, sn_yes (by omega) hn h1, h2, vlp_no (by omega) h3, sn_no (by omega) h3]
  exact ⟨rfl, rfl⟩

/-- the factor list from p on, with fuel -/
def facF : Nat → Int → Int → List (Int × Int)
  | 0, n, _ => if 1 < n then [(n, 1)] else []
  | f + 1, n, p => if p * p ≤ n then (if 0 < vl n p then [(p, (vl n p : Int))] else []) ++ facF f (sn n p) (p + 1) else if 1 < n then [(n, 1)] else []
def fac (n p : Int) : List (Int × Int) := facF (1001 - p).toNat n p
/-- the prime powers of a number -/
def facs (n : Int) : List (Int × Int) := fac n 2
theorem fac_step {n p : Int} (hp : p ≤ 1000) (h : p * p ≤ n) : fac n p = (if 0 < vl n p then [(p, (vl n p : Int))] else []) ++ fac (sn n p) (p + 1) := by
  unfold fac
  have e : (1001 - p).toNat = (1001 - (p + 1)).toNat + 1 := by omega
  rw [e]
  conv => lhs; unfold facF
  rw [if_pos h]
theorem fac_stop {n p : Int} (h : ¬ p * p ≤ n) : fac n p = if 1 < n then [(n, 1)] else [] := by
  unfold fac
  cases (1001 - p).toNat with
  | zero => rfl
  | succ f => unfold facF; rw [if_neg h]

/-- the cells of a list of pairs -/
def flat2 (l : List (Int × Int)) : List Value := l.flatMap fun x => [.int .i64 x.1, .int .i64 x.2]
theorem flat2_len (l : List (Int × Int)) : (flat2 l).length = l.length * 2 := by
  unfold flat2
  induction l with
  | nil => rfl
  | cons x l ih => rw [List.flatMap_cons, List.length_append, ih]; simp; omega
theorem flat2_snoc (l : List (Int × Int)) (p k : Int) : flat2 (l ++ [(p, k)]) = flat2 l ++ [.int .i64 p, .int .i64 k] := by
  unfold flat2; rw [List.flatMap_append]; rfl
theorem flat2_at (l : List (Int × Int)) (i : Nat) (h : i < l.length) : (flat2 l)[i * 2]? = some (.int .i64 (l.getD i (0, 0)).1) ∧ (flat2 l)[i * 2 + 1]? = some (.int .i64 (l.getD i (0, 0)).2) := by
  induction l generalizing i with
  | nil => simp at h
  | cons x l ih =>
    unfold flat2
    rw [List.flatMap_cons]
    cases i with
    | zero => simp
    | succ i =>
      have e1 : (i + 1) * 2 = 2 + i * 2 := by omega
      have e2 : (i + 1) * 2 + 1 = 2 + (i * 2 + 1) := by omega
      rw [e2, e1]
      have := ih i (by simpa using h)
      rw [List.getElem?_append_right (by simp), List.getElem?_append_right (by simp)]
      simp only [List.length_cons, List.length_nil, Nat.zero_add]
      rw [show 2 + i * 2 - 2 = i * 2 by omega, show 2 + (i * 2 + 1) - 2 = i * 2 + 1 by omega]
      exact this

theorem infoPow : (Tryd.prog.info? 74).map (fun i => (i.zero, i.size, i.bytes)) = some (some (.agg #[.int .i64 0, .int .i64 0]), 2, 16) := by kernel_rfl

theorem news2 (w : World) (x y : Int) (T : TypeId) : ∀ j u, [Value.int .i64 x, .int .i64 y][j]? = some u → (w.alloc (.cells #[.int .i64 x, .int .i64 y] T)).cell? ((⟨w.heap.size, 0, none⟩ : Addr).add j) = some u := by
  intro j u hj
  match j, hj with
  | 0, hj => simp at hj; subst hj; simp [Addr.add]
  | 1, hj => simp at hj; subst hj; simp [Addr.add]
theorem ones2 (x y : Int) : ∀ u ∈ [Value.int .i64 x, .int .i64 y], u.oneCell' = true := by
  intro u hu; simp at hu; rcases hu with rfl | rfl <;> rfl
theorem base_alloc {a w : World} (h : Below a.heap.size a w) (o : Obj) : a.heap.size ≤ (w.alloc o).heap.size := by have := h.size; simp; omega

set_option maxHeartbeats 1600000 in
theorem l01Factor_any (n : Int) (h1 : 1 ≤ n) (h2 : n ≤ 1000000) (w : World) :
    Calls Tryd.prog 97 #[.int .i64 n] w fun e w' => ∃ v, e = .returned v ∧ w'.ownsRow w.heap.size 74 2 v (facs n).length (flat2 (facs n)) ∧ Below w.heap.size w w' := by
  obtain ⟨i0, hi, hz0, hz1, hz2⟩ := info_parts infoPow
  have HI := Lib.hid hi
  have HZ0 := Lib.hid hz0
  have HZ1 := Lib.hid hz1
  have HZ2 := Lib.hid hz2
  clear hi hz0 hz1 hz2
  go_enter Tryd.func97, Tryd.ntmps97
  go_wp2
  go_loopw [0, 3, 4, 5] (fun m v p _ wr => ∃ (M P : Int) (L : List (Int × Int)), 1 ≤ M ∧ M ≤ 1000000 ∧ 2 ≤ P ∧ P ≤ 1001 ∧ (L.length : Int) ≤ P ∧ m = .int .i64 M ∧ p = .int .i64 P ∧ Hid (wr.ownsRow w.heap.size 74 2 v L.length (flat2 L)) ∧ Hid (Below w.heap.size w wr) ∧ Hid (L ++ fac M P = facs n)) (fun _ _ p _ _ => (1001 - intOf p).toNat)
  case atStart => exact ⟨n, 2, [], h1, h2, by omega, by omega, by simp, rfl, rfl, Lib.hid ⟨rfl, .inr ⟨w.heap.size, 0, #[], rfl, Nat.le_refl _, heap_alloc_new w _, Nat.le_refl _, by unfold maxLen; omega, rfl, rfl⟩⟩, Lib.hid (bl_alloc (Below.refl _ _) _), Lib.hid rfl⟩
  case round =>
    obtain ⟨M, P, L, a1, a2, a3, a4, a5, rfl, rfl, HO, HB, HF⟩ := hrel
    have b1 := sq_lo a3
    have b2 := sq_hi a3 a4
    by_cases hlt : P * P ≤ M
    · have a6 := sq_1000 a3 a2 hlt
      have HF2 := Lib.hid ((congrArg (L ++ ·) (fac_step a6 hlt)).symm.trans HF.out)
      clear HF
      go_wp2
      go_loop [0, 5] (fun m k => ∃ (M' : Int) (K : Nat), 1 ≤ M' ∧ M' + K ≤ M ∧ m = .int .i64 M' ∧ k = .int .i64 K ∧ Hid (K + vl M' P = vl M P ∧ sn M' P = sn M P)) (fun m _ => (intOf m).natAbs)
      case atStart => exact ⟨M, 0, a1, by omega, rfl, rfl, Lib.hid ⟨by omega, rfl⟩⟩
      case round =>
        obtain ⟨M', K, c1, c2, rfl, rfl, HV⟩ := hrel
        by_cases hz : M' % P = 0
        · have hz2 : (M' % P == 0) = true := by simpa using hz
          have HV2 : Hid ((K + 1 : Nat) + vl (M' / P) P = vl M P ∧ sn (M' / P) P = sn M P) := Lib.hid (by
            have e1 := vlp_yes c1 a3 hz
            have e2 := sn_yes c1 a3 hz
            have e3 := HV.out
            rw [e1, e2] at e3
            exact ⟨by omega, e3.2⟩)
          have d1 := ediv_ge' c1 a3 hz
          have d2 := ediv_lt' c1 a3
          clear hz HV
          go_wp2
          go_round
          case rel => exact ⟨M' / P, K + 1, d1, by omega, rfl, by go_num, HV2⟩
          case measure => simp only [intOf]; omega
        · have hz2 : (M' % P == 0) = false := by simpa using hz
          have HV2 : Hid (K = vl M P ∧ M' = sn M P) := Lib.hid (by
            have e1 := vlp_no (p := P) c1 hz
            have e2 := sn_no (p := P) c1 hz
            have e3 := HV.out
            rw [e1, e2] at e3
            exact e3)
          clear hz HV
          by_cases hK : 0 < K
          · have HF3 : Hid ((L ++ [(P, (K : Int))]) ++ fac M' (P + 1) = facs n) := Lib.hid (by
              have e := HF2.out
              rw [← HV2.out.1, ← HV2.out.2, if_pos hK] at e
              rw [List.append_assoc]; exact e)
            have hl1 : L.length + 1 ≤ maxLen := by unfold maxLen; omega
            have hl2 : (L.length + 1) * 16 ≤ 140737488355328 := by omega
            go_wp2_with (at_builtin; refine wpList_append_own _ rfl _ _ _ rfl w.heap.size 74 i0 _ 2 16 Tryd.underlying37 HI.out HZ0.out HZ1.out HZ2.out rfl (by decide) _ L.length (flat2 L) rfl (HO.out.alloc _) ⟨wr.heap.size, 0, none⟩ 1 1 [.int .i64 P, .int .i64 K] rfl rfl (news2 _ _ _ _) (ones2 _ _) hl1 hl2 (base_alloc HB.out _) ?_; intro v' w1 hown' hgrow _)
            have HO2 : Hid (w1.ownsRow w.heap.size 74 2 v' (L ++ [(P, (K : Int))]).length (flat2 (L ++ [(P, (K : Int))]))) := Lib.hid (by
              rw [flat2_snoc, List.length_append]; exact hown')
            have HB2 : Hid (Below w.heap.size w w1) := Lib.hid ((bl_alloc HB.out _).grown hgrow (by have := HB.out.size; simp; omega) (fun k hk => (HO.out.lt k hk).1))
            clear hown' hgrow HO HB hl1 hl2
            go_wp2
            go_roundw
            case rel => exact ⟨M', P + 1, L ++ [(P, (K : Int))], c1, by omega, by omega, by omega, by rw [List.length_append]; simp; omega, rfl, rfl, HO2, HB2, HF3⟩
            case measure => simp [intOf]; omega
          · have HF3 : Hid (L ++ fac M' (P + 1) = facs n) := Lib.hid (by
              have e := HF2.out
              rw [← HV2.out.1, ← HV2.out.2, if_neg hK] at e
              exact e)
            go_wp2
            go_roundw
            case rel => exact ⟨M', P + 1, L, c1, by omega, by omega, by omega, by omega, rfl, rfl, HO, HB, HF3⟩
            case measure => simp [intOf]; omega
    · have HF2 := Lib.hid ((congrArg (L ++ ·) (fac_stop hlt)).symm.trans HF.out)
      clear HF
      by_cases hM : 1 < M
      · have HF3 : Hid (L ++ [(M, (1 : Int))] = facs n) := Lib.hid (by have e := HF2.out; rw [if_pos hM] at e; exact e)
        have hl1 : L.length + 1 ≤ maxLen := by unfold maxLen; omega
        have hl2 : (L.length + 1) * 16 ≤ 140737488355328 := by omega
        go_wp2_with (at_builtin; refine wpList_append_own _ rfl _ _ _ rfl w.heap.size 74 i0 _ 2 16 Tryd.underlying37 HI.out HZ0.out HZ1.out HZ2.out rfl (by decide) _ L.length (flat2 L) rfl (HO.out.alloc _) ⟨wr.heap.size, 0, none⟩ 1 1 [.int .i64 M, .int .i64 1] rfl rfl (news2 _ _ _ _) (ones2 _ _) hl1 hl2 (base_alloc HB.out _) ?_; intro v' w1 hown' hgrow _)
        have HO2 : Hid (w1.ownsRow w.heap.size 74 2 v' (facs n).length (flat2 (facs n))) := Lib.hid (by
          rw [← HF3.out, flat2_snoc, List.length_append]; exact hown')
        have HB2 : Hid (Below w.heap.size w w1) := Lib.hid ((bl_alloc HB.out _).grown hgrow (by have := HB.out.size; simp; omega) (fun k hk => (HO.out.lt k hk).1))
        clear hown' hgrow HO HB hl1 hl2
        go_wp2
        go_ret
        exact ⟨_, rfl, HO2.out, HB2.out⟩
      · have HF3 : Hid (L = facs n) := Lib.hid (by have e := HF2.out; rw [if_neg hM] at e; simpa using e)
        go_wp2
        go_ret
        exact ⟨_, rfl, by rw [← HF3.out]; exact HO.out, HB.out⟩

theorem fac_big {n p : Int} (h : ¬ p * p ≤ n) (hn : 1 < n) : fac n p = [(n, 1)] := by rw [fac_stop h, if_pos hn]
theorem fac_one {p : Int} (hp : 2 ≤ p) : fac 1 p = [] := by
  have : ¬ p * p ≤ 1 := by
    have : 2 * 2 ≤ p * p := Int.mul_le_mul hp hp (by omega) (by omega)
    omega
  rw [fac_stop this]; rfl

end Go.Proofs.YtgajgonepcikbaaDoor
