
/- The walks of the points of a polynomial. -/
import Derived.Test.YthdmanngjnfamaaVal
import Derived.Test.YthdmanngjnfamaaTrim
import Derived.Test.YthdmanngjnfamaaGiv
import Derived.Test.YthdmanngjnfamaaFlat
import Derived.Test.YthdmanngjnfamaaPoly
namespace Go.Proofs.Ythdmanngjnfamaa
open Go.RowKit

/-- the code of a prime and a polynomial -/
def pgC (p : Int) (xs : List Int) : Int := if SP p ∧ POk xs then (if 0 < xs.length then 0 else 5) else 1
/-- the points -/
def ptL (p : Int) (xs : List Int) : List (Int × Int) := ptF (fun c => vl c p) xs xs.length
/-- pairs as cells -/
def V2 (L : List (Int × Int)) : List Value := (flatI L).map (Value.int .i64)
theorem V2_snoc (L : List (Int × Int)) (x : Int × Int) : V2 (L ++ [x]) = V2 L ++ [.int .i64 x.1, .int .i64 x.2] := by
  unfold V2; rw [flatI_app, List.map_append, flatI_one]; rfl
theorem infoCor : (Try.prog.info? 79).map (fun i => (i.zero, i.size, i.bytes)) = some (some (.agg #[.int .i64 0, .int .i64 0]), 2, 16) := by kernel_rfl
theorem newsC (w : World) (x y : Int) (T : TypeId) : ∀ j u, [Value.int .i64 x, .int .i64 y][j]? = some u → (w.alloc (.cells #[.int .i64 x, .int .i64 y] T)).cell? ((⟨w.heap.size, 0, none⟩ : Addr).add j) = some u := by
  intro j u hj
  match j, hj with
  | 0, hj => simp at hj; subst hj; simp [Addr.add]
  | 1, hj => simp at hj; subst hj; simp [Addr.add]
theorem onesC (x y : Int) : ∀ u ∈ [Value.int .i64 x, .int .i64 y], u.oneCell' = true := by
  intro u hu; simp at hu; rcases hu with rfl | rfl <;> rfl
theorem sVal_at {n p x : Int} (hx : x = (vl n p : Int)) (hn : n ≠ 0) (hV : V n) (hp : 2 ≤ p) (hp2 : p ≤ 97) (w : World) :
    Calls Try.prog 91 #[.int .i64 n, .int .i64 p] w fun e w' => e = .returned (.int .i64 x) ∧ w = w' := by
  subst hx; exact l01Valuation_any n p hn hV hp hp2 w
theorem iVal_at {n p x : Int} (hx : x = (vl n p : Int)) (hn : n ≠ 0) (hV : V n) (hp : 2 ≤ p) (hp2 : p ≤ 97) (w : World) :
    Calls Try.prog 89 #[.int .i64 n, .int .i64 p] w fun e w' => e = .returned (.int .i64 x) ∧ w = w' := by
  subst hx; exact valuation_any n p hn hV hp hp2 w
theorem pok_V {xs : List Int} (h : POk xs) {k : Nat} (hk : k < xs.length) : V (xs.getD k 0) := by
  have := h.2.1 k hk; unfold V; omega
theorem pgC_zero {p : Int} {xs : List Int} (h : pgC p xs = 0) : SP p ∧ POk xs ∧ 0 < xs.length := by
  unfold pgC at h
  by_cases h1 : SP p ∧ POk xs
  · rw [if_pos h1] at h
    by_cases h2 : 0 < xs.length
    · exact ⟨h1.1, h1.2, h2⟩
    · rw [if_neg h2] at h; omega
  · rw [if_neg h1] at h; omega

set_option maxHeartbeats 800000 in
theorem l13Code_any (p : Int) (A : Option Addr) (n c : Nat) (xs : List Int) (w : World) (hr : Rd .i64 w A n c xs) :
    Calls Try.prog 110 #[.int .i64 p, .slice A n c] w fun e w' => e = .returned (.int .i64 (pgC p xs)) ∧ w = w' := by
  have HR := Lib.hid hr
  have hl := hr.1
  have hc0 := hr.2.1
  have hc1 := hr.2.2.1
  unfold maxLen at hc1
  clear hr
  by_cases h1 : SP p
  · by_cases h2 : POk xs
    · have H1 := Lib.hid h1
      have H2 := Lib.hid h2
      by_cases h0 : 0 < n
      · have HE : Hid (pgC p xs = 0) := Lib.hid (by unfold pgC; rw [if_pos ⟨h1, h2⟩, if_pos (by omega)])
        have hz : ((n : Int) == 0) = false := by simp; omega
        clear h1 h2 hl
        go_enter Try.func110, Try.ntmps110
        go_wp2_with (first | (go_at_call 90; refine (l01Small_yes _ H1.out _).mono ?_; rintro e w' ⟨rfl, rfl⟩) | (go_at_call 41; refine (specIsPolynomial_yes _ _ _ _ _ HR.out H2.out).mono ?_; rintro e w' ⟨rfl, rfl⟩))
        go_ret
        exact ⟨ret_int HE.out.symm, rfl⟩
      · have HE : Hid (pgC p xs = 5) := Lib.hid (by unfold pgC; rw [if_pos ⟨h1, h2⟩, if_neg (by omega)])
        obtain rfl : n = 0 := by omega
        clear h1 h2 hl
        go_enter Try.func110, Try.ntmps110
        go_wp2_with (first | (go_at_call 90; refine (l01Small_yes _ H1.out _).mono ?_; rintro e w' ⟨rfl, rfl⟩) | (go_at_call 41; refine (specIsPolynomial_yes _ _ _ _ _ HR.out H2.out).mono ?_; rintro e w' ⟨rfl, rfl⟩))
        go_ret
        exact ⟨ret_int HE.out.symm, rfl⟩
    · have HE : Hid (pgC p xs = 1) := Lib.hid (by unfold pgC; rw [if_neg (fun h => h2 h.2)])
      have H1 := Lib.hid h1
      have H2 := Lib.hid h2
      clear h1 h2 hl
      go_enter Try.func110, Try.ntmps110
      go_wp2_with (first | (go_at_call 90; refine (l01Small_yes _ H1.out _).mono ?_; rintro e w' ⟨rfl, rfl⟩) | (go_at_call 41; refine (specIsPolynomial_no _ _ _ _ _ HR.out H2.out).mono ?_; rintro e w' ⟨rfl, rfl⟩))
      go_ret
      exact ⟨ret_int HE.out.symm, rfl⟩
  · have HE : Hid (pgC p xs = 1) := Lib.hid (by unfold pgC; rw [if_neg (fun h => h1 h.1)])
    have H1 := Lib.hid h1
    clear h1 hl
    go_enter Try.func110, Try.ntmps110
    go_wp2_with (go_at_call 90; refine (l01Small_no _ H1.out _).mono ?_; rintro e w' ⟨rfl, rfl⟩)
    go_ret
    exact ⟨ret_int HE.out.symm, rfl⟩
theorem l13Code_at {p : Int} {A : Option Addr} {n c : Nat} {xs : List Int} {k : Int} (w : World) (hr : Rd .i64 w A n c xs) (hk : k = pgC p xs) :
    Calls Try.prog 110 #[.int .i64 p, .slice A n c] w fun e w' => e = .returned (.int .i64 k) ∧ w = w' := by
  subst hk; exact l13Code_any _ _ _ _ _ _ hr

set_option maxHeartbeats 800000 in
theorem polygonal_any (p : Int) (A : Option Addr) (n c : Nat) (xs : List Int) (w : World) (hr : Rd .i64 w A n c xs) :
    Calls Try.prog 108 #[.int .i64 p, .slice A n c] w fun e w' => e = .returned (.int .i64 (pgC p xs)) ∧ w = w' := by
  have HR := Lib.hid hr
  have hl := hr.1
  have hc0 := hr.2.1
  have hc1 := hr.2.2.1
  unfold maxLen at hc1
  clear hr
  by_cases h1 : SP p
  · by_cases h2 : POk xs
    · have H1 := Lib.hid h1
      have H2 := Lib.hid h2
      by_cases h0 : 0 < n
      · have HE : Hid (pgC p xs = 0) := Lib.hid (by unfold pgC; rw [if_pos ⟨h1, h2⟩, if_pos (by omega)])
        have hz : ((n : Int) == 0) = false := by simp; omega
        clear h1 h2 hl
        go_enter Try.func108, Try.ntmps108
        go_wp2_with (first | (go_at_call 88; refine (isSmallPrime_yes _ H1.out _).mono ?_; rintro e w' ⟨rfl, rfl⟩) | (go_at_call 40; refine (implIsPolynomial_yes _ _ _ _ _ HR.out H2.out).mono ?_; rintro e w' ⟨rfl, rfl⟩))
        go_ret
        exact ⟨ret_int HE.out.symm, rfl⟩
      · have HE : Hid (pgC p xs = 5) := Lib.hid (by unfold pgC; rw [if_pos ⟨h1, h2⟩, if_neg (by omega)])
        obtain rfl : n = 0 := by omega
        clear h1 h2 hl
        go_enter Try.func108, Try.ntmps108
        go_wp2_with (first | (go_at_call 88; refine (isSmallPrime_yes _ H1.out _).mono ?_; rintro e w' ⟨rfl, rfl⟩) | (go_at_call 40; refine (implIsPolynomial_yes _ _ _ _ _ HR.out H2.out).mono ?_; rintro e w' ⟨rfl, rfl⟩))
        go_ret
        exact ⟨ret_int HE.out.symm, rfl⟩
    · have HE : Hid (pgC p xs = 1) := Lib.hid (by unfold pgC; rw [if_neg (fun h => h2 h.2)])
      have H1 := Lib.hid h1
      have H2 := Lib.hid h2
      clear h1 h2 hl
      go_enter Try.func108, Try.ntmps108
      go_wp2_with (first | (go_at_call 88; refine (isSmallPrime_yes _ H1.out _).mono ?_; rintro e w' ⟨rfl, rfl⟩) | (go_at_call 40; refine (implIsPolynomial_no _ _ _ _ _ HR.out H2.out).mono ?_; rintro e w' ⟨rfl, rfl⟩))
      go_ret
      exact ⟨ret_int HE.out.symm, rfl⟩
  · have HE : Hid (pgC p xs = 1) := Lib.hid (by unfold pgC; rw [if_neg (fun h => h1 h.1)])
    have H1 := Lib.hid h1
    clear h1 hl
    go_enter Try.func108, Try.ntmps108
    go_wp2_with (go_at_call 88; refine (isSmallPrime_no _ H1.out _).mono ?_; rintro e w' ⟨rfl, rfl⟩)
    go_ret
    exact ⟨ret_int HE.out.symm, rfl⟩
theorem polygonal_at {p : Int} {A : Option Addr} {n c : Nat} {xs : List Int} {k : Int} (w : World) (hr : Rd .i64 w A n c xs) (hk : k = pgC p xs) :
    Calls Try.prog 108 #[.int .i64 p, .slice A n c] w fun e w' => e = .returned (.int .i64 k) ∧ w = w' := by
  subst hk; exact polygonal_any _ _ _ _ _ _ hr

theorem own_madeC (w : World) : (w.alloc (.cells #[] 79)).ownsRow w.heap.size 79 2 (.slice (some ⟨w.heap.size, 0, none⟩) 0 0) 0 [] :=
  ⟨rfl, .inr ⟨w.heap.size, 0, #[], rfl, Nat.le_refl _, heap_alloc_new w _, Nat.le_refl _, by unfold maxLen; omega, rfl, rfl⟩⟩

set_option maxRecDepth 100000 in
set_option maxHeartbeats 1600000 in
theorem l13Points_any (p : Int) (A : Option Addr) (n c : Nat) (xs : List Int) (w : World) (hr : Rd .i64 w A n c xs) (hp : SP p) (hx : POk xs) :
    Calls Try.prog 119 #[.int .i64 p, .slice A n c] w fun e w' => ∃ A' c', e = .returned (.slice A' (ptL p xs).length c') ∧ OwnC 79 2 w' w.heap.size A' (ptL p xs).length c' (V2 (ptL p xs)) ∧ Below w.heap.size w w' := by
  obtain ⟨i0, hi, hz0, hz1, hz2⟩ := info_parts infoCor
  have HI := Lib.hid hi
  have HZ0 := Lib.hid hz0
  have HZ1 := Lib.hid hz1
  have HZ2 := Lib.hid hz2
  clear hi hz0 hz1 hz2
  have HR := Lib.hid hr
  have HL := Lib.hid hr.1
  have hc0 := hr.2.1
  have hc1 := hr.2.2.1
  unfold maxLen at hc1
  have HX := Lib.hid hx
  have hn9 : n ≤ 9 := by have := hx.1; have := hr.1; omega
  have p1 := hp.2.1
  have p2 := hp.1
  clear hr hp hx
  go_enter Try.func119, Try.ntmps119
  go_wp2
  go_loopw [5, 6] (fun v i wr => ∃ (k : Nat) (L : List (Int × Int)), k ≤ n ∧ i = .int .i64 k ∧ L.length ≤ k ∧ Hid (L = ptF (fun c => vl c p) xs k) ∧ Hid (wr.ownsRow w.heap.size 79 2 v L.length (V2 L)) ∧ Hid (Below w.heap.size w wr)) (fun _ i _ => n - (intOf i).toNat)
  case atStart => exact ⟨0, [], by omega, rfl, by simp, Lib.hid rfl, Lib.hid (own_madeC w), Lib.hid (bl_alloc (Below.refl _ _) _)⟩
  case round =>
    obtain ⟨k, L, hk, rfl, hkl, HE, HO, HB⟩ := hrel
    by_cases hlt : k < n
    · obtain ⟨b, off, rfl, hb, hcell⟩ := HR.out.2.2.2 (by omega)
      have hy := keep_cell HB.out (hcell k hlt)
      obtain ⟨y, hye⟩ : ∃ y, y = xs.getD k 0 := ⟨_, rfl⟩
      rw [← hye] at hy
      have hstep : ptF (fun c => vl c p) xs (k + 1) = ptF (fun c => vl c p) xs k ++ (if xs.getD k 0 = 0 then [] else [((k : Int), (vl (xs.getD k 0) p : Int))]) := rfl
      rw [← hye, ← HE.out] at hstep
      have HV : Hid (V y) := Lib.hid (by rw [hye]; exact pok_V HX.out (by have := HL.out; omega))
      clear hye hcell
      by_cases hy0 : y = 0
      · rw [if_pos hy0, List.append_nil] at hstep
        have hyz : (y != 0) = false := by rw [hy0]; rfl
        have HS := Lib.hid hstep
        clear hstep hy0 HE
        go_wp2
        go_roundw
        case rel => exact ⟨k + 1, L, by omega, by go_num, by omega, Lib.hid HS.out.symm, HO, HB⟩
        case measure => simp [intOf]; omega
      · rw [if_neg hy0] at hstep
        have hyz : (y != 0) = true := by simpa using hy0
        obtain ⟨z, hz⟩ : ∃ z, z = (vl y p : Int) := ⟨_, rfl⟩
        rw [← hz] at hstep
        have HS := Lib.hid hstep
        have HZ := Lib.hid hz
        have HK := Lib.hid hkl
        have HY := Lib.hid hy0
        have hl1 : L.length + 1 ≤ maxLen := by unfold maxLen; omega
        have hl2 : (L.length + 1) * 16 ≤ 140737488355328 := by omega
        clear hstep hz hkl HE hy0
        go_wp2_with (first | (go_at_call 91; refine (sVal_at HZ.out HY.out HV.out (by omega) (by omega) _).mono ?_; rintro e w' ⟨rfl, rfl⟩) | (at_builtin; refine wpList_append_own _ rfl _ _ _ rfl w.heap.size 79 i0 _ 2 16 Try.underlying65 HI.out HZ0.out HZ1.out HZ2.out rfl (by decide) _ L.length (V2 L) rfl (HO.out.alloc _) ⟨wr.heap.size, 0, none⟩ 1 1 [.int .i64 (k : Int), .int .i64 z] rfl rfl (newsC _ _ _ _) (onesC _ _) hl1 hl2 (base_alloc2 HB.out _) ?_; intro v' w1 hown' hgrow _))
        have HO2 : Hid (w1.ownsRow w.heap.size 79 2 v' (L ++ [((k : Int), z)]).length (V2 (L ++ [((k : Int), z)]))) := Lib.hid (by
          rw [V2_snoc, List.length_append]; exact hown')
        have HB2 : Hid (Below w.heap.size w w1) := Lib.hid ((bl_alloc HB.out _).grown hgrow (base_alloc2 HB.out _) (fun k hk => (HO.out.lt k hk).1))
        clear hown' hgrow HO HB hl1 hl2
        go_wp2
        go_roundw
        case rel => exact ⟨k + 1, L ++ [((k : Int), z)], by omega, by go_num, by have := HK.out; rw [List.length_append]; simp; omega, Lib.hid HS.out.symm, HO2, HB2⟩
        case measure => simp [intOf]; omega
    · obtain ⟨A', c', rfl, _⟩ := own_cells HO.out
      have HF : Hid (L = ptL p xs) := Lib.hid (by rw [HE.out]; unfold ptL; congr 1; have := HL.out; omega)
      clear hkl
      go_wp2
      go_ret
      exact ⟨A', c', by rw [← HF.out]; rfl, by rw [← HF.out]; exact OwnC.of_row HO.out, HB.out⟩

set_option maxRecDepth 100000 in
set_option maxHeartbeats 1600000 in
theorem points_any (p : Int) (A : Option Addr) (n c : Nat) (xs : List Int) (w : World) (hr : Rd .i64 w A n c xs) (hp : SP p) (hx : POk xs) :
    Calls Try.prog 118 #[.int .i64 p, .slice A n c] w fun e w' => ∃ A' c', e = .returned (.slice A' (ptL p xs).length c') ∧ OwnC 79 2 w' w.heap.size A' (ptL p xs).length c' (V2 (ptL p xs)) ∧ Below w.heap.size w w' := by
  obtain ⟨i0, hi, hz0, hz1, hz2⟩ := info_parts infoCor
  have HI := Lib.hid hi
  have HZ0 := Lib.hid hz0
  have HZ1 := Lib.hid hz1
  have HZ2 := Lib.hid hz2
  clear hi hz0 hz1 hz2
  have HR := Lib.hid hr
  have HL := Lib.hid hr.1
  have hc0 := hr.2.1
  have hc1 := hr.2.2.1
  unfold maxLen at hc1
  have HX := Lib.hid hx
  have hn9 : n ≤ 9 := by have := hx.1; have := hr.1; omega
  have p1 := hp.2.1
  have p2 := hp.1
  clear hr hp hx
  go_enter Try.func118, Try.ntmps118
  go_wp2
  go_loopw [5, 6, 7, 10] (fun v _ _ i wr => ∃ (k : Nat) (L : List (Int × Int)), k ≤ n ∧ i = .int .i64 k ∧ L.length ≤ k ∧ Hid (L = ptF (fun c => vl c p) xs k) ∧ Hid (wr.ownsRow w.heap.size 79 2 v L.length (V2 L)) ∧ Hid (Below w.heap.size w wr)) (fun _ _ _ i _ => n - (intOf i).toNat)
  case atStart => exact ⟨0, [], by omega, rfl, by simp, Lib.hid rfl, Lib.hid (World.ownsRow_nil _ _ _ _), Lib.hid (Below.refl _ _)⟩
  case round =>
    obtain ⟨k, L, hk, rfl, hkl, HE, HO, HB⟩ := hrel
    by_cases hlt : k < n
    · obtain ⟨b, off, rfl, hb, hcell⟩ := HR.out.2.2.2 (by omega)
      have hy := keep_cell HB.out (hcell k hlt)
      obtain ⟨y, hye⟩ : ∃ y, y = xs.getD k 0 := ⟨_, rfl⟩
      rw [← hye] at hy
      have hstep : ptF (fun c => vl c p) xs (k + 1) = ptF (fun c => vl c p) xs k ++ (if xs.getD k 0 = 0 then [] else [((k : Int), (vl (xs.getD k 0) p : Int))]) := rfl
      rw [← hye, ← HE.out] at hstep
      have HV : Hid (V y) := Lib.hid (by rw [hye]; exact pok_V HX.out (by have := HL.out; omega))
      clear hye hcell
      by_cases hy0 : y = 0
      · rw [if_pos hy0, List.append_nil] at hstep
        have hyz : (y != 0) = false := by rw [hy0]; rfl
        have HS := Lib.hid hstep
        clear hstep hy0 HE
        go_wp2
        go_roundw
        case rel => exact ⟨k + 1, L, by omega, by go_num, by omega, Lib.hid HS.out.symm, HO, HB⟩
        case measure => simp [intOf]; omega
      · rw [if_neg hy0] at hstep
        have hyz : (y != 0) = true := by simpa using hy0
        obtain ⟨z, hz⟩ : ∃ z, z = (vl y p : Int) := ⟨_, rfl⟩
        rw [← hz] at hstep
        have HS := Lib.hid hstep
        have HZ := Lib.hid hz
        have HK := Lib.hid hkl
        have HY := Lib.hid hy0
        have hl1 : L.length + 1 ≤ maxLen := by unfold maxLen; omega
        have hl2 : (L.length + 1) * 16 ≤ 140737488355328 := by omega
        clear hstep hz hkl HE hy0
        go_wp2_with (first | (go_at_call 89; refine (iVal_at HZ.out HY.out HV.out (by omega) (by omega) _).mono ?_; rintro e w' ⟨rfl, rfl⟩) | (at_builtin; refine wpList_append_own _ rfl _ _ _ rfl w.heap.size 79 i0 _ 2 16 Try.underlying65 HI.out HZ0.out HZ1.out HZ2.out rfl (by decide) _ L.length (V2 L) rfl (HO.out.alloc _) ⟨wr.heap.size, 0, none⟩ 1 1 [.int .i64 (k : Int), .int .i64 z] rfl rfl (newsC _ _ _ _) (onesC _ _) hl1 hl2 (base_alloc2 HB.out _) ?_; intro v' w1 hown' hgrow _))
        have HO2 : Hid (w1.ownsRow w.heap.size 79 2 v' (L ++ [((k : Int), z)]).length (V2 (L ++ [((k : Int), z)]))) := Lib.hid (by
          rw [V2_snoc, List.length_append]; exact hown')
        have HB2 : Hid (Below w.heap.size w w1) := Lib.hid ((bl_alloc HB.out _).grown hgrow (base_alloc2 HB.out _) (fun k hk => (HO.out.lt k hk).1))
        clear hown' hgrow HO HB hl1 hl2
        go_wp2
        go_roundw
        case rel => exact ⟨k + 1, L ++ [((k : Int), z)], by omega, by go_num, by have := HK.out; rw [List.length_append]; simp; omega, Lib.hid HS.out.symm, HO2, HB2⟩
        case measure => simp [intOf]; omega
    · obtain ⟨A', c', rfl, _⟩ := own_cells HO.out
      have HF : Hid (L = ptL p xs) := Lib.hid (by rw [HE.out]; unfold ptL; congr 1; have := HL.out; omega)
      clear hkl
      go_wp2
      go_ret
      exact ⟨A', c', by rw [← HF.out]; rfl, by rw [← HF.out]; exact OwnC.of_row HO.out, HB.out⟩

end Go.Proofs.Ythdmanngjnfamaa