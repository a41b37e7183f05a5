
/- A splitting put into a list that is in order, by the reference. -/
import Derived.Test.YtgajgonepcikbaaDoorRdS4
import Derived.Test.YtgajgonepcikbaaDoorPolD
import Derived.Deep.RegionHeld3
import Derived.Deep.LoopGhost
import Derived.Deep.CutBlock
import Derived.Deep.DeepCutAuto
import Derived.Deep.AppendLies
import Derived.Maps.AppendAt
namespace Go.Proofs.YtgajgonepcikbaaDoor
open Go.RowKit Go.Joins

theorem newsOf {w : World} {b off n : Nat} {zs : List Int} (hl : zs.length = n * 3) (hc : ∀ j, j < n * 3 → w.cell? ⟨b, off + j, none⟩ = some (.int .i64 (zs.getD j 0))) : ∀ j u, (zs.map (Value.int .i64))[j]? = some u → w.cell? ((⟨b, off, none⟩ : Addr).add j) = some u := by
  intro j u hj
  have hlt : j < zs.length := by
    rcases Nat.lt_or_ge j zs.length with h | h
    · exact h
    · rw [List.getElem?_eq_none (by rw [List.length_map]; exact h)] at hj; cases hj
  rw [List.getElem?_map, List.getElem?_eq_getElem hlt] at hj
  simp at hj
  have := hc j (by omega)
  simp only [List.getD, List.getElem?_eq_getElem hlt, Option.getD_some] at this
  have e : (⟨b, off, none⟩ : Addr).add j = ⟨b, off + j, none⟩ := by unfold Addr.add; split <;> simp_all
  rw [e, ← hj]
  exact this
theorem onesOf (zs : List Int) : ∀ u ∈ zs.map (Value.int .i64), u.oneCell' = true := by
  intro u hu
  obtain ⟨x, _, rfl⟩ := List.mem_map.1 hu
  rfl
theorem emptyAt {w : World} {lo g : Nat} {T : TypeId} (sz : Nat) (h : w.heap[g]? = some (.cells #[] T)) (hl : lo ≤ g) : w.ownsRow lo T sz (.slice (some ⟨g, 0, none⟩) 0 0) 0 [] :=
  ⟨by simp, .inr ⟨g, 0, #[], rfl, hl, h, Nat.le_refl _, by unfold maxLen; omega, by simp, by simp⟩⟩
theorem hp_old {w : World} {k : Nat} {x : Obj} (o : Obj) (h : w.heap[k]? = some x) : (w.alloc o).heap[k]? = some x := by
  have hk : k < w.heap.size := by
    rcases Nat.lt_or_ge k w.heap.size with h1 | h1
    · exact h1
    · rw [Array.getElem?_eq_none h1] at h; cases h
  rw [← h]
  exact Below.heap_alloc _ _ _ hk
theorem hp_lt {w : World} {k : Nat} {x : Obj} (h : w.heap[k]? = some x) : k < w.heap.size := by
  rcases Nat.lt_or_ge k w.heap.size with h1 | h1
  · exact h1
  · rw [Array.getElem?_eq_none h1] at h; cases h
theorem hp_drew {w : World} {k : Nat} {x : Obj} (h : w.heap[k]? = some x) : w.drew.heap[k]? = some x := h
theorem kept_blk {w w1 : World} {r : Option Nat} {g : Nat} {o : Obj} (hg : w.grownBy w1 r) (h : w.heap[g]? = some o) (hne : r ≠ some g) : w1.heap[g]? = some o := by
  have hk : g < w.heap.size := by
    rcases Nat.lt_or_ge g w.heap.size with h1 | h1
    · exact h1
    · rw [Array.getElem?_eq_none h1] at h; cases h
  rw [hg.block g hk (fun e => hne e.symm)]; exact h
theorem newsAt {w : World} {g : Nat} {x y z : Int} {T : TypeId} (h : w.heap[g]? = some (.cells #[.int .i64 x, .int .i64 y, .int .i64 z] T)) : ∀ j u, [Value.int .i64 x, .int .i64 y, .int .i64 z][j]? = some u → w.cell? ((⟨g, 0, none⟩ : Addr).add j) = some u := by
  intro j u hj
  match j, hj with
  | 0, hj => simp at hj; subst hj; simp [Addr.add, World.cell?, h]
  | 1, hj => simp at hj; subst hj; simp [Addr.add, World.cell?, h]
  | 2, hj => simp at hj; subst hj; simp [Addr.add, World.cell?, h]
theorem step_put {P : Program} {ops : Array Oper} {o : Oper} {a : Act} (W w : World) {d : Option Tmp} {K : Act → World → Prop} {Q : Exit → Act → World → Prop} {E : Prop} (hgd : o.guard = none) (hd : o.dst = d) (s x : Operand) (t : TypeId)
    (ho : o.op = .call { callee := .builtin .append, args := #[s, x], argTypes := #[t, t] })
    (e : TypeId) (i : TypeInfo) (z : Value) (size bytes : Nat) (ht : P.underlying t = some (.slice e)) (hi : P.info? e = some i) (hz : i.zero = some z)
    (hsize : i.size = size) (hby : i.bytes = bytes) (hzs : z.cells.size = size) (hsz : 0 < size) (hbel : Below W.heap.size W w)
    (v : Value) (n : Nat) (xs : List Value) (hs : a.eval s = v) (hown : w.ownsRow W.heap.size e size v n xs)
    (ad : Addr) (m c : Nat) (news : List Value) (hx : a.eval x = .slice (some ad) m c) (hl : news.length = m * size) (hnews : Below W.heap.size W w → ∀ j u, news[j]? = some u → w.cell? (ad.add j) = some u) (h1 : ∀ u ∈ news, u.oneCell' = true)
    (h63 : n + m ≤ maxLen) (hbytes : (n + m) * bytes ≤ 140737488355328)
    (h : ∀ v' w', w'.ownsRow W.heap.size e size v' (n + m) (xs ++ news) → w.grownBy w' v.ownBlock → Below W.heap.size W w' → K (a.put d v') w') :
    if Region.wanted o (yielded ops a.tmps) = true then Oper.wp P o a w K Q else E := by
  have hw : Region.wanted o (yielded ops a.tmps) = true := by simp [Region.wanted, hgd]
  rw [if_pos hw]
  obtain ⟨v', w', hr, h2, h3, _, _⟩ := run_append_own_at (P := P) w W.heap.size t o.type e i z size bytes ht hi hz hsize hby hzs hsz v n xs hown ad m c news hl (hnews hbel) h1 h63 hbytes hbel.size
  unfold Oper.wp execOp
  simp only [ho, resolve, invoke, builtin, Sem.run_bind, Sem.run_pure, Result.andThen_ok, List.map_toArray, List.map_cons, List.map_nil, hs, hx, hr]
  subst hd
  exact h v' w' h2 h3 (Below.grown hbel h3 hbel.size (fun k hk => (hown.lt k hk).1))
theorem stepO {P : Program} {ops : Array Oper} {o : Oper} {a : Act} {w w' : World} {K : Act → World → Prop} {Q : Exit → Act → World → Prop} {E : Prop} {op : Op} {d : Option Tmp} {v : Value} (hgd : o.guard = none) (hop : o.op = op) (hd : o.dst = d)
    (hrun : ∀ o : Oper, o.op = op → (execOp a.eval o).run P w = .ok (.value v) w') (h : K (a.put d v) w') : if Region.wanted o (yielded ops a.tmps) = true then Oper.wp P o a w K Q else E := by
  have hw : Region.wanted o (yielded ops a.tmps) = true := by simp [Region.wanted, hgd]
  rw [if_pos hw]
  unfold Oper.wp
  rw [hrun o hop]
  subst hd
  exact h
theorem takeW {P : Program} {md : Region.Mode} {ops : Array Oper} {Q : Exit → Act → World → Prop} {S : World → Prop} {fuel : Nat} {listed : Array Bool} {a : Act} {w : World} (i : Nat) {oi : Oper} {d : Option Tmp} {v : Value} (hi : ops[i]? = some oi) (hd : oi.dst = d)
    (hs : Region.noSelect ops = true) (hf : Region.free md ops listed i = true) (hr : (Region.ready md ops listed).contains i = true) (hQ : ∀ c a w, Q (.panic c) (a.put d v) w → Q (.panic c) a w)
    (hw : Region.wanted oi (yielded ops a.tmps) = true) (hy : ∀ w, S w → (execOp a.eval oi).run P w = .ok (.value v) w) (hS : S w) (h : wpAnyH P md ops Q S fuel (listed.setIfInBounds i true) (a.put d v) w) : wpAnyH P md ops Q S (fuel + 1) listed a w := by
  subst hd; exact wpAnyH_take hi hs hf hr hQ (.inl ⟨hw, hy⟩) hS h
theorem takeO {P : Program} {md : Region.Mode} {ops : Array Oper} {Q : Exit → Act → World → Prop} {S : World → Prop} {fuel : Nat} {listed : Array Bool} {a : Act} {w : World} (i : Nat) {oi : Oper} {d : Option Tmp} {v : Value} {op : Op} (hi : ops[i]? = some oi) (hd : oi.dst = d) (hop : oi.op = op)
    (hs : Region.noSelect ops = true) (hf : Region.free md ops listed i = true) (hr : (Region.ready md ops listed).contains i = true) (hQ : ∀ c a w, Q (.panic c) (a.put d v) w → Q (.panic c) a w)
    (hw : Region.wanted oi (yielded ops a.tmps) = true) (hy : ∀ o : Oper, o.op = op → ∀ w, S w → (execOp a.eval o).run P w = .ok (.value v) w) (hS : S w) (h : wpAnyH P md ops Q S fuel (listed.setIfInBounds i true) (a.put d v) w) : wpAnyH P md ops Q S (fuel + 1) listed a w :=
  takeW i hi hd hs hf hr hQ hw (hy oi hop) hS h
theorem takeN {P : Program} {md : Region.Mode} {ops : Array Oper} {Q : Exit → Act → World → Prop} {S : World → Prop} {fuel : Nat} {listed : Array Bool} {a : Act} {w : World} (i : Nat) {oi : Oper} {d : Option Tmp} (hi : ops[i]? = some oi) (hd : oi.dst = d)
    (hs : Region.noSelect ops = true) (hf : Region.free md ops listed i = true) (hr : (Region.ready md ops listed).contains i = true) (hQ : ∀ c a w, Q (.panic c) (a.put d undef) w → Q (.panic c) a w)
    (hw : Region.wanted oi (yielded ops a.tmps) = false) (hS : S w) (h : wpAnyH P md ops Q S fuel (listed.setIfInBounds i true) (a.put d undef) w) : wpAnyH P md ops Q S (fuel + 1) listed a w := by
  subst hd; exact wpAnyH_take hi hs hf hr hQ (.inr ⟨hw, rfl⟩) hS h
set_option maxRecDepth 100000 in
set_option maxHeartbeats 3200000 in
theorem l14Put_any (b off n c : Nat) (zs : List Int) (r q t : Int) (w : World) (hr : RdC 3 w (some ⟨b, off, none⟩) n c (zs.map (Value.int .i64))) (hn : n ≤ 100) (hb : b < w.heap.size) :
    Calls Tryd.prog 127 #[.slice (some ⟨b, off, none⟩) n c, .agg #[.int .i64 r, .int .i64 q, .int .i64 t]] w fun e w' => ∃ (g N d : Nat) (zs' : List Int), e = .returned (.slice (some ⟨g, 0, none⟩) N d) ∧ OwnC 81 3 w' w.heap.size (some ⟨g, 0, none⟩) N d (zs'.map (Value.int .i64)) ∧ 0 < N ∧ N ≤ n + 1 ∧ Below w.heap.size w w' := by
  obtain ⟨i0, hi, hz0, hz1, hz2⟩ := info_parts infoSp3
  have HI := Lib.hid hi
  have HZ0 := Lib.hid hz0
  have HZ1 := Lib.hid hz1
  have HZ2 := Lib.hid hz2
  clear hi hz0 hz1 hz2
  have HF := Lib.hid hr.flat
  have hc := hr.2.1
  have hm := hr.2.2.1
  unfold maxLen at hm
  have HCl : Hid (∀ j, j < n * 3 → w.cell? ⟨b, off + j, none⟩ = some (.int .i64 (zs.getD j 0))) := Lib.hid (fun j hj => by
    have hl := hr.flat
    obtain ⟨b2, off2, e, _, hc2⟩ := hr.2.2.2 (by omega)
    simp at e
    obtain ⟨rfl, rfl⟩ := e
    rw [hc2 j hj, List.getElem?_map, List.getElem?_eq_getElem (by omega)]
    simp [List.getD, List.getElem?_eq_getElem (show j < zs.length by omega)])
  clear hr
  obtain ⟨w0, hw0⟩ : ∃ x, x = w.alloc (.cells #[.int .i64 r, .int .i64 q, .int .i64 t] 81) := ⟨_, rfl⟩
  have HB0 : Hid (Below w.heap.size w w0) := Lib.hid (by rw [hw0]; exact bl_alloc (Below.refl _ _) _)
  have HX0 : Hid (w0.cell? ⟨w.heap.size, 0, none⟩ = some (.int .i64 r) ∧ w0.cell? ⟨w.heap.size, 1, none⟩ = some (.int .i64 q) ∧ w0.cell? ⟨w.heap.size, 2, none⟩ = some (.int .i64 t)) := Lib.hid (by rw [hw0]; simp [go_sem])
  have HC0 : Hid (∀ j, j < n * 3 → w0.cell? ⟨b, off + j, none⟩ = some (.int .i64 (zs.getD j 0))) := Lib.hid (fun j hj => keep_cell HB0.out (HCl.out j hj))
  have hs0 : w.heap.size < w0.heap.size := by rw [hw0]; simp
  clear HCl
  go_enter Tryd.func127, Tryd.ntmps127
  go_upto_region 1 with fail
  rw [← hw0]
  clear hw0
  go_upto_block 0 with fail
  go_cut [5] (fun s5 wx => ∃ k : Nat, s5 = .int .i64 k ∧ k ≤ n ∧ Hid (Below w0.heap.size w0 wx))
  case first =>
    go_wp2_with fail
    go_loopg [5] n (fun g i wr => ∃ k : Nat, g = n - k ∧ k ≤ n ∧ i = .int .i64 k ∧ Hid (Below w0.heap.size w0 wr))
    case atStart => exact ⟨0, by omega, Nat.zero_le _, rfl, Lib.hid (Below.refl _ _)⟩
    case round =>
      obtain ⟨k, rfl, hk, rfl, HB⟩ := hrel
      have ⟨x0, x1, x2⟩ := HX0.out
      have X0 := keep_cell HB.out x0
      have X1 := keep_cell HB.out x1
      have X2 := keep_cell HB.out x2
      have hsr := HB.out.size
      clear x0 x1 x2
      by_cases hlt : k < n
      · have hdk : decide (k < n) = true := by simp; omega
        have h0 := keep_cell HB.out (HC0.out (k * 3 + 0) (fl_lt hlt (by omega)))
        rw [Nat.add_zero] at h0
        have h1 := keep_cell HB.out (HC0.out (k * 3 + 1) (fl_lt hlt (by omega)))
        rw [← Nat.add_assoc] at h1
        have h2 := keep_cell HB.out (HC0.out (k * 3 + 2) (fl_lt hlt (by omega)))
        rw [← Nat.add_assoc] at h2
        generalize zs.getD (k * 3) 0 = a0 at h0
        generalize zs.getD (k * 3 + 1) 0 = a1 at h1
        generalize zs.getD (k * 3 + 2) 0 = a2 at h2
        cases hbf : bfB a0 a1 r q with
        | true =>
          go_wp2_with fail
          go_region_held3 (fun w' => w'.cell? ⟨b, off + k * 3, none⟩ = some (.int .i64 a0) ∧ w'.cell? ⟨b, off + k * 3 + 1, none⟩ = some (.int .i64 a1) ∧ w'.cell? ⟨b, off + k * 3 + 2, none⟩ = some (.int .i64 a2) ∧ w'.cell? ⟨w.heap.size, 0, none⟩ = some (.int .i64 r) ∧ w'.cell? ⟨w.heap.size, 1, none⟩ = some (.int .i64 q) ∧ w'.cell? ⟨w.heap.size, 2, none⟩ = some (.int .i64 t)) (first | go_keep | exact ⟨keep_cell hbl2 h0, keep_cell hbl2 h1, keep_cell hbl2 h2, keep_cell hbl2 X0, keep_cell hbl2 X1, keep_cell hbl2 X2⟩) (first | (go_at_call 117; refine (l14Before_any _ _ _ _ _ _ _).mono ?_; rintro e w' ⟨rfl, hbl2⟩; rw [hbf]; have HBz := Lib.hid (bl_trans (Below.drew HB.out) hbl2)))
          all_goals
            go_wp2
            go_roundg (n - (k + 1))
            case measure => omega
            case rel => exact ⟨k + 1, rfl, by omega, by go_num, HBz⟩
        | false =>
          go_wp2_with fail
          go_region_held3 (fun w' => w'.cell? ⟨b, off + k * 3, none⟩ = some (.int .i64 a0) ∧ w'.cell? ⟨b, off + k * 3 + 1, none⟩ = some (.int .i64 a1) ∧ w'.cell? ⟨b, off + k * 3 + 2, none⟩ = some (.int .i64 a2) ∧ w'.cell? ⟨w.heap.size, 0, none⟩ = some (.int .i64 r) ∧ w'.cell? ⟨w.heap.size, 1, none⟩ = some (.int .i64 q) ∧ w'.cell? ⟨w.heap.size, 2, none⟩ = some (.int .i64 t)) (first | go_keep | exact ⟨keep_cell hbl2 h0, keep_cell hbl2 h1, keep_cell hbl2 h2, keep_cell hbl2 X0, keep_cell hbl2 X1, keep_cell hbl2 X2⟩) (first | (go_at_call 117; refine (l14Before_any _ _ _ _ _ _ _).mono ?_; rintro e w' ⟨rfl, hbl2⟩; rw [hbf]; have HBz := Lib.hid (bl_trans (Below.drew HB.out) hbl2)))
          all_goals
            go_wp2
            go_meet
            exact ⟨k, rfl, hk, HBz⟩
      · have hdk : decide (k < n) = false := by simp; omega
        go_wp2_with fail
        go_quiet (fail)
        go_wp2
        go_meet
        exact ⟨k, rfl, hk, Lib.hid (below_drewN HB.out _)⟩
  case rest =>
    obtain ⟨k, rfl, hk, HB⟩ := hcut
    have ⟨x0, x1, x2⟩ := HX0.out
    have HXc : Hid (wc.cell? ⟨w.heap.size, 0, none⟩ = some (.int .i64 r) ∧ wc.cell? ⟨w.heap.size, 1, none⟩ = some (.int .i64 q) ∧ wc.cell? ⟨w.heap.size, 2, none⟩ = some (.int .i64 t)) := Lib.hid ⟨keep_cell HB.out x0, keep_cell HB.out x1, keep_cell HB.out x2⟩
    have HCc : Hid (∀ j, j < n * 3 → wc.cell? ⟨b, off + j, none⟩ = some (.int .i64 (zs.getD j 0))) := Lib.hid (fun j hj => keep_cell HB.out (HC0.out j hj))
    have hsc := HB.out.size
    have HBc := Lib.hid (bl_trans HB0.out HB.out)
    clear x0 x1 x2 HX0 HC0 HB
    have hl1 : 0 + n ≤ maxLen := by unfold maxLen; omega
    have hl2 : (0 + n) * 24 ≤ 140737488355328 := by omega
    go_wp2_with (at_builtin; refine wpList_append_own _ rfl _ _ _ rfl wc.heap.size 81 i0 _ 3 24 Tryd.underlying44 HI.out HZ0.out HZ1.out HZ2.out rfl (by decide) _ 0 [] rfl (emptyRow wc _ 3) ⟨b, off, none⟩ n c (zs.map (Value.int .i64)) rfl (by rw [List.length_map]; exact HF.out) (newsOf HF.out (fun j hj => keep_cell (bl_alloc (Below.refl _ _) _) (HCc.out j hj))) (onesOf zs) hl1 hl2 (by simp) ?_; intro v' w2 hown' hgrow _)
    rw [Nat.zero_add, List.nil_append] at hown'
    have HO := Lib.hid hown'
    have hbg : Below wc.heap.size wc w2 := Below.grown (bl_alloc (Below.refl _ _) _) hgrow (by simp) (fun k hk => ((emptyRow wc 81 3).lt k hk).1)
    have HB2 := Lib.hid (bl_trans HBc.out hbg)
    have HX2 : Hid (w2.cell? ⟨w.heap.size, 0, none⟩ = some (.int .i64 r) ∧ w2.cell? ⟨w.heap.size, 1, none⟩ = some (.int .i64 q) ∧ w2.cell? ⟨w.heap.size, 2, none⟩ = some (.int .i64 t)) := Lib.hid ⟨keep_cell hbg HXc.out.1, keep_cell hbg HXc.out.2.1, keep_cell hbg HXc.out.2.2⟩
    have HC2 : Hid (∀ j, j < n * 3 → w2.cell? ⟨b, off + j, none⟩ = some (.int .i64 (zs.getD j 0))) := Lib.hid (fun j hj => keep_cell hbg (HCc.out j hj))
    have hs2 : wc.heap.size ≤ w2.heap.size := hbg.size
    clear hown' hgrow hbg HXc HCc hl1 hl2
    go_upto_region 5 with fail
    go_cut [36] (fun s36 wx => ∃ y : Bool, s36 = .bool y ∧ (y = true → k < n) ∧ Hid (Below w2.heap.size w2 wx))
    case first =>
      have ⟨X0, X1, X2⟩ := HX2.out
      by_cases hlt : k < n
      · have hdk : decide (k < n) = true := by simp; omega
        have h0 := HC2.out (k * 3 + 0) (fl_lt hlt (by omega))
        rw [Nat.add_zero] at h0
        have h1 := HC2.out (k * 3 + 1) (fl_lt hlt (by omega))
        rw [← Nat.add_assoc] at h1
        have h2 := HC2.out (k * 3 + 2) (fl_lt hlt (by omega))
        rw [← Nat.add_assoc] at h2
        generalize zs.getD (k * 3) 0 = a0 at h0
        generalize zs.getD (k * 3 + 1) 0 = a1 at h1
        generalize zs.getD (k * 3 + 2) 0 = a2 at h2
        obtain ⟨y, hy⟩ : ∃ y, y = bfB r q a0 a1 := ⟨_, rfl⟩
        have HY := Lib.hid hy.symm
        clear hy
        go_wp2_with fail
        go_region_held3 (fun w' => w'.cell? ⟨b, off + k * 3, none⟩ = some (.int .i64 a0) ∧ w'.cell? ⟨b, off + k * 3 + 1, none⟩ = some (.int .i64 a1) ∧ w'.cell? ⟨b, off + k * 3 + 2, none⟩ = some (.int .i64 a2) ∧ w'.cell? ⟨w.heap.size, 0, none⟩ = some (.int .i64 r) ∧ w'.cell? ⟨w.heap.size, 1, none⟩ = some (.int .i64 q) ∧ w'.cell? ⟨w.heap.size, 2, none⟩ = some (.int .i64 t)) (first | go_keep | exact ⟨keep_cell hbl2 h0, keep_cell hbl2 h1, keep_cell hbl2 h2, keep_cell hbl2 X0, keep_cell hbl2 X1, keep_cell hbl2 X2⟩) (first | (go_at_call 117; refine (l14Before_any _ _ _ _ _ _ _).mono ?_; rintro e w' ⟨rfl, hbl2⟩; rw [HY.out]; have HBz := Lib.hid (bl_trans (Below.drew (Below.refl _ _)) hbl2)))
        all_goals
          go_wp2_with fail
          go_meet
          exact ⟨_, rfl, fun _ => hlt, HBz⟩
      · have hdk : decide (k < n) = false := by simp; omega
        go_wp2_with fail
        go_quiet (fail)
        go_wp2_with fail
        go_meet
        exact ⟨false, rfl, (fun h => by cases h), Lib.hid (below_drewN (Below.refl _ _) _)⟩
    case rest =>
      obtain ⟨y, rfl, hy, HBy⟩ := hcut
      have ⟨x0, x1, x2⟩ := HX2.out
      have X0 := keep_cell HBy.out x0
      have X1 := keep_cell HBy.out x1
      have X2 := keep_cell HBy.out x2
      have HCy : Hid (∀ j, j < n * 3 → wc.cell? ⟨b, off + j, none⟩ = some (.int .i64 (zs.getD j 0))) := Lib.hid (fun j hj => keep_cell HBy.out (HC2.out j hj))
      have hsy := HBy.out.size
      have HBw := Lib.hid (bl_trans HB2.out HBy.out)
      obtain ⟨A2, c2, rfl, _⟩ := own_cells HO.out
      clear x0 x1 x2 HX2 HC2
      cases y with
      | true =>
        have hlt := hy rfl
        have HOc := Lib.hid ((OwnC.of_row HO.out).below HBy.out)
        obtain ⟨g, rfl, hg1, hg2⟩ := HOc.out.form (show 0 < n by omega)
        have ⟨k1, k2⟩ := HOc.out.atF (j := k * 3 + 2) (fl_lt hlt (by omega))
        generalize zs.getD (k * 3 + 2) 0 = a2 at k1
        have hcc := HOc.out.2.1
        have hcm := HOc.out.2.2.1
        unfold maxLen at hcm
        have HSt := Lib.hid (fun u => OwnC_lo (lo' := w.heap.size) (HOc.out.setF (show 0 < n by omega) (k * 3 + 2) u).1 (by omega))
        have hgw : ¬ w.heap.size = g := by omega
        clear hy
        go_wp2_with fail
        go_region
        all_goals
          go_wp2_with fail
          go_ret
          refine ⟨g, n, c2, _, rfl, HSt.out _, by omega, by omega, ?_⟩
          repeat (first | exact HBw.out | apply Below.drew | apply below_drewN | refine bl_set ?_ _ _ (by omega) _)
      | false =>
        clear hy
        clear HO
        obtain ⟨wy, hwy⟩ : ∃ z, z = wc := ⟨_, rfl⟩
        rw [← hwy] at X0 X1 X2 HCy HBw hsy ⊢
        clear hwy HBy
        have hkc : k ≤ c := by omega
        have hz1 : (zs.take (k * 3)).length = k * 3 := by rw [List.length_take, HF.out]; omega
        have hz2 : (zs.drop (k * 3)).length = (n - k) * 3 := by rw [List.length_drop, HF.out, Nat.sub_mul]
        have hln1 : ((zs.take (k * 3)).map (Value.int .i64)).length = k * 3 := by rw [List.length_map]; exact hz1
        have hln2 : ((zs.drop (k * 3)).map (Value.int .i64)).length = (n - k) * 3 := by rw [List.length_map]; exact hz2
        have hb2 : b < wy.heap.size := by omega
        have HT1 : Hid (∀ j, j < k * 3 → wy.cell? ⟨b, off + j, none⟩ = some (.int .i64 ((zs.take (k * 3)).getD j 0))) := Lib.hid (fun j hj => by
          have := HCy.out j (by omega)
          simpa [List.getD, List.getElem?_take, hj] using this)
        obtain ⟨o2, HO2⟩ : ∃ o2, (c = k ∧ o2 = off) ∨ (¬ c = k ∧ o2 = off + k * 3) := by
          by_cases h : c = k
          · exact ⟨off, .inl ⟨h, rfl⟩⟩
          · exact ⟨off + k * 3, .inr ⟨h, rfl⟩⟩
        have HT2 : Hid (∀ j, j < (n - k) * 3 → wy.cell? ⟨b, o2 + j, none⟩ = some (.int .i64 ((zs.drop (k * 3)).getD j 0))) := Lib.hid (fun j hj => by
          have h2 : o2 = off + k * 3 := by rcases HO2 with ⟨h, _⟩ | ⟨_, h⟩ <;> omega
          rw [h2]
          have := HCy.out (k * 3 + j) (by omega)
          rw [← Nat.add_assoc] at this
          simpa [List.getD, List.getElem?_drop] using this)
        have hl1 : 0 + k ≤ maxLen := by unfold maxLen; omega
        have hl2 : (0 + k) * 24 ≤ 140737488355328 := by omega
        have hl3 : 0 + k + 1 ≤ maxLen := by unfold maxLen; omega
        have hl4 : (0 + k + 1) * 24 ≤ 140737488355328 := by omega
        have hl5 : 0 + k + 1 + (n - k) ≤ maxLen := by unfold maxLen; omega
        have hl6 : (0 + k + 1 + (n - k)) * 24 ≤ 140737488355328 := by omega
        have hwy : w.heap.size < wy.heap.size := by omega
        clear HCy
        have hki : (k : Int) ≤ (n : Int) := by omega
        have hk0i : (0 : Int) ≤ (k : Int) := by omega
        have hnci : (n : Int) ≤ (c : Int) := by omega
        have hkci : (k : Int) ≤ (c : Int) := by omega
        go_upto_region 8 with fail
        refine wp_region_noPanic ?_
        refine wp_region_held_drew (S := fun w' => w'.cell? ⟨w.heap.size, 0, none⟩ = some (.int .i64 r) ∧ w'.cell? ⟨w.heap.size, 1, none⟩ = some (.int .i64 q) ∧ w'.cell? ⟨w.heap.size, 2, none⟩ = some (.int .i64 t)) (by kernel_rfl) ⟨X0, X1, X2⟩ (fun hHeld => ?_)
        obtain ⟨wz, hwz⟩ : ∃ z, z = wy.drew := ⟨_, rfl⟩
        have hBz : Below wy.heap.size wy wz := by rw [hwz]; exact Below.drew (Below.refl _ _)
        rw [← hwz] at hHeld ⊢
        clear hwz
        refine takeW 1 (d := some 51) (v := .slice (some ⟨b, off, none⟩) n c) rfl rfl (by kernel_rfl) (by kernel_rfl) (by kernel_rfl) (fun _ _ _ h => h) rfl (fun _ _ => rfl) (by assumption) ?_
        try simp only [Act.put, List.setIfInBounds_toArray, List.set_cons_zero, List.set_cons_succ]
        refine takeW 2 (d := some 52) (v := .int .i64 k) rfl rfl (by kernel_rfl) (by kernel_rfl) (by kernel_rfl) (fun _ _ _ h => h) rfl (fun _ _ => rfl) (by assumption) ?_
        try simp only [Act.put, List.setIfInBounds_toArray, List.set_cons_zero, List.set_cons_succ]
        refine takeO 3 (d := some 53) (v := .slice (some ⟨b, off, none⟩) k c) (op := .slice 44 (.tmp 51) none (some (.tmp 52)) none) rfl rfl rfl (by kernel_rfl) (by kernel_rfl) (by kernel_rfl) (fun _ _ _ h => h) rfl ?_ (by assumption) ?_
        · intro o ho w' hSw
          try dsimp only at hSw
          try obtain ⟨s0, s1, s2⟩ := hSw
          simp only [execOp, ho]
          go_simp
        try simp only [Act.put, List.setIfInBounds_toArray, List.set_cons_zero, List.set_cons_succ]
        refine takeO 5 (d := some 55) (v := .agg #[.int .i64 r, .int .i64 q, .int .i64 t]) (op := .load 81 (.tmp 3)) rfl rfl rfl (by kernel_rfl) (by kernel_rfl) (by kernel_rfl) (fun _ _ _ h => h) rfl ?_ (by assumption) ?_
        · intro o ho w' hSw
          try dsimp only at hSw
          try obtain ⟨s0, s1, s2⟩ := hSw
          simp only [execOp, ho]
          go_simp
        try simp only [Act.put, List.setIfInBounds_toArray, List.set_cons_zero, List.set_cons_succ]
        refine takeW 8 (d := some 58) (v := .slice (some ⟨b, off, none⟩) n c) rfl rfl (by kernel_rfl) (by kernel_rfl) (by kernel_rfl) (fun _ _ _ h => h) rfl (fun _ _ => rfl) (by assumption) ?_
        try simp only [Act.put, List.setIfInBounds_toArray, List.set_cons_zero, List.set_cons_succ]
        refine takeW 9 (d := some 59) (v := .int .i64 k) rfl rfl (by kernel_rfl) (by kernel_rfl) (by kernel_rfl) (fun _ _ _ h => h) rfl (fun _ _ => rfl) (by assumption) ?_
        try simp only [Act.put, List.setIfInBounds_toArray, List.set_cons_zero, List.set_cons_succ]
        refine takeO 10 (d := some 60) (v := .slice (some ⟨b, o2, none⟩) (n - k) (c - k)) (op := .slice 44 (.tmp 58) (some (.tmp 59)) none none) rfl rfl rfl (by kernel_rfl) (by kernel_rfl) (by kernel_rfl) (fun _ _ _ h => h) rfl ?_ (by assumption) ?_
        · intro o ho w' hSw
          try dsimp only at hSw
          try obtain ⟨s0, s1, s2⟩ := hSw
          simp only [execOp, ho]
          rcases HO2 with ⟨hck, rfl⟩ | ⟨hck, rfl⟩
          · go_simp
          · go_simp
        try simp only [Act.put, List.setIfInBounds_toArray, List.set_cons_zero, List.set_cons_succ]
        refine wpAnyH_ready (rs := [0, 6]) (by kernel_rfl) (by simp) ?_
        refine AllReadyH.cons rfl (fun K hK => ?_) ?_
        · refine stepO (op := .buildSlice 44 0 #[]) (d := some 50) (v := .slice (some ⟨wz.heap.size, 0, none⟩) 0 0) (w' := wz.alloc (.cells #[] 81)) rfl rfl rfl ?_ ?_
          · intro o ho
            simp only [execOp, ho]
            go_simp
          obtain ⟨wv1, hwv1⟩ : ∃ z, z = wz.alloc (.cells #[] 81) := ⟨_, rfl⟩
          have hB1 : Below wy.heap.size wy wv1 := by rw [hwv1]; exact bl_alloc hBz _
          have hN1 : wv1.heap[wz.heap.size]? = some (.cells #[] 81) := by rw [hwv1]; exact heap_alloc_new _ _
          have hge1 : wy.heap.size ≤ wz.heap.size := hBz.size
          rw [← hwv1]
          obtain ⟨gE1, hgE1⟩ : ∃ z, z = wz.heap.size := ⟨_, rfl⟩
          rw [← hgE1] at hN1 hge1 ⊢
          clear hwv1 hgE1
          refine hK.out _ _ ⟨keep_cell hB1 X0, keep_cell hB1 X1, keep_cell hB1 X2⟩ (fun hHeld1 => ?_)
          clear hK K
          try simp only [Act.put, List.setIfInBounds_toArray, List.set_cons_zero, List.set_cons_succ]
          refine wpAnyH_ready (rs := [4, 6]) (by kernel_rfl) (by simp) ?_
          refine AllReadyH.cons rfl (fun K hK => ?_) ?_
          · refine step_put (d := some 54) wy wv1 rfl rfl (.tmp 50) (.tmp 53) 44 rfl 81 i0 _ 3 24 Tryd.underlying44 HI.out HZ0.out HZ1.out HZ2.out rfl (by decide) hB1 (.slice (some ⟨gE1, 0, none⟩) 0 0) 0 [] rfl (emptyAt 3 hN1 hge1) ⟨b, off, none⟩ k c ((zs.take (k * 3)).map (Value.int .i64)) rfl hln1 (fun hbx => newsOf hz1 (fun j hj => keep_cell hbx (HT1.out j hj))) (onesOf _) hl1 hl2 ?_
            intro v2 wv2 hO2 hk2 hB2
            refine hK.out _ _ ⟨keep_cell hB2 X0, keep_cell hB2 X1, keep_cell hB2 X2⟩ (fun hHeld2 => ?_)
            clear hK K
            try simp only [Act.put, List.setIfInBounds_toArray, List.set_cons_zero, List.set_cons_succ]
            refine wpAnyH_ready (rs := [6]) (by kernel_rfl) (by simp) ?_
            refine AllReadyH.cons rfl (fun K hK => ?_) AllReadyH.nil
            refine stepO (op := .buildSlice 44 1 #[(0, .tmp 55)]) (d := some 56) (v := .slice (some ⟨wv2.heap.size, 0, none⟩) 1 1) (w' := wv2.alloc (.cells #[.int .i64 r, .int .i64 q, .int .i64 t] 81)) rfl rfl rfl ?_ ?_
            · intro o ho
              simp only [execOp, ho]
              go_simp
            obtain ⟨wv3, hwv3⟩ : ∃ z, z = wv2.alloc (.cells #[.int .i64 r, .int .i64 q, .int .i64 t] 81) := ⟨_, rfl⟩
            have hB3 : Below wy.heap.size wy wv3 := by rw [hwv3]; exact bl_alloc hB2 _
            have hO3 := hO2.alloc (.cells #[.int .i64 r, .int .i64 q, .int .i64 t] 81)
            rw [← hwv3] at hO3
            have hN3 : wv3.heap[wv2.heap.size]? = some (.cells #[.int .i64 r, .int .i64 q, .int .i64 t] 81) := by rw [hwv3]; exact heap_alloc_new _ _
            have hge3 : wy.heap.size ≤ wv2.heap.size := hB2.size
            rw [← hwv3]
            obtain ⟨gX3, hgX3⟩ : ∃ z, z = wv2.heap.size := ⟨_, rfl⟩
            rw [← hgX3] at hN3 hge3 ⊢
            clear hwv3 hgX3
            refine hK.out _ _ ⟨keep_cell hB3 X0, keep_cell hB3 X1, keep_cell hB3 X2⟩ (fun hHeld3 => ?_)
            clear hK K
            try simp only [Act.put, List.setIfInBounds_toArray, List.set_cons_zero, List.set_cons_succ]
            refine wpAnyH_ready (rs := [7]) (by kernel_rfl) (by simp) ?_
            refine AllReadyH.cons rfl (fun K hK => ?_) AllReadyH.nil
            refine step_put (d := some 57) wy wv3 rfl rfl (.tmp 54) (.tmp 56) 44 rfl 81 i0 _ 3 24 Tryd.underlying44 HI.out HZ0.out HZ1.out HZ2.out rfl (by decide) hB3 v2 (0 + k) _ rfl hO3 ⟨gX3, 0, none⟩ 1 1 [.int .i64 r, .int .i64 q, .int .i64 t] rfl rfl (fun _ => newsAt hN3) (oneT3 _ _ _) hl3 hl4 ?_
            intro v4 wv4 hO4 hk4 hB4
            refine hK.out _ _ ⟨keep_cell hB4 X0, keep_cell hB4 X1, keep_cell hB4 X2⟩ (fun hHeld4 => ?_)
            clear hK K
            try simp only [Act.put, List.setIfInBounds_toArray, List.set_cons_zero, List.set_cons_succ]
            refine wpAnyH_ready (rs := [11]) (by kernel_rfl) (by simp) ?_
            refine AllReadyH.cons rfl (fun K hK => ?_) AllReadyH.nil
            refine step_put (d := some 61) wy wv4 rfl rfl (.tmp 57) (.tmp 60) 44 rfl 81 i0 _ 3 24 Tryd.underlying44 HI.out HZ0.out HZ1.out HZ2.out rfl (by decide) hB4 v4 (0 + k + 1) _ rfl hO4 ⟨b, o2, none⟩ (n - k) (c - k) ((zs.drop (k * 3)).map (Value.int .i64)) rfl hln2 (fun hbx => newsOf hz2 (fun j hj => keep_cell hbx (HT2.out j hj))) (onesOf _) hl5 hl6 ?_
            intro v5 wv5 hO5 hk5 hB5
            refine hK.out _ _ ⟨keep_cell hB5 X0, keep_cell hB5 X1, keep_cell hB5 X2⟩ (fun hHeld5 => ?_)
            clear hK K
            try simp only [Act.put, List.setIfInBounds_toArray, List.set_cons_zero, List.set_cons_succ]
            refine takeW 12 (d := some 4) (v := v5) rfl rfl (by kernel_rfl) (by kernel_rfl) (by kernel_rfl) (fun _ _ _ h => h) rfl (fun _ _ => rfl) (by assumption) ?_
            try simp only [Act.put, List.setIfInBounds_toArray, List.set_cons_zero, List.set_cons_succ]
            refine wpAnyH_done (by kernel_rfl) ?_ _
            refine NoPanic.normal ?_
            obtain ⟨A3, c3, rfl, _⟩ := own_cells hO5
            obtain ⟨g, rfl, _, _⟩ := (OwnC.of_row hO5).form (show 0 < 0 + k + 1 + (n - k) by omega)
            go_wp2_with fail
            go_ret
            refine ⟨g, 0 + k + 1 + (n - k), c3, zs.take (k * 3) ++ [r, q, t] ++ zs.drop (k * 3), rfl, ?_, by omega, by omega, bl_trans HBw.out hB5⟩
            have := OwnC_lo (lo' := w.heap.size) (OwnC.of_row hO5) (by omega)
            simpa [List.map_append] using this
          refine AllReadyH.cons rfl (fun K hK => ?_) AllReadyH.nil
          refine stepO (op := .buildSlice 44 1 #[(0, .tmp 55)]) (d := some 56) (v := .slice (some ⟨wv1.heap.size, 0, none⟩) 1 1) (w' := wv1.alloc (.cells #[.int .i64 r, .int .i64 q, .int .i64 t] 81)) rfl rfl rfl ?_ ?_
          · intro o ho
            simp only [execOp, ho]
            go_simp
          obtain ⟨wv6, hwv6⟩ : ∃ z, z = wv1.alloc (.cells #[.int .i64 r, .int .i64 q, .int .i64 t] 81) := ⟨_, rfl⟩
          have hB6 : Below wy.heap.size wy wv6 := by rw [hwv6]; exact bl_alloc hB1 _
          have hd6 : gE1 < wv1.heap.size := hp_lt hN1
          have hE6 : wv6.heap[gE1]? = some (.cells #[] 81) := by rw [hwv6]; exact hp_old _ hN1
          have hN6 : wv6.heap[wv1.heap.size]? = some (.cells #[.int .i64 r, .int .i64 q, .int .i64 t] 81) := by rw [hwv6]; exact heap_alloc_new _ _
          have hge6 : wy.heap.size ≤ wv1.heap.size := hB1.size
          rw [← hwv6]
          obtain ⟨gX6, hgX6⟩ : ∃ z, z = wv1.heap.size := ⟨_, rfl⟩
          rw [← hgX6] at hN6 hge6 hd6 ⊢
          clear hwv6 hgX6
          refine hK.out _ _ ⟨keep_cell hB6 X0, keep_cell hB6 X1, keep_cell hB6 X2⟩ (fun hHeld6 => ?_)
          clear hK K
          try simp only [Act.put, List.setIfInBounds_toArray, List.set_cons_zero, List.set_cons_succ]
          refine wpAnyH_ready (rs := [4]) (by kernel_rfl) (by simp) ?_
          refine AllReadyH.cons rfl (fun K hK => ?_) AllReadyH.nil
          refine step_put (d := some 54) wy wv6 rfl rfl (.tmp 50) (.tmp 53) 44 rfl 81 i0 _ 3 24 Tryd.underlying44 HI.out HZ0.out HZ1.out HZ2.out rfl (by decide) hB6 (.slice (some ⟨gE1, 0, none⟩) 0 0) 0 [] rfl (emptyAt 3 hE6 hge1) ⟨b, off, none⟩ k c ((zs.take (k * 3)).map (Value.int .i64)) rfl hln1 (fun hbx => newsOf hz1 (fun j hj => keep_cell hbx (HT1.out j hj))) (onesOf _) hl1 hl2 ?_
          intro v7 wv7 hO7 hk7 hB7
          have hX7 : wv7.heap[gX6]? = some (.cells #[.int .i64 r, .int .i64 q, .int .i64 t] 81) := kept_blk hk7 hN6 (by simp [Value.ownBlock]; omega)
          refine hK.out _ _ ⟨keep_cell hB7 X0, keep_cell hB7 X1, keep_cell hB7 X2⟩ (fun hHeld7 => ?_)
          clear hK K
          try simp only [Act.put, List.setIfInBounds_toArray, List.set_cons_zero, List.set_cons_succ]
          refine wpAnyH_ready (rs := [7]) (by kernel_rfl) (by simp) ?_
          refine AllReadyH.cons rfl (fun K hK => ?_) AllReadyH.nil
          refine step_put (d := some 57) wy wv7 rfl rfl (.tmp 54) (.tmp 56) 44 rfl 81 i0 _ 3 24 Tryd.underlying44 HI.out HZ0.out HZ1.out HZ2.out rfl (by decide) hB7 v7 (0 + k) _ rfl hO7 ⟨gX6, 0, none⟩ 1 1 [.int .i64 r, .int .i64 q, .int .i64 t] rfl rfl (fun _ => newsAt hX7) (oneT3 _ _ _) hl3 hl4 ?_
          intro v8 wv8 hO8 hk8 hB8
          refine hK.out _ _ ⟨keep_cell hB8 X0, keep_cell hB8 X1, keep_cell hB8 X2⟩ (fun hHeld8 => ?_)
          clear hK K
          try simp only [Act.put, List.setIfInBounds_toArray, List.set_cons_zero, List.set_cons_succ]
          refine wpAnyH_ready (rs := [11]) (by kernel_rfl) (by simp) ?_
          refine AllReadyH.cons rfl (fun K hK => ?_) AllReadyH.nil
          refine step_put (d := some 61) wy wv8 rfl rfl (.tmp 57) (.tmp 60) 44 rfl 81 i0 _ 3 24 Tryd.underlying44 HI.out HZ0.out HZ1.out HZ2.out rfl (by decide) hB8 v8 (0 + k + 1) _ rfl hO8 ⟨b, o2, none⟩ (n - k) (c - k) ((zs.drop (k * 3)).map (Value.int .i64)) rfl hln2 (fun hbx => newsOf hz2 (fun j hj => keep_cell hbx (HT2.out j hj))) (onesOf _) hl5 hl6 ?_
          intro v9 wv9 hO9 hk9 hB9
          refine hK.out _ _ ⟨keep_cell hB9 X0, keep_cell hB9 X1, keep_cell hB9 X2⟩ (fun hHeld9 => ?_)
          clear hK K
          try simp only [Act.put, List.setIfInBounds_toArray, List.set_cons_zero, List.set_cons_succ]
          refine takeW 12 (d := some 4) (v := v9) rfl rfl (by kernel_rfl) (by kernel_rfl) (by kernel_rfl) (fun _ _ _ h => h) rfl (fun _ _ => rfl) (by assumption) ?_
          try simp only [Act.put, List.setIfInBounds_toArray, List.set_cons_zero, List.set_cons_succ]
          refine wpAnyH_done (by kernel_rfl) ?_ _
          refine NoPanic.normal ?_
          obtain ⟨A3, c3, rfl, _⟩ := own_cells hO9
          obtain ⟨g, rfl, _, _⟩ := (OwnC.of_row hO9).form (show 0 < 0 + k + 1 + (n - k) by omega)
          go_wp2_with fail
          go_ret
          refine ⟨g, 0 + k + 1 + (n - k), c3, zs.take (k * 3) ++ [r, q, t] ++ zs.drop (k * 3), rfl, ?_, by omega, by omega, bl_trans HBw.out hB9⟩
          have := OwnC_lo (lo' := w.heap.size) (OwnC.of_row hO9) (by omega)
          simpa [List.map_append] using this
        refine AllReadyH.cons rfl (fun K hK => ?_) AllReadyH.nil
        refine stepO (op := .buildSlice 44 1 #[(0, .tmp 55)]) (d := some 56) (v := .slice (some ⟨wz.heap.size, 0, none⟩) 1 1) (w' := wz.alloc (.cells #[.int .i64 r, .int .i64 q, .int .i64 t] 81)) rfl rfl rfl ?_ ?_
        · intro o ho
          simp only [execOp, ho]
          go_simp
        obtain ⟨wv10, hwv10⟩ : ∃ z, z = wz.alloc (.cells #[.int .i64 r, .int .i64 q, .int .i64 t] 81) := ⟨_, rfl⟩
        have hB10 : Below wy.heap.size wy wv10 := by rw [hwv10]; exact bl_alloc hBz _
        have hN10 : wv10.heap[wz.heap.size]? = some (.cells #[.int .i64 r, .int .i64 q, .int .i64 t] 81) := by rw [hwv10]; exact heap_alloc_new _ _
        have hge10 : wy.heap.size ≤ wz.heap.size := hBz.size
        rw [← hwv10]
        obtain ⟨gX10, hgX10⟩ : ∃ z, z = wz.heap.size := ⟨_, rfl⟩
        rw [← hgX10] at hN10 hge10 ⊢
        clear hwv10 hgX10
        refine hK.out _ _ ⟨keep_cell hB10 X0, keep_cell hB10 X1, keep_cell hB10 X2⟩ (fun hHeld10 => ?_)
        clear hK K
        try simp only [Act.put, List.setIfInBounds_toArray, List.set_cons_zero, List.set_cons_succ]
        refine wpAnyH_ready (rs := [0]) (by kernel_rfl) (by simp) ?_
        refine AllReadyH.cons rfl (fun K hK => ?_) AllReadyH.nil
        refine stepO (op := .buildSlice 44 0 #[]) (d := some 50) (v := .slice (some ⟨wv10.heap.size, 0, none⟩) 0 0) (w' := wv10.alloc (.cells #[] 81)) rfl rfl rfl ?_ ?_
        · intro o ho
          simp only [execOp, ho]
          go_simp
        obtain ⟨wv11, hwv11⟩ : ∃ z, z = wv10.alloc (.cells #[] 81) := ⟨_, rfl⟩
        have hB11 : Below wy.heap.size wy wv11 := by rw [hwv11]; exact bl_alloc hB10 _
        have hd11 : gX10 < wv10.heap.size := hp_lt hN10
        have hX11 : wv11.heap[gX10]? = some (.cells #[.int .i64 r, .int .i64 q, .int .i64 t] 81) := by rw [hwv11]; exact hp_old _ hN10
        have hN11 : wv11.heap[wv10.heap.size]? = some (.cells #[] 81) := by rw [hwv11]; exact heap_alloc_new _ _
        have hge11 : wy.heap.size ≤ wv10.heap.size := hB10.size
        rw [← hwv11]
        obtain ⟨gE11, hgE11⟩ : ∃ z, z = wv10.heap.size := ⟨_, rfl⟩
        rw [← hgE11] at hN11 hge11 hd11 ⊢
        clear hwv11 hgE11
        refine hK.out _ _ ⟨keep_cell hB11 X0, keep_cell hB11 X1, keep_cell hB11 X2⟩ (fun hHeld11 => ?_)
        clear hK K
        try simp only [Act.put, List.setIfInBounds_toArray, List.set_cons_zero, List.set_cons_succ]
        refine wpAnyH_ready (rs := [4]) (by kernel_rfl) (by simp) ?_
        refine AllReadyH.cons rfl (fun K hK => ?_) AllReadyH.nil
        refine step_put (d := some 54) wy wv11 rfl rfl (.tmp 50) (.tmp 53) 44 rfl 81 i0 _ 3 24 Tryd.underlying44 HI.out HZ0.out HZ1.out HZ2.out rfl (by decide) hB11 (.slice (some ⟨gE11, 0, none⟩) 0 0) 0 [] rfl (emptyAt 3 hN11 hge11) ⟨b, off, none⟩ k c ((zs.take (k * 3)).map (Value.int .i64)) rfl hln1 (fun hbx => newsOf hz1 (fun j hj => keep_cell hbx (HT1.out j hj))) (onesOf _) hl1 hl2 ?_
        intro v12 wv12 hO12 hk12 hB12
        have hX12 : wv12.heap[gX10]? = some (.cells #[.int .i64 r, .int .i64 q, .int .i64 t] 81) := kept_blk hk12 hX11 (by simp [Value.ownBlock]; omega)
        refine hK.out _ _ ⟨keep_cell hB12 X0, keep_cell hB12 X1, keep_cell hB12 X2⟩ (fun hHeld12 => ?_)
        clear hK K
        try simp only [Act.put, List.setIfInBounds_toArray, List.set_cons_zero, List.set_cons_succ]
        refine wpAnyH_ready (rs := [7]) (by kernel_rfl) (by simp) ?_
        refine AllReadyH.cons rfl (fun K hK => ?_) AllReadyH.nil
        refine step_put (d := some 57) wy wv12 rfl rfl (.tmp 54) (.tmp 56) 44 rfl 81 i0 _ 3 24 Tryd.underlying44 HI.out HZ0.out HZ1.out HZ2.out rfl (by decide) hB12 v12 (0 + k) _ rfl hO12 ⟨gX10, 0, none⟩ 1 1 [.int .i64 r, .int .i64 q, .int .i64 t] rfl rfl (fun _ => newsAt hX12) (oneT3 _ _ _) hl3 hl4 ?_
        intro v13 wv13 hO13 hk13 hB13
        refine hK.out _ _ ⟨keep_cell hB13 X0, keep_cell hB13 X1, keep_cell hB13 X2⟩ (fun hHeld13 => ?_)
        clear hK K
        try simp only [Act.put, List.setIfInBounds_toArray, List.set_cons_zero, List.set_cons_succ]
        refine wpAnyH_ready (rs := [11]) (by kernel_rfl) (by simp) ?_
        refine AllReadyH.cons rfl (fun K hK => ?_) AllReadyH.nil
        refine step_put (d := some 61) wy wv13 rfl rfl (.tmp 57) (.tmp 60) 44 rfl 81 i0 _ 3 24 Tryd.underlying44 HI.out HZ0.out HZ1.out HZ2.out rfl (by decide) hB13 v13 (0 + k + 1) _ rfl hO13 ⟨b, o2, none⟩ (n - k) (c - k) ((zs.drop (k * 3)).map (Value.int .i64)) rfl hln2 (fun hbx => newsOf hz2 (fun j hj => keep_cell hbx (HT2.out j hj))) (onesOf _) hl5 hl6 ?_
        intro v14 wv14 hO14 hk14 hB14
        refine hK.out _ _ ⟨keep_cell hB14 X0, keep_cell hB14 X1, keep_cell hB14 X2⟩ (fun hHeld14 => ?_)
        clear hK K
        try simp only [Act.put, List.setIfInBounds_toArray, List.set_cons_zero, List.set_cons_succ]
        refine takeW 12 (d := some 4) (v := v14) rfl rfl (by kernel_rfl) (by kernel_rfl) (by kernel_rfl) (fun _ _ _ h => h) rfl (fun _ _ => rfl) (by assumption) ?_
        try simp only [Act.put, List.setIfInBounds_toArray, List.set_cons_zero, List.set_cons_succ]
        refine wpAnyH_done (by kernel_rfl) ?_ _
        refine NoPanic.normal ?_
        obtain ⟨A3, c3, rfl, _⟩ := own_cells hO14
        obtain ⟨g, rfl, _, _⟩ := (OwnC.of_row hO14).form (show 0 < 0 + k + 1 + (n - k) by omega)
        go_wp2_with fail
        go_ret
        refine ⟨g, 0 + k + 1 + (n - k), c3, zs.take (k * 3) ++ [r, q, t] ++ zs.drop (k * 3), rfl, ?_, by omega, by omega, bl_trans HBw.out hB14⟩
        have := OwnC_lo (lo' := w.heap.size) (OwnC.of_row hO14) (by omega)
        simpa [List.map_append] using this
end Go.Proofs.YtgajgonepcikbaaDoor

namespace Go.Proofs.YtgajgonepcikbaaDoor
open Go.RowKit Go.Joins

theorem spT_len {zs : List Int} {N : Nat} (h : SpOk zs N) : (spT (spL zs N)).length ≤ 1000 := by
  unfold spT
  split
  · simp
  · have := join_len (W := (spL zs N).map spW) (b := 65) (fun l hl => by
      obtain ⟨x, hx, rfl⟩ := List.mem_map.1 hl
      simp only [spL, List.mem_map, List.mem_range] at hx
      obtain ⟨k, hk, rfl⟩ := hx
      have ⟨h1, h2, h3⟩ := (h.1 k hk).1
      unfold O8 at h1 h2 h3
      have l1 := itoa_len (n := zR zs k) (by omega) (by omega)
      have l2 := itoa_len (n := zI zs k) (by omega) (by omega)
      have l3 := itoa_len (n := zT zs k) (by omega) (by omega)
      unfold spW
      simp only [List.length_append, List.length_cons]
      omega) 32
    rw [List.length_map, spL_len] at this
    have := h.len
    omega
theorem spTx_size (zs : List Int) (N : Nat) : (spTx zs N).size ≤ 1000 := by
  unfold spTx
  by_cases h : spOkB zs N = true
  · rw [if_pos h, bs_size]; exact spT_len (of_decide_eq_true h)
  · rw [if_neg h]; exact Nat.zero_le _

set_option maxRecDepth 100000 in
set_option maxHeartbeats 3200000 in
theorem l14DrawList_any (W : World) (A : Option Addr) (n c : Nat) (ys : List Int) (b : Nat) (w : World) (h : Sr W A n c ys b w) :
    Calls Tryd.prog 101 #[.pointer (some ⟨b, 0, none⟩)] w fun e w' => ∃ (B : Option Addr) (N d : Nat) (zs : List Int), e = .returned (.slice B N d) ∧ OwnC 81 3 w' w.heap.size B N d (zs.map (Value.int .i64)) ∧ N ≤ 100 ∧ Drew W A n c ys b w w' := by
  obtain ⟨i0, hi, hz0, hz1, hz2⟩ := info_parts infoSp3
  have HI := Lib.hid hi
  have HZ0 := Lib.hid hz0
  have HZ1 := Lib.hid hz1
  have HZ2 := Lib.hid hz2
  clear hi hz0 hz1 hz2
  have hlt := h.lt
  have hWw := h.bel.size
  have H := Lib.hid h
  clear h
  go_enter Tryd.func101, Tryd.ntmps101
  go_wp2_with fail
  refine (l01Next_any _ A n c ys b 4 _ (H.out.alloc _)).mono ?_
  rintro e w1 ⟨x, rfl, hx1, hx2, hd1⟩
  have ⟨a1, b1⟩ := hx2 (by omega)
  obtain ⟨m, rfl⟩ : ∃ m : Nat, x = (m : Int) := ⟨x.toNat, by omega⟩
  have hm3 : m ≤ 3 := by omega
  have HD1 : Hid (Drew W A n c ys b w w1) := Lib.hid (Drew.trans (H.out.drew0.alloc _) hd1)
  have hs1 : w.heap.size < w1.heap.size := by have := hd1.2.size; simp at this; omega
  clear hx1 hx2 hd1 a1 b1
  go_wp2_with fail
  go_loopg [3, 4] m (fun g v i wr => ∃ (N d g0 : Nat) (zs : List Int), g ≤ 3 ∧ i = .int .i64 g ∧ v = .slice (some ⟨g0, 0, none⟩) N d ∧ N + g ≤ 3 ∧ g0 < wr.heap.size ∧ Hid (g0 ≠ b) ∧ Hid (OwnC 81 3 wr w.heap.size (some ⟨g0, 0, none⟩) N d (zs.map (Value.int .i64))) ∧ Hid (Drew W A n c ys b w wr))
  case atStart => exact ⟨0, 0, w.heap.size, [], hm3, rfl, rfl, by omega, hs1, Lib.hid (by omega), Lib.hid (OwnC.nil (by unfold maxLen; omega)), HD1⟩
  case round =>
    obtain ⟨N, d, g0, zs, hj, rfl, rfl, hN, hg0, HG, HO, HD⟩ := hrel
    by_cases hj0 : 0 < gk
    · have hjd : decide (0 < (gk : Int)) = true := by simp; omega
      go_wp2_with fail
      refine (l01Next_any _ A n c ys b 2 _ HD.out.1).mono ?_
      rintro e w2 ⟨x2, rfl, hx1, hx2, hd2⟩
      have ⟨a2, b2⟩ := hx2 (by omega)
      have HD2 := Lib.hid (Drew.trans HD.out hd2)
      have HO2 := Lib.hid (OwnC.kept HO.out hd2.2 (.inr (fun e => by have := HO.out.row_ge b e; omega)))
      have hs2 := hd2.2.size
      clear hx1 hx2 hd2 HD HO
      go_wp2_with fail
      refine (l01Next_any _ A n c ys b 2 _ HD2.out.1).mono ?_
      rintro e w3 ⟨x3, rfl, hx1, hx2, hd3⟩
      have ⟨a3, b3⟩ := hx2 (by omega)
      have HD3 := Lib.hid (Drew.trans HD2.out hd3)
      have HO3 := Lib.hid (OwnC.kept HO2.out hd3.2 (.inr (fun e => by have := HO2.out.row_ge b e; omega)))
      have hs3 := hd3.2.size
      clear hx1 hx2 hd3 HD2 HO2
      go_wp2_with fail
      refine (l14Put_any g0 0 N d zs (1 + x2) (1 + x3) 1 _ HO3.out.rd (by omega) (by omega)).mono ?_
      rintro e w4 ⟨g4, N4, d4, zs4, rfl, ho4, hN4, hN5, hb4⟩
      have hw3 : w.heap.size ≤ w3.heap.size := HD3.out.2.size
      have hg4 := (ho4.row_ge g4 (by simp [rowOf]; omega))
      have HO4 := Lib.hid (OwnC_lo ho4 hw3)
      have HD4 := Lib.hid (HD3.out.below hb4)
      have HG4 : Hid (g4 ≠ b) := Lib.hid (by have := HD3.out.1.lt; omega)
      clear ho4 hb4 HD3 HO3
      go_wp2
      go_roundg (gk - 1)
      case measure => omega
      case rel => exact ⟨N4, d4, g4, zs4, by omega, by go_num, rfl, by omega, hg4.2, HG4, HO4, HD4⟩
    · obtain rfl : gk = 0 := by omega
      by_cases hN0 : 0 < N
      · have hNd : decide (0 < (N : Int)) = true := by simp; omega
        go_wp2_with fail
        refine (l01Next_any _ A n c ys b 16 _ HD.out.1).mono ?_
        rintro e w2 ⟨z, rfl, hx1, hx2, hd2⟩
        have HD2 := Lib.hid (Drew.trans HD.out hd2)
        have HO2 := Lib.hid (OwnC.kept HO.out hd2.2 (.inr (fun e => by have := HO.out.row_ge b e; omega)))
        have hs2 := hd2.2.size
        have hcc := HO2.out.2.1
        have hcm := HO2.out.2.2.1
        unfold maxLen at hcm
        have hge := HO2.out.row_ge g0 (by simp [rowOf]; omega)
        clear hx1 hx2 hd2 HD HO
        by_cases hz0 : z = 0
        · have hzb : (z == 0) = true := by simpa using hz0
          clear hz0
          go_wp2_with fail
          refine (l01Pick_any _ A n c ys b w2.heap.size 3 [0, 8, 9] _ (HD2.out.alloc _).1 (by omega) (by omega) (by simp) (by have := HD2.out.1.lt; omega) (fun j hj => by rcases j with _ | _ | _ | j <;> first | (simp; done) | omega)).mono ?_
          rintro e w4 ⟨j4, hj, rfl, hd4⟩
          generalize ([0, 8, 9] : List Int).getD j4 0 = q
          have HO4 := Lib.hid (OwnC.kept (OwnC.below HO2.out (bl_alloc (Below.refl _ _) _)) hd4.2 (.inr (fun e => by have := HO2.out.row_ge b e; omega)))
          have HD4 := Lib.hid (Drew.trans (HD2.out.alloc _) hd4)
          clear hd4 hj HO2 HD2
          have ⟨k1, k2⟩ := HO4.out.atF (j := 2) (by omega)
          have HSt := Lib.hid (HO4.out.setF hN0 2 q)
          have hne : g0 ≠ b := HG.out
          have HD5 : Hid (Drew W A n c ys b w (w4.setCell ⟨g0, 2, none⟩ (.int .i64 q))) := Lib.hid (HD4.out.set hne (by omega) (by omega))
          clear hne
          have hNi : (0 : Int) < (N : Int) := by omega
          go_wp2
          go_ret
          exact ⟨_, N, _, zs.set 2 q, rfl, HSt.out.1, by omega, HD5.out⟩
        · have hzb : (z == 0) = false := by simpa using hz0
          clear hz0
          by_cases hz1 : z = 1
          · have hzc : (z == 1) = true := by simpa using hz1
            clear hz1
            have ⟨k0, _⟩ := HO2.out.atF (j := 0) (by omega)
            have ⟨k1, _⟩ := HO2.out.atF (j := 1) (by omega)
            have ⟨k2, _⟩ := HO2.out.atF (j := 2) (by omega)
            generalize zs.getD 0 0 = x0 at k0
            generalize zs.getD 1 0 = x1 at k1
            generalize zs.getD 2 0 = x2 at k2
            have hl1 : N + 1 ≤ maxLen := by unfold maxLen; omega
            have hl2 : (N + 1) * 24 ≤ 140737488355328 := by omega
            have hNi : (0 : Int) < (N : Int) := by omega
            go_wp2_with (at_builtin; refine wpList_append_own _ rfl _ _ _ rfl w.heap.size 81 i0 _ 3 24 Tryd.underlying44 HI.out HZ0.out HZ1.out HZ2.out rfl (by decide) _ N (zs.map (Value.int .i64)) rfl ((HO2.out.2.2.2 hN0).alloc _) ⟨w2.heap.size, 0, none⟩ 1 1 [.int .i64 x0, .int .i64 x1, .int .i64 x2] rfl rfl (newT3 _ _ _ _ _) (oneT3 _ _ _) hl1 hl2 (by simp; omega) ?_; intro v' w5 hown' hgrow _)
            have HO5 : Hid (w5.ownsRow w.heap.size 81 3 v' (N + 1) ((zs ++ [x0, x1, x2]).map (Value.int .i64))) := Lib.hid (by rw [List.map_append]; exact hown')
            have HD5 : Hid (Drew W A n c ys b w w5) := Lib.hid (Drew.far (HD2.out.alloc _) hgrow (fun k hk => by have := (HO2.out.2.2.2 hN0).lt k hk; have h2 := (HO2.out.2.2.2 hN0); exact ⟨fun e => HG.out ((Option.some.inj (show some g0 = some k from hk)).trans e), this.1⟩) hWw)
            clear hown' hgrow hl1 hl2
            obtain ⟨A5, c5, rfl, _⟩ := own_cells HO5.out
            go_wp2
            go_ret
            exact ⟨A5, N + 1, c5, _, rfl, OwnC.of_row HO5.out, by omega, HD5.out⟩
          · have hzc : (z == 1) = false := by simpa using hz1
            clear hz1
            go_wp2
            go_ret
            exact ⟨_, N, d, zs, rfl, HO2.out, by omega, HD2.out⟩
      · have hNd : decide (0 < (N : Int)) = false := by simp; omega
        go_wp2
        go_ret
        exact ⟨_, N, d, zs, rfl, HO.out, by omega, HD.out⟩

set_option maxHeartbeats 1600000 in
theorem drawSplittingText_any (A : Option Addr) (n c : Nat) (ys : List Int) (w : World) (hr : Rd .u8 w A n c ys) (hb : Bys ys) :
    Calls Tryd.prog 56 #[.slice A n c] w fun e w' => ∃ (B : Option Addr) (N d : Nat) (zs : List Int), e = .returned (.slice B N d) ∧ RdC 3 w' B N d (zs.map (Value.int .i64)) ∧ N ≤ 2000 ∧ Below w.heap.size w w' := by
  have HR := Lib.hid hr
  have HBy := Lib.hid hb
  clear hr hb
  go_enter Tryd.func56, Tryd.ntmps56
  go_wp2_with fail
  refine (l01From_any A n c ys w HR.out HBy.out).mono ?_
  rintro e w0 ⟨b, rfl, hs⟩
  have HS := Lib.hid hs
  clear hs
  go_wp2_with fail
  refine (l14DrawList_any _ A n c ys b _ HS.out).mono ?_
  rintro e w1 ⟨B, N, d, f, rfl, ho, hN, hd⟩
  have HD := Lib.hid hd
  have HO := Lib.hid ho.rd
  clear ho hd
  go_wp2
  go_ret
  exact ⟨B, N, d, f, rfl, HO.out, by omega, HD.out.1.bel⟩

set_option maxHeartbeats 1600000 in
theorem drawReadSplitting_any (A : Option Addr) (n c : Nat) (ys : List Int) (w : World) (hr : Rd .u8 w A n c ys) (hb : Bys ys) :
    Calls Tryd.prog 57 #[.slice A n c] w fun e w' => ∃ u : ByteArray, e = .returned (.string u) ∧ u.size ≤ 10000 ∧ Below w.heap.size w w' := by
  have HR := Lib.hid hr
  have HBy := Lib.hid hb
  clear hr hb
  go_enter Tryd.func57, Tryd.ntmps57
  go_wp2_with fail
  refine (l01From_any A n c ys w HR.out HBy.out).mono ?_
  rintro e w0 ⟨b, rfl, hs⟩
  have HS := Lib.hid hs
  clear hs
  go_wp2_with fail
  refine (l14DrawList_any _ A n c ys b _ HS.out).mono ?_
  rintro e w2 ⟨B, N, d, zs, rfl, ho, hN, hd2⟩
  have HRd := Lib.hid ho.rd
  have HS2 := Lib.hid hd2.1
  obtain ⟨T, hT⟩ : ∃ T, T = spTx zs N := ⟨_, rfl⟩
  obtain ⟨C, hC⟩ : ∃ C, C = spTc zs N := ⟨_, rfl⟩
  have HT := Lib.hid hT
  have HC := Lib.hid hC
  have hz : T.size ≤ 1000 := by rw [hT]; exact spTx_size zs N
  clear ho hd2 hT hC
  go_wp2_with fail
  refine (specSplittingText_at HT.out HC.out _ HRd.out (by omega)).mono ?_
  rintro e w3 ⟨rfl, hb3⟩
  have HS3 := Lib.hid (HS2.out.below hb3)
  clear hb3
  go_wp2_with fail
  refine (l01Next_any _ A n c ys b 3 _ HS3.out).mono ?_
  rintro e w4 ⟨z, rfl, hx1, hx2, hd4⟩
  have HS4 := Lib.hid hd4.1
  clear hx1 hx2 hd4
  by_cases hz0 : z = 0
  · have hzb : (z == 0) = true := by simpa using hz0
    clear hz0
    go_wp2_with fail
    refine (l01Damage_any _ A n c ys b T (by omega) _ HS4.out).mono ?_
    rintro e w5 ⟨u, rfl, hu, hd5⟩
    have HS5 := Lib.hid hd5.1
    clear hd5
    go_wp2
    go_ret
    exact ⟨u, rfl, by omega, HS5.out.bel⟩
  · have hzb : (z == 0) = false := by simpa using hz0
    clear hz0
    go_wp2
    go_ret
    exact ⟨T, rfl, by omega, HS4.out.bel⟩

set_option maxHeartbeats 1600000 in
theorem likeSplittings_any (B : Option Addr) (N d : Nat) (B' : Option Addr) (d' : Nat) (zs : List Int) (w : World) (hr : RdC 3 w B N d (zs.map (Value.int .i64))) (hr' : RdC 3 w B' N d' (zs.map (Value.int .i64))) :
    Calls Tryd.prog 58 #[.slice B N d, .slice B' N d'] w fun e w' => e = .returned (.bool true) ∧ Below w.heap.size w w' := by
  have hm := hr.2.2.1
  have hc := hr.2.1
  unfold maxLen at hm
  have HR := Lib.hid hr
  have HR' := Lib.hid hr'
  clear hr hr'
  have hself : ((N : Int) != (N : Int)) = false := by simp
  go_enter Tryd.func58, Tryd.ntmps58
  go_wp2
  go_loopw [5] (fun j wr => ∃ k : Nat, k ≤ N ∧ j = .int .i64 k ∧ Hid (Below w.heap.size w wr)) (fun j _ => N - (intOf j).toNat)
  case atStart => exact ⟨0, Nat.zero_le _, rfl, Lib.hid (Below.refl _ _)⟩
  case round =>
    obtain ⟨k, hk, rfl, HB⟩ := hrel
    by_cases hlt : k < N
    · obtain ⟨b, off, rfl, hcell⟩ := (HR.out.below HB.out).atF (by omega)
      obtain ⟨b', off', rfl, hcell'⟩ := (HR'.out.below HB.out).atF (by omega)
      have h0 := hcell (k * 3 + 0) (fl_lt hlt (by omega))
      rw [Nat.add_zero] at h0
      have h1 := hcell (k * 3 + 1) (fl_lt hlt (by omega))
      rw [← Nat.add_assoc] at h1
      have h2 := hcell (k * 3 + 2) (fl_lt hlt (by omega))
      rw [← Nat.add_assoc] at h2
      have h0' := hcell' (k * 3 + 0) (fl_lt hlt (by omega))
      rw [Nat.add_zero] at h0'
      have h1' := hcell' (k * 3 + 1) (fl_lt hlt (by omega))
      rw [← Nat.add_assoc] at h1'
      have h2' := hcell' (k * 3 + 2) (fl_lt hlt (by omega))
      rw [← Nat.add_assoc] at h2'
      generalize zs.getD (k * 3) 0 = x0 at h0 h0'
      generalize zs.getD (k * 3 + 1) 0 = x1 at h1 h1'
      generalize zs.getD (k * 3 + 2) 0 = x2 at h2 h2'
      have f0 : (x0 != x0) = false := by simp
      have f1 : (x1 != x1) = false := by simp
      have f2 : (x2 != x2) = false := by simp
      clear hcell hcell'
      go_wp2_with fail
      go_quiet (fail)
      go_wp2
      go_roundw
      case rel => exact ⟨k + 1, by omega, by go_num, Lib.hid (by repeat (first | exact HB.out | apply Below.drew | apply below_drewN))⟩
      case measure => simp [intOf]; omega
    · go_wp2
      go_ret
      exact ⟨rfl, HB.out⟩
end Go.Proofs.YtgajgonepcikbaaDoor
