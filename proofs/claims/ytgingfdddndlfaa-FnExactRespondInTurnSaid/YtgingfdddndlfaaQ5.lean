/- Contracts: payoffs, powers, units, places of sets. -/
import Derived.Test.YtgingfdddndlfaaQ4
set_option linter.unusedSimpArgs false
set_option linter.unusedVariables false
namespace Go.Ab
open Go.Proofs

theorem pay_eq {g : Gm} {i a b : Nat} {x : Nd} {r : List Int} {y : Int} (hx : g.nd[i]? = some x) (hr : g.v[a]? = some r) (hy : r[b]? = some y) : pay g i a b = if (if x.f = 0 then -1 else if x.f = 1 then 1 else y) = 1 then x.b else if (if x.f = 0 then -1 else if x.f = 1 then 1 else y) = -1 then -x.a else 0 := by
  have e1 : g.nd.getD i nd0 = x := by rw [List.getD_eq_getElem?_getD, hx]; rfl
  have e2 : (g.v.getD a []).getD b 0 = y := by rw [List.getD_eq_getElem?_getD, List.getD_eq_getElem?_getD, hr, Option.getD_some, hy]; rfl
  rw [pay, e1, e2]
theorem game_row {g : Gm} (hg : isGameB g = true) {a b : Nat} (ha : a < g.w.length) (hb : b < g.w.length) : ∃ r y, g.v[a]? = some r ∧ r[b]? = some y := by
  obtain ⟨h1, h2⟩ := matK_iff.1 (isGameB_parts hg).2.2.2.1
  have hx := List.getElem?_eq_getElem (show a < g.v.length by omega)
  have h3 := (h2 _ (List.getElem_mem (show a < g.v.length by omega))).1
  exact ⟨_, _, hx, List.getElem?_eq_getElem (by omega)⟩
theorem game_w {g : Gm} (hg : isGameB g = true) {a b : Nat} (ha : a < g.w.length) (hb : b < g.w.length) : ∃ r y, g.w[a]? = some r ∧ r[b]? = some y ∧ 0 ≤ y ∧ y ≤ 9 := by
  obtain ⟨h1, h2⟩ := matK_iff.1 (isGameB_parts hg).2.2.1
  have hx := List.getElem?_eq_getElem ha
  obtain ⟨h3, h4⟩ := h2 _ (List.getElem_mem ha)
  have hl : b < g.w[a].length := by omega
  exact ⟨_, _, hx, List.getElem?_eq_getElem hl, h4 _ (List.getElem_mem hl)⟩
theorem pw_le : ∀ {p q : Nat}, p ≤ q → pw p ≤ pw q := by
  intro p q h
  induction h with
  | refl => exact Int.le_refl _
  | step h ih => rw [pw_succ]; have := pw_pos (p := ‹Nat›); omega
section
attribute [-go_sem] load1C load1V fldC lenC idxC loadNV
set_option maxRecDepth 20000 in
theorem impl_payoffAt_ok (g : Gm) (hg : isGameB g = true) (i a b : Nat) (hi : i < g.nd.length) (ha : a < g.w.length) (hb : b < g.w.length) : Pure Try.prog 158 [gameT g, .i i, .i a, .i b] (.i (pay g i a b)) := by
  obtain ⟨p1, p2, p3, p4, p5⟩ := isGameB_parts hg
  obtain ⟨t1, t2, t3, t4⟩ := isTreeB_spec p1
  obtain ⟨x, hx⟩ : ∃ x, g.nd[i]? = some x := ⟨_, List.getElem?_eq_getElem hi⟩
  obtain ⟨r, y, hr, hy⟩ := game_row hg ha hb
  have hf := ndOK_fields (t2 _ _ hx)
  have hal := (List.getElem?_eq_some_iff.1 hr).1
  have hbl := (List.getElem?_eq_some_iff.1 hy).1
  rw [pay_eq hx hr hy]
  refine fun_impl_payoffAt (by simp) ?_
  simp -implicitDefEqProofs only [go_sem, List.reduceReplicate, Nat.reduceEqDiff, Nat.reduceAdd, Nat.reduceLeDiff, Nat.reduceMul, Nat.reduceSub, Nat.reduceDiv, Int.reduceToNat, Nat.reduceLT, Int.reduceLT, Int.reduceLE, ↓reduceIte, reduceCtorEq, forall_apply_eq_imp_iff₂, ints, rows, rat, rats, toNat_cast, c_impl_payoffAt, gameT, nodes, rows, nd_at hx, hr, hy]
  refine ⟨by omega, by rw [nd_len]; omega, by rw [nd_len]; omega, by omega, by omega, by omega, by omega, by omega, by omega, ?_⟩
  rw [wrap64 (n := 0 - x.a) (by omega) (by omega), Int.zero_sub]
  by_cases h0 : x.f = 0
  · simp [h0]
  · by_cases h1 : x.f = 1
    · simp [h1]
    · by_cases h2 : y = 1
      · simp [h0, h1, h2]
      · by_cases h3 : y = -1 <;> simp [h0, h1, h2, h3]
set_option maxRecDepth 20000 in
theorem spec_l21Payoff_ok (g : Gm) (hg : isGameB g = true) (i a b : Nat) (hi : i < g.nd.length) (ha : a < g.w.length) (hb : b < g.w.length) : Pure Try.prog 154 [gameT g, .i i, .i a, .i b] (.i (pay g i a b)) := by
  obtain ⟨p1, p2, p3, p4, p5⟩ := isGameB_parts hg
  obtain ⟨t1, t2, t3, t4⟩ := isTreeB_spec p1
  obtain ⟨x, hx⟩ : ∃ x, g.nd[i]? = some x := ⟨_, List.getElem?_eq_getElem hi⟩
  obtain ⟨r, y, hr, hy⟩ := game_row hg ha hb
  have hf := ndOK_fields (t2 _ _ hx)
  have hal := (List.getElem?_eq_some_iff.1 hr).1
  have hbl := (List.getElem?_eq_some_iff.1 hy).1
  rw [pay_eq hx hr hy]
  refine fun_spec_l21Payoff (by simp) ?_
  simp -implicitDefEqProofs only [go_sem, List.reduceReplicate, Nat.reduceEqDiff, Nat.reduceAdd, Nat.reduceLeDiff, Nat.reduceMul, Nat.reduceSub, Nat.reduceDiv, Int.reduceToNat, Nat.reduceLT, Int.reduceLT, Int.reduceLE, ↓reduceIte, reduceCtorEq, forall_apply_eq_imp_iff₂, ints, rows, rat, rats, toNat_cast, c_spec_l21Payoff, gameT, nodes, rows, nd_at hx, hr, hy]
  refine ⟨by omega, by rw [nd_len]; omega, by rw [nd_len]; omega, by omega, by omega, by omega, by omega, by omega, by omega, ?_⟩
  rw [wrap64 (n := 0 - x.a) (by omega) (by omega), Int.zero_sub]
  by_cases h0 : x.f = 0
  · simp [h0]
  · by_cases h1 : x.f = 1
    · simp [h1]
    · by_cases h2 : y = 1
      · simp [h0, h1, h2]
      · by_cases h3 : y = -1 <;> simp [h0, h1, h2, h3]
theorem impl_powerOf_ok (p : Nat) (hp : p ≤ 8) : Pure Try.prog 127 [.i 60, .i p] (.i (pw p)) := by
  refine fun_impl_powerOf (by simp) ?_
  simp -implicitDefEqProofs only [go_sem, List.reduceReplicate, Nat.reduceEqDiff, Nat.reduceAdd, Nat.reduceLeDiff, Nat.reduceMul, Nat.reduceSub, Nat.reduceDiv, Int.reduceToNat, Nat.reduceLT, Int.reduceLT, Int.reduceLE, ↓reduceIte, reduceCtorEq, forall_apply_eq_imp_iff₂, ints, rows, rat, rats, toNat_cast, c_impl_powerOf]
  refine SemC.loopR (σ := Nat) (fun i => St.of [(0, .t (.i 60)), (5, .t (.i (pw i))), (6, .t (.i p)), (7, .t (.i i))] []) (fun i => i ≤ p) (fun i => p - i) 0 (Weak.of _ [] [] (by simp) (by simp) ?_ trivial) (by omega) fun i hi R hn hr he => ?_
  · simp -implicitDefEqProofs only [ints, rows, Nat.reduceBEq, Int.add_zero, envOK, maA, maT, upd_apply, Nat.reduceEqDiff, ↓reduceIte, and_true, true_or, or_true, List.map_cons, List.map_nil, Nat.zero_ne_one, and_self, true_and, Int.natCast_zero, Int.cast_ofNat_Int, Int.ofNat_zero, piOf, List.zip_cons_cons, List.zip_nil_right, List.lookup_cons, List.lookup_nil, beq_self_eq_true, rootsOK, mkRoots, mkEnv, show pw 0 = 1 from rfl]
  · rcases Nat.lt_or_ge i p with h9 | h9
    · simp -implicitDefEqProofs only [go_sem, List.reduceReplicate, Nat.reduceEqDiff, Nat.reduceAdd, Nat.reduceLeDiff, Nat.reduceMul, Nat.reduceSub, Nat.reduceDiv, Int.reduceToNat, Nat.reduceLT, Int.reduceLT, Int.reduceLE, ↓reduceIte, reduceCtorEq, forall_apply_eq_imp_iff₂, ints, rows, rat, rats, toNat_cast, decide_eq_true (show (i : Int) < (p : Int) by omega)]
      have hb := pw_le (show i + 1 ≤ 8 by omega)
      have hb0 := pw_pos (p := i + 1)
      have hb8 : pw 8 = 167961600000000 := by decide
      have e : pw i * 60 = pw (i + 1) := by rw [pw_succ, Int.mul_comm]
      refine hn _ (i + 1) (Weak.of _ [] [] (by simp) (by simp) ?_ trivial) (by omega) (by omega)
      simp -implicitDefEqProofs only [ints, rows, Nat.reduceBEq, Int.add_zero, envOK, maA, maT, upd_apply, Nat.reduceEqDiff, ↓reduceIte, and_true, true_or, or_true, List.map_cons, List.map_nil, Nat.zero_ne_one, and_self, true_and, Int.natCast_zero, Int.cast_ofNat_Int, Int.ofNat_zero, piOf, List.zip_cons_cons, List.zip_nil_right, List.lookup_cons, List.lookup_nil, beq_self_eq_true, rootsOK, mkRoots, mkEnv, next64 h9 (by omega), e, wrap64 (n := pw (i + 1)) (by omega) (by omega)]
    · simp -implicitDefEqProofs only [go_sem, List.reduceReplicate, Nat.reduceEqDiff, Nat.reduceAdd, Nat.reduceLeDiff, Nat.reduceMul, Nat.reduceSub, Nat.reduceDiv, Int.reduceToNat, Nat.reduceLT, Int.reduceLT, Int.reduceLE, ↓reduceIte, reduceCtorEq, forall_apply_eq_imp_iff₂, ints, rows, rat, rats, toNat_cast, decide_eq_false (show ¬ (i : Int) < (p : Int) by omega)]
      refine he _ _ ?_
      simp -implicitDefEqProofs only [go_sem, List.reduceReplicate, Nat.reduceEqDiff, Nat.reduceAdd, Nat.reduceLeDiff, Nat.reduceMul, Nat.reduceSub, Nat.reduceDiv, Int.reduceToNat, Nat.reduceLT, Int.reduceLT, Int.reduceLE, ↓reduceIte, reduceCtorEq, forall_apply_eq_imp_iff₂, ints, rows, rat, rats, toNat_cast]
      rw [show i = p by omega]
theorem spec_l23Power_ok (p : Nat) (hp : p ≤ 8) : Pure Try.prog 119 [.i p] (.i (pw p)) := by
  refine fun_spec_l23Power (by simp) ?_
  simp -implicitDefEqProofs only [go_sem, List.reduceReplicate, Nat.reduceEqDiff, Nat.reduceAdd, Nat.reduceLeDiff, Nat.reduceMul, Nat.reduceSub, Nat.reduceDiv, Int.reduceToNat, Nat.reduceLT, Int.reduceLT, Int.reduceLE, ↓reduceIte, reduceCtorEq, forall_apply_eq_imp_iff₂, ints, rows, rat, rats, toNat_cast, c_spec_l23Power]
  refine SemC.loopR (σ := Nat) (fun i => St.of [(0, .t (.i ((p - i : Nat) : Int))), (3, .t (.i (pw i)))] []) (fun i => i ≤ p) (fun i => p - i) 0 (Weak.of _ [] [] (by simp) (by simp) ?_ trivial) (by omega) fun i hi R hn hr he => ?_
  · simp -implicitDefEqProofs only [ints, rows, Nat.reduceBEq, Int.add_zero, envOK, maA, maT, upd_apply, Nat.reduceEqDiff, ↓reduceIte, and_true, true_or, or_true, List.map_cons, List.map_nil, Nat.zero_ne_one, and_self, true_and, Int.natCast_zero, Int.cast_ofNat_Int, Int.ofNat_zero, piOf, List.zip_cons_cons, List.zip_nil_right, List.lookup_cons, List.lookup_nil, beq_self_eq_true, rootsOK, mkRoots, mkEnv, show pw 0 = 1 from rfl, Nat.sub_zero]
  · rcases Nat.lt_or_ge i p with h9 | h9
    · simp -implicitDefEqProofs only [go_sem, List.reduceReplicate, Nat.reduceEqDiff, Nat.reduceAdd, Nat.reduceLeDiff, Nat.reduceMul, Nat.reduceSub, Nat.reduceDiv, Int.reduceToNat, Nat.reduceLT, Int.reduceLT, Int.reduceLE, ↓reduceIte, reduceCtorEq, forall_apply_eq_imp_iff₂, ints, rows, rat, rats, toNat_cast, decide_eq_true (show ((p - i : Nat) : Int) > 0 by omega)]
      have hb := pw_le (show i + 1 ≤ 8 by omega)
      have hb0 := pw_pos (p := i + 1)
      have hb8 : pw 8 = 167961600000000 := by decide
      have e : pw i * 60 = pw (i + 1) := by rw [pw_succ, Int.mul_comm]
      refine hn _ (i + 1) (Weak.of _ [] [] (by simp) (by simp) ?_ trivial) (by omega) (by omega)
      simp -implicitDefEqProofs only [ints, rows, Nat.reduceBEq, Int.add_zero, envOK, maA, maT, upd_apply, Nat.reduceEqDiff, ↓reduceIte, and_true, true_or, or_true, List.map_cons, List.map_nil, Nat.zero_ne_one, and_self, true_and, Int.natCast_zero, Int.cast_ofNat_Int, Int.ofNat_zero, piOf, List.zip_cons_cons, List.zip_nil_right, List.lookup_cons, List.lookup_nil, beq_self_eq_true, rootsOK, mkRoots, mkEnv, e, wrap64 (n := pw (i + 1)) (by omega) (by omega), wrap64 (n := ((p - (i + 1) : Nat) : Int)) (by omega) (by omega), show ((p - i : Nat) : Int) - 1 = ((p - (i + 1) : Nat) : Int) by omega]
    · simp -implicitDefEqProofs only [go_sem, List.reduceReplicate, Nat.reduceEqDiff, Nat.reduceAdd, Nat.reduceLeDiff, Nat.reduceMul, Nat.reduceSub, Nat.reduceDiv, Int.reduceToNat, Nat.reduceLT, Int.reduceLT, Int.reduceLE, ↓reduceIte, reduceCtorEq, forall_apply_eq_imp_iff₂, ints, rows, rat, rats, toNat_cast, decide_eq_false (show ¬ ((p - i : Nat) : Int) > 0 by omega)]
      refine he _ _ ?_
      simp -implicitDefEqProofs only [go_sem, List.reduceReplicate, Nat.reduceEqDiff, Nat.reduceAdd, Nat.reduceLeDiff, Nat.reduceMul, Nat.reduceSub, Nat.reduceDiv, Int.reduceToNat, Nat.reduceLT, Int.reduceLT, Int.reduceLE, ↓reduceIte, reduceCtorEq, forall_apply_eq_imp_iff₂, ints, rows, rat, rats, toNat_cast]
      rw [show i = p by omega]
theorem dep_t {f : FuncId} {l : List Nd} {i n : Int} (h : Pure Try.prog f [treeT l, .i i] (.i n)) : Pure Try.prog f [.agg [.sh 5 (chunk nodeC l)], .i i] (.i n) := h
theorem game_unit {g : Gm} (hg : isGameB g = true) : smallW g.w ∧ dep g.nd g.nd.length 0 = (dpt g : Nat) ∧ dpt g ≤ 5 ∧ 0 ≤ totW g.w ∧ totW g.w ≤ 324 ∧ 1 ≤ pw (dpt g) ∧ pw (dpt g) ≤ 777600000 := by
  obtain ⟨p1, p2, p3, p4, p5⟩ := isGameB_parts hg
  obtain ⟨t1, t2, t3, t4⟩ := isTreeB_spec p1
  have hs := smallW_of p3 p2.2
  have hd0 := dep_nonneg (l := g.nd) g.nd.length 0
  have hd : dpt g ≤ 5 := by unfold dpt; omega
  have hb := totW_bound hs g.w.length
  rw [List.take_length] at hb
  have h1 := pw_le hd
  have h2 := pw_pos (p := dpt g)
  have h5 : pw 5 = 777600000 := by decide
  exact ⟨hs, by unfold dpt; omega, hd, hb.1, hb.2, by omega, by omega⟩
theorem idxs_before {l : List Nd} {pl : Int} {i n : Nat} (hi : i < n) (hp : (l.getD i nd0).p = pl) {j : Nat} {y : Int} (hj : j ≤ (idxs l pl i).length) (hy : (idxs l pl n)[j]? = some y) : (y = i ↔ j = (idxs l pl i).length) := by
  obtain ⟨rest, e⟩ := idxs_split l pl hp n hi
  rw [e] at hy
  rcases Nat.lt_or_ge j (idxs l pl i).length with h | h
  · rw [List.getElem?_append_left h] at hy
    obtain ⟨k, rfl, hk, _⟩ := idxs_mem (List.mem_of_getElem? hy)
    constructor
    · intro h1; omega
    · intro h1; omega
  · rw [List.getElem?_append_right h, show j - (idxs l pl i).length = 0 by omega] at hy
    have : (i : Int) = y := by simpa using hy
    constructor
    · intro; omega
    · intro; omega
theorem idxs_lt {l : List Nd} {pl : Int} {i n : Nat} (hi : i < n) (hp : (l.getD i nd0).p = pl) : (idxs l pl i).length < (idxs l pl n).length := by
  obtain ⟨rest, e⟩ := idxs_split l pl hp n hi
  rw [e]; simp
set_option maxRecDepth 20000 in
theorem spec_l23Set_ok (g : Gm) (hg : isGameB g = true) (pl : Int) (i c : Nat) (hi : i < g.nd.length) (hp : (g.nd.getD i nd0).p = pl) (hc : c < g.w.length) : Pure Try.prog 155 [gameT g, .i pl, .i i, .i c] (.i (setI g pl i c)) := by
  obtain ⟨p1, p2, p3, p4, p5⟩ := isGameB_parts hg
  obtain ⟨t1, t2, t3, t4⟩ := isTreeB_spec p1
  have hlt := idxs_lt hi hp
  have hbf : ∀ {j : Nat} {y : Int}, j ≤ (idxs g.nd pl i).length → (idxs g.nd pl g.nd.length)[j]? = some y → (y = i ↔ j = (idxs g.nd pl i).length) := fun hj hy => idxs_before hi hp hj hy
  have hlen := idxs_length g.nd pl g.nd.length
  refine fun_spec_l23Set (by simp) ?_
  simp -implicitDefEqProofs only [go_sem, List.reduceReplicate, Nat.reduceEqDiff, Nat.reduceAdd, Nat.reduceLeDiff, Nat.reduceMul, Nat.reduceSub, Nat.reduceDiv, Int.reduceToNat, Nat.reduceLT, Int.reduceLT, Int.reduceLE, ↓reduceIte, reduceCtorEq, forall_apply_eq_imp_iff₂, ints, rows, rat, rats, toNat_cast, c_spec_l23Set, gameT, nodes, rows]
  refine CallW.res (spec_l20Of_t g.nd pl (by omega)) [] rfl Try.call153 ?_ (.inl rfl) ?_
  · simp -implicitDefEqProofs only [Int.natCast_zero, Int.cast_ofNat_Int, Int.natCast_one, Nat.le_refl, Nat.reduceLeDiff, Nat.sub_self, Nat.reduceSub, List.getElem?_cons_zero, List.getElem?_cons_succ, vt_self, vaL, vtL, va, vt, vb, maT, List.cons_append, List.nil_append, List.append_nil, true_or, or_true, go_sem, List.reduceReplicate, Nat.reduceEqDiff, Nat.reduceAdd, Nat.reduceLeDiff, Nat.reduceMul, Nat.reduceSub, Nat.reduceDiv, Int.reduceToNat, Nat.reduceLT, Int.reduceLT, Int.reduceLE, ↓reduceIte, reduceCtorEq, ints, rows, rat, rats, ratsO, toShL_ratC, List.mem_cons, List.mem_nil_iff, List.not_mem_nil, or_false, false_or, exists_eq_left, exists_eq_left', exists_eq_right', Root.live.injEq, eq_self_iff_true, exists_eq, and_true, T.toSh, toShL_ints, toShL_intsO, intsO, rowsO]
  simp -implicitDefEqProofs only [List.append_nil, List.cons_append, Nat.reduceLeDiff, afterCall, absT_rowsO, absT_intsO, absT, absL, updL, updS, freeAll, rid, T.noSh, T.noShL, Nat.zero_le, go_sem, List.reduceReplicate, Nat.reduceEqDiff, Nat.reduceAdd, Nat.reduceLeDiff, Nat.reduceMul, Nat.reduceSub, Nat.reduceDiv, Int.reduceToNat, Nat.reduceLT, Int.reduceLT, Int.reduceLE, ↓reduceIte, reduceCtorEq, rat, forall_apply_eq_imp_iff₂, toNat_cast, intsO]
  unfold setI
  generalize idxs g.nd pl g.nd.length = ns at hlt hbf hlen ⊢
  generalize hm : (idxs g.nd pl i).length = m at hlt hbf ⊢
  refine SemC.loopR (σ := Nat) (fun j => St.of [(2, .t (.i i)), (3, .t (.i c)), (4, .own 4), (9, .own 14), (10, .t (.i j))] [(4, .box [nodes g.nd, rows g.w, rows g.v]), (14, intsO ns)]) (fun j => j ≤ m) (fun j => m - j) 0 (Weak.of _ _ [some 4, some 14] (by simp) (by simp) ?_ ?_) (by omega) fun j hj R hn hr he => ?_
  · simp -implicitDefEqProofs only [ints, rows, Nat.reduceBEq, Int.add_zero, envOK, maA, maT, upd_apply, Nat.reduceEqDiff, ↓reduceIte, and_true, true_or, or_true, List.map_cons, List.map_nil, Nat.zero_ne_one, and_self, true_and, Int.natCast_zero, Int.cast_ofNat_Int, Int.ofNat_zero, piOf, List.zip_cons_cons, List.zip_nil_right, List.lookup_cons, List.lookup_nil, beq_self_eq_true, rootsOK, mkRoots, mkEnv, nodes, rows]
  · exact ⟨⟨_, rfl, .refl _⟩, rfl, ⟨_, rfl, .refl _⟩, rfl, trivial⟩
  · obtain ⟨y, hy⟩ : ∃ y, ns[j]? = some y := ⟨_, List.getElem?_eq_getElem (by omega)⟩
    have hiff := hbf hj hy
    have hmul : j * g.w.length ≤ 60 * 6 := Nat.mul_le_mul (by omega) p2.2
    have hcast : (j : Int) * (g.w.length : Int) = ((j * g.w.length : Nat) : Int) := by rw [Int.natCast_mul]
    simp -implicitDefEqProofs only [go_sem, List.reduceReplicate, Nat.reduceEqDiff, Nat.reduceAdd, Nat.reduceLeDiff, Nat.reduceMul, Nat.reduceSub, Nat.reduceDiv, Int.reduceToNat, Nat.reduceLT, Int.reduceLT, Int.reduceLE, ↓reduceIte, reduceCtorEq, forall_apply_eq_imp_iff₂, ints, rows, rat, rats, toNat_cast, nodes, rows, intsO, hy, decide_eq_true (show (j : Int) < (ns.length : Int) by omega)]
    refine ⟨by omega, by omega, by omega, fun h1 => hr _ ?_, fun h1 => hn _ (j + 1) (Weak.of _ _ [some 4, some 14] (by simp) (by simp) ?_ ?_) ?_ ?_⟩
    · have h1 : j = m := hiff.1 (by simpa using h1)
      simp -implicitDefEqProofs only [go_sem, List.reduceReplicate, Nat.reduceEqDiff, Nat.reduceAdd, Nat.reduceLeDiff, Nat.reduceMul, Nat.reduceSub, Nat.reduceDiv, Int.reduceToNat, Nat.reduceLT, Int.reduceLT, Int.reduceLE, ↓reduceIte, reduceCtorEq, forall_apply_eq_imp_iff₂, ints, rows, rat, rats, toNat_cast, hcast, wrap64 (n := ((j * g.w.length : Nat) : Int)) (by omega) (by omega), wrap64 (n := ((j * g.w.length : Nat) : Int) + (c : Int)) (by omega) (by omega)]
      rw [h1]; rfl
    · simp -implicitDefEqProofs only [ints, rows, Nat.reduceBEq, Int.add_zero, envOK, maA, maT, upd_apply, Nat.reduceEqDiff, ↓reduceIte, and_true, true_or, or_true, List.map_cons, List.map_nil, Nat.zero_ne_one, and_self, true_and, Int.natCast_zero, Int.cast_ofNat_Int, Int.ofNat_zero, piOf, List.zip_cons_cons, List.zip_nil_right, List.lookup_cons, List.lookup_nil, beq_self_eq_true, rootsOK, mkRoots, mkEnv, nodes, rows, intsO, next64 (show j < ns.length by omega) (by omega)]
    · exact ⟨⟨_, rfl, .refl _⟩, rfl, ⟨_, rfl, .refl _⟩, rfl, trivial⟩
    · have h1 : ¬ j = m := fun h => by have := hiff.2 h; simp at h1; omega
      omega
    · have h1 : ¬ j = m := fun h => by have := hiff.2 h; simp at h1; omega
      omega
end
end Go.Ab

/- Contracts: HalvedWeights. -/
set_option linter.unusedSimpArgs false
set_option linter.unusedVariables false
namespace Go.Ab
open Go.Proofs

/-- The greatest number, at least 0. -/
def mx0 (l : List Int) : Int := l.foldl max 0
def half (l : List Int) : List Int := l.map fun x => x / 2
/-- Halved as often as a number is too great. -/
def hvd : Nat → List Int → List Int
  | 0, l => l
  | f + 1, l => if mx0 l ≤ 1000000000 then l else hvd f (half l)

def W (f : Nat) : Int := ((2 ^ (29 + f) : Nat) : Int)
/-- What HalvedWeights returns. -/
def hw (l : List Int) : List Int × Int := if 1 ≤ l.length ∧ l.length ≤ 4 ∧ ∀ x ∈ l, 0 ≤ x then (hvd 34 l, 0) else ([], 2)
end Go.Ab


/- The law FnExactSaddlePoint, as a contract. -/
set_option linter.unusedSimpArgs false
set_option linter.unusedVariables false
namespace Go.Ab
open Go.Proofs

end Go.Ab

/- Contracts: marks of lists of rows. -/
set_option linter.unusedSimpArgs false
set_option linter.unusedVariables false
namespace Go.Ab
open Go.Proofs

/-- How many numbers. -/
def tot : List (List Int) → Nat
  | [] => 0
  | r :: m => r.length + tot m
def marksR : List (List Int) → Int → List (List Int)
  | [], _ => []
  | r :: m, k => marks r.length k :: marksR m (k + r.length)
def heldR : List (List Int) → Int → Int
  | [], k => k
  | r :: m, k => if held r k < 0 then -1 else heldR m (held r k)
theorem marksR_length : ∀ (m : List (List Int)) (k : Int), (marksR m k).length = m.length
  | [], _ => rfl
  | r :: m, k => by simp [marksR, marksR_length m]
theorem tot_append : ∀ (m m' : List (List Int)), tot (m ++ m') = tot m + tot m'
  | [], m' => by simp [tot]
  | r :: m, m' => by simp [tot, tot_append m]; omega
theorem marksR_append : ∀ (m m' : List (List Int)) (k : Int), marksR (m ++ m') k = marksR m k ++ marksR m' (k + tot m)
  | [], m', k => by simp [marksR, tot]
  | r :: m, m', k => by simp only [List.cons_append, marksR, marksR_append m, tot]; rw [show k + (r.length : Int) + (tot m : Int) = k + ((r.length + tot m : Nat) : Int) by omega]
theorem heldR_marks : ∀ (m : List (List Int)) (k : Int), 0 ≤ k → heldR (marksR m k) k = k + tot m
  | [], k, _ => by simp [marksR, heldR, tot]
  | r :: m, k, h => by
    simp only [marksR, heldR, held_marks]
    rw [if_neg (by omega), heldR_marks m _ (by omega)]; simp only [tot]; omega
theorem tot_mem : ∀ {m : List (List Int)} {r : List Int}, r ∈ m → r.length ≤ tot m
  | r' :: m, r, h => by
    rcases List.mem_cons.1 h with rfl | h
    · simp [tot]
    · have := tot_mem h; simp only [tot]; omega

theorem held_le : ∀ (l : List Int) (k : Int), 0 ≤ k → held l k ≤ k + l.length
  | [], k, h => by simp [held]
  | x :: l, k, h => by
    simp only [held, List.length_cons]
    split
    · have := held_le l (k + 1) (by omega); omega
    · omega

theorem laws_markInt64SS_ok (m : List (List Int)) (k : Int) (hm : m.length ≤ 1000000000000) (ht : tot m ≤ 100000000000) (h0 : 0 ≤ k) (h1 : k ≤ 100000000000) :
    Fun Try.prog 88 [rowsO m] [.own 1000000000, .t (.i k)] fun o r => o = [rowsO (marksR m k)] ∧ r = .i (k + tot m) := by
  refine fun_laws_markInt64SS (by simp) ?_
  simp -implicitDefEqProofs only [go_sem, List.reduceReplicate, Nat.reduceEqDiff, Nat.reduceAdd, Nat.reduceLeDiff, Nat.reduceMul, Nat.reduceSub, Nat.reduceDiv, Int.reduceToNat, Nat.reduceLT, Int.reduceLT, Int.reduceLE, ↓reduceIte, reduceCtorEq, forall_apply_eq_imp_iff₂, ints, rows, rat, rats, toNat_cast, c_laws_markInt64SS, rowsO]
  refine SemC.loopR (σ := Nat) (fun i => St.of [(0, .own 1000000000), (1, .t (.i (k + tot (m.take i)))), (5, .t (.i i))] [(1000000000, .arr 1 ((marksR (m.take i) k ++ m.drop i).map intsO))]) (fun i => i ≤ m.length) (fun i => m.length - i) 0 (Weak.of _ _ [some 1000000000] (by simp) (by simp) ?_ ?_) (by simp) fun i hI R hn hr he => ?_
  · simp -implicitDefEqProofs only [ints, rows, Nat.reduceBEq, Int.add_zero, envOK, maA, maT, upd_apply, Nat.reduceEqDiff, ↓reduceIte, and_true, true_or, or_true, List.map_cons, List.map_nil, Nat.zero_ne_one, and_self, true_and, Int.natCast_zero, Int.cast_ofNat_Int, Int.ofNat_zero, piOf, List.zip_cons_cons, List.zip_nil_right, List.lookup_cons, List.lookup_nil, beq_self_eq_true, rootsOK, mkRoots, mkEnv, List.take_zero, tot, Int.add_zero]
  · exact ⟨⟨_, rfl, .refl _⟩, rfl, trivial⟩
  · have hlen : (marksR (m.take i) k ++ m.drop i).length = m.length := by simp [marksR_length]; omega
    simp -implicitDefEqProofs only [go_sem, List.reduceReplicate, Nat.reduceEqDiff, Nat.reduceAdd, Nat.reduceLeDiff, Nat.reduceMul, Nat.reduceSub, Nat.reduceDiv, Int.reduceToNat, Nat.reduceLT, Int.reduceLT, Int.reduceLE, ↓reduceIte, reduceCtorEq, forall_apply_eq_imp_iff₂, ints, rows, rat, rats, toNat_cast, hlen, intsO]
    refine ⟨fun h => ⟨by omega, by omega, by omega, fun r hrow => ?_⟩, fun h => he _ _ ?_⟩
    · have hi : i < m.length := by omega
      have hr0 : m[i]? = some r := by
        rw [List.getElem?_append_right (by rw [marksR_length, List.length_take]; omega), marksR_length, List.length_take, show i - min i m.length = 0 by omega, List.getElem?_drop] at hrow
        simpa using hrow
      have htk : tot (m.take i) + r.length ≤ tot m := by
        have e := tot_append (m.take (i + 1)) (m.drop (i + 1))
        rw [List.take_append_drop, take_snoc hr0, tot_append] at e
        simp only [tot] at e; omega
      have e1 : k + (tot (m.take (i + 1)) : Int) = k + (tot (m.take i) : Int) + (r.length : Int) := by
        rw [take_snoc hr0, tot_append]; simp only [tot]; omega
      refine CallW.ref (laws_markInt64S_ok r (k + tot (m.take i)) (by omega) (by omega) (by omega)) [15] [] rfl Try.call133 (by simp) ?_ (by simp) ?_ (.inl rfl) ?_
      · simp -implicitDefEqProofs only [rootOf_arr, rootOf_box, rootOf_any, srcsOK, updL, updS, upd_apply, Nat.reduceEqDiff, ↓reduceIte, mkRoots, and_true, ints, rows, intsO, rowsO]
      · simp -implicitDefEqProofs only [Int.natCast_zero, Int.cast_ofNat_Int, Int.natCast_one, Nat.le_refl, Nat.reduceLeDiff, Nat.sub_self, Nat.reduceSub, List.getElem?_cons_zero, List.getElem?_cons_succ, vt_self, vaL, vtL, va, vt, vb, maT, List.cons_append, List.nil_append, List.append_nil, true_or, or_true, go_sem, List.reduceReplicate, Nat.reduceEqDiff, Nat.reduceAdd, Nat.reduceLeDiff, Nat.reduceMul, Nat.reduceSub, Nat.reduceDiv, Int.reduceToNat, Nat.reduceLT, Int.reduceLT, Int.reduceLE, ↓reduceIte, reduceCtorEq, ints, rows, rat, rats, ratsO, toShL_ratC, List.mem_cons, List.mem_nil_iff, List.not_mem_nil, or_false, false_or, exists_eq_left, exists_eq_left', exists_eq_right', Root.live.injEq, eq_self_iff_true, exists_eq, and_true, T.toSh, toShL_ints, toShL_intsO, intsO, rowsO]
      simp -implicitDefEqProofs only [List.append_nil, List.cons_append, Nat.reduceLeDiff, afterCall, absT_rowsO, absT_intsO, absT, absL, updL, updS, freeAll, rid, T.noSh, T.noShL, Nat.zero_le, go_sem, List.reduceReplicate, Nat.reduceEqDiff, Nat.reduceAdd, Nat.reduceLeDiff, Nat.reduceMul, Nat.reduceSub, Nat.reduceDiv, Int.reduceToNat, Nat.reduceLT, Int.reduceLT, Int.reduceLE, ↓reduceIte, reduceCtorEq, rat, forall_apply_eq_imp_iff₂, toNat_cast, intsO]
      refine hn _ (i + 1) (Weak.trans (Weak.join2 Try.prog tyOne (sl 14) (sl 15) rfl rfl rfl rfl (by decide) ?_) (Weak.of _ _ [some 1000000000] (by simp) (by simp) ?_ ?_)) (by omega) (by omega)
      · rw [List.length_set, List.length_map, hlen]; omega
      · simp -implicitDefEqProofs only [ints, rows, Nat.reduceBEq, Int.add_zero, envOK, maA, maT, upd_apply, Nat.reduceEqDiff, ↓reduceIte, and_true, true_or, or_true, List.map_cons, List.map_nil, Nat.zero_ne_one, and_self, true_and, Int.natCast_zero, Int.cast_ofNat_Int, Int.ofNat_zero, piOf, List.zip_cons_cons, List.zip_nil_right, List.lookup_cons, List.lookup_nil, beq_self_eq_true, rootsOK, mkRoots, mkEnv, e1, next64 (by omega : i < m.length) hm]
      · refine ⟨⟨_, rfl, ?_⟩, rfl, trivial⟩
        rw [spl_one, List.set_set, take_snoc hr0, marksR_append]
        simp only [marksR, List.append_assoc, List.cons_append, List.nil_append]
        rw [List.drop_eq_getElem_cons hi, List.map_append, List.set_append_right _ _ (by rw [List.length_map, marksR_length, List.length_take]; omega), List.length_map, marksR_length, List.length_take, show i - min i m.length = 0 by omega, List.map_append]
        exact .refl _
    · simp -implicitDefEqProofs only [go_sem, List.reduceReplicate, Nat.reduceEqDiff, Nat.reduceAdd, Nat.reduceLeDiff, Nat.reduceMul, Nat.reduceSub, Nat.reduceDiv, Int.reduceToNat, Nat.reduceLT, Int.reduceLT, Int.reduceLE, ↓reduceIte, reduceCtorEq, forall_apply_eq_imp_iff₂, ints, rows, rat, rats, toNat_cast]
      have : i = m.length := by omega
      subst this
      simp [rowsO]
theorem laws_heldInt64SS_ok (m : List (List Int)) (k : Int) (hm : m.length ≤ 1000000000000) (hk : ∀ r ∈ m, r.length ≤ 100000000) (ht : tot m ≤ 100000000000) (h0 : 0 ≤ k) (h1 : k ≤ 100000000000) :
    Pure Try.prog 89 [rows m, .i k] (.i (heldR m k)) := by
  refine fun_laws_heldInt64SS (by simp) ?_
  simp -implicitDefEqProofs only [go_sem, List.reduceReplicate, Nat.reduceEqDiff, Nat.reduceAdd, Nat.reduceLeDiff, Nat.reduceMul, Nat.reduceSub, Nat.reduceDiv, Int.reduceToNat, Nat.reduceLT, Int.reduceLT, Int.reduceLE, ↓reduceIte, reduceCtorEq, forall_apply_eq_imp_iff₂, ints, rows, rat, rats, toNat_cast, c_laws_heldInt64SS]
  refine SemC.loopR (σ := Nat × Int) (fun s => St.of [(0, .t (rows m)), (1, .t (.i s.2)), (5, .t (.i s.1))] []) (fun s => s.1 ≤ m.length ∧ heldR (m.drop s.1) s.2 = heldR m k ∧ 0 ≤ s.2 ∧ s.2 + tot (m.drop s.1) ≤ k + tot m) (fun s => m.length - s.1) (0, k) (Weak.of _ [] [] (by simp) (by simp) ?_ trivial) ⟨by simp, rfl, by omega, by simp⟩ fun s hI R hn hr he => ?_
  · simp -implicitDefEqProofs only [ints, rows, Int.add_zero, envOK, maA, maT, upd_apply, Nat.reduceEqDiff, ↓reduceIte, and_true, true_or, or_true, List.map_cons, List.map_nil, Nat.zero_ne_one, and_self, true_and, Int.natCast_zero, Int.cast_ofNat_Int, Int.ofNat_zero]
  · obtain ⟨i, j⟩ := s
    obtain ⟨hi, hh, hj, hb⟩ := hI
    (try simp only [] at hi hh hj hb)
    simp -implicitDefEqProofs only [go_sem, List.reduceReplicate, Nat.reduceEqDiff, Nat.reduceAdd, Nat.reduceLeDiff, Nat.reduceMul, Nat.reduceSub, Nat.reduceDiv, Int.reduceToNat, Nat.reduceLT, Int.reduceLT, Int.reduceLE, ↓reduceIte, reduceCtorEq, forall_apply_eq_imp_iff₂, ints, rows, rat, rats, toNat_cast]
    refine ⟨fun h => ⟨by omega, by omega, by omega, fun r hrow => ?_⟩, fun h => he _ _ ?_⟩
    · rw [drop_of_get hrow] at hh hb
      simp only [heldR, tot] at hh hb
      refine CallW.pure (laws_heldInt64S_ok r j (by omega) (by omega) (by omega)) [] rfl Try.call134 ?_ (by first | trivial | simp [T.noSh, T.noShL, rat]) rfl ?_
      · simp -implicitDefEqProofs only [Int.natCast_zero, Int.cast_ofNat_Int, Int.natCast_one, Nat.le_refl, Nat.reduceLeDiff, Nat.sub_self, Nat.reduceSub, List.getElem?_cons_zero, List.getElem?_cons_succ, vt_self, vaL, vtL, va, vt, vb, maT, List.cons_append, List.nil_append, List.append_nil, true_or, or_true, go_sem, List.reduceReplicate, Nat.reduceEqDiff, Nat.reduceAdd, Nat.reduceLeDiff, Nat.reduceMul, Nat.reduceSub, Nat.reduceDiv, Int.reduceToNat, Nat.reduceLT, Int.reduceLT, Int.reduceLE, ↓reduceIte, reduceCtorEq, ints, rows, rat, rats, ratsO, toShL_ratC, List.mem_cons, List.mem_nil_iff, List.not_mem_nil, or_false, false_or, exists_eq_left, exists_eq_left', exists_eq_right', Root.live.injEq, eq_self_iff_true, exists_eq, and_true, T.toSh, toShL_ints, toShL_intsO, intsO, rowsO]
      simp -implicitDefEqProofs only [go_sem, List.reduceReplicate, Nat.reduceEqDiff, Nat.reduceAdd, Nat.reduceLeDiff, Nat.reduceMul, Nat.reduceSub, Nat.reduceDiv, Int.reduceToNat, Nat.reduceLT, Int.reduceLT, Int.reduceLE, ↓reduceIte, reduceCtorEq, forall_apply_eq_imp_iff₂, ints, rows, rat, rats, toNat_cast]
      refine ⟨fun h2 => hr _ ?_, fun h2 => hn _ (i + 1, held r j) (Weak.of _ [] [] (by simp) (by simp) ?_ trivial) ⟨by simp only []; omega, ?_, ?_, ?_⟩ (by simp only []; omega)⟩
      · simp -implicitDefEqProofs only [go_sem, List.reduceReplicate, Nat.reduceEqDiff, Nat.reduceAdd, Nat.reduceLeDiff, Nat.reduceMul, Nat.reduceSub, Nat.reduceDiv, Int.reduceToNat, Nat.reduceLT, Int.reduceLT, Int.reduceLE, ↓reduceIte, reduceCtorEq, forall_apply_eq_imp_iff₂, ints, rows, rat, rats, toNat_cast]
        rw [← hh, if_pos (by omega)]
      · simp -implicitDefEqProofs only [ints, rows, Int.add_zero, envOK, maA, maT, upd_apply, Nat.reduceEqDiff, ↓reduceIte, and_true, true_or, or_true, List.map_cons, List.map_nil, Nat.zero_ne_one, and_self, true_and, Int.natCast_zero, Int.cast_ofNat_Int, Int.ofNat_zero, next64 (by omega : i < m.length) hm]
      · simp only []
        rw [← hh, if_neg (by omega)]
      · simp only []; omega
      · simp only []
        have := held_le r j hj
        omega
    · simp -implicitDefEqProofs only [go_sem, List.reduceReplicate, Nat.reduceEqDiff, Nat.reduceAdd, Nat.reduceLeDiff, Nat.reduceMul, Nat.reduceSub, Nat.reduceDiv, Int.reduceToNat, Nat.reduceLT, Int.reduceLT, Int.reduceLE, ↓reduceIte, reduceCtorEq, forall_apply_eq_imp_iff₂, ints, rows, rat, rats, toNat_cast]
      rw [List.drop_of_length_le (by omega), heldR] at hh
      rw [hh]
end Go.Ab

/- The law FnExactDominatedRows, as a contract. -/
set_option linter.unusedSimpArgs false
set_option linter.unusedVariables false
namespace Go.Ab
open Go.Proofs

theorem budgetRows_tot : ∀ {m : List (List Int)} {left : Int}, 0 ≤ left → 0 ≤ budgetRows m left → (tot m : Int) ≤ left
  | [], left, _, _ => by simp [tot]; assumption
  | x :: m, left, h0, h => by
    simp only [budgetRows] at h
    split at h
    · omega
    · have := budgetRows_tot (by omega) h
      simp only [tot]; omega
theorem budgetMat_tot {m : List (List Int)} {left : Int} (h0 : 0 ≤ left) (h : 0 ≤ budgetMat m left) : (tot m : Int) ≤ left := by
  simp only [budgetMat] at h
  split at h
  · omega
  · have := budgetRows_tot (by omega) h; omega
end Go.Ab

/- Contracts: games, strategies and claims as the laws copy, measure and compare them. -/
set_option linter.unusedSimpArgs false
set_option linter.unusedVariables false
namespace Go.Ab
open Go.Proofs

def nodeT (x : Nd) : T := .agg (nodeC x)
def gameO (g : Gm) : T := .agg [nodesO g.nd, rowsO g.w, rowsO g.v]
def stratO (s : Int × List (List Int)) : T := .agg [.i s.1, rowsO s.2]
def claimO (c : Cl) : T := .agg [.i c.f.1, rowsO c.f.2, .i c.s.1, rowsO c.s.2, .i c.lo, .i c.hi]
theorem nodesO_toSh (l : List Nd) : (nodesO l).toSh = nodes l := by
  show T.sh 5 (T.toShL (chunk nodeCO l)) = T.sh 5 (chunk nodeC l)
  congr 1
  induction l with
  | nil => rfl
  | cons x l ih =>
    rw [chunk_cons, chunk_cons, T.toShL_eq_map, List.map_append, ← T.toShL_eq_map (chunk nodeCO l), ih]
    congr 1
    show [T.i x.p, .i x.a, .i x.b, .i x.f, (intsO x.ch).toSh] = _
    rw [intsO_toSh]; rfl
theorem toShL_nodes (l : List Nd) : T.toShL (chunk nodeCO l) = chunk nodeC l := by
  have := nodesO_toSh l
  simpa [nodesO, nodes, T.toSh] using this
attribute [go_sem] toShL_nodes
/-- Children as rows. -/
def chs (l : List Nd) : List (List Int) := l.map Nd.ch
theorem nbudgetMat_le {m : List (List Int)} {left : Int} (h : -1 ≤ left) : -1 ≤ budgetMat m left ∧ (budgetMat m left ≤ left ∨ budgetMat m left = -1) := by
  have key : ∀ (m : List (List Int)) (left : Int), -1 ≤ left → -1 ≤ budgetRows m left ∧ (budgetRows m left ≤ left ∨ budgetRows m left = -1) := by
    intro m
    induction m with
    | nil => intro left h; exact ⟨h, .inl (Int.le_refl _)⟩
    | cons r m ih =>
      intro left h
      simp only [budgetRows]
      split
      · omega
      · have := ih (left - r.length) (by omega); omega
  unfold budgetMat
  split
  · omega
  · have := key m (left - m.length) (by omega); omega
section
attribute [-go_sem] load1C load1V fldC lenC idxC loadNV
theorem laws_szTreeNode_ok (x : Nd) (left : Int) (hl : x.ch.length ≤ 9223372036854775807) (h0 : -1 ≤ left) (h1 : left ≤ 1000000000000) : Pure Try.prog 152 [nodeT x, .i left] (.i (budget x.ch.length left)) := by
  refine fun_laws_szTreeNode (by simp) ?_
  simp -implicitDefEqProofs only [go_sem, List.reduceReplicate, Nat.reduceEqDiff, Nat.reduceAdd, Nat.reduceLeDiff, Nat.reduceMul, Nat.reduceSub, Nat.reduceDiv, Int.reduceToNat, Nat.reduceLT, Int.reduceLT, Int.reduceLE, ↓reduceIte, reduceCtorEq, forall_apply_eq_imp_iff₂, ints, rows, rat, rats, toNat_cast, c_laws_szTreeNode, nodeT, nodeC]
  refine CallW.pure (laws_szInt64S_ok x.ch left (by omega) (by omega) (by omega)) [] rfl Try.call112 ?_ (by first | trivial | simp [T.noSh, T.noShL, rat]) rfl ?_
  · simp -implicitDefEqProofs only [Int.natCast_zero, Int.cast_ofNat_Int, Int.natCast_one, Nat.le_refl, Nat.reduceLeDiff, Nat.sub_self, Nat.reduceSub, List.getElem?_cons_zero, List.getElem?_cons_succ, vt_self, vaL, vtL, va, vt, vb, maT, List.cons_append, List.nil_append, List.append_nil, true_or, or_true, go_sem, List.reduceReplicate, Nat.reduceEqDiff, Nat.reduceAdd, Nat.reduceLeDiff, Nat.reduceMul, Nat.reduceSub, Nat.reduceDiv, Int.reduceToNat, Nat.reduceLT, Int.reduceLT, Int.reduceLE, ↓reduceIte, reduceCtorEq, ints, rows, rat, rats, ratsO, toShL_ratC, List.mem_cons, List.mem_nil_iff, List.not_mem_nil, or_false, false_or, exists_eq_left, exists_eq_left', exists_eq_right', Root.live.injEq, eq_self_iff_true, exists_eq, and_true, T.toSh, toShL_ints, toShL_intsO, intsO, rowsO]
  simp -implicitDefEqProofs only [go_sem, List.reduceReplicate, Nat.reduceEqDiff, Nat.reduceAdd, Nat.reduceLeDiff, Nat.reduceMul, Nat.reduceSub, Nat.reduceDiv, Int.reduceToNat, Nat.reduceLT, Int.reduceLT, Int.reduceLE, ↓reduceIte, reduceCtorEq, forall_apply_eq_imp_iff₂, ints, rows, rat, rats, toNat_cast]
  refine ⟨fun h => ?_, fun h => trivial⟩
  rw [budget] at h ⊢
  split at h
  · rename_i h2; rw [if_pos h2]
  · omega
theorem szTreeNode_t (x : Nd) (left : Int) (hl : x.ch.length ≤ 9223372036854775807) (h0 : -1 ≤ left) (h1 : left ≤ 1000000000000) : Pure Try.prog 152 [.agg [.i x.p, .i x.a, .i x.b, .i x.f, .sh 1 (x.ch.map T.i)], .i left] (.i (budget x.ch.length left)) := laws_szTreeNode_ok x left hl h0 h1
theorem laws_szTreeNodeS_ok (l : List Nd) (left : Int) (hm : l.length ≤ 9223372036854775807) (hr : ∀ x ∈ l, x.ch.length ≤ 9223372036854775807) (h0 : -1 ≤ left) (h1 : left ≤ 1000000000000) :
    Pure Try.prog 111 [nodes l, .i left] (.i (budgetMat (chs l) left)) := by
  refine fun_laws_szTreeNodeS (by simp) ?_
  simp -implicitDefEqProofs only [go_sem, List.reduceReplicate, Nat.reduceEqDiff, Nat.reduceAdd, Nat.reduceLeDiff, Nat.reduceMul, Nat.reduceSub, Nat.reduceDiv, Int.reduceToNat, Nat.reduceLT, Int.reduceLT, Int.reduceLE, ↓reduceIte, reduceCtorEq, forall_apply_eq_imp_iff₂, ints, rows, rat, rats, toNat_cast, c_laws_szTreeNodeS, nodes]
  have hcl : (chs l).length = l.length := by simp [chs]
  rw [wrap64 (by omega) (by omega)]
  refine ⟨fun h => ?_, fun h => ?_⟩
  · rw [budgetMat, if_pos (by rw [hcl]; exact h)]
  · refine SemC.loopR (σ := Nat × Int) (fun s => St.of [(0, .t (nodes l)), (1, .t (.i s.2)), (5, .t (.i s.1))] []) (fun s => s.1 ≤ l.length ∧ 0 ≤ s.2 ∧ s.2 ≤ left ∧ budgetRows ((chs l).drop s.1) s.2 = budgetMat (chs l) left) (fun s => l.length - s.1) (0, left - l.length) (Weak.of _ [] [] (by simp) (by simp) ?_ trivial) ⟨by simp, by simp only []; omega, by simp only []; omega, by rw [budgetMat, if_neg (by rw [hcl]; exact h), hcl]; rfl⟩ fun s hI R hn hr' he => ?_
    · simp -implicitDefEqProofs only [ints, rows, Int.add_zero, envOK, maA, maT, upd_apply, Nat.reduceEqDiff, ↓reduceIte, and_true, true_or, or_true, List.map_cons, List.map_nil, Nat.zero_ne_one, and_self, true_and, Int.natCast_zero, Int.cast_ofNat_Int, Int.ofNat_zero, nodes]
    · obtain ⟨i, x⟩ := s
      (try simp only [] at hI)
      obtain ⟨i1, i2, i3, i4⟩ := hI
      rcases Nat.lt_or_ge i l.length with h9 | h9
      · obtain ⟨y, hy⟩ : ∃ y, l[i]? = some y := ⟨_, List.getElem?_eq_getElem h9⟩
        have hyl := hr y (List.mem_of_getElem? hy)
        have hc : (chs l)[i]? = some y.ch := by rw [chs, List.getElem?_map, hy]; rfl
        rw [drop_of_get hc, budgetRows] at i4
        simp -implicitDefEqProofs only [go_sem, List.reduceReplicate, Nat.reduceEqDiff, Nat.reduceAdd, Nat.reduceLeDiff, Nat.reduceMul, Nat.reduceSub, Nat.reduceDiv, Int.reduceToNat, Nat.reduceLT, Int.reduceLT, Int.reduceLE, ↓reduceIte, reduceCtorEq, forall_apply_eq_imp_iff₂, ints, rows, rat, rats, toNat_cast, nodes, nd_at hy, decide_eq_true (show (i : Int) < (l.length : Int) by omega)]
        refine ⟨by omega, by rw [nd_len]; omega, by rw [nd_len]; omega, ?_⟩
        refine CallW.pure (szTreeNode_t y x hyl (by omega) (by omega)) [] rfl Try.call152 ?_ (by first | trivial | simp [T.noSh, T.noShL, rat]) rfl ?_
        · simp -implicitDefEqProofs only [Int.natCast_zero, Int.cast_ofNat_Int, Int.natCast_one, Nat.le_refl, Nat.reduceLeDiff, Nat.sub_self, Nat.reduceSub, List.getElem?_cons_zero, List.getElem?_cons_succ, vt_self, vaL, vtL, va, vt, vb, maT, List.cons_append, List.nil_append, List.append_nil, true_or, or_true, go_sem, List.reduceReplicate, Nat.reduceEqDiff, Nat.reduceAdd, Nat.reduceLeDiff, Nat.reduceMul, Nat.reduceSub, Nat.reduceDiv, Int.reduceToNat, Nat.reduceLT, Int.reduceLT, Int.reduceLE, ↓reduceIte, reduceCtorEq, ints, rows, rat, rats, ratsO, toShL_ratC, List.mem_cons, List.mem_nil_iff, List.not_mem_nil, or_false, false_or, exists_eq_left, exists_eq_left', exists_eq_right', Root.live.injEq, eq_self_iff_true, exists_eq, and_true, T.toSh, toShL_ints, toShL_intsO, intsO, rowsO]
        simp -implicitDefEqProofs only [go_sem, List.reduceReplicate, Nat.reduceEqDiff, Nat.reduceAdd, Nat.reduceLeDiff, Nat.reduceMul, Nat.reduceSub, Nat.reduceDiv, Int.reduceToNat, Nat.reduceLT, Int.reduceLT, Int.reduceLE, ↓reduceIte, reduceCtorEq, forall_apply_eq_imp_iff₂, ints, rows, rat, rats, toNat_cast]
        refine ⟨fun h2 => hr' _ ?_, fun h2 => hn _ (i + 1, budget y.ch.length x) (Weak.of _ [] [] (by simp) (by simp) ?_ trivial) ?_ (by simp only []; omega)⟩
        · simp -implicitDefEqProofs only [go_sem, List.reduceReplicate, Nat.reduceEqDiff, Nat.reduceAdd, Nat.reduceLeDiff, Nat.reduceMul, Nat.reduceSub, Nat.reduceDiv, Int.reduceToNat, Nat.reduceLT, Int.reduceLT, Int.reduceLE, ↓reduceIte, reduceCtorEq, forall_apply_eq_imp_iff₂, ints, rows, rat, rats, toNat_cast]
          simp only [budget] at h2
          split at h2
          · rename_i h3; rw [if_pos h3] at i4; rw [i4]
          · omega
        · simp -implicitDefEqProofs only [ints, rows, Int.add_zero, envOK, maA, maT, upd_apply, Nat.reduceEqDiff, ↓reduceIte, and_true, true_or, or_true, List.map_cons, List.map_nil, Nat.zero_ne_one, and_self, true_and, Int.natCast_zero, Int.cast_ofNat_Int, Int.ofNat_zero, nodes, next64 h9 (by omega)]
        · simp only [budget] at h2 ⊢
          split at h2
          · omega
          · rename_i h3
            rw [if_neg h3] at i4 ⊢
            exact ⟨by omega, by omega, by omega, i4⟩
      · simp -implicitDefEqProofs only [go_sem, List.reduceReplicate, Nat.reduceEqDiff, Nat.reduceAdd, Nat.reduceLeDiff, Nat.reduceMul, Nat.reduceSub, Nat.reduceDiv, Int.reduceToNat, Nat.reduceLT, Int.reduceLT, Int.reduceLE, ↓reduceIte, reduceCtorEq, forall_apply_eq_imp_iff₂, ints, rows, rat, rats, toNat_cast, nodes, decide_eq_false (show ¬ (i : Int) < (l.length : Int) by omega)]
        refine he _ _ ?_
        simp -implicitDefEqProofs only [go_sem, List.reduceReplicate, Nat.reduceEqDiff, Nat.reduceAdd, Nat.reduceLeDiff, Nat.reduceMul, Nat.reduceSub, Nat.reduceDiv, Int.reduceToNat, Nat.reduceLT, Int.reduceLT, Int.reduceLE, ↓reduceIte, reduceCtorEq, forall_apply_eq_imp_iff₂, ints, rows, rat, rats, toNat_cast]
        rw [List.drop_of_length_le (by omega), budgetRows] at i4
        rw [i4]
theorem laws_szTree_ok (l : List Nd) (left : Int) (hm : l.length ≤ 9223372036854775807) (hr : ∀ x ∈ l, x.ch.length ≤ 9223372036854775807) (h0 : -1 ≤ left) (h1 : left ≤ 1000000000000) :
    Pure Try.prog 68 [treeT l, .i left] (.i (budgetMat (chs l) left)) := by
  refine fun_laws_szTree (by simp) ?_
  simp -implicitDefEqProofs only [go_sem, List.reduceReplicate, Nat.reduceEqDiff, Nat.reduceAdd, Nat.reduceLeDiff, Nat.reduceMul, Nat.reduceSub, Nat.reduceDiv, Int.reduceToNat, Nat.reduceLT, Int.reduceLT, Int.reduceLE, ↓reduceIte, reduceCtorEq, forall_apply_eq_imp_iff₂, ints, rows, rat, rats, toNat_cast, c_laws_szTree, treeT, nodes]
  have hp := laws_szTreeNodeS_ok l left hm hr h0 h1
  simp only [nodes] at hp
  have hb := nbudgetMat_le (m := chs l) h0
  refine CallW.pure hp [] rfl Try.call111 ?_ (by first | trivial | simp [T.noSh, T.noShL, rat]) rfl ?_
  · simp -implicitDefEqProofs only [Int.natCast_zero, Int.cast_ofNat_Int, Int.natCast_one, Nat.le_refl, Nat.reduceLeDiff, Nat.sub_self, Nat.reduceSub, List.getElem?_cons_zero, List.getElem?_cons_succ, vt_self, vaL, vtL, va, vt, vb, maT, List.cons_append, List.nil_append, List.append_nil, true_or, or_true, go_sem, List.reduceReplicate, Nat.reduceEqDiff, Nat.reduceAdd, Nat.reduceLeDiff, Nat.reduceMul, Nat.reduceSub, Nat.reduceDiv, Int.reduceToNat, Nat.reduceLT, Int.reduceLT, Int.reduceLE, ↓reduceIte, reduceCtorEq, ints, rows, rat, rats, ratsO, toShL_ratC, List.mem_cons, List.mem_nil_iff, List.not_mem_nil, or_false, false_or, exists_eq_left, exists_eq_left', exists_eq_right', Root.live.injEq, eq_self_iff_true, exists_eq, and_true, T.toSh, toShL_ints, toShL_intsO, intsO, rowsO]
  simp -implicitDefEqProofs only [go_sem, List.reduceReplicate, Nat.reduceEqDiff, Nat.reduceAdd, Nat.reduceLeDiff, Nat.reduceMul, Nat.reduceSub, Nat.reduceDiv, Int.reduceToNat, Nat.reduceLT, Int.reduceLT, Int.reduceLE, ↓reduceIte, reduceCtorEq, forall_apply_eq_imp_iff₂, ints, rows, rat, rats, toNat_cast]
  exact ⟨fun h => by rw [show budgetMat (chs l) left = -1 by omega], fun _ => trivial⟩
/-- What a game leaves of a budget. -/
def budgetG (g : Gm) (left : Int) : Int :=
  if budgetMat (chs g.nd) left < 0 then -1 else if budgetMat g.w (budgetMat (chs g.nd) left) < 0 then -1 else budgetMat g.v (budgetMat g.w (budgetMat (chs g.nd) left))
theorem laws_szGame_ok (g : Gm) (left : Int) (hg : gameL g) (h0 : -1 ≤ left) (h1 : left ≤ 1000000000000) : Pure Try.prog 18 [gameT g, .i left] (.i (budgetG g left)) := by
  refine fun_laws_szGame (by simp) ?_
  simp -implicitDefEqProofs only [go_sem, List.reduceReplicate, Nat.reduceEqDiff, Nat.reduceAdd, Nat.reduceLeDiff, Nat.reduceMul, Nat.reduceSub, Nat.reduceDiv, Int.reduceToNat, Nat.reduceLT, Int.reduceLT, Int.reduceLE, ↓reduceIte, reduceCtorEq, forall_apply_eq_imp_iff₂, ints, rows, rat, rats, toNat_cast, c_laws_szGame, gameT, nodes, rows]
  have hp := laws_szTree_ok g.nd left hg.1 hg.2.1 h0 h1
  simp only [nodes, treeT] at hp
  have hb := nbudgetMat_le (m := chs g.nd) h0
  unfold budgetG
  refine CallW.pure hp [] rfl Try.call68 ?_ (by first | trivial | simp [T.noSh, T.noShL, rat]) rfl ?_
  · simp -implicitDefEqProofs only [Int.natCast_zero, Int.cast_ofNat_Int, Int.natCast_one, Nat.le_refl, Nat.reduceLeDiff, Nat.sub_self, Nat.reduceSub, List.getElem?_cons_zero, List.getElem?_cons_succ, vt_self, vaL, vtL, va, vt, vb, maT, List.cons_append, List.nil_append, List.append_nil, true_or, or_true, go_sem, List.reduceReplicate, Nat.reduceEqDiff, Nat.reduceAdd, Nat.reduceLeDiff, Nat.reduceMul, Nat.reduceSub, Nat.reduceDiv, Int.reduceToNat, Nat.reduceLT, Int.reduceLT, Int.reduceLE, ↓reduceIte, reduceCtorEq, ints, rows, rat, rats, ratsO, toShL_ratC, List.mem_cons, List.mem_nil_iff, List.not_mem_nil, or_false, false_or, exists_eq_left, exists_eq_left', exists_eq_right', Root.live.injEq, eq_self_iff_true, exists_eq, and_true, T.toSh, toShL_ints, toShL_intsO, intsO, rowsO]
  simp -implicitDefEqProofs only [go_sem, List.reduceReplicate, Nat.reduceEqDiff, Nat.reduceAdd, Nat.reduceLeDiff, Nat.reduceMul, Nat.reduceSub, Nat.reduceDiv, Int.reduceToNat, Nat.reduceLT, Int.reduceLT, Int.reduceLE, ↓reduceIte, reduceCtorEq, forall_apply_eq_imp_iff₂, ints, rows, rat, rats, toNat_cast]
  refine ⟨fun h => by rw [if_pos h], fun h => ?_⟩
  rw [if_neg h]
  generalize budgetMat (chs g.nd) left = b at hb h ⊢
  have hb2 := nbudgetMat_le (m := g.w) hb.1
  refine CallW.pure (laws_szInt64SS_ok g.w b (by have := hg.2.2.1.1; omega) (fun r h => by have := hg.2.2.1.2 r h; omega) (by omega) (by omega)) [] rfl Try.call69 ?_ (by first | trivial | simp [T.noSh, T.noShL, rat]) rfl ?_
  · simp -implicitDefEqProofs only [Int.natCast_zero, Int.cast_ofNat_Int, Int.natCast_one, Nat.le_refl, Nat.reduceLeDiff, Nat.sub_self, Nat.reduceSub, List.getElem?_cons_zero, List.getElem?_cons_succ, vt_self, vaL, vtL, va, vt, vb, maT, List.cons_append, List.nil_append, List.append_nil, true_or, or_true, go_sem, List.reduceReplicate, Nat.reduceEqDiff, Nat.reduceAdd, Nat.reduceLeDiff, Nat.reduceMul, Nat.reduceSub, Nat.reduceDiv, Int.reduceToNat, Nat.reduceLT, Int.reduceLT, Int.reduceLE, ↓reduceIte, reduceCtorEq, ints, rows, rat, rats, ratsO, toShL_ratC, List.mem_cons, List.mem_nil_iff, List.not_mem_nil, or_false, false_or, exists_eq_left, exists_eq_left', exists_eq_right', Root.live.injEq, eq_self_iff_true, exists_eq, and_true, T.toSh, toShL_ints, toShL_intsO, intsO, rowsO]
  simp -implicitDefEqProofs only [go_sem, List.reduceReplicate, Nat.reduceEqDiff, Nat.reduceAdd, Nat.reduceLeDiff, Nat.reduceMul, Nat.reduceSub, Nat.reduceDiv, Int.reduceToNat, Nat.reduceLT, Int.reduceLT, Int.reduceLE, ↓reduceIte, reduceCtorEq, forall_apply_eq_imp_iff₂, ints, rows, rat, rats, toNat_cast]
  refine ⟨fun h2 => by rw [if_pos h2], fun h2 => ?_⟩
  rw [if_neg h2]
  generalize budgetMat g.w b = b2 at hb2 h2 ⊢
  have hb3 := nbudgetMat_le (m := g.v) hb2.1
  refine CallW.pure (laws_szInt64SS_ok g.v b2 (by have := hg.2.2.2.1; omega) (fun r h => by have := hg.2.2.2.2 r h; omega) (by omega) (by omega)) [] rfl Try.call69 ?_ (by first | trivial | simp [T.noSh, T.noShL, rat]) rfl ?_
  · simp -implicitDefEqProofs only [Int.natCast_zero, Int.cast_ofNat_Int, Int.natCast_one, Nat.le_refl, Nat.reduceLeDiff, Nat.sub_self, Nat.reduceSub, List.getElem?_cons_zero, List.getElem?_cons_succ, vt_self, vaL, vtL, va, vt, vb, maT, List.cons_append, List.nil_append, List.append_nil, true_or, or_true, go_sem, List.reduceReplicate, Nat.reduceEqDiff, Nat.reduceAdd, Nat.reduceLeDiff, Nat.reduceMul, Nat.reduceSub, Nat.reduceDiv, Int.reduceToNat, Nat.reduceLT, Int.reduceLT, Int.reduceLE, ↓reduceIte, reduceCtorEq, ints, rows, rat, rats, ratsO, toShL_ratC, List.mem_cons, List.mem_nil_iff, List.not_mem_nil, or_false, false_or, exists_eq_left, exists_eq_left', exists_eq_right', Root.live.injEq, eq_self_iff_true, exists_eq, and_true, T.toSh, toShL_ints, toShL_intsO, intsO, rowsO]
  simp -implicitDefEqProofs only [go_sem, List.reduceReplicate, Nat.reduceEqDiff, Nat.reduceAdd, Nat.reduceLeDiff, Nat.reduceMul, Nat.reduceSub, Nat.reduceDiv, Int.reduceToNat, Nat.reduceLT, Int.reduceLT, Int.reduceLE, ↓reduceIte, reduceCtorEq, forall_apply_eq_imp_iff₂, ints, rows, rat, rats, toNat_cast]
  exact ⟨fun h => by rw [show budgetMat g.v b2 = -1 by omega], fun _ => trivial⟩
theorem laws_szStrategy_ok (s : Int × List (List Int)) (left : Int) (hs : rowsL s.2) (h0 : -1 ≤ left) (h1 : left ≤ 1000000000000) : Pure Try.prog 19 [stratT s, .i left] (.i (budgetMat s.2 left)) := by
  refine fun_laws_szStrategy (by simp) ?_
  simp -implicitDefEqProofs only [go_sem, List.reduceReplicate, Nat.reduceEqDiff, Nat.reduceAdd, Nat.reduceLeDiff, Nat.reduceMul, Nat.reduceSub, Nat.reduceDiv, Int.reduceToNat, Nat.reduceLT, Int.reduceLT, Int.reduceLE, ↓reduceIte, reduceCtorEq, forall_apply_eq_imp_iff₂, ints, rows, rat, rats, toNat_cast, c_laws_szStrategy, stratT, rows]
  have hb := nbudgetMat_le (m := s.2) h0
  refine CallW.pure (laws_szInt64SS_ok s.2 left (by have := hs.1; omega) (fun r h => by have := hs.2 r h; omega) (by omega) (by omega)) [] rfl Try.call69 ?_ (by first | trivial | simp [T.noSh, T.noShL, rat]) rfl ?_
  · simp -implicitDefEqProofs only [Int.natCast_zero, Int.cast_ofNat_Int, Int.natCast_one, Nat.le_refl, Nat.reduceLeDiff, Nat.sub_self, Nat.reduceSub, List.getElem?_cons_zero, List.getElem?_cons_succ, vt_self, vaL, vtL, va, vt, vb, maT, List.cons_append, List.nil_append, List.append_nil, true_or, or_true, go_sem, List.reduceReplicate, Nat.reduceEqDiff, Nat.reduceAdd, Nat.reduceLeDiff, Nat.reduceMul, Nat.reduceSub, Nat.reduceDiv, Int.reduceToNat, Nat.reduceLT, Int.reduceLT, Int.reduceLE, ↓reduceIte, reduceCtorEq, ints, rows, rat, rats, ratsO, toShL_ratC, List.mem_cons, List.mem_nil_iff, List.not_mem_nil, or_false, false_or, exists_eq_left, exists_eq_left', exists_eq_right', Root.live.injEq, eq_self_iff_true, exists_eq, and_true, T.toSh, toShL_ints, toShL_intsO, intsO, rowsO]
  simp -implicitDefEqProofs only [go_sem, List.reduceReplicate, Nat.reduceEqDiff, Nat.reduceAdd, Nat.reduceLeDiff, Nat.reduceMul, Nat.reduceSub, Nat.reduceDiv, Int.reduceToNat, Nat.reduceLT, Int.reduceLT, Int.reduceLE, ↓reduceIte, reduceCtorEq, forall_apply_eq_imp_iff₂, ints, rows, rat, rats, toNat_cast]
  exact ⟨fun h => by rw [show budgetMat s.2 left = -1 by omega], fun _ => trivial⟩
end
end Go.Ab

/- Contracts: copies of games, strategies and claims, and when they are equal. -/
set_option linter.unusedSimpArgs false
set_option linter.unusedVariables false
namespace Go.Ab
open Go.Proofs

/-- Cells of a node that is not yet written. -/
def nodeZ : List T := [.i 0, .i 0, .i 0, .i 0, .v (.slice none 0 0)]
/-- Nodes of which the first ones are written. -/
def nfilled (l : List Nd) (i : Nat) : List T := chunk nodeCO (l.take i) ++ (List.replicate (l.length - i) nodeZ).flatten
theorem nfilled_length (l : List Nd) (i : Nat) (h : i ≤ l.length) : (nfilled l i).length = l.length * 5 := by
  have e : (List.replicate (l.length - i) nodeZ).flatten.length = (l.length - i) * 5 := by
    have key : ∀ n, (List.replicate n nodeZ).flatten.length = n * 5 := by
      intro n
      induction n with
      | zero => rfl
      | succ n ih => rw [List.replicate_succ, List.flatten_cons, List.length_append, ih, Nat.add_mul]; simp [nodeZ]; omega
    exact key _
  rw [nfilled, List.length_append, e, chunk_length nodeCO_len, List.length_take, Nat.min_eq_left h]; omega
theorem nfilled_zero (l : List Nd) : made nodeZ l.length = nfilled l 0 := by
  rw [nfilled, List.take_zero, chunk_nil, List.nil_append, Nat.sub_zero]
  show (List.range (l.length * 5)).map (fun i => nodeZ.getD (i % 5) .any) = _
  generalize l.length = n
  induction n with
  | zero => rfl
  | succ n ih =>
    rw [Nat.add_mul, Nat.one_mul, List.range_add, List.map_append, ih, List.map_map]
    rw [show n + 1 = n + 1 from rfl, List.replicate_succ', List.flatten_append]
    congr 1
    have : ∀ j, (n * 5 + j) % 5 = j % 5 := fun j => by omega
    show (List.range 5).map (fun j => nodeZ.getD ((n * 5 + j) % 5) .any) = _
    simp only [this]
    rfl
theorem nfilled_all (l : List Nd) : nfilled l l.length = chunk nodeCO l := by simp [nfilled]
theorem nfilled_set {l : List Nd} {i : Nat} {x : Nd} (h : l[i]? = some x) : (nfilled l i).take (i * 5) ++ nodeCO x ++ (nfilled l i).drop (i * 5 + 5) = nfilled l (i + 1) := by
  obtain ⟨hi, rfl⟩ := List.getElem?_eq_some_iff.1 h
  have e1 : (chunk nodeCO (l.take i)).length = i * 5 := by rw [chunk_length nodeCO_len, List.length_take, Nat.min_eq_left (by omega)]
  have e2 : l.length - i = (l.length - (i + 1)) + 1 := by omega
  rw [nfilled, e2, List.replicate_succ, List.flatten_cons, List.take_left' e1, show i * 5 + 5 = (chunk nodeCO (l.take i)).length + 5 by omega, List.drop_length_add_append]
  rw [show List.drop 5 (nodeZ ++ (List.replicate (l.length - (i + 1)) nodeZ).flatten) = (List.replicate (l.length - (i + 1)) nodeZ).flatten from rfl]
  rw [nfilled, take_snoc h, chunk_append]
  simp [chunk]
section
attribute [-go_sem] load1C load1V fldC lenC idxC loadNV
theorem laws_toTreeNode_ok (x : Nd) (hl : x.ch.length ≤ 1000000000000) : Fun Try.prog 156 [] [.t (nodeT x)] fun o r => o = [] ∧ r = .agg (nodeCO x) := by
  refine fun_laws_toTreeNode (by simp) ?_
  simp -implicitDefEqProofs only [go_sem, List.reduceReplicate, Nat.reduceEqDiff, Nat.reduceAdd, Nat.reduceLeDiff, Nat.reduceMul, Nat.reduceSub, Nat.reduceDiv, Int.reduceToNat, Nat.reduceLT, Int.reduceLT, Int.reduceLE, ↓reduceIte, reduceCtorEq, forall_apply_eq_imp_iff₂, ints, rows, rat, rats, toNat_cast, c_laws_toTreeNode, nodeT, nodeC]
  refine CallW.res (laws_toInt64S_ok x.ch (by omega)) [] rfl Try.call121 ?_ (.inl rfl) ?_
  · simp -implicitDefEqProofs only [Int.natCast_zero, Int.cast_ofNat_Int, Int.natCast_one, Nat.le_refl, Nat.reduceLeDiff, Nat.sub_self, Nat.reduceSub, List.getElem?_cons_zero, List.getElem?_cons_succ, vt_self, vaL, vtL, va, vt, vb, maT, List.cons_append, List.nil_append, List.append_nil, true_or, or_true, go_sem, List.reduceReplicate, Nat.reduceEqDiff, Nat.reduceAdd, Nat.reduceLeDiff, Nat.reduceMul, Nat.reduceSub, Nat.reduceDiv, Int.reduceToNat, Nat.reduceLT, Int.reduceLT, Int.reduceLE, ↓reduceIte, reduceCtorEq, ints, rows, rat, rats, ratsO, toShL_ratC, List.mem_cons, List.mem_nil_iff, List.not_mem_nil, or_false, false_or, exists_eq_left, exists_eq_left', exists_eq_right', Root.live.injEq, eq_self_iff_true, exists_eq, and_true, T.toSh, toShL_ints, toShL_intsO, intsO, rowsO]
  simp -implicitDefEqProofs only [List.append_nil, List.cons_append, Nat.reduceLeDiff, afterCall, absT_rowsO, absT_intsO, absT, absL, updL, updS, freeAll, rid, T.noSh, T.noShL, Nat.zero_le, go_sem, List.reduceReplicate, Nat.reduceEqDiff, Nat.reduceAdd, Nat.reduceLeDiff, Nat.reduceMul, Nat.reduceSub, Nat.reduceDiv, Int.reduceToNat, Nat.reduceLT, Int.reduceLT, Int.reduceLE, ↓reduceIte, reduceCtorEq, rat, forall_apply_eq_imp_iff₂, toNat_cast, intsO, List.lookup_cons, Nat.reduceBEq, beq_self_eq_true, rid, openG.eq_1, openG.eq_2]
  rfl
theorem toTreeNode_t (x : Nd) (hl : x.ch.length ≤ 1000000000000) : Fun Try.prog 156 [] [.t (.agg [.i x.p, .i x.a, .i x.b, .i x.f, .sh 1 (x.ch.map T.i)])] fun o r => o = [] ∧ r = .agg [.i x.p, .i x.a, .i x.b, .i x.f, intsO x.ch] := laws_toTreeNode_ok x hl
set_option maxRecDepth 20000 in
theorem laws_toTreeNodeS_ok (l : List Nd) (hm : l.length ≤ 1000000000000) (hr : ∀ x ∈ l, x.ch.length ≤ 1000000000000) : Fun Try.prog 120 [] [.t (nodes l)] fun o r => o = [] ∧ r = nodesO l := by
  refine fun_laws_toTreeNodeS (by simp) ?_
  simp -implicitDefEqProofs only [go_sem, List.reduceReplicate, Nat.reduceEqDiff, Nat.reduceAdd, Nat.reduceLeDiff, Nat.reduceMul, Nat.reduceSub, Nat.reduceDiv, Int.reduceToNat, Nat.reduceLT, Int.reduceLT, Int.reduceLE, ↓reduceIte, reduceCtorEq, forall_apply_eq_imp_iff₂, ints, rows, rat, rats, toNat_cast, c_laws_toTreeNodeS, nodes]
  refine ⟨by omega, by omega, ?_⟩
  refine SemC.loopR (σ := Nat) (fun i => St.of [(0, .t (nodes l)), (3, .own 7), (4, .t (.i i))] [(7, .arr 5 (nfilled l i))]) (fun i => i ≤ l.length) (fun i => l.length - i) 0 (Weak.of _ _ [some 7] (by simp) (by simp) ?_ ?_) (by simp) fun i hi R hn hr' he => ?_
  · simp -implicitDefEqProofs only [ints, rows, Nat.reduceBEq, Int.add_zero, envOK, maA, maT, upd_apply, Nat.reduceEqDiff, ↓reduceIte, and_true, true_or, or_true, List.map_cons, List.map_nil, Nat.zero_ne_one, and_self, true_and, Int.natCast_zero, Int.cast_ofNat_Int, Int.ofNat_zero, piOf, List.zip_cons_cons, List.zip_nil_right, List.lookup_cons, List.lookup_nil, beq_self_eq_true, rootsOK, mkRoots, mkEnv, nodes]
  · exact ⟨⟨_, rfl, by rw [← nfilled_zero]; exact .refl _⟩, rfl, trivial⟩
  · have hlen := nfilled_length l i hi
    rcases Nat.lt_or_ge i l.length with h9 | h9
    · obtain ⟨y, hy⟩ : ∃ y, l[i]? = some y := ⟨_, List.getElem?_eq_getElem h9⟩
      simp -implicitDefEqProofs only [go_sem, List.reduceReplicate, Nat.reduceEqDiff, Nat.reduceAdd, Nat.reduceLeDiff, Nat.reduceMul, Nat.reduceSub, Nat.reduceDiv, Int.reduceToNat, Nat.reduceLT, Int.reduceLT, Int.reduceLE, ↓reduceIte, reduceCtorEq, forall_apply_eq_imp_iff₂, ints, rows, rat, rats, toNat_cast, nodes, nd_at hy, decide_eq_true (show (i : Int) < (l.length : Int) by omega)]
      refine ⟨by omega, by rw [nd_len]; omega, by rw [nd_len]; omega, ?_⟩
      refine CallW.res (toTreeNode_t y (hr y (List.mem_of_getElem? hy))) [] rfl Try.call156 ?_ (.inl rfl) ?_
      · simp -implicitDefEqProofs only [Int.natCast_zero, Int.cast_ofNat_Int, Int.natCast_one, Nat.le_refl, Nat.reduceLeDiff, Nat.sub_self, Nat.reduceSub, List.getElem?_cons_zero, List.getElem?_cons_succ, vt_self, vaL, vtL, va, vt, vb, maT, List.cons_append, List.nil_append, List.append_nil, true_or, or_true, go_sem, List.reduceReplicate, Nat.reduceEqDiff, Nat.reduceAdd, Nat.reduceLeDiff, Nat.reduceMul, Nat.reduceSub, Nat.reduceDiv, Int.reduceToNat, Nat.reduceLT, Int.reduceLT, Int.reduceLE, ↓reduceIte, reduceCtorEq, ints, rows, rat, rats, ratsO, toShL_ratC, List.mem_cons, List.mem_nil_iff, List.not_mem_nil, or_false, false_or, exists_eq_left, exists_eq_left', exists_eq_right', Root.live.injEq, eq_self_iff_true, exists_eq, and_true, T.toSh, toShL_ints, toShL_intsO, intsO, rowsO]
      simp -implicitDefEqProofs only [List.append_nil, List.cons_append, Nat.reduceLeDiff, afterCall, absT_rowsO, absT_intsO, absT, absL, updL, updS, freeAll, rid, T.noSh, T.noShL, Nat.zero_le, go_sem, List.reduceReplicate, Nat.reduceEqDiff, Nat.reduceAdd, Nat.reduceLeDiff, Nat.reduceMul, Nat.reduceSub, Nat.reduceDiv, Int.reduceToNat, Nat.reduceLT, Int.reduceLT, Int.reduceLE, ↓reduceIte, reduceCtorEq, rat, forall_apply_eq_imp_iff₂, toNat_cast, intsO, hlen]
      refine ⟨by omega, by omega, by omega, hn _ (i + 1) (Weak.of _ _ [some 7] (by simp) (by simp) ?_ ?_) (by omega) (by omega)⟩
      · simp -implicitDefEqProofs only [ints, rows, Nat.reduceBEq, Int.add_zero, envOK, maA, maT, upd_apply, Nat.reduceEqDiff, ↓reduceIte, and_true, true_or, or_true, List.map_cons, List.map_nil, Nat.zero_ne_one, and_self, true_and, Int.natCast_zero, Int.cast_ofNat_Int, Int.ofNat_zero, piOf, List.zip_cons_cons, List.zip_nil_right, List.lookup_cons, List.lookup_nil, beq_self_eq_true, rootsOK, mkRoots, mkEnv, nodes, next64 h9 (by omega)]
      · refine ⟨⟨_, rfl, ?_⟩, rfl, trivial⟩
        have := nfilled_set hy
        simp only [nodeCO, intsO, List.append_assoc, List.cons_append, List.nil_append] at this
        (try simp only [List.append_assoc, List.cons_append, List.nil_append])
        rw [this]; exact .refl _
    · simp -implicitDefEqProofs only [go_sem, List.reduceReplicate, Nat.reduceEqDiff, Nat.reduceAdd, Nat.reduceLeDiff, Nat.reduceMul, Nat.reduceSub, Nat.reduceDiv, Int.reduceToNat, Nat.reduceLT, Int.reduceLT, Int.reduceLE, ↓reduceIte, reduceCtorEq, forall_apply_eq_imp_iff₂, ints, rows, rat, rats, toNat_cast, nodes, decide_eq_false (show ¬ (i : Int) < (l.length : Int) by omega)]
      refine he _ _ ?_
      simp -implicitDefEqProofs only [go_sem, List.reduceReplicate, Nat.reduceEqDiff, Nat.reduceAdd, Nat.reduceLeDiff, Nat.reduceMul, Nat.reduceSub, Nat.reduceDiv, Int.reduceToNat, Nat.reduceLT, Int.reduceLT, Int.reduceLE, ↓reduceIte, reduceCtorEq, forall_apply_eq_imp_iff₂, ints, rows, rat, rats, toNat_cast]
      rw [show i = l.length by omega, nfilled_all]; rfl
theorem laws_toTree_ok (l : List Nd) (hm : l.length ≤ 1000000000000) (hr : ∀ x ∈ l, x.ch.length ≤ 1000000000000) : Fun Try.prog 73 [] [.t (treeT l)] fun o r => o = [] ∧ r = .agg [nodesO l] := by
  refine fun_laws_toTree (by simp) ?_
  simp -implicitDefEqProofs only [go_sem, List.reduceReplicate, Nat.reduceEqDiff, Nat.reduceAdd, Nat.reduceLeDiff, Nat.reduceMul, Nat.reduceSub, Nat.reduceDiv, Int.reduceToNat, Nat.reduceLT, Int.reduceLT, Int.reduceLE, ↓reduceIte, reduceCtorEq, forall_apply_eq_imp_iff₂, ints, rows, rat, rats, toNat_cast, c_laws_toTree, treeT, nodes]
  have hp := laws_toTreeNodeS_ok l hm hr
  simp only [nodes] at hp
  refine CallW.res hp [] rfl Try.call120 ?_ (.inl rfl) ?_
  · simp -implicitDefEqProofs only [Int.natCast_zero, Int.cast_ofNat_Int, Int.natCast_one, Nat.le_refl, Nat.reduceLeDiff, Nat.sub_self, Nat.reduceSub, List.getElem?_cons_zero, List.getElem?_cons_succ, vt_self, vaL, vtL, va, vt, vb, maT, List.cons_append, List.nil_append, List.append_nil, true_or, or_true, go_sem, List.reduceReplicate, Nat.reduceEqDiff, Nat.reduceAdd, Nat.reduceLeDiff, Nat.reduceMul, Nat.reduceSub, Nat.reduceDiv, Int.reduceToNat, Nat.reduceLT, Int.reduceLT, Int.reduceLE, ↓reduceIte, reduceCtorEq, ints, rows, rat, rats, ratsO, toShL_ratC, List.mem_cons, List.mem_nil_iff, List.not_mem_nil, or_false, false_or, exists_eq_left, exists_eq_left', exists_eq_right', Root.live.injEq, eq_self_iff_true, exists_eq, and_true, T.toSh, toShL_ints, toShL_intsO, intsO, rowsO]
  simp -implicitDefEqProofs only [List.append_nil, List.cons_append, Nat.reduceLeDiff, afterCall, absT_rowsO, absT_intsO, absT, absL, updL, updS, freeAll, rid, T.noSh, T.noShL, Nat.zero_le, go_sem, List.reduceReplicate, Nat.reduceEqDiff, Nat.reduceAdd, Nat.reduceLeDiff, Nat.reduceMul, Nat.reduceSub, Nat.reduceDiv, Int.reduceToNat, Nat.reduceLT, Int.reduceLT, Int.reduceLE, ↓reduceIte, reduceCtorEq, rat, forall_apply_eq_imp_iff₂, toNat_cast, nodesO, List.lookup_cons, Nat.reduceBEq, beq_self_eq_true, rid, openG.eq_1, openG.eq_2]
/-- Lengths that copies may have. -/
def rows12 (m : List (List Int)) : Prop := m.length ≤ 1000000000000 ∧ ∀ r ∈ m, r.length ≤ 1000000000000
def game12 (g : Gm) : Prop := g.nd.length ≤ 1000000000000 ∧ (∀ x ∈ g.nd, x.ch.length ≤ 1000000000000) ∧ rows12 g.w ∧ rows12 g.v
theorem rows12_to {m : List (List Int)} (h : rows12 m) : ((m.length : Int) ≤ 1000000000000) ∧ ∀ r ∈ m, (r.length : Int) ≤ 1000000000000 := ⟨by have := h.1; omega, fun r hr => by have := h.2 r hr; omega⟩
set_option maxRecDepth 20000 in
theorem laws_toGame_ok (g : Gm) (hg : game12 g) : Fun Try.prog 21 [] [.t (gameT g)] fun o r => o = [] ∧ r = gameO g := by
  refine fun_laws_toGame (by simp) ?_
  simp -implicitDefEqProofs only [go_sem, List.reduceReplicate, Nat.reduceEqDiff, Nat.reduceAdd, Nat.reduceLeDiff, Nat.reduceMul, Nat.reduceSub, Nat.reduceDiv, Int.reduceToNat, Nat.reduceLT, Int.reduceLT, Int.reduceLE, ↓reduceIte, reduceCtorEq, forall_apply_eq_imp_iff₂, ints, rows, rat, rats, toNat_cast, c_laws_toGame, gameT, nodes, rows]
  have hp := laws_toTree_ok g.nd hg.1 hg.2.1
  simp only [treeT, nodes] at hp
  refine CallW.res hp [] rfl Try.call73 ?_ (.inl rfl) ?_
  · simp -implicitDefEqProofs only [Int.natCast_zero, Int.cast_ofNat_Int, Int.natCast_one, Nat.le_refl, Nat.reduceLeDiff, Nat.sub_self, Nat.reduceSub, List.getElem?_cons_zero, List.getElem?_cons_succ, vt_self, vaL, vtL, va, vt, vb, maT, List.cons_append, List.nil_append, List.append_nil, true_or, or_true, go_sem, List.reduceReplicate, Nat.reduceEqDiff, Nat.reduceAdd, Nat.reduceLeDiff, Nat.reduceMul, Nat.reduceSub, Nat.reduceDiv, Int.reduceToNat, Nat.reduceLT, Int.reduceLT, Int.reduceLE, ↓reduceIte, reduceCtorEq, ints, rows, rat, rats, ratsO, toShL_ratC, List.mem_cons, List.mem_nil_iff, List.not_mem_nil, or_false, false_or, exists_eq_left, exists_eq_left', exists_eq_right', Root.live.injEq, eq_self_iff_true, exists_eq, and_true, T.toSh, toShL_ints, toShL_intsO, intsO, rowsO]
  simp -implicitDefEqProofs only [List.append_nil, List.cons_append, Nat.reduceLeDiff, afterCall, absT_rowsO, absT_intsO, absT, absL, updL, updS, freeAll, rid, T.noSh, T.noShL, Nat.zero_le, go_sem, List.reduceReplicate, Nat.reduceEqDiff, Nat.reduceAdd, Nat.reduceLeDiff, Nat.reduceMul, Nat.reduceSub, Nat.reduceDiv, Int.reduceToNat, Nat.reduceLT, Int.reduceLT, Int.reduceLE, ↓reduceIte, reduceCtorEq, rat, forall_apply_eq_imp_iff₂, toNat_cast, nodesO, List.lookup_cons, Nat.reduceBEq, beq_self_eq_true, rid, openG.eq_1, openG.eq_2]
  refine CallW.res (laws_toInt64SS_ok g.w (rows12_to hg.2.2.1).1 (rows12_to hg.2.2.1).2) [] rfl Try.call74 ?_ (.inl rfl) ?_
  · simp -implicitDefEqProofs only [Int.natCast_zero, Int.cast_ofNat_Int, Int.natCast_one, Nat.le_refl, Nat.reduceLeDiff, Nat.sub_self, Nat.reduceSub, List.getElem?_cons_zero, List.getElem?_cons_succ, vt_self, vaL, vtL, va, vt, vb, maT, List.cons_append, List.nil_append, List.append_nil, true_or, or_true, go_sem, List.reduceReplicate, Nat.reduceEqDiff, Nat.reduceAdd, Nat.reduceLeDiff, Nat.reduceMul, Nat.reduceSub, Nat.reduceDiv, Int.reduceToNat, Nat.reduceLT, Int.reduceLT, Int.reduceLE, ↓reduceIte, reduceCtorEq, ints, rows, rat, rats, ratsO, toShL_ratC, List.mem_cons, List.mem_nil_iff, List.not_mem_nil, or_false, false_or, exists_eq_left, exists_eq_left', exists_eq_right', Root.live.injEq, eq_self_iff_true, exists_eq, and_true, T.toSh, toShL_ints, toShL_intsO, intsO, rowsO]
  simp -implicitDefEqProofs only [List.append_nil, List.cons_append, Nat.reduceLeDiff, afterCall, absT_rowsO, absT_intsO, absT, absL, updL, updS, freeAll, rid, T.noSh, T.noShL, Nat.zero_le, go_sem, List.reduceReplicate, Nat.reduceEqDiff, Nat.reduceAdd, Nat.reduceLeDiff, Nat.reduceMul, Nat.reduceSub, Nat.reduceDiv, Int.reduceToNat, Nat.reduceLT, Int.reduceLT, Int.reduceLE, ↓reduceIte, reduceCtorEq, rat, forall_apply_eq_imp_iff₂, toNat_cast, rowsO, List.lookup_cons, Nat.reduceBEq, beq_self_eq_true, rid, openG.eq_1, openG.eq_2]
  refine CallW.res (laws_toInt64SS_ok g.v (rows12_to hg.2.2.2).1 (rows12_to hg.2.2.2).2) [] rfl Try.call74 ?_ (.inl rfl) ?_
  · simp -implicitDefEqProofs only [Int.natCast_zero, Int.cast_ofNat_Int, Int.natCast_one, Nat.le_refl, Nat.reduceLeDiff, Nat.sub_self, Nat.reduceSub, List.getElem?_cons_zero, List.getElem?_cons_succ, vt_self, vaL, vtL, va, vt, vb, maT, List.cons_append, List.nil_append, List.append_nil, true_or, or_true, go_sem, List.reduceReplicate, Nat.reduceEqDiff, Nat.reduceAdd, Nat.reduceLeDiff, Nat.reduceMul, Nat.reduceSub, Nat.reduceDiv, Int.reduceToNat, Nat.reduceLT, Int.reduceLT, Int.reduceLE, ↓reduceIte, reduceCtorEq, ints, rows, rat, rats, ratsO, toShL_ratC, List.mem_cons, List.mem_nil_iff, List.not_mem_nil, or_false, false_or, exists_eq_left, exists_eq_left', exists_eq_right', Root.live.injEq, eq_self_iff_true, exists_eq, and_true, T.toSh, toShL_ints, toShL_intsO, intsO, rowsO]
  simp -implicitDefEqProofs only [List.append_nil, List.cons_append, Nat.reduceLeDiff, afterCall, absT_rowsO, absT_intsO, absT, absL, updL, updS, freeAll, rid, T.noSh, T.noShL, Nat.zero_le, go_sem, List.reduceReplicate, Nat.reduceEqDiff, Nat.reduceAdd, Nat.reduceLeDiff, Nat.reduceMul, Nat.reduceSub, Nat.reduceDiv, Int.reduceToNat, Nat.reduceLT, Int.reduceLT, Int.reduceLE, ↓reduceIte, reduceCtorEq, rat, forall_apply_eq_imp_iff₂, toNat_cast, rowsO, List.lookup_cons, Nat.reduceBEq, beq_self_eq_true, rid, openG.eq_1, openG.eq_2]
  rfl
theorem laws_toStrategy_ok (s : Int × List (List Int)) (hs : rows12 s.2) : Fun Try.prog 22 [] [.t (stratT s)] fun o r => o = [] ∧ r = stratO s := by
  refine fun_laws_toStrategy (by simp) ?_
  simp -implicitDefEqProofs only [go_sem, List.reduceReplicate, Nat.reduceEqDiff, Nat.reduceAdd, Nat.reduceLeDiff, Nat.reduceMul, Nat.reduceSub, Nat.reduceDiv, Int.reduceToNat, Nat.reduceLT, Int.reduceLT, Int.reduceLE, ↓reduceIte, reduceCtorEq, forall_apply_eq_imp_iff₂, ints, rows, rat, rats, toNat_cast, c_laws_toStrategy, stratT, rows]
  refine CallW.res (laws_toInt64SS_ok s.2 (rows12_to hs).1 (rows12_to hs).2) [] rfl Try.call74 ?_ (.inl rfl) ?_
  · simp -implicitDefEqProofs only [Int.natCast_zero, Int.cast_ofNat_Int, Int.natCast_one, Nat.le_refl, Nat.reduceLeDiff, Nat.sub_self, Nat.reduceSub, List.getElem?_cons_zero, List.getElem?_cons_succ, vt_self, vaL, vtL, va, vt, vb, maT, List.cons_append, List.nil_append, List.append_nil, true_or, or_true, go_sem, List.reduceReplicate, Nat.reduceEqDiff, Nat.reduceAdd, Nat.reduceLeDiff, Nat.reduceMul, Nat.reduceSub, Nat.reduceDiv, Int.reduceToNat, Nat.reduceLT, Int.reduceLT, Int.reduceLE, ↓reduceIte, reduceCtorEq, ints, rows, rat, rats, ratsO, toShL_ratC, List.mem_cons, List.mem_nil_iff, List.not_mem_nil, or_false, false_or, exists_eq_left, exists_eq_left', exists_eq_right', Root.live.injEq, eq_self_iff_true, exists_eq, and_true, T.toSh, toShL_ints, toShL_intsO, intsO, rowsO]
  simp -implicitDefEqProofs only [List.append_nil, List.cons_append, Nat.reduceLeDiff, afterCall, absT_rowsO, absT_intsO, absT, absL, updL, updS, freeAll, rid, T.noSh, T.noShL, Nat.zero_le, go_sem, List.reduceReplicate, Nat.reduceEqDiff, Nat.reduceAdd, Nat.reduceLeDiff, Nat.reduceMul, Nat.reduceSub, Nat.reduceDiv, Int.reduceToNat, Nat.reduceLT, Int.reduceLT, Int.reduceLE, ↓reduceIte, reduceCtorEq, rat, forall_apply_eq_imp_iff₂, toNat_cast, rowsO, List.lookup_cons, Nat.reduceBEq, beq_self_eq_true, rid, openG.eq_1, openG.eq_2]
  rfl
theorem laws_eqTreeNode_ok (x y : Nd) (hx : x.ch.length ≤ 1000000000000) (hy : y.ch.length ≤ 1000000000000) : Pure Try.prog 159 [nodeT x, nodeT y] (.b (decide (x = y))) := by
  refine fun_laws_eqTreeNode (by simp) ?_
  obtain ⟨p, a, b, f, ch⟩ := x
  obtain ⟨p', a', b', f', ch'⟩ := y
  simp -implicitDefEqProofs only [go_sem, List.reduceReplicate, Nat.reduceEqDiff, Nat.reduceAdd, Nat.reduceLeDiff, Nat.reduceMul, Nat.reduceSub, Nat.reduceDiv, Int.reduceToNat, Nat.reduceLT, Int.reduceLT, Int.reduceLE, ↓reduceIte, reduceCtorEq, forall_apply_eq_imp_iff₂, ints, rows, rat, rats, toNat_cast, c_laws_eqTreeNode, nodeT, nodeC]
  have no : ∀ {P : Prop}, ¬ P → (Nd.mk p a b f ch = Nd.mk p' a' b' f' ch' → P) → decide (Nd.mk p a b f ch = Nd.mk p' a' b' f' ch') = false := fun h1 h2 => decide_eq_false fun h => h1 (h2 h)
  refine ⟨fun h1 => ?_, fun h1 => ?_⟩
  · rw [no (P := p = p') (by simpa using h1) (fun h => by injection h)]
  refine ⟨fun h2 => ?_, fun h2 => ?_⟩
  · rw [no (P := a = a') (by simpa using h2) (fun h => by injection h)]
  refine ⟨fun h3 => ?_, fun h3 => ?_⟩
  · rw [no (P := b = b') (by simpa using h3) (fun h => by injection h)]
  refine ⟨fun h4 => ?_, fun h4 => ?_⟩
  · rw [no (P := f = f') (by simpa using h4) (fun h => by injection h)]
  refine CallW.pure (laws_eqInt64S_ok ch ch' hx hy) [] rfl Try.call129 ?_ (by first | trivial | simp [T.noSh, T.noShL, rat]) rfl ?_
  · simp -implicitDefEqProofs only [Int.natCast_zero, Int.cast_ofNat_Int, Int.natCast_one, Nat.le_refl, Nat.reduceLeDiff, Nat.sub_self, Nat.reduceSub, List.getElem?_cons_zero, List.getElem?_cons_succ, vt_self, vaL, vtL, va, vt, vb, maT, List.cons_append, List.nil_append, List.append_nil, true_or, or_true, go_sem, List.reduceReplicate, Nat.reduceEqDiff, Nat.reduceAdd, Nat.reduceLeDiff, Nat.reduceMul, Nat.reduceSub, Nat.reduceDiv, Int.reduceToNat, Nat.reduceLT, Int.reduceLT, Int.reduceLE, ↓reduceIte, reduceCtorEq, ints, rows, rat, rats, ratsO, toShL_ratC, List.mem_cons, List.mem_nil_iff, List.not_mem_nil, or_false, false_or, exists_eq_left, exists_eq_left', exists_eq_right', Root.live.injEq, eq_self_iff_true, exists_eq, and_true, T.toSh, toShL_ints, toShL_intsO, intsO, rowsO]
  simp -implicitDefEqProofs only [go_sem, List.reduceReplicate, Nat.reduceEqDiff, Nat.reduceAdd, Nat.reduceLeDiff, Nat.reduceMul, Nat.reduceSub, Nat.reduceDiv, Int.reduceToNat, Nat.reduceLT, Int.reduceLT, Int.reduceLE, ↓reduceIte, reduceCtorEq, forall_apply_eq_imp_iff₂, ints, rows, rat, rats, toNat_cast]
  refine ⟨fun h5 => ?_, fun h5 => ?_⟩
  · rw [no (P := ch = ch') (by simpa using h5) (fun h => by injection h)]
  · rw [decide_eq_true (by simp at h1 h2 h3 h4 h5; simp_all)]
theorem eqTreeNode_t (x y : Nd) (hx : x.ch.length ≤ 1000000000000) (hy : y.ch.length ≤ 1000000000000) : Pure Try.prog 159 [.agg [.i x.p, .i x.a, .i x.b, .i x.f, .sh 1 (x.ch.map T.i)], .agg [.i y.p, .i y.a, .i y.b, .i y.f, .sh 1 (y.ch.map T.i)]] (.b (decide (x = y))) := laws_eqTreeNode_ok x y hx hy
theorem laws_eqTreeNodeS_ok (a b : List Nd) (ha : a.length ≤ 1000000000000) (hb : b.length ≤ 1000000000000) (hra : ∀ r ∈ a, r.ch.length ≤ 1000000000000) (hrb : ∀ r ∈ b, r.ch.length ≤ 1000000000000) :
    Pure Try.prog 128 [nodes a, nodes b] (.b (decide (a = b))) := by
  refine fun_laws_eqTreeNodeS (by simp) ?_
  simp -implicitDefEqProofs only [go_sem, List.reduceReplicate, Nat.reduceEqDiff, Nat.reduceAdd, Nat.reduceLeDiff, Nat.reduceMul, Nat.reduceSub, Nat.reduceDiv, Int.reduceToNat, Nat.reduceLT, Int.reduceLT, Int.reduceLE, ↓reduceIte, reduceCtorEq, forall_apply_eq_imp_iff₂, ints, rows, rat, rats, toNat_cast, c_laws_eqTreeNodeS, nodes]
  refine ⟨fun h => ?_, fun h => ?_⟩
  · have : a ≠ b := by rintro rfl; simp at h
    simp [this]
  · have hab : a.length = b.length := by simp at h; omega
    refine SemC.loopR (σ := Nat) (fun i => St.of [(0, .t (nodes a)), (1, .t (nodes b)), (5, .t (.i i))] []) (fun i => i ≤ a.length ∧ ∀ j, j < i → a[j]? = b[j]?) (fun i => a.length - i) 0 (Weak.of _ [] [] (by simp) (by simp) ?_ trivial) ⟨by simp, fun j hj => by omega⟩ fun i hI R hn hr he => ?_
    · simp -implicitDefEqProofs only [ints, rows, Int.add_zero, envOK, maA, maT, upd_apply, Nat.reduceEqDiff, ↓reduceIte, and_true, true_or, or_true, List.map_cons, List.map_nil, Nat.zero_ne_one, and_self, true_and, Int.natCast_zero, Int.cast_ofNat_Int, Int.ofNat_zero, nodes]
    · rcases Nat.lt_or_ge i a.length with h9 | h9
      · obtain ⟨x, hx⟩ : ∃ x, a[i]? = some x := ⟨_, List.getElem?_eq_getElem h9⟩
        obtain ⟨y, hy⟩ : ∃ y, b[i]? = some y := ⟨_, List.getElem?_eq_getElem (by omega)⟩
        simp -implicitDefEqProofs only [go_sem, List.reduceReplicate, Nat.reduceEqDiff, Nat.reduceAdd, Nat.reduceLeDiff, Nat.reduceMul, Nat.reduceSub, Nat.reduceDiv, Int.reduceToNat, Nat.reduceLT, Int.reduceLT, Int.reduceLE, ↓reduceIte, reduceCtorEq, forall_apply_eq_imp_iff₂, ints, rows, rat, rats, toNat_cast, nodes, nd_at hx, nd_at hy, decide_eq_true (show (i : Int) < (a.length : Int) by omega)]
        refine ⟨by omega, by rw [nd_len]; omega, by rw [nd_len]; omega, by omega, by rw [nd_len]; omega, by rw [nd_len]; omega, ?_⟩
        refine CallV.pure (eqTreeNode_t x y (hra x (List.mem_of_getElem? hx)) (hrb y (List.mem_of_getElem? hy))) [] rfl Try.call159 (fun e R' hR => ?_) (by first | trivial | simp [T.noSh, T.noShL, rat]) (fun _ => rfl) ?_
        · simp -implicitDefEqProofs only [Int.natCast_zero, Int.cast_ofNat_Int, Int.natCast_one, Nat.le_refl, Nat.reduceLeDiff, Nat.sub_self, Nat.reduceSub, List.getElem?_cons_zero, List.getElem?_cons_succ, vt_self, vaL, vtL, va, vt, vb, maT, List.cons_append, List.nil_append, List.append_nil, true_or, or_true, go_sem, List.reduceReplicate, Nat.reduceEqDiff, Nat.reduceAdd, Nat.reduceLeDiff, Nat.reduceMul, Nat.reduceSub, Nat.reduceDiv, Int.reduceToNat, Nat.reduceLT, Int.reduceLT, Int.reduceLE, ↓reduceIte, reduceCtorEq, ints, rows, rat, rats, ratsO, toShL_ratC, List.mem_cons, List.mem_nil_iff, List.not_mem_nil, or_false, false_or, exists_eq_left, exists_eq_left', exists_eq_right', Root.live.injEq, eq_self_iff_true, exists_eq, and_true, T.toSh, toShL_ints, toShL_intsO, intsO, rowsO]
        simp -implicitDefEqProofs only [go_sem, List.reduceReplicate, Nat.reduceEqDiff, Nat.reduceAdd, Nat.reduceLeDiff, Nat.reduceMul, Nat.reduceSub, Nat.reduceDiv, Int.reduceToNat, Nat.reduceLT, Int.reduceLT, Int.reduceLE, ↓reduceIte, reduceCtorEq, forall_apply_eq_imp_iff₂, ints, rows, rat, rats, toNat_cast]
        refine ⟨fun h1 => hr _ ?_, fun h1 => hn _ (i + 1) (Weak.of _ [] [] (by simp) (by simp) ?_ trivial) ⟨by omega, fun j hj => ?_⟩ (by omega)⟩
        · simp -implicitDefEqProofs only [go_sem, List.reduceReplicate, Nat.reduceEqDiff, Nat.reduceAdd, Nat.reduceLeDiff, Nat.reduceMul, Nat.reduceSub, Nat.reduceDiv, Int.reduceToNat, Nat.reduceLT, Int.reduceLT, Int.reduceLE, ↓reduceIte, reduceCtorEq, forall_apply_eq_imp_iff₂, ints, rows, rat, rats, toNat_cast]
          have : a ≠ b := by rintro rfl; rw [hx] at hy; cases hy; simp at h1
          simp [this]
        · simp -implicitDefEqProofs only [ints, rows, Int.add_zero, envOK, maA, maT, upd_apply, Nat.reduceEqDiff, ↓reduceIte, and_true, true_or, or_true, List.map_cons, List.map_nil, Nat.zero_ne_one, and_self, true_and, Int.natCast_zero, Int.cast_ofNat_Int, Int.ofNat_zero, nodes, next64 h9 ha]
        · rcases Nat.lt_or_ge j i with h | h
          · exact hI.2 j h
          · have : j = i := by omega
            subst this
            rw [hx, hy]; simpa using h1
      · simp -implicitDefEqProofs only [go_sem, List.reduceReplicate, Nat.reduceEqDiff, Nat.reduceAdd, Nat.reduceLeDiff, Nat.reduceMul, Nat.reduceSub, Nat.reduceDiv, Int.reduceToNat, Nat.reduceLT, Int.reduceLT, Int.reduceLE, ↓reduceIte, reduceCtorEq, forall_apply_eq_imp_iff₂, ints, rows, rat, rats, toNat_cast, nodes, decide_eq_false (show ¬ (i : Int) < (a.length : Int) by omega)]
        refine he _ _ ?_
        simp -implicitDefEqProofs only [go_sem, List.reduceReplicate, Nat.reduceEqDiff, Nat.reduceAdd, Nat.reduceLeDiff, Nat.reduceMul, Nat.reduceSub, Nat.reduceDiv, Int.reduceToNat, Nat.reduceLT, Int.reduceLT, Int.reduceLE, ↓reduceIte, reduceCtorEq, forall_apply_eq_imp_iff₂, ints, rows, rat, rats, toNat_cast]
        have : a = b := by
          refine List.ext_getElem? fun j => ?_
          rcases Nat.lt_or_ge j i with h | h
          · exact hI.2 j h
          · rw [List.getElem?_eq_none (by omega), List.getElem?_eq_none (by omega)]
        simp [this]
theorem laws_eqTree_ok (a b : List Nd) (ha : a.length ≤ 1000000000000) (hb : b.length ≤ 1000000000000) (hra : ∀ r ∈ a, r.ch.length ≤ 1000000000000) (hrb : ∀ r ∈ b, r.ch.length ≤ 1000000000000) :
    Pure Try.prog 78 [treeT a, treeT b] (.b (decide (a = b))) := by
  refine fun_laws_eqTree (by simp) ?_
  simp -implicitDefEqProofs only [go_sem, List.reduceReplicate, Nat.reduceEqDiff, Nat.reduceAdd, Nat.reduceLeDiff, Nat.reduceMul, Nat.reduceSub, Nat.reduceDiv, Int.reduceToNat, Nat.reduceLT, Int.reduceLT, Int.reduceLE, ↓reduceIte, reduceCtorEq, forall_apply_eq_imp_iff₂, ints, rows, rat, rats, toNat_cast, c_laws_eqTree, treeT, nodes]
  have hp := laws_eqTreeNodeS_ok a b ha hb hra hrb
  simp only [nodes] at hp
  refine CallW.pure hp [] rfl Try.call128 ?_ (by first | trivial | simp [T.noSh, T.noShL, rat]) rfl ?_
  · simp -implicitDefEqProofs only [Int.natCast_zero, Int.cast_ofNat_Int, Int.natCast_one, Nat.le_refl, Nat.reduceLeDiff, Nat.sub_self, Nat.reduceSub, List.getElem?_cons_zero, List.getElem?_cons_succ, vt_self, vaL, vtL, va, vt, vb, maT, List.cons_append, List.nil_append, List.append_nil, true_or, or_true, go_sem, List.reduceReplicate, Nat.reduceEqDiff, Nat.reduceAdd, Nat.reduceLeDiff, Nat.reduceMul, Nat.reduceSub, Nat.reduceDiv, Int.reduceToNat, Nat.reduceLT, Int.reduceLT, Int.reduceLE, ↓reduceIte, reduceCtorEq, ints, rows, rat, rats, ratsO, toShL_ratC, List.mem_cons, List.mem_nil_iff, List.not_mem_nil, or_false, false_or, exists_eq_left, exists_eq_left', exists_eq_right', Root.live.injEq, eq_self_iff_true, exists_eq, and_true, T.toSh, toShL_ints, toShL_intsO, intsO, rowsO]
  simp -implicitDefEqProofs only [go_sem, List.reduceReplicate, Nat.reduceEqDiff, Nat.reduceAdd, Nat.reduceLeDiff, Nat.reduceMul, Nat.reduceSub, Nat.reduceDiv, Int.reduceToNat, Nat.reduceLT, Int.reduceLT, Int.reduceLE, ↓reduceIte, reduceCtorEq, forall_apply_eq_imp_iff₂, ints, rows, rat, rats, toNat_cast]
  exact ⟨fun h => by rw [show decide (a = b) = false by simpa using h], fun h => by rw [show decide (a = b) = true by simpa using h]⟩
theorem laws_eqGame_ok (g h : Gm) (hg : game12 g) (hh : game12 h) : Pure Try.prog 24 [gameT g, gameT h] (.b (decide (g = h))) := by
  refine fun_laws_eqGame (by simp) ?_
  obtain ⟨nd, w, v⟩ := g
  obtain ⟨nd', w', v'⟩ := h
  simp -implicitDefEqProofs only [go_sem, List.reduceReplicate, Nat.reduceEqDiff, Nat.reduceAdd, Nat.reduceLeDiff, Nat.reduceMul, Nat.reduceSub, Nat.reduceDiv, Int.reduceToNat, Nat.reduceLT, Int.reduceLT, Int.reduceLE, ↓reduceIte, reduceCtorEq, forall_apply_eq_imp_iff₂, ints, rows, rat, rats, toNat_cast, c_laws_eqGame, gameT, nodes, rows]
  have no : ∀ {P : Prop}, ¬ P → (Gm.mk nd w v = Gm.mk nd' w' v' → P) → decide (Gm.mk nd w v = Gm.mk nd' w' v') = false := fun h1 h2 => decide_eq_false fun h => h1 (h2 h)
  have hp := laws_eqTree_ok nd nd' hg.1 hh.1 hg.2.1 hh.2.1
  simp only [treeT, nodes] at hp
  refine CallW.pure hp [] rfl Try.call78 ?_ (by first | trivial | simp [T.noSh, T.noShL, rat]) rfl ?_
  · simp -implicitDefEqProofs only [Int.natCast_zero, Int.cast_ofNat_Int, Int.natCast_one, Nat.le_refl, Nat.reduceLeDiff, Nat.sub_self, Nat.reduceSub, List.getElem?_cons_zero, List.getElem?_cons_succ, vt_self, vaL, vtL, va, vt, vb, maT, List.cons_append, List.nil_append, List.append_nil, true_or, or_true, go_sem, List.reduceReplicate, Nat.reduceEqDiff, Nat.reduceAdd, Nat.reduceLeDiff, Nat.reduceMul, Nat.reduceSub, Nat.reduceDiv, Int.reduceToNat, Nat.reduceLT, Int.reduceLT, Int.reduceLE, ↓reduceIte, reduceCtorEq, ints, rows, rat, rats, ratsO, toShL_ratC, List.mem_cons, List.mem_nil_iff, List.not_mem_nil, or_false, false_or, exists_eq_left, exists_eq_left', exists_eq_right', Root.live.injEq, eq_self_iff_true, exists_eq, and_true, T.toSh, toShL_ints, toShL_intsO, intsO, rowsO]
  simp -implicitDefEqProofs only [go_sem, List.reduceReplicate, Nat.reduceEqDiff, Nat.reduceAdd, Nat.reduceLeDiff, Nat.reduceMul, Nat.reduceSub, Nat.reduceDiv, Int.reduceToNat, Nat.reduceLT, Int.reduceLT, Int.reduceLE, ↓reduceIte, reduceCtorEq, forall_apply_eq_imp_iff₂, ints, rows, rat, rats, toNat_cast]
  refine ⟨fun h1 => ?_, fun h1 => ?_⟩
  · rw [no (P := nd = nd') (by simpa using h1) (fun h => by injection h)]
  refine CallW.pure (laws_eqInt64SS_ok w w' hg.2.2.1.1 hh.2.2.1.1 hg.2.2.1.2 hh.2.2.1.2) [] rfl Try.call79 ?_ (by first | trivial | simp [T.noSh, T.noShL, rat]) rfl ?_
  · simp -implicitDefEqProofs only [Int.natCast_zero, Int.cast_ofNat_Int, Int.natCast_one, Nat.le_refl, Nat.reduceLeDiff, Nat.sub_self, Nat.reduceSub, List.getElem?_cons_zero, List.getElem?_cons_succ, vt_self, vaL, vtL, va, vt, vb, maT, List.cons_append, List.nil_append, List.append_nil, true_or, or_true, go_sem, List.reduceReplicate, Nat.reduceEqDiff, Nat.reduceAdd, Nat.reduceLeDiff, Nat.reduceMul, Nat.reduceSub, Nat.reduceDiv, Int.reduceToNat, Nat.reduceLT, Int.reduceLT, Int.reduceLE, ↓reduceIte, reduceCtorEq, ints, rows, rat, rats, ratsO, toShL_ratC, List.mem_cons, List.mem_nil_iff, List.not_mem_nil, or_false, false_or, exists_eq_left, exists_eq_left', exists_eq_right', Root.live.injEq, eq_self_iff_true, exists_eq, and_true, T.toSh, toShL_ints, toShL_intsO, intsO, rowsO]
  simp -implicitDefEqProofs only [go_sem, List.reduceReplicate, Nat.reduceEqDiff, Nat.reduceAdd, Nat.reduceLeDiff, Nat.reduceMul, Nat.reduceSub, Nat.reduceDiv, Int.reduceToNat, Nat.reduceLT, Int.reduceLT, Int.reduceLE, ↓reduceIte, reduceCtorEq, forall_apply_eq_imp_iff₂, ints, rows, rat, rats, toNat_cast]
  refine ⟨fun h2 => ?_, fun h2 => ?_⟩
  · rw [no (P := w = w') (by simpa using h2) (fun h => by injection h)]
  refine CallW.pure (laws_eqInt64SS_ok v v' hg.2.2.2.1 hh.2.2.2.1 hg.2.2.2.2 hh.2.2.2.2) [] rfl Try.call79 ?_ (by first | trivial | simp [T.noSh, T.noShL, rat]) rfl ?_
  · simp -implicitDefEqProofs only [Int.natCast_zero, Int.cast_ofNat_Int, Int.natCast_one, Nat.le_refl, Nat.reduceLeDiff, Nat.sub_self, Nat.reduceSub, List.getElem?_cons_zero, List.getElem?_cons_succ, vt_self, vaL, vtL, va, vt, vb, maT, List.cons_append, List.nil_append, List.append_nil, true_or, or_true, go_sem, List.reduceReplicate, Nat.reduceEqDiff, Nat.reduceAdd, Nat.reduceLeDiff, Nat.reduceMul, Nat.reduceSub, Nat.reduceDiv, Int.reduceToNat, Nat.reduceLT, Int.reduceLT, Int.reduceLE, ↓reduceIte, reduceCtorEq, ints, rows, rat, rats, ratsO, toShL_ratC, List.mem_cons, List.mem_nil_iff, List.not_mem_nil, or_false, false_or, exists_eq_left, exists_eq_left', exists_eq_right', Root.live.injEq, eq_self_iff_true, exists_eq, and_true, T.toSh, toShL_ints, toShL_intsO, intsO, rowsO]
  simp -implicitDefEqProofs only [go_sem, List.reduceReplicate, Nat.reduceEqDiff, Nat.reduceAdd, Nat.reduceLeDiff, Nat.reduceMul, Nat.reduceSub, Nat.reduceDiv, Int.reduceToNat, Nat.reduceLT, Int.reduceLT, Int.reduceLE, ↓reduceIte, reduceCtorEq, forall_apply_eq_imp_iff₂, ints, rows, rat, rats, toNat_cast]
  refine ⟨fun h3 => ?_, fun h3 => ?_⟩
  · rw [no (P := v = v') (by simpa using h3) (fun h => by injection h)]
  · rw [decide_eq_true (by simp at h1 h2 h3; simp_all)]
theorem laws_eqStrategy_ok (s t : Int × List (List Int)) (hs : rows12 s.2) (ht : rows12 t.2) : Pure Try.prog 25 [stratT s, stratT t] (.b (decide (s = t))) := by
  refine fun_laws_eqStrategy (by simp) ?_
  obtain ⟨p, m⟩ := s
  obtain ⟨p', m'⟩ := t
  simp -implicitDefEqProofs only [go_sem, List.reduceReplicate, Nat.reduceEqDiff, Nat.reduceAdd, Nat.reduceLeDiff, Nat.reduceMul, Nat.reduceSub, Nat.reduceDiv, Int.reduceToNat, Nat.reduceLT, Int.reduceLT, Int.reduceLE, ↓reduceIte, reduceCtorEq, forall_apply_eq_imp_iff₂, ints, rows, rat, rats, toNat_cast, c_laws_eqStrategy, stratT, rows]
  refine ⟨fun h1 => ?_, fun h1 => ?_⟩
  · have h1 : ¬ p = p' := by simpa using h1
    rw [decide_eq_false (fun h => h1 (by injection h))]
  refine CallW.pure (laws_eqInt64SS_ok m m' hs.1 ht.1 hs.2 ht.2) [] rfl Try.call79 ?_ (by first | trivial | simp [T.noSh, T.noShL, rat]) rfl ?_
  · simp -implicitDefEqProofs only [Int.natCast_zero, Int.cast_ofNat_Int, Int.natCast_one, Nat.le_refl, Nat.reduceLeDiff, Nat.sub_self, Nat.reduceSub, List.getElem?_cons_zero, List.getElem?_cons_succ, vt_self, vaL, vtL, va, vt, vb, maT, List.cons_append, List.nil_append, List.append_nil, true_or, or_true, go_sem, List.reduceReplicate, Nat.reduceEqDiff, Nat.reduceAdd, Nat.reduceLeDiff, Nat.reduceMul, Nat.reduceSub, Nat.reduceDiv, Int.reduceToNat, Nat.reduceLT, Int.reduceLT, Int.reduceLE, ↓reduceIte, reduceCtorEq, ints, rows, rat, rats, ratsO, toShL_ratC, List.mem_cons, List.mem_nil_iff, List.not_mem_nil, or_false, false_or, exists_eq_left, exists_eq_left', exists_eq_right', Root.live.injEq, eq_self_iff_true, exists_eq, and_true, T.toSh, toShL_ints, toShL_intsO, intsO, rowsO]
  simp -implicitDefEqProofs only [go_sem, List.reduceReplicate, Nat.reduceEqDiff, Nat.reduceAdd, Nat.reduceLeDiff, Nat.reduceMul, Nat.reduceSub, Nat.reduceDiv, Int.reduceToNat, Nat.reduceLT, Int.reduceLT, Int.reduceLE, ↓reduceIte, reduceCtorEq, forall_apply_eq_imp_iff₂, ints, rows, rat, rats, toNat_cast]
  refine ⟨fun h2 => ?_, fun h2 => ?_⟩
  · have h2 : ¬ m = m' := by simpa using h2
    rw [decide_eq_false (fun h => h2 (by injection h))]
  · rw [decide_eq_true (by simp at h1 h2; simp_all)]
end
end Go.Ab

/- Functions in compact form, with hints. -/
set_option linter.unusedVariables false
namespace Go.Ab
open Go.Proofs

def c_spec_l24Run_h : CC :=
 (.seq (.reg [.o (.box 2 (sl 0)),
 .o (.box 3 (sl 1)),
 .o (.move 4 (ci 0)),
 .o (.alloc 5 [.v (.int .i64 0), .v (.slice none 0 0)])])
 ((.seq (.reg [.o (.loadN 13 3 (sl 2)),
 .o (.fld 14 0 (sl 3)),
 .o (.load1 15 (sl 14)),
 .o (.bin 16 .sub (ci 1) (sl 15)),
 .o (.loadN 17 2 (sl 3)),
 .o (.build 18 [.v (.slice none 0 0), .v (.slice none 0 0), .v (.slice none 0 0), .v (.int .i64 0), .v (.int .i64 0), .v (.slice none 0 0), .v (.slice none 0 0)] [(0, 3), (3, 1), (4, 2), (6, 1)] [(0, (sl 13)), (1, (sl 16)), (2, (sl 17))]),
 .o (.box 19 (sl 18)),
 .o (.move 6 (sl 19))])
 ((.seq (.draw [26, 28] [(kR, .o (.move 20 (sl 6))),
 (kR, .o (.loadN 21 3 (sl 2))),
 (kR, .o (.move 22 (sl 6))),
 (kR, .o (.nilc 23 (sl 22))),
 (kR, .o (.fld 24 3 (sl 23))),
 (kR, .o (.load1 25 (sl 24))),
 (.c false [], .o (.call (some 26) (cf 113) [(sl 21), (sl 25)])),
 (kR, .o (.lenS 27 (sl 26))),
 (kN, .o (.make 28 [.v (.slice none 0 0)] 24 (sl 27) (sl 27))),
 (kR, .o (.nilc 29 (sl 20))),
 (kR, .o (.fld 30 6 (sl 29))),
 (kH, .o (.store 1 (sl 30) (sl 28)))])
 ((.seq (.reg [.o (.move 7 (ci 0))])
 ((.seq (.seq (.reg [.o (.move 8 (ci 0))])
 ((.block 0 (.loop (.seq (.seq (.reg [.o (.move 31 (sl 8)),
 .o (.fld 32 1 (sl 2)),
 .o (.load1 33 (sl 32)),
 .o (.lenS 34 (sl 33)),
 .o (.bin 35 .lss (sl 31) (sl 34))])
 ((.cond (sl 35) .skip
 (.exit 0))))
 ((.seq (.block 1 (.seq (.reg [.o (.bslice 38 1 0 []),
 .o (.move 9 (sl 38))])
 ((.seq (.seq (.reg [.o (.move 10 (ci 0))])
 ((.block 2 (.loop (.seq (.seq (.reg [.o (.move 39 (sl 10)),
 .o (.fld 40 1 (sl 2)),
 .o (.load1 41 (sl 40)),
 .o (.lenS 42 (sl 41)),
 .o (.bin 43 .lss (sl 39) (sl 42))])
 ((.cond (sl 43) .skip
 (.exit 2))))
 ((.seq (.block 3 (.seq (.reg [.o (.move 47 (sl 6)),
 .o (.move 48 (sl 8)),
 .o (.move 49 (sl 10)),
 .o (.call (some 50) (cf 115) [(sl 47), (sl 48), (sl 49)]),
 .o (.move 46 (sl 50)),
 .o (.extract 51 (sl 46) 0),
 .o (.extract 52 (sl 46) 1),
 .o (.move 11 (sl 51)),
 .o (.move 12 (sl 52))])
 ((.reg [.o (.move 53 (sl 9)),
 .o (.fld 54 1 (sl 2)),
 .o (.load1 55 (sl 54)),
 .o (.move 56 (sl 11)),
 .o (.idx 57 1 (sl 55) (sl 56)),
 .o (.load1 58 (sl 57)),
 .o (.move 59 (sl 12)),
 .o (.idx 60 1 (sl 58) (sl 59)),
 .o (.load1 61 (sl 60)),
 .o (.bslice 62 1 1 [(0, (sl 61))]),
 .o (.app 63 1 8 (sl 53) (sl 62)),
 .o (.move 9 (sl 63))]))))
 ((.reg [.o (.move 44 (sl 10)),
 .o (.bin 45 .add (sl 44) (ci 1)),
 .o (.move 10 (sl 45))])))))))))
 ((.weak (.reg [.o (.move 64 (sl 7)),
 .o (.move 65 (sl 6)),
 .o (.move 66 (sl 8)),
 .o (.move 67 (sl 9)),
 .o (.fld 68 0 (sl 2)),
 .o (.loadN 69 1 (sl 68)),
 .o (.call (some 70) (cf 117) [(sl 69), (ci 0)]),
 .o (.call (some 71) (cf 116) [(sl 65), (ci 0), (sl 66), (sl 67), (sl 70)]),
 .o (.bin 72 .add (sl 64) (sl 71)),
 .o (.move 7 (sl 72))])))))))
 ((.reg [.o (.move 36 (sl 8)),
 .o (.bin 37 .add (sl 36) (ci 1)),
 .o (.move 8 (sl 37))])))))))))
 ((.seq (.weak (.draw [] [(kR, .o (.move 73 (sl 7))),
 (kR, .o (.move 74 (sl 6))),
 (kR, .o (.nilc 75 (sl 74))),
 (kR, .o (.fld 76 3 (sl 75))),
 (kR, .o (.load1 77 (sl 76))),
 (kR, .o (.move 78 (sl 6))),
 (kR, .o (.nilc 79 (sl 78))),
 (kR, .o (.fld 80 6 (sl 79))),
 (kR, .o (.load1 81 (sl 80))),
 (kR, .o (.build 82 [.v (.int .i64 0), .v (.slice none 0 0)] [(0, 1), (1, 1)] [(0, (sl 77)), (1, (sl 81))])),
 (kR, .o (.move 4 (sl 73))),
 (kH, .o (.store 2 (sl 5) (sl 82)))]))
 (.ret))))))))))))
theorem fun_spec_l24Run_h {rin : List T} {args : List A} {Q : List T → T → Prop} (ha : args.length ≤ 83) (h : cW Try.prog 83 c_spec_l24Run_h (retP Try.prog [.tmp 4, .cell 5 40] rin.length Q) (St.of (enum 0 args) (enum 1000000000 rin))) :
    Fun Try.prog 71 rin args Q :=
  Fun.of (H := ⟨[], [13, 14]⟩) Try.func71 rfl rfl rfl (by kernel_rfl) ha (by decide) h

def c_impl_bestAgainst_h : CC :=
 (.seq (.reg [.o (.box 2 (sl 0)),
 .o (.box 3 (sl 1)),
 .o (.move 4 (ci 0)),
 .o (.alloc 5 [.v (.int .i64 0), .v (.slice none 0 0)])])
 ((.seq (.reg [.o (.loadN 16 3 (sl 2)),
 .o (.fld 17 0 (sl 3)),
 .o (.load1 18 (sl 17)),
 .o (.bin 19 .sub (ci 1) (sl 18)),
 .o (.fld 20 1 (sl 3)),
 .o (.load1 21 (sl 20)),
 .o (.build 22 [.v (.slice none 0 0), .v (.slice none 0 0), .v (.slice none 0 0), .v (.int .i64 0), .v (.int .i64 0), .v (.slice none 0 0), .v (.slice none 0 0), .v (.slice none 0 0), .v (.int .i64 0), .v (.slice none 0 0)] [(0, 3), (3, 1), (4, 1), (5, 1), (6, 1), (7, 1), (8, 2)] [(0, (sl 16)), (1, (sl 19)), (5, (sl 21))]),
 .o (.alloc 6 [.v (.slice none 0 0), .v (.slice none 0 0), .v (.slice none 0 0), .v (.int .i64 0), .v (.int .i64 0), .v (.slice none 0 0), .v (.slice none 0 0), .v (.slice none 0 0), .v (.int .i64 0), .v (.slice none 0 0)]),
 .o (.store 10 (sl 6) (sl 22))])
 ((.seq (.draw [27, 32] [(kR, .o (.fld 23 0 (sl 2))),
 (kR, .o (.fld 24 0 (sl 23))),
 (kR, .o (.load1 25 (sl 24))),
 (kR, .o (.lenS 26 (sl 25))),
 (kN, .o (.make 27 [.v (.int .i64 0)] 8 (sl 26) (sl 26))),
 (.r false [6, 27], .o (.fld 28 0 (sl 2))),
 (.r false [6, 27], .o (.fld 29 0 (sl 28))),
 (.r false [6, 27], .o (.load1 30 (sl 29))),
 (.r false [6, 27], .o (.lenS 31 (sl 30))),
 (kN, .o (.make 32 [.v (.int .i64 0)] 8 (sl 31) (sl 31))),
 (.r false [32], .o (.fld 33 5 (sl 6))),
 (.h (some [6, 27]) [32], .o (.store 1 (sl 33) (sl 27))),
 (kR, .o (.fld 34 6 (sl 6))),
 (kH, .o (.store 1 (sl 34) (sl 32)))])
 ((.seq (.reg [.o (.fld 35 1 (sl 2)),
 .o (.load1 36 (sl 35)),
 .o (.lenS 37 (sl 36)),
 .o (.move 7 (sl 37))])
 ((.seq (.seq (.reg [.o (.fld 38 0 (sl 2)),
 .o (.loadN 39 1 (sl 38)),
 .o (.fld 40 3 (sl 6)),
 .o (.load1 41 (sl 40)),
 .o (.call (some 42) (cf 123) [(sl 39), (sl 41)]),
 .o (.lenS 43 (sl 42)),
 .o (.move 44 (ci 0))])
 ((.block 0 (.loop (.seq (.reg [.o (.bin 45 .lss (sl 44) (sl 43))])
 ((.seq (.cond (sl 45) .skip
 (.exit 0))
 ((.seq (.block 1 (.seq (.reg [.o (.move 46 (sl 44)),
 .o (.idx 47 1 (sl 42) (sl 44)),
 .o (.load1 48 (sl 47)),
 .o (.move 8 (sl 46)),
 .o (.move 9 (sl 48))])
 ((.reg [.o (.fld 49 5 (sl 6)),
 .o (.load1 50 (sl 49)),
 .o (.move 51 (sl 9)),
 .o (.move 52 (sl 8)),
 .o (.move 53 (sl 7)),
 .o (.bin 54 .mul (sl 52) (sl 53)),
 .o (.idx 55 1 (sl 50) (sl 51)),
 .o (.store 1 (sl 55) (sl 54))]))))
 ((.reg [.o (.bin 56 .add (sl 44) (ci 1)),
 .o (.move 44 (sl 56))])))))))))))
 ((.seq (.seq (.reg [.o (.fld 57 0 (sl 2)),
 .o (.loadN 58 1 (sl 57)),
 .o (.fld 59 0 (sl 3)),
 .o (.load1 60 (sl 59)),
 .o (.call (some 61) (cf 123) [(sl 58), (sl 60)]),
 .o (.lenS 62 (sl 61)),
 .o (.move 63 (ci 0))])
 ((.block 2 (.loop (.seq (.reg [.o (.bin 64 .lss (sl 63) (sl 62))])
 ((.seq (.cond (sl 64) .skip
 (.exit 2))
 ((.seq (.block 3 (.seq (.reg [.o (.move 65 (sl 63)),
 .o (.idx 66 1 (sl 61) (sl 63)),
 .o (.load1 67 (sl 66)),
 .o (.move 10 (sl 65)),
 .o (.move 11 (sl 67))])
 ((.reg [.o (.fld 68 6 (sl 6)),
 .o (.load1 69 (sl 68)),
 .o (.move 70 (sl 11)),
 .o (.move 71 (sl 10)),
 .o (.move 72 (sl 7)),
 .o (.bin 73 .mul (sl 71) (sl 72)),
 .o (.idx 74 1 (sl 69) (sl 70)),
 .o (.store 1 (sl 74) (sl 73))]))))
 ((.reg [.o (.bin 75 .add (sl 63) (ci 1)),
 .o (.move 63 (sl 75))])))))))))))
 ((.seq (.draw [83, 86] [(kR, .o (.fld 76 3 (sl 6))),
 (kR, .o (.load1 77 (sl 76))),
 (kR, .o (.move 78 (sl 7))),
 (kR, .o (.fld 79 0 (sl 2))),
 (kR, .o (.loadN 80 1 (sl 79))),
 (kR, .o (.fld 81 3 (sl 6))),
 (kR, .o (.load1 82 (sl 81))),
 (.c false [], .o (.call (some 83) (cf 123) [(sl 80), (sl 82)])),
 (kR, .o (.lenS 84 (sl 83))),
 (kR, .o (.bin 85 .mul (sl 78) (sl 84))),
 (kN, .o (.make 86 [.v (.slice none 0 0)] 24 (sl 85) (sl 85))),
 (kR, .o (.build 87 [.v (.int .i64 0), .v (.slice none 0 0)] [(0, 1), (1, 1)] [(0, (sl 77)), (1, (sl 86))])),
 (kR, .o (.fld 88 8 (sl 6))),
 (kH, .o (.store 2 (sl 88) (sl 87)))])
 ((.seq (.reg [.o (.move 12 (ci 0))])
 ((.seq (.seq (.reg [.o (.move 89 (sl 7)),
 .o (.move 90 (ci 0))])
 ((.block 4 (.loop (.seq (.reg [.o (.bin 91 .lss (sl 90) (sl 89))])
 ((.seq (.cond (sl 91) .skip
 (.exit 4))
 ((.seq (.block 5 (.seq (.reg [.o (.move 92 (sl 90)),
 .o (.move 13 (sl 92))])
 ((.seq (.reg [.o (.move 93 (sl 13)),
 .o (.fld 94 4 (sl 6)),
 .o (.store 1 (sl 94) (sl 93))])
 ((.seq (.reg [.o (.move 95 (sl 7)),
 .o (.make 96 [.v (.int .i64 0)] 8 (sl 95) (sl 95)),
 .o (.move 14 (sl 96))])
 ((.seq (.seq (.reg [.o (.move 97 (sl 14)),
 .o (.lenS 98 (sl 97)),
 .o (.move 99 (ci 0))])
 ((.block 6 (.loop (.seq (.reg [.o (.bin 100 .lss (sl 99) (sl 98))])
 ((.seq (.cond (sl 100) .skip
 (.exit 6))
 ((.seq (.block 7 (.seq (.reg [.o (.move 101 (sl 99)),
 .o (.move 15 (sl 101))])
 ((.seq (.reg [.o (.fld 102 3 (sl 6)),
 .o (.load1 103 (sl 102)),
 .o (.bin 104 .eql (sl 103) (ci 0))])
 ((.cond (sl 104) (.reg [.o (.move 105 (sl 14)),
 .o (.move 106 (sl 15)),
 .o (.fld 107 1 (sl 2)),
 .o (.load1 108 (sl 107)),
 .o (.move 109 (sl 13)),
 .o (.idx 110 1 (sl 108) (sl 109)),
 .o (.load1 111 (sl 110)),
 .o (.move 112 (sl 15)),
 .o (.idx 113 1 (sl 111) (sl 112)),
 .o (.load1 114 (sl 113)),
 .o (.idx 115 1 (sl 105) (sl 106)),
 .o (.store 1 (sl 115) (sl 114))])
 (.reg [.o (.move 116 (sl 14)),
 .o (.move 117 (sl 15)),
 .o (.fld 118 1 (sl 2)),
 .o (.load1 119 (sl 118)),
 .o (.move 120 (sl 15)),
 .o (.idx 121 1 (sl 119) (sl 120)),
 .o (.load1 122 (sl 121)),
 .o (.move 123 (sl 13)),
 .o (.idx 124 1 (sl 122) (sl 123)),
 .o (.load1 125 (sl 124)),
 .o (.idx 126 1 (sl 116) (sl 117)),
 .o (.store 1 (sl 126) (sl 125))])))))))
 ((.reg [.o (.bin 127 .add (sl 99) (ci 1)),
 .o (.move 99 (sl 127))])))))))))))
 ((.weak (.reg [.o (.move 128 (sl 12)),
 .o (.move 129 (sl 14)),
 .o (.fld 130 0 (sl 2)),
 .o (.loadN 131 1 (sl 130)),
 .o (.call (some 132) (cf 125) [(sl 131), (ci 0)]),
 .o (.call (some 133) (cf 124) [(sl 6), (ci 0), (sl 129), (sl 132)]),
 .o (.bin 134 .add (sl 128) (sl 133)),
 .o (.move 12 (sl 134))])))))))))))
 ((.reg [.o (.bin 135 .add (sl 90) (ci 1)),
 .o (.move 90 (sl 135))])))))))))))
 ((.seq (.weak (.draw [] [(kR, .o (.move 136 (sl 12))),
 (kR, .o (.fld 137 8 (sl 6))),
 (kR, .o (.loadN 138 2 (sl 137))),
 (kR, .o (.move 4 (sl 136))),
 (kH, .o (.store 2 (sl 5) (sl 138)))]))
 (.ret))))))))))))))))))))
theorem fun_impl_bestAgainst_h {rin : List T} {args : List A} {Q : List T → T → Prop} (ha : args.length ≤ 139) (h : cW Try.prog 139 c_impl_bestAgainst_h (retP Try.prog [.tmp 4, .cell 5 40] rin.length Q) (St.of (enum 0 args) (enum 1000000000 rin))) :
    Fun Try.prog 76 rin args Q :=
  Fun.of (H := ⟨[], [28, 30]⟩) Try.func76 rfl rfl rfl (by kernel_rfl) ha (by decide) h

def c_spec_l24Visit_h : CC :=
 (.seq (.reg [.o (.move 10 (ci 0))])
 ((.seq (.reg [.o (.move 26 (sl 0)),
 .o (.nilc 27 (sl 26)),
 .o (.fld 28 0 (sl 27)),
 .o (.fld 29 0 (sl 28)),
 .o (.fld 30 0 (sl 29)),
 .o (.load1 31 (sl 30)),
 .o (.move 32 (sl 1)),
 .o (.idx 33 5 (sl 31) (sl 32)),
 .o (.loadN 34 5 (sl 33)),
 .o (.alloc 11 [.v (.int .i64 0), .v (.int .i64 0), .v (.int .i64 0), .v (.int .i64 0), .v (.slice none 0 0)]),
 .o (.store 5 (sl 11) (sl 34))])
 ((.seq (.seq (.reg [.o (.fld 35 0 (sl 11)),
 .o (.load1 36 (sl 35))])
 ((.block 0 (.seq (.reg [.o (.bin 38 .eql (sl 36) (ci 2)),
 .o (.move 37 (sl 38))])
 ((.cond (sl 37) (.seq (.reg [.o (.move 12 (ci 0))])
 ((.seq (.seq (.reg [.o (.move 13 (ci 0))])
 ((.block 1 (.loop (.seq (.seq (.reg [.o (.move 39 (sl 13)),
 .o (.move 40 (sl 3)),
 .o (.lenS 41 (sl 40)),
 .o (.bin 42 .lss (sl 39) (sl 41))])
 ((.cond (sl 42) .skip
 (.exit 1))))
 ((.seq (.block 2 (.seq (.reg [.o (.move 46 (sl 0)),
 .o (.move 47 (sl 2)),
 .o (.move 48 (sl 13)),
 .o (.call (some 49) (cf 115) [(sl 46), (sl 47), (sl 48)]),
 .o (.move 45 (sl 49)),
 .o (.extract 50 (sl 45) 0),
 .o (.extract 51 (sl 45) 1),
 .o (.move 14 (sl 50)),
 .o (.move 15 (sl 51))])
 ((.seq (.reg [.o (.move 52 (sl 0)),
 .o (.nilc 53 (sl 52)),
 .o (.fld 54 0 (sl 53)),
 .o (.loadN 55 3 (sl 54)),
 .o (.move 56 (sl 1)),
 .o (.move 57 (sl 14)),
 .o (.move 58 (sl 15)),
 .o (.call (some 59) (cf 154) [(sl 55), (sl 56), (sl 57), (sl 58)]),
 .o (.move 16 (sl 59))])
 ((.seq (.seq (.reg [.o (.move 60 (sl 0)),
 .o (.nilc 61 (sl 60)),
 .o (.fld 62 3 (sl 61)),
 .o (.load1 63 (sl 62)),
 .o (.bin 64 .eql (sl 63) (ci 1))])
 ((.cond (sl 64) (.reg [.o (.move 65 (sl 16)),
 .o (.un 66 .neg (sl 65)),
 .o (.move 16 (sl 66))])
 .skip)))
 ((.draw [] [(kR, .o (.move 67 (sl 12))),
 (kR, .o (.move 68 (sl 3))),
 (kR, .o (.move 69 (sl 13))),
 (kR, .o (.idx 70 1 (sl 68) (sl 69))),
 (kR, .o (.load1 71 (sl 70))),
 (kR, .o (.move 72 (sl 16))),
 (kR, .o (.bin 73 .mul (sl 71) (sl 72))),
 (kR, .o (.move 74 (sl 4))),
 (kR, .o (.call (some 75) (cf 119) [(sl 74)])),
 (kR, .o (.bin 76 .mul (sl 73) (sl 75))),
 (kR, .o (.bin 77 .add (sl 67) (sl 76))),
 (kR, .o (.move 12 (sl 77)))]))))))))
 ((.reg [.o (.move 43 (sl 13)),
 .o (.bin 44 .add (sl 43) (ci 1)),
 .o (.move 13 (sl 44))])))))))))
 ((.seq (.reg [.o (.move 78 (sl 12)),
 .o (.move 10 (sl 78))])
 (.ret))))))
 (.seq (.reg [.o (.move 80 (sl 0)),
 .o (.nilc 81 (sl 80)),
 .o (.fld 82 3 (sl 81)),
 .o (.load1 83 (sl 82)),
 .o (.bin 84 .eql (sl 36) (sl 83)),
 .o (.move 79 (sl 84))])
 ((.cond (sl 79) (.seq (.reg [.o (.move 17 (ci 0)),
 .o (.move 18 (ci 0))])
 ((.seq (.seq (.reg [.o (.move 19 (ci 0))])
 ((.block 3 (.loop (.seq (.seq (.reg [.o (.move 85 (sl 19)),
 .o (.fld 86 4 (sl 11)),
 .o (.load1 87 (sl 86)),
 .o (.lenS 88 (sl 87)),
 .o (.bin 89 .lss (sl 85) (sl 88))])
 ((.cond (sl 89) .skip
 (.exit 3))))
 ((.seq (.block 4 (.seq (.reg [.o (.move 92 (sl 0)),
 .o (.fld 93 4 (sl 11)),
 .o (.load1 94 (sl 93)),
 .o (.move 95 (sl 19)),
 .o (.idx 96 1 (sl 94) (sl 95)),
 .o (.load1 97 (sl 96)),
 .o (.move 98 (sl 2)),
 .o (.move 99 (sl 3)),
 .o (.move 100 (sl 4)),
 .o (.call (some 101) (cf 116) [(sl 92), (sl 97), (sl 98), (sl 99), (sl 100)]),
 .o (.move 20 (sl 101))])
 ((.seq (.reg [.o (.move 102 (sl 19)),
 .o (.bin 103 .eql (sl 102) (ci 0)),
 .o (.move 104 (sl 103)),
 .g 104 false (some 105) (.move 105 (sl 20)),
 .g 104 false (some 106) (.move 106 (sl 18)),
 .g 104 false (some 107) (.bin 107 .gtr (sl 105) (sl 106)),
 .o (.pick 108 (sl 104) (cb true) (sl 107))])
 ((.cond (sl 108) (.reg [.o (.move 109 (sl 19)),
 .o (.move 110 (sl 20)),
 .o (.move 17 (sl 109)),
 .o (.move 18 (sl 110))])
 .skip))))))
 ((.reg [.o (.move 90 (sl 19)),
 .o (.bin 91 .add (sl 90) (ci 1)),
 .o (.move 19 (sl 91))])))))))))
 ((.seq (.reg [.o (.fld 111 4 (sl 11)),
 .o (.load1 112 (sl 111)),
 .o (.lenS 113 (sl 112)),
 .o (.make 114 [.v (.int .i64 0)] 8 (sl 113) (sl 113)),
 .o (.move 21 (sl 114))])
 ((.seq (.reg [.o (.move 115 (sl 21)),
 .o (.move 116 (sl 17)),
 .o (.idx 117 1 (sl 115) (sl 116)),
 .o (.store 1 (sl 117) (ci 60))])
 ((.seq (.weak (.draw [] [(kR, .o (.move 118 (sl 0))),
 (kR, .o (.nilc 119 (sl 118))),
 (kR, .o (.fld 120 6 (sl 119))),
 (kR, .o (.load1 121 (sl 120))),
 (kR, .o (.move 122 (sl 0))),
 (kR, .o (.nilc 123 (sl 122))),
 (kR, .o (.fld 124 0 (sl 123))),
 (kR, .o (.loadN 125 3 (sl 124))),
 (kR, .o (.move 126 (sl 0))),
 (kR, .o (.nilc 127 (sl 126))),
 (kR, .o (.fld 128 3 (sl 127))),
 (kR, .o (.load1 129 (sl 128))),
 (kR, .o (.move 130 (sl 1))),
 (kR, .o (.move 131 (sl 2))),
 (kR, .o (.call (some 132) (cf 155) [(sl 125), (sl 129), (sl 130), (sl 131)])),
 (kR, .o (.move 133 (sl 21))),
 (kR, .o (.idx 134 1 (sl 121) (sl 132))),
 (kH, .o (.store 1 (sl 134) (sl 133)))]))
 ((.seq (.weak (.reg [.o (.move 135 (sl 18)),
 .o (.move 10 (sl 135))]))
 (.ret))))))))))))
 .skip)))))))))
 ((.seq (.reg [.o (.move 22 (ci 0))])
 ((.seq (.seq (.reg [.o (.move 23 (ci 0))])
 ((.block 5 (.loop (.seq (.seq (.reg [.o (.move 136 (sl 23)),
 .o (.fld 137 4 (sl 11)),
 .o (.load1 138 (sl 137)),
 .o (.lenS 139 (sl 138)),
 .o (.bin 140 .lss (sl 136) (sl 139))])
 ((.cond (sl 140) .skip
 (.exit 5))))
 ((.seq (.block 6 (.seq (.reg [.o (.bslice 143 1 0 []),
 .o (.move 24 (sl 143))])
 ((.seq (.seq (.reg [.o (.move 25 (ci 0))])
 ((.block 7 (.loop (.seq (.seq (.reg [.o (.move 144 (sl 25)),
 .o (.move 145 (sl 3)),
 .o (.lenS 146 (sl 145)),
 .o (.bin 147 .lss (sl 144) (sl 146))])
 ((.cond (sl 147) .skip
 (.exit 7))))
 ((.seq (.block 8 (.draw [178] [(kR, .o (.move 150 (sl 24))),
 (kR, .o (.move 151 (sl 3))),
 (kR, .o (.move 152 (sl 25))),
 (kR, .o (.idx 153 1 (sl 151) (sl 152))),
 (kR, .o (.load1 154 (sl 153))),
 (kR, .o (.move 155 (sl 0))),
 (kR, .o (.nilc 156 (sl 155))),
 (kR, .o (.fld 157 4 (sl 156))),
 (kR, .o (.fld 158 1 (sl 157))),
 (kR, .o (.load1 159 (sl 158))),
 (kR, .o (.move 160 (sl 0))),
 (kR, .o (.nilc 161 (sl 160))),
 (kR, .o (.fld 162 0 (sl 161))),
 (kR, .o (.loadN 163 3 (sl 162))),
 (kR, .o (.move 164 (sl 0))),
 (kR, .o (.nilc 165 (sl 164))),
 (kR, .o (.fld 166 3 (sl 165))),
 (kR, .o (.load1 167 (sl 166))),
 (kR, .o (.bin 168 .sub (ci 1) (sl 167))),
 (kR, .o (.move 169 (sl 1))),
 (kR, .o (.move 170 (sl 25))),
 (kR, .o (.call (some 171) (cf 155) [(sl 163), (sl 168), (sl 169), (sl 170)])),
 (kR, .o (.idx 172 1 (sl 159) (sl 171))),
 (kR, .o (.load1 173 (sl 172))),
 (kR, .o (.move 174 (sl 23))),
 (kR, .o (.idx 175 1 (sl 173) (sl 174))),
 (kR, .o (.load1 176 (sl 175))),
 (kR, .o (.bin 177 .mul (sl 154) (sl 176))),
 (kN, .o (.bslice 178 1 1 [(0, (sl 177))])),
 (kH, .o (.app 179 1 8 (sl 150) (sl 178))),
 (kR, .o (.move 24 (sl 179)))]))
 ((.reg [.o (.move 148 (sl 25)),
 .o (.bin 149 .add (sl 148) (ci 1)),
 .o (.move 25 (sl 149))])))))))))
 ((.weak (.reg [.o (.move 180 (sl 22)),
 .o (.move 181 (sl 0)),
 .o (.fld 182 4 (sl 11)),
 .o (.load1 183 (sl 182)),
 .o (.move 184 (sl 23)),
 .o (.idx 185 1 (sl 183) (sl 184)),
 .o (.load1 186 (sl 185)),
 .o (.move 187 (sl 2)),
 .o (.move 188 (sl 24)),
 .o (.move 189 (sl 4)),
 .o (.bin 190 .sub (sl 189) (ci 1)),
 .o (.call (some 191) (cf 116) [(sl 181), (sl 186), (sl 187), (sl 188), (sl 190)]),
 .o (.bin 192 .add (sl 180) (sl 191)),
 .o (.move 22 (sl 192))])))))))
 ((.reg [.o (.move 141 (sl 23)),
 .o (.bin 142 .add (sl 141) (ci 1)),
 .o (.move 23 (sl 142))])))))))))
 ((.seq (.reg [.o (.move 193 (sl 22)),
 .o (.move 10 (sl 193))])
 (.ret))))))))))))
theorem fun_spec_l24Visit_h {rin : List T} {args : List A} {Q : List T → T → Prop} (ha : args.length ≤ 194) (h : cW Try.prog 194 c_spec_l24Visit_h (retP Try.prog [.tmp 10] rin.length Q) (St.of (enum 0 args) (enum 1000000000 rin))) :
    Fun Try.prog 116 rin args Q :=
  Fun.of (H := ⟨[], [25, 35]⟩) Try.func116 rfl rfl rfl (by kernel_rfl) ha (by decide) h

def c___impl_responder__respond_h : CC :=
 (.seq (.reg [.o (.move 8 (ci 0))])
 ((.seq (.reg [.o (.move 25 (sl 0)),
 .o (.nilc 26 (sl 25)),
 .o (.fld 27 0 (sl 26)),
 .o (.fld 28 0 (sl 27)),
 .o (.fld 29 0 (sl 28)),
 .o (.load1 30 (sl 29)),
 .o (.move 31 (sl 1)),
 .o (.idx 32 5 (sl 30) (sl 31)),
 .o (.loadN 33 5 (sl 32)),
 .o (.alloc 9 [.v (.int .i64 0), .v (.int .i64 0), .v (.int .i64 0), .v (.int .i64 0), .v (.slice none 0 0)]),
 .o (.store 5 (sl 9) (sl 33))])
 ((.seq (.seq (.reg [.o (.fld 34 0 (sl 9)),
 .o (.load1 35 (sl 34))])
 ((.block 0 (.seq (.reg [.o (.bin 37 .eql (sl 35) (ci 2)),
 .o (.move 36 (sl 37))])
 ((.cond (sl 36) (.seq (.reg [.o (.move 10 (ci 0))])
 ((.seq (.seq (.reg [.o (.move 38 (sl 2)),
 .o (.lenS 39 (sl 38)),
 .o (.move 40 (ci 0))])
 ((.block 1 (.loop (.seq (.reg [.o (.bin 41 .lss (sl 40) (sl 39))])
 ((.seq (.cond (sl 41) .skip
 (.exit 1))
 ((.seq (.block 2 (.seq (.reg [.o (.move 42 (sl 40)),
 .o (.idx 43 1 (sl 38) (sl 40)),
 .o (.load1 44 (sl 43)),
 .o (.move 11 (sl 42)),
 .o (.move 12 (sl 44))])
 ((.seq (.reg [.o (.move 45 (sl 0)),
 .o (.nilc 46 (sl 45)),
 .o (.fld 47 3 (sl 46)),
 .o (.load1 48 (sl 47)),
 .o (.bin 49 .eql (sl 48) (ci 0))])
 ((.cond (sl 49) (.draw [] [(kR, .o (.move 50 (sl 10))),
 (kR, .o (.move 51 (sl 12))),
 (kR, .o (.move 52 (sl 0))),
 (kR, .o (.nilc 53 (sl 52))),
 (kR, .o (.fld 54 0 (sl 53))),
 (kR, .o (.loadN 55 3 (sl 54))),
 (kR, .o (.move 56 (sl 1))),
 (kR, .o (.move 57 (sl 0))),
 (kR, .o (.nilc 58 (sl 57))),
 (kR, .o (.fld 59 4 (sl 58))),
 (kR, .o (.load1 60 (sl 59))),
 (kR, .o (.move 61 (sl 11))),
 (kR, .o (.call (some 62) (cf 158) [(sl 55), (sl 56), (sl 60), (sl 61)])),
 (kR, .o (.bin 63 .mul (sl 51) (sl 62))),
 (kR, .o (.bin 64 .add (sl 50) (sl 63))),
 (kR, .o (.move 10 (sl 64)))])
 (.draw [] [(kR, .o (.move 65 (sl 10))),
 (kR, .o (.move 66 (sl 12))),
 (kR, .o (.move 67 (sl 0))),
 (kR, .o (.nilc 68 (sl 67))),
 (kR, .o (.fld 69 0 (sl 68))),
 (kR, .o (.loadN 70 3 (sl 69))),
 (kR, .o (.move 71 (sl 1))),
 (kR, .o (.move 72 (sl 11))),
 (kR, .o (.move 73 (sl 0))),
 (kR, .o (.nilc 74 (sl 73))),
 (kR, .o (.fld 75 4 (sl 74))),
 (kR, .o (.load1 76 (sl 75))),
 (kR, .o (.call (some 77) (cf 158) [(sl 70), (sl 71), (sl 72), (sl 76)])),
 (kR, .o (.bin 78 .mul (sl 66) (sl 77))),
 (kR, .o (.bin 79 .sub (sl 65) (sl 78))),
 (kR, .o (.move 10 (sl 79)))])))))))
 ((.reg [.o (.bin 80 .add (sl 40) (ci 1)),
 .o (.move 40 (sl 80))])))))))))))
 ((.seq (.reg [.o (.move 81 (sl 10)),
 .o (.move 82 (sl 3)),
 .o (.call (some 83) (cf 127) [(ci 60), (sl 82)]),
 .o (.bin 84 .mul (sl 81) (sl 83)),
 .o (.move 8 (sl 84))])
 (.ret))))))
 (.seq (.reg [.o (.move 86 (sl 0)),
 .o (.nilc 87 (sl 86)),
 .o (.fld 88 3 (sl 87)),
 .o (.load1 89 (sl 88)),
 .o (.bin 90 .eql (sl 35) (sl 89)),
 .o (.move 85 (sl 90))])
 ((.cond (sl 85) (.seq (.reg [.o (.move 13 (ci 0)),
 .o (.move 14 (ci 0))])
 ((.seq (.seq (.reg [.o (.fld 91 4 (sl 9)),
 .o (.load1 92 (sl 91)),
 .o (.lenS 93 (sl 92)),
 .o (.move 94 (ci 0))])
 ((.block 3 (.loop (.seq (.reg [.o (.bin 95 .lss (sl 94) (sl 93))])
 ((.seq (.cond (sl 95) .skip
 (.exit 3))
 ((.seq (.block 4 (.seq (.reg [.o (.move 96 (sl 94)),
 .o (.idx 97 1 (sl 92) (sl 94)),
 .o (.load1 98 (sl 97)),
 .o (.move 15 (sl 96)),
 .o (.move 16 (sl 98))])
 ((.seq (.reg [.o (.move 99 (sl 0)),
 .o (.move 100 (sl 16)),
 .o (.move 101 (sl 2)),
 .o (.move 102 (sl 3)),
 .o (.bin 103 .sub (sl 102) (ci 1)),
 .o (.call (some 104) (cf 124) [(sl 99), (sl 100), (sl 101), (sl 103)]),
 .o (.move 17 (sl 104))])
 ((.seq (.reg [.o (.move 105 (sl 15)),
 .o (.bin 106 .eql (sl 105) (ci 0)),
 .o (.move 107 (sl 106)),
 .g 107 false (some 108) (.move 108 (sl 17)),
 .g 107 false (some 109) (.move 109 (sl 14)),
 .g 107 false (some 110) (.bin 110 .gtr (sl 108) (sl 109)),
 .o (.pick 111 (sl 107) (cb true) (sl 110))])
 ((.cond (sl 111) (.reg [.o (.move 112 (sl 15)),
 .o (.move 113 (sl 17)),
 .o (.move 13 (sl 112)),
 .o (.move 14 (sl 113))])
 .skip))))))))
 ((.reg [.o (.bin 114 .add (sl 94) (ci 1)),
 .o (.move 94 (sl 114))])))))))))))
 ((.seq (.reg [.o (.fld 115 4 (sl 9)),
 .o (.load1 116 (sl 115)),
 .o (.lenS 117 (sl 116)),
 .o (.make 118 [.v (.int .i64 0)] 8 (sl 117) (sl 117)),
 .o (.move 18 (sl 118))])
 ((.seq (.reg [.o (.move 119 (sl 18)),
 .o (.move 120 (sl 13)),
 .o (.idx 121 1 (sl 119) (sl 120)),
 .o (.store 1 (sl 121) (ci 60))])
 ((.seq (.weak (.draw [] [(kR, .o (.move 122 (sl 0))),
 (kR, .o (.nilc 123 (sl 122))),
 (kR, .o (.fld 124 8 (sl 123))),
 (kR, .o (.fld 125 1 (sl 124))),
 (kR, .o (.load1 126 (sl 125))),
 (kR, .o (.move 127 (sl 0))),
 (kR, .o (.nilc 128 (sl 127))),
 (kR, .o (.fld 129 5 (sl 128))),
 (kR, .o (.load1 130 (sl 129))),
 (kR, .o (.move 131 (sl 1))),
 (kR, .o (.idx 132 1 (sl 130) (sl 131))),
 (kR, .o (.load1 133 (sl 132))),
 (kR, .o (.move 134 (sl 0))),
 (kR, .o (.nilc 135 (sl 134))),
 (kR, .o (.fld 136 4 (sl 135))),
 (kR, .o (.load1 137 (sl 136))),
 (kR, .o (.bin 138 .add (sl 133) (sl 137))),
 (kR, .o (.move 139 (sl 18))),
 (kR, .o (.idx 140 1 (sl 126) (sl 138))),
 (kH, .o (.store 1 (sl 140) (sl 139)))]))
 ((.seq (.weak (.reg [.o (.move 141 (sl 14)),
 .o (.bin 142 .mul (sl 141) (ci 60)),
 .o (.move 8 (sl 142))]))
 (.ret))))))))))))
 .skip)))))))))
 ((.seq (.reg [.o (.move 19 (ci 0))])
 ((.seq (.seq (.reg [.o (.fld 143 4 (sl 9)),
 .o (.load1 144 (sl 143)),
 .o (.lenS 145 (sl 144)),
 .o (.move 146 (ci 0))])
 ((.block 5 (.loop (.seq (.reg [.o (.bin 147 .lss (sl 146) (sl 145))])
 ((.seq (.cond (sl 147) .skip
 (.exit 5))
 ((.seq (.block 6 (.seq (.reg [.o (.move 148 (sl 146)),
 .o (.idx 149 1 (sl 144) (sl 146)),
 .o (.load1 150 (sl 149)),
 .o (.move 20 (sl 148)),
 .o (.move 21 (sl 150))])
 ((.seq (.reg [.o (.move 151 (sl 2)),
 .o (.lenS 152 (sl 151)),
 .o (.make 153 [.v (.int .i64 0)] 8 (sl 152) (sl 152)),
 .o (.move 22 (sl 153))])
 ((.seq (.seq (.reg [.o (.move 154 (sl 2)),
 .o (.lenS 155 (sl 154)),
 .o (.move 156 (ci 0))])
 ((.block 7 (.loop (.seq (.reg [.o (.bin 157 .lss (sl 156) (sl 155))])
 ((.seq (.cond (sl 157) .skip
 (.exit 7))
 ((.seq (.block 8 (.seq (.reg [.o (.move 158 (sl 156)),
 .o (.idx 159 1 (sl 154) (sl 156)),
 .o (.load1 160 (sl 159)),
 .o (.move 23 (sl 158)),
 .o (.move 24 (sl 160))])
 ((.draw [] [(kR, .o (.move 161 (sl 22))),
 (kR, .o (.move 162 (sl 23))),
 (kR, .o (.move 163 (sl 24))),
 (kR, .o (.move 164 (sl 0))),
 (kR, .o (.nilc 165 (sl 164))),
 (kR, .o (.fld 166 7 (sl 165))),
 (kR, .o (.load1 167 (sl 166))),
 (kR, .o (.move 168 (sl 0))),
 (kR, .o (.nilc 169 (sl 168))),
 (kR, .o (.fld 170 6 (sl 169))),
 (kR, .o (.load1 171 (sl 170))),
 (kR, .o (.move 172 (sl 1))),
 (kR, .o (.idx 173 1 (sl 171) (sl 172))),
 (kR, .o (.load1 174 (sl 173))),
 (kR, .o (.move 175 (sl 23))),
 (kR, .o (.bin 176 .add (sl 174) (sl 175))),
 (kR, .o (.idx 177 1 (sl 167) (sl 176))),
 (kR, .o (.load1 178 (sl 177))),
 (kR, .o (.move 179 (sl 20))),
 (kR, .o (.idx 180 1 (sl 178) (sl 179))),
 (kR, .o (.load1 181 (sl 180))),
 (kR, .o (.bin 182 .mul (sl 163) (sl 181))),
 (kR, .o (.idx 183 1 (sl 161) (sl 162))),
 (kH, .o (.store 1 (sl 183) (sl 182)))]))))
 ((.reg [.o (.bin 184 .add (sl 156) (ci 1)),
 .o (.move 156 (sl 184))])))))))))))
 ((.weak (.reg [.o (.move 185 (sl 19)),
 .o (.move 186 (sl 0)),
 .o (.move 187 (sl 21)),
 .o (.move 188 (sl 22)),
 .o (.move 189 (sl 3)),
 .o (.bin 190 .sub (sl 189) (ci 1)),
 .o (.call (some 191) (cf 124) [(sl 186), (sl 187), (sl 188), (sl 190)]),
 .o (.bin 192 .add (sl 185) (sl 191)),
 .o (.move 19 (sl 192))])))))))))
 ((.reg [.o (.bin 193 .add (sl 146) (ci 1)),
 .o (.move 146 (sl 193))])))))))))))
 ((.seq (.reg [.o (.move 194 (sl 19)),
 .o (.move 8 (sl 194))])
 (.ret))))))))))))
theorem fun___impl_responder__respond_h {rin : List T} {args : List A} {Q : List T → T → Prop} (ha : args.length ≤ 195) (h : cW Try.prog 195 c___impl_responder__respond_h (retP Try.prog [.tmp 8] rin.length Q) (St.of (enum 0 args) (enum 1000000000 rin))) :
    Fun Try.prog 124 rin args Q :=
  Fun.of (H := ⟨[], [24, 25, 36]⟩) Try.func124 rfl rfl rfl (by kernel_rfl) ha (by decide) h

end Go.Ab

/- Contracts: best responses, the reference's. -/
set_option linter.unusedSimpArgs false
set_option linter.unusedVariables false
namespace Go.Ab
open Go.Proofs

/-- The search of the reference: game, player, the other's strategy, the lists found. -/
def srch (g : Gm) (ot : List (List Int)) (pl : Int) (B : List (List Int)) : T := .box [nodes g.nd, rows g.w, rows g.v, .i pl, .i (1 - pl), rows ot, rowsO B]
/-- The first and the second of the cards of the players 0 and 1. -/
def fstC (pl a b : Int) : Int := if pl = 0 then a else b
/-- What a value must keep to: the sum of the reach times the power. -/
def capOK (reach : List Int) (p : Nat) : Prop := sumI reach * pw p ≤ 41990400000
def capV : Int := 4199040000000
theorem sumI_mem_le : ∀ {l : List Int}, (∀ x ∈ l, 0 ≤ x) → ∀ x ∈ l, x ≤ sumI l
  | [], _, x, h => by simp at h
  | y :: l, h0, x, h => by
    have h1 := sumI_nonneg (l := l) fun z hz => h0 z (by simp [hz])
    have h2 := h0 y (by simp)
    rw [sumI]
    rcases List.mem_cons.1 h with rfl | h
    · omega
    · have := sumI_mem_le (l := l) (fun z hz => h0 z (by simp [hz])) x h; omega
/-- The payoff of the player 0, by the cards of the player pl and of the other one. -/
def payF (g : Gm) (pl : Int) (i own c : Nat) : Int := if pl = 0 then pay g i own c else pay g i c own
theorem payP_F (g : Gm) (pl : Int) (i own c : Nat) : payP g pl i own c = if pl = 0 then payF g pl i own c else -payF g pl i own c := by
  unfold payP payF; split <;> rfl
theorem reach_pos {reach : List Int} (h0 : ∀ x ∈ reach, 0 ≤ x) (c : Nat) : 0 ≤ reach.getD c 0 ∧ reach.getD c 0 ≤ sumI reach := by
  rw [List.getD_eq_getElem?_getD]
  cases h : reach[c]? with
  | none => exact ⟨by simp, by simpa using sumI_nonneg h0⟩
  | some y => exact ⟨h0 y (List.mem_of_getElem? h), sumI_mem_le h0 y (List.mem_of_getElem? h)⟩
theorem term_abs {reach : List Int} {p : Nat} (h0 : ∀ x ∈ reach, 0 ≤ x) (hc : capOK reach p) {c : Nat} {y : Int} (h1 : -100 ≤ y) (h2 : y ≤ 100) : (-capV ≤ reach.getD c 0 * y * pw p ∧ reach.getD c 0 * y * pw p ≤ capV) ∧ (-4199040000000 ≤ reach.getD c 0 * y ∧ reach.getD c 0 * y ≤ 4199040000000) := by
  obtain ⟨r1, r2⟩ := reach_pos h0 c
  have hp := pw_pos p
  obtain ⟨m1, m2⟩ := mul_abs r1 h1 h2
  have k1 := Int.mul_le_mul_of_nonneg_right m1 (Int.le_of_lt hp)
  have k2 := Int.mul_le_mul_of_nonneg_right m2 (Int.le_of_lt hp)
  have k3 := Int.mul_le_mul_of_nonneg_right r2 (Int.le_of_lt hp)
  have k4 : reach.getD c 0 ≤ reach.getD c 0 * pw p := by
    have := Int.mul_le_mul_of_nonneg_left (show (1 : Int) ≤ pw p by omega) r1
    omega
  rw [Int.neg_mul, Int.mul_assoc 100] at k1
  rw [Int.mul_assoc 100] at k2
  unfold capOK at hc
  unfold capV
  refine ⟨⟨by omega, by omega⟩, by omega, by omega⟩
/-- The greatest of the first k values, 0 ahead of the first. -/
def cntA (vs : List Int) (k : Nat) : Int := if k = 0 then 0 else vs.getD (argmax.go k vs) 0
theorem go_take {vs : List Int} {k : Nat} {n : Int} (h : vs[k]? = some n) : argmax.go (k + 1) vs = (if k = 0 ∨ n > cntA vs k then k else argmax.go k vs) ∧ cntA vs (k + 1) = (if k = 0 ∨ n > cntA vs k then n else cntA vs k) := by
  have hd : vs.getD k 0 = n := by rw [List.getD_eq_getElem?_getD, h]; rfl
  unfold cntA
  rw [argmax_go_succ, hd]
  by_cases h0 : k = 0
  · subst h0; simp [hd]; rw [List.getD_eq_getElem?_getD] at hd; exact hd
  · rw [if_neg h0, if_neg h0, if_neg (by omega : ¬ k + 1 = 0)]
    by_cases h1 : vs.getD (argmax.go k vs) 0 < n
    · rw [if_pos h1, if_pos (.inr h1), if_pos (.inr h1)]; exact ⟨rfl, hd⟩
    · rw [if_neg h1, if_neg (by rintro (h | h); exact h0 h; exact h1 h), if_neg (by rintro (h | h); exact h0 h; exact h1 h)]; exact ⟨rfl, rfl⟩
theorem foldl_snoc {α β : Type} (F : β → α → β) (l : List α) (b : β) {k : Nat} {c : α} (h : l[k]? = some c) : (l.take (k + 1)).foldl F b = F ((l.take k).foldl F b) c := by
  rw [take_snoc h, List.foldl_append]; rfl
/-- The sum at an end, over the first k cards. -/
def tS (g : Gm) (pl : Int) (i own : Nat) (reach : List Int) (p k : Nat) : Int := sumI ((List.range k).map fun c => reach.getD c 0 * payP g pl i own c) * pw p
theorem tS_succ (g : Gm) (pl : Int) (i own : Nat) (reach : List Int) (p k : Nat) : tS g pl i own reach p (k + 1) = tS g pl i own reach p k + reach.getD k 0 * payP g pl i own k * pw p := by
  unfold tS
  rw [List.range_succ, List.map_append, List.map_cons, List.map_nil, sumI_snoc, Int.add_mul]
theorem tS_abs {g : Gm} {pl : Int} {i own : Nat} {reach : List Int} {p : Nat} (hp : payOK g) (h0 : ∀ x ∈ reach, 0 ≤ x) (hc : capOK reach p) : ∀ k, -(k * capV) ≤ tS g pl i own reach p k ∧ tS g pl i own reach p k ≤ k * capV
  | 0 => by simp [tS, sumI]
  | k + 1 => by
    have ih := tS_abs (pl := pl) (i := i) (own := own) hp h0 hc k
    obtain ⟨h1, h2⟩ := payP_abs hp pl i own k
    have h3 := (term_abs h0 hc (c := k) h1 h2).1
    rw [tS_succ]
    have e : ((k + 1 : Nat) : Int) * capV = k * capV + capV := by rw [Int.natCast_add, Int.add_mul]; simp
    omega
theorem capOK_next {g : Gm} {ot : List (List Int)} {pl : Int} (hot : partsOK g ot (1 - pl)) {i : Nat} {reach : List Int} (hi : i < g.nd.length) (hr : reach.length = g.w.length) (hp : (g.nd.getD i nd0).p = 1 - pl) (h0 : ∀ x ∈ reach, 0 ≤ x) {p : Nat} (hc : capOK reach (p + 1)) {k : Nat} (hk : k < (g.nd.getD i nd0).ch.length) : capOK (nextR g ot pl i reach k) p := by
  have hs := nextR_sum hot hi hr hp
  have hle : sumI (nextR g ot pl i reach k) ≤ 60 * sumI reach := by
    rw [← hs]
    refine sumI_mem_le (fun x hx => ?_) _ (List.mem_map.2 ⟨k, List.mem_range.2 hk, rfl⟩)
    obtain ⟨k', _, rfl⟩ := List.mem_map.1 hx
    exact sumI_nonneg (nextR_nonneg hot hi hr hp h0 k')
  have h1 := Int.mul_le_mul_of_nonneg_right hle (Int.le_of_lt (pw_pos p))
  unfold capOK at hc ⊢
  rw [pw_succ, ← Int.mul_assoc, Int.mul_comm (sumI reach) 60] at hc
  omega
theorem sumI_range_abs {G : Nat → Int} {c : Int} : ∀ {n : Nat}, (∀ k, k < n → -c ≤ G k ∧ G k ≤ c) → -(n * c) ≤ sumI ((List.range n).map G) ∧ sumI ((List.range n).map G) ≤ n * c
  | 0, _ => by simp [sumI]
  | n + 1, h => by
    have ih := sumI_range_abs (n := n) fun k hk => h k (by omega)
    have h1 := h n (by omega)
    rw [List.range_succ, List.map_append, List.map_cons, List.map_nil, sumI_snoc]
    have e : ((n + 1 : Nat) : Int) * c = n * c + c := by rw [Int.natCast_add, Int.add_mul]; simp
    omega
theorem bestV_cap {g : Gm} {ot : List (List Int)} {pl : Int} {own : Nat} (hnd : ndsOK g.nd) (hpl : pl = 0 ∨ pl = 1) (hot : partsOK g ot (1 - pl)) {f i : Nat} {reach : List Int} {p : Nat} (hi : i < g.nd.length) (hr : reach.length = g.w.length) (h0 : ∀ x ∈ reach, 0 ≤ x) (hd : dep g.nd f i ≤ p) (hc : capOK reach p) : -capV ≤ bestV g ot pl own f i reach p ∧ bestV g ot pl own f i reach p ≤ capV := by
  have h := bestV_abs (own := own) hnd hpl hot (payOK_of hnd) f i reach p hi hr h0 hd
  rw [Int.mul_assoc] at h
  unfold capOK at hc
  unfold capV
  omega
def nilO (r : Nat) (K : A → Prop) : Root → Prop
  | .live (.box _) _ => K (.own r)
  | _ => False
theorem nilCheckW_own {r : Nat} {S : St} {K : A → Prop} : nilCheckW (.own r) S K = nilO r K (S.roots r) := by
  show (match S.roots r with | .live (.box _) _ => K (.own r) | _ => False) = _
  cases S.roots r with
  | live t lk => cases t <;> rfl
  | _ => rfl
theorem nilCheckW_ptr {r off : Nat} {S : St} {K : A → Prop} : nilCheckW (.ptr r off) S K = K (.ptr r off) := rfl
theorem nilCheckW_pin {l : List T} {off : Nat} {S : St} {K : A → Prop} : nilCheckW (.t (.pin l off)) S K = K (.t (.pin l off)) := rfl
attribute [go_sem] nilCheckW_own nilCheckW_ptr nilCheckW_pin nilO
section
attribute [-go_sem] load1C load1V fldC lenC idxC loadNV nilCheckW
theorem spec_l24Deal_ok (g : Gm) (ot B : List (List Int)) (pl a b : Int) : Fun Try.prog 115 [srch g ot pl B] [.own 1000000000, .t (.i a), .t (.i b)] fun o r => o = [srch g ot pl B] ∧ r = .tup [.i (fstC pl a b), .i (fstC pl b a)] := by
  refine fun_spec_l24Deal (by simp) ?_
  simp -implicitDefEqProofs only [go_sem, List.reduceReplicate, Nat.reduceEqDiff, Nat.reduceAdd, Nat.reduceLeDiff, Nat.reduceMul, Nat.reduceSub, Nat.reduceDiv, Int.reduceToNat, Nat.reduceLT, Int.reduceLT, Int.reduceLE, ↓reduceIte, reduceCtorEq, forall_apply_eq_imp_iff₂, ints, rows, rat, rats, toNat_cast, c_spec_l24Deal, srch]
  refine ⟨fun h => ?_, fun h => ?_⟩
  · have h : pl = 0 := by simpa using h
    rw [fstC, fstC, if_pos h, if_pos h]
  · have h : ¬ pl = 0 := by simpa using h
    rw [fstC, fstC, if_neg h, if_neg h]
theorem l24Deal_t (g : Gm) (ot B : List (List Int)) (pl a b : Int) : Fun Try.prog 115 [.box [.sh 5 (chunk nodeC g.nd), .sh 1 (g.w.map ints), .sh 1 (g.v.map ints), .i pl, .i (1 - pl), .sh 1 (ot.map ints), rowsO B]] [.own 1000000000, .t (.i a), .t (.i b)] fun o r => o = [.box [.sh 5 (chunk nodeC g.nd), .sh 1 (g.w.map ints), .sh 1 (g.v.map ints), .i pl, .i (1 - pl), .sh 1 (ot.map ints), rowsO B]] ∧ r = .tup [.i (fstC pl a b), .i (fstC pl b a)] := spec_l24Deal_ok g ot B pl a b
theorem spec_payF {g : Gm} (hg : isGameB g = true) (pl : Int) {i own c : Nat} (hi : i < g.nd.length) (ha : own < g.w.length) (hb : c < g.w.length) : Pure Try.prog 154 [.agg [.sh 5 (chunk nodeC g.nd), .sh 1 (g.w.map ints), .sh 1 (g.v.map ints)], .i i, .i (fstC pl own c), .i (fstC pl c own)] (.i (payF g pl i own c)) := by
  unfold fstC payF
  by_cases h : pl = 0
  · rw [if_pos h, if_pos h, if_pos h]; exact spec_l21Payoff_ok g hg i own c hi ha hb
  · rw [if_neg h, if_neg h, if_neg h]; exact spec_l21Payoff_ok g hg i c own hi hb ha
theorem l23Set_t {g : Gm} (hg : isGameB g = true) {pl : Int} {i c : Nat} (hi : i < g.nd.length) (hp : (g.nd.getD i nd0).p = pl) (hc : c < g.w.length) : Pure Try.prog 155 [.agg [.sh 5 (chunk nodeC g.nd), .sh 1 (g.w.map ints), .sh 1 (g.v.map ints)], .i pl, .i i, .i c] (.i (setI g pl i c)) := spec_l23Set_ok g hg pl i c hi hp hc
set_option maxRecDepth 20000 in
theorem spec_l24Visit_ok {g : Gm} {ot : List (List Int)} {pl : Int} {own : Nat} (hg : isGameB g = true) (hpl : pl = 0 ∨ pl = 1) (hot : partsOK g ot (1 - pl)) (hown : own < g.w.length) : ∀ (f i : Nat) (reach : List Int) (p : Nat) (B : List (List Int)), g.nd.length ≤ i + f → i < g.nd.length → reach.length = g.w.length → (∀ x ∈ reach, 0 ≤ x) → dep g.nd f i ≤ p → p ≤ 5 → capOK reach p → rows4 (sets g pl).length B →
    Fun Try.prog 116 [srch g ot pl B] [.own 1000000000, .t (.i i), .t (.i own), .t (ints reach), .t (.i p)] fun o r => o = [srch g ot pl (bestB g ot pl own f i reach p B)] ∧ r = .i (bestV g ot pl own f i reach p) := by
  obtain ⟨p1, p2, p3, p4, p5⟩ := isGameB_parts hg
  obtain ⟨t1, t2, t3, t4⟩ := isTreeB_spec p1
  have hpay := payOK_of t2
  intro f
  induction f with
  | zero => intro i reach p B h1 h2; omega
  | succ f ih =>
    intro i reach p B hf hi hrl hr0 hdp hp5 hcap hBl
    obtain ⟨x, hx⟩ : ∃ x, g.nd[i]? = some x := ⟨_, List.getElem?_eq_getElem hi⟩
    have hxd : g.nd.getD i nd0 = x := by rw [List.getD_eq_getElem?_getD, hx]; rfl
    have hxl := (ndOK_fields (t2 _ _ hx)).2.2.2.2.2
    have hB2 : x.p = 2 → bestB g ot pl own (f + 1) i reach p B = B := fun h => by rw [bestB]; simp only [hxd]; rw [if_pos h]
    have hV2 : x.p = 2 → bestV g ot pl own (f + 1) i reach p = tS g pl i own reach p reach.length := fun h => by rw [bestV]; simp only [hxd]; rw [if_pos h]; rfl
    have hB1 : x.p ≠ 2 → x.p = pl → bestB g ot pl own (f + 1) i reach p B = (x.ch.foldl (fun B c => bestB g ot pl own f c.toNat reach p B) B).set (setI g pl i own) ((List.replicate x.ch.length 0).set (argmax (x.ch.map fun c => bestV g ot pl own f c.toNat reach p)) 60) := fun h h' => by rw [bestB]; simp only [hxd]; rw [if_neg h, if_pos h']
    have hV1 : x.p ≠ 2 → x.p = pl → bestV g ot pl own (f + 1) i reach p = (x.ch.map fun c => bestV g ot pl own f c.toNat reach p).getD (argmax (x.ch.map fun c => bestV g ot pl own f c.toNat reach p)) 0 := fun h h' => by rw [bestV]; simp only [hxd]; rw [if_neg h, if_pos h']
    have hB0 : x.p ≠ 2 → x.p ≠ pl → bestB g ot pl own (f + 1) i reach p B = (List.range x.ch.length).foldl (fun B k => bestB g ot pl own f (x.ch.getD k 0).toNat (nextR g ot pl i reach k) (p - 1) B) B := fun h h' => by rw [bestB]; simp only [hxd]; rw [if_neg h, if_neg h']
    have hV0 : x.p ≠ 2 → x.p ≠ pl → bestV g ot pl own (f + 1) i reach p = sumI ((List.range x.ch.length).map fun k => bestV g ot pl own f (x.ch.getD k 0).toNat (nextR g ot pl i reach k) (p - 1)) := fun h h' => by rw [bestV]; simp only [hxd]; rw [if_neg h, if_neg h']
    generalize bestB g ot pl own (f + 1) i reach p B = B' at hB2 hB1 hB0 ⊢
    generalize bestV g ot pl own (f + 1) i reach p = V' at hV2 hV1 hV0 ⊢
    refine fun_spec_l24Visit_h (by simp) ?_
    simp -implicitDefEqProofs only [go_sem, List.reduceReplicate, Nat.reduceEqDiff, Nat.reduceAdd, Nat.reduceLeDiff, Nat.reduceMul, Nat.reduceSub, Nat.reduceDiv, Int.reduceToNat, Nat.reduceLT, Int.reduceLT, Int.reduceLE, ↓reduceIte, reduceCtorEq, forall_apply_eq_imp_iff₂, ints, rows, rat, rats, toNat_cast, c_spec_l24Visit_h, srch, nodes, rows, nd_at hx]
    refine ⟨by omega, by rw [nd_len]; omega, by rw [nd_len]; omega, fun h2 => ?_, fun h2 => ?_⟩
    · have h2 : x.p = 2 := by simpa using h2
      rw [hB2 h2, hV2 h2]
      refine SemC.loopR (σ := Nat) (fun k => St.of [(0, .own 1000000000), (1, .t (.i i)), (2, .t (.i own)), (3, .t (ints reach)), (4, .t (.i p)), (12, .t (.i (tS g pl i own reach p k))), (13, .t (.i k))] [(1000000000, srch g ot pl B)]) (fun k => k ≤ reach.length) (fun k => reach.length - k) 0 (Weak.of _ _ [some 1000000000] (by simp) (by simp) ?_ ?_) (by omega) fun k hk R hn hr he => ?_
      · simp -implicitDefEqProofs only [ints, rows, Nat.reduceBEq, Int.add_zero, envOK, maA, maT, upd_apply, Nat.reduceEqDiff, ↓reduceIte, and_true, true_or, or_true, List.map_cons, List.map_nil, Nat.zero_ne_one, and_self, true_and, Int.natCast_zero, Int.cast_ofNat_Int, Int.ofNat_zero, piOf, List.zip_cons_cons, List.zip_nil_right, List.lookup_cons, List.lookup_nil, beq_self_eq_true, rootsOK, mkRoots, mkEnv, show tS g pl i own reach p 0 = 0 by simp [tS, sumI]]
      · exact ⟨⟨_, rfl, .refl _⟩, rfl, trivial⟩
      · rcases Nat.lt_or_ge k reach.length with h9 | h9
        · simp -implicitDefEqProofs only [go_sem, List.reduceReplicate, Nat.reduceEqDiff, Nat.reduceAdd, Nat.reduceLeDiff, Nat.reduceMul, Nat.reduceSub, Nat.reduceDiv, Int.reduceToNat, Nat.reduceLT, Int.reduceLT, Int.reduceLE, ↓reduceIte, reduceCtorEq, forall_apply_eq_imp_iff₂, ints, rows, rat, rats, toNat_cast, srch, nodes, rows, decide_eq_true (show (k : Int) < (reach.length : Int) by omega)]
          refine CallW.ref (l24Deal_t g ot B pl own k) [1000000000] [] rfl Try.call115 (by simp) ?_ (by simp) ?_ (.inl rfl) ?_
          · simp -implicitDefEqProofs only [rootOf_arr, rootOf_box, rootOf_any, srcsOK, updL, updS, upd_apply, Nat.reduceEqDiff, ↓reduceIte, mkRoots, and_true, ints, rows, intsO, rowsO]
          · simp -implicitDefEqProofs only [Int.natCast_zero, Int.cast_ofNat_Int, Int.natCast_one, Nat.le_refl, Nat.reduceLeDiff, Nat.sub_self, Nat.reduceSub, List.getElem?_cons_zero, List.getElem?_cons_succ, vt_self, vaL, vtL, va, vt, vb, maT, List.cons_append, List.nil_append, List.append_nil, true_or, or_true, go_sem, List.reduceReplicate, Nat.reduceEqDiff, Nat.reduceAdd, Nat.reduceLeDiff, Nat.reduceMul, Nat.reduceSub, Nat.reduceDiv, Int.reduceToNat, Nat.reduceLT, Int.reduceLT, Int.reduceLE, ↓reduceIte, reduceCtorEq, ints, rows, rat, rats, ratsO, toShL_ratC, List.mem_cons, List.mem_nil_iff, List.not_mem_nil, or_false, false_or, exists_eq_left, exists_eq_left', exists_eq_right', Root.live.injEq, eq_self_iff_true, exists_eq, and_true, T.toSh, toShL_ints, toShL_intsO, intsO, rowsO]
          simp -implicitDefEqProofs only [List.append_nil, List.cons_append, Nat.reduceLeDiff, afterCall, absT_rowsO, absT_intsO, absT, absL, updL, updS, freeAll, rid, T.noSh, T.noShL, Nat.zero_le, go_sem, List.reduceReplicate, Nat.reduceEqDiff, Nat.reduceAdd, Nat.reduceLeDiff, Nat.reduceMul, Nat.reduceSub, Nat.reduceDiv, Int.reduceToNat, Nat.reduceLT, Int.reduceLT, Int.reduceLE, ↓reduceIte, reduceCtorEq, rat, forall_apply_eq_imp_iff₂, toNat_cast]
          obtain ⟨y, hy⟩ : ∃ y, reach[k]? = some y := ⟨_, List.getElem?_eq_getElem h9⟩
          have hyd : reach.getD k 0 = y := by rw [List.getD_eq_getElem?_getD, hy]; rfl
          obtain ⟨q1, q2⟩ := payP_abs hpay pl i own k
          obtain ⟨⟨m1, m2⟩, m3, m4⟩ := term_abs hr0 hcap (c := k) q1 q2
          have m5 := tS_abs (pl := pl) (i := i) (own := own) hpay hr0 hcap k
          have m6 := tS_succ g pl i own reach p k
          have m7 : (k : Int) * capV ≤ 6 * capV := Int.mul_le_mul_of_nonneg_right (by omega) (by decide)
          have hcv : capV = 4199040000000 := rfl
          have hPF := payP_F g pl i own k
          rw [hyd] at m1 m2 m3 m4 m6
          generalize hP : payP g pl i own k = P at q1 q2 m1 m2 m3 m4 m6 hPF
          refine CallW.pure (spec_payF (c := k) hg pl hi hown (by omega)) [] rfl Try.call154 ?_ (by first | trivial | simp [T.noSh, T.noShL, rat]) rfl ?_
          · simp -implicitDefEqProofs only [Int.natCast_zero, Int.cast_ofNat_Int, Int.natCast_one, Nat.le_refl, Nat.reduceLeDiff, Nat.sub_self, Nat.reduceSub, List.getElem?_cons_zero, List.getElem?_cons_succ, vt_self, vaL, vtL, va, vt, vb, maT, List.cons_append, List.nil_append, List.append_nil, true_or, or_true, go_sem, List.reduceReplicate, Nat.reduceEqDiff, Nat.reduceAdd, Nat.reduceLeDiff, Nat.reduceMul, Nat.reduceSub, Nat.reduceDiv, Int.reduceToNat, Nat.reduceLT, Int.reduceLT, Int.reduceLE, ↓reduceIte, reduceCtorEq, ints, rows, rat, rats, ratsO, toShL_ratC, List.mem_cons, List.mem_nil_iff, List.not_mem_nil, or_false, false_or, exists_eq_left, exists_eq_left', exists_eq_right', Root.live.injEq, eq_self_iff_true, exists_eq, and_true, T.toSh, toShL_ints, toShL_intsO, intsO, rowsO]
          simp -implicitDefEqProofs only [go_sem, List.reduceReplicate, Nat.reduceEqDiff, Nat.reduceAdd, Nat.reduceLeDiff, Nat.reduceMul, Nat.reduceSub, Nat.reduceDiv, Int.reduceToNat, Nat.reduceLT, Int.reduceLT, Int.reduceLE, ↓reduceIte, reduceCtorEq, forall_apply_eq_imp_iff₂, ints, rows, rat, rats, toNat_cast, hy]
          have hw0 : pl = 1 → IntKind.i64.wrap (0 - payF g pl i own k) = P := fun h => by
            rw [if_neg (by omega)] at hPF
            rw [wrap64 (n := 0 - payF g pl i own k) (by omega) (by omega)]; omega
          have hw1 : pl ≠ 1 → payF g pl i own k = P := fun h => by
            rw [if_pos (by omega)] at hPF; exact hPF.symm
          refine ⟨fun h5 => ⟨by omega, by omega, by omega, ?_⟩, fun h5 => ⟨by omega, by omega, by omega, ?_⟩⟩
          · rw [hw0 (by simpa using h5)]
            refine CallV.pure (spec_l23Power_ok p (by omega)) [] rfl Try.call119 (fun e R' hR => ?_) (by first | trivial | simp [T.noSh, T.noShL, rat]) (fun _ => rfl) ?_
            · simp -implicitDefEqProofs only [Int.natCast_zero, Int.cast_ofNat_Int, Int.natCast_one, Nat.le_refl, Nat.reduceLeDiff, Nat.sub_self, Nat.reduceSub, List.getElem?_cons_zero, List.getElem?_cons_succ, vt_self, vaL, vtL, va, vt, vb, maT, List.cons_append, List.nil_append, List.append_nil, true_or, or_true, go_sem, List.reduceReplicate, Nat.reduceEqDiff, Nat.reduceAdd, Nat.reduceLeDiff, Nat.reduceMul, Nat.reduceSub, Nat.reduceDiv, Int.reduceToNat, Nat.reduceLT, Int.reduceLT, Int.reduceLE, ↓reduceIte, reduceCtorEq, ints, rows, rat, rats, ratsO, toShL_ratC, List.mem_cons, List.mem_nil_iff, List.not_mem_nil, or_false, false_or, exists_eq_left, exists_eq_left', exists_eq_right', Root.live.injEq, eq_self_iff_true, exists_eq, and_true, T.toSh, toShL_ints, toShL_intsO, intsO, rowsO]
            simp -implicitDefEqProofs only [go_sem, List.reduceReplicate, Nat.reduceEqDiff, Nat.reduceAdd, Nat.reduceLeDiff, Nat.reduceMul, Nat.reduceSub, Nat.reduceDiv, Int.reduceToNat, Nat.reduceLT, Int.reduceLT, Int.reduceLE, ↓reduceIte, reduceCtorEq, forall_apply_eq_imp_iff₂, ints, rows, rat, rats, toNat_cast]
            refine hn _ (k + 1) (Weak.of _ _ [some 1000000000] (by simp) (by simp) ?_ ?_) (by omega) (by omega)
            · simp -implicitDefEqProofs only [ints, rows, Nat.reduceBEq, Int.add_zero, envOK, maA, maT, upd_apply, Nat.reduceEqDiff, ↓reduceIte, and_true, true_or, or_true, List.map_cons, List.map_nil, Nat.zero_ne_one, and_self, true_and, Int.natCast_zero, Int.cast_ofNat_Int, Int.ofNat_zero, piOf, List.zip_cons_cons, List.zip_nil_right, List.lookup_cons, List.lookup_nil, beq_self_eq_true, rootsOK, mkRoots, mkEnv, srch, nodes, next64 h9 (by omega), wrap64 (n := y * P) (by omega) (by omega), wrap64 (n := y * P * pw p) (by omega) (by omega), ← m6, wrap64 (n := tS g pl i own reach p (k + 1)) (by omega) (by omega)]
            · exact ⟨⟨_, rfl, .refl _⟩, rfl, trivial⟩
          · rw [hw1 (by simpa using h5)]
            refine CallV.pure (spec_l23Power_ok p (by omega)) [] rfl Try.call119 (fun e R' hR => ?_) (by first | trivial | simp [T.noSh, T.noShL, rat]) (fun _ => rfl) ?_
            · simp -implicitDefEqProofs only [Int.natCast_zero, Int.cast_ofNat_Int, Int.natCast_one, Nat.le_refl, Nat.reduceLeDiff, Nat.sub_self, Nat.reduceSub, List.getElem?_cons_zero, List.getElem?_cons_succ, vt_self, vaL, vtL, va, vt, vb, maT, List.cons_append, List.nil_append, List.append_nil, true_or, or_true, go_sem, List.reduceReplicate, Nat.reduceEqDiff, Nat.reduceAdd, Nat.reduceLeDiff, Nat.reduceMul, Nat.reduceSub, Nat.reduceDiv, Int.reduceToNat, Nat.reduceLT, Int.reduceLT, Int.reduceLE, ↓reduceIte, reduceCtorEq, ints, rows, rat, rats, ratsO, toShL_ratC, List.mem_cons, List.mem_nil_iff, List.not_mem_nil, or_false, false_or, exists_eq_left, exists_eq_left', exists_eq_right', Root.live.injEq, eq_self_iff_true, exists_eq, and_true, T.toSh, toShL_ints, toShL_intsO, intsO, rowsO]
            simp -implicitDefEqProofs only [go_sem, List.reduceReplicate, Nat.reduceEqDiff, Nat.reduceAdd, Nat.reduceLeDiff, Nat.reduceMul, Nat.reduceSub, Nat.reduceDiv, Int.reduceToNat, Nat.reduceLT, Int.reduceLT, Int.reduceLE, ↓reduceIte, reduceCtorEq, forall_apply_eq_imp_iff₂, ints, rows, rat, rats, toNat_cast]
            refine hn _ (k + 1) (Weak.of _ _ [some 1000000000] (by simp) (by simp) ?_ ?_) (by omega) (by omega)
            · simp -implicitDefEqProofs only [ints, rows, Nat.reduceBEq, Int.add_zero, envOK, maA, maT, upd_apply, Nat.reduceEqDiff, ↓reduceIte, and_true, true_or, or_true, List.map_cons, List.map_nil, Nat.zero_ne_one, and_self, true_and, Int.natCast_zero, Int.cast_ofNat_Int, Int.ofNat_zero, piOf, List.zip_cons_cons, List.zip_nil_right, List.lookup_cons, List.lookup_nil, beq_self_eq_true, rootsOK, mkRoots, mkEnv, srch, nodes, next64 h9 (by omega), wrap64 (n := y * P) (by omega) (by omega), wrap64 (n := y * P * pw p) (by omega) (by omega), ← m6, wrap64 (n := tS g pl i own reach p (k + 1)) (by omega) (by omega)]
            · exact ⟨⟨_, rfl, .refl _⟩, rfl, trivial⟩
        · simp -implicitDefEqProofs only [go_sem, List.reduceReplicate, Nat.reduceEqDiff, Nat.reduceAdd, Nat.reduceLeDiff, Nat.reduceMul, Nat.reduceSub, Nat.reduceDiv, Int.reduceToNat, Nat.reduceLT, Int.reduceLT, Int.reduceLE, ↓reduceIte, reduceCtorEq, forall_apply_eq_imp_iff₂, ints, rows, rat, rats, toNat_cast, srch, nodes, rows, decide_eq_false (show ¬ (k : Int) < (reach.length : Int) by omega)]
          refine he _ _ ?_
          simp -implicitDefEqProofs only [go_sem, List.reduceReplicate, Nat.reduceEqDiff, Nat.reduceAdd, Nat.reduceLeDiff, Nat.reduceMul, Nat.reduceSub, Nat.reduceDiv, Int.reduceToNat, Nat.reduceLT, Int.reduceLT, Int.reduceLE, ↓reduceIte, reduceCtorEq, forall_apply_eq_imp_iff₂, ints, rows, rat, rats, toNat_cast]
          rw [show k = reach.length by omega]
    have h2 : x.p ≠ 2 := by simpa using h2
    have hp2 : (g.nd.getD i nd0).p ≠ 2 := by rw [hxd]; exact h2
    obtain ⟨d1, d2⟩ := dep_child (f := f) hp2
    rw [hxd] at d2
    have hch := ndOK_child (t2 _ _ hx)
    refine ⟨fun h3 => ?_, fun h3 => ?_⟩
    · have h3 : x.p = pl := by simpa using h3
      generalize hF : (fun (B : List (List Int)) (c : Int) => bestB g ot pl own f c.toNat reach p B) = F at hB1
      generalize hvs : (x.ch.map fun c => bestV g ot pl own f c.toNat reach p) = vs at hB1 hV1
      have hvl : vs.length = x.ch.length := by rw [← hvs, List.length_map]
      rw [hB1 h2 h3, hV1 h2 h3]
      refine SemC.loopR (σ := Nat) (fun k => St.of [(0, .own 1000000000), (1, .t (.i i)), (2, .t (.i own)), (3, .t (ints reach)), (4, .t (.i p)), (11, .own 11), (17, .t (.i (argmax.go k vs))), (18, .t (.i (cntA vs k))), (19, .t (.i k))] [(11, .box [.i x.p, .i x.a, .i x.b, .i x.f, ints x.ch]), (1000000000, srch g ot pl ((x.ch.take k).foldl F B))]) (fun k => k ≤ x.ch.length) (fun k => x.ch.length - k) 0 (Weak.of _ _ [some 11, some 1000000000] (by simp) (by simp) ?_ ?_) (by omega) fun k hk R hn hr he => ?_
      · simp -implicitDefEqProofs only [ints, rows, Nat.reduceBEq, Int.add_zero, envOK, maA, maT, upd_apply, Nat.reduceEqDiff, ↓reduceIte, and_true, true_or, or_true, List.map_cons, List.map_nil, Nat.zero_ne_one, and_self, true_and, Int.natCast_zero, Int.cast_ofNat_Int, Int.ofNat_zero, piOf, List.zip_cons_cons, List.zip_nil_right, List.lookup_cons, List.lookup_nil, beq_self_eq_true, rootsOK, mkRoots, mkEnv, show cntA vs 0 = 0 from rfl, show argmax.go 0 vs = 0 from rfl]
      · exact ⟨⟨_, rfl, .refl _⟩, rfl, ⟨_, rfl, .refl _⟩, rfl, trivial⟩
      · rcases Nat.lt_or_ge k x.ch.length with h9 | h9
        · obtain ⟨c, hc⟩ : ∃ c, x.ch[k]? = some c := ⟨_, List.getElem?_eq_getElem h9⟩
          have hcm := List.mem_of_getElem? hc
          have hcb := hch c hcm
          have hcd := d2 c hcm
          have hrow : rows4 (sets g pl).length ((x.ch.take k).foldl F B) := by
            refine foldl_inv (rows4 (sets g pl).length) _ _ hBl fun B' c' _ hB' => ?_
            rw [← hF]; exact bestB_rows t2 f _ _ _ _ hB'
          have hcall := ih c.toNat reach p ((x.ch.take k).foldl F B) (by omega) (by omega) hrl hr0 (by omega) hp5 hcap hrow
          rw [show ((c.toNat : Nat) : Int) = c by omega, show bestB g ot pl own f c.toNat reach p ((x.ch.take k).foldl F B) = (x.ch.take (k + 1)).foldl F B by rw [foldl_snoc F x.ch B hc, ← hF]] at hcall
          have hvk : vs[k]? = some (bestV g ot pl own f c.toNat reach p) := by rw [← hvs, List.getElem?_map, hc]; rfl
          obtain ⟨g1, g2⟩ := go_take hvk
          generalize bestV g ot pl own f c.toNat reach p = n at hcall hvk g1 g2
          simp only [srch, nodes, rows, ints] at hcall
          simp -implicitDefEqProofs only [go_sem, List.reduceReplicate, Nat.reduceEqDiff, Nat.reduceAdd, Nat.reduceLeDiff, Nat.reduceMul, Nat.reduceSub, Nat.reduceDiv, Int.reduceToNat, Nat.reduceLT, Int.reduceLT, Int.reduceLE, ↓reduceIte, reduceCtorEq, forall_apply_eq_imp_iff₂, ints, rows, rat, rats, toNat_cast, srch, nodes, rows, hc, decide_eq_true (show (k : Int) < (x.ch.length : Int) by omega)]
          refine ⟨by omega, by omega, by omega, ?_⟩
          refine CallW.ref hcall [1000000000] [] rfl Try.call116 (by simp) ?_ (by simp) ?_ (.inl rfl) ?_
          · simp -implicitDefEqProofs only [rootOf_arr, rootOf_box, rootOf_any, srcsOK, updL, updS, upd_apply, Nat.reduceEqDiff, ↓reduceIte, mkRoots, and_true, ints, rows, intsO, rowsO]
          · simp -implicitDefEqProofs only [Int.natCast_zero, Int.cast_ofNat_Int, Int.natCast_one, Nat.le_refl, Nat.reduceLeDiff, Nat.sub_self, Nat.reduceSub, List.getElem?_cons_zero, List.getElem?_cons_succ, vt_self, vaL, vtL, va, vt, vb, maT, List.cons_append, List.nil_append, List.append_nil, true_or, or_true, go_sem, List.reduceReplicate, Nat.reduceEqDiff, Nat.reduceAdd, Nat.reduceLeDiff, Nat.reduceMul, Nat.reduceSub, Nat.reduceDiv, Int.reduceToNat, Nat.reduceLT, Int.reduceLT, Int.reduceLE, ↓reduceIte, reduceCtorEq, ints, rows, rat, rats, ratsO, toShL_ratC, List.mem_cons, List.mem_nil_iff, List.not_mem_nil, or_false, false_or, exists_eq_left, exists_eq_left', exists_eq_right', Root.live.injEq, eq_self_iff_true, exists_eq, and_true, T.toSh, toShL_ints, toShL_intsO, intsO, rowsO]
          simp -implicitDefEqProofs only [List.append_nil, List.cons_append, Nat.reduceLeDiff, afterCall, absT_rowsO, absT_intsO, absT, absL, updL, updS, freeAll, rid, T.noSh, T.noShL, Nat.zero_le, go_sem, List.reduceReplicate, Nat.reduceEqDiff, Nat.reduceAdd, Nat.reduceLeDiff, Nat.reduceMul, Nat.reduceSub, Nat.reduceDiv, Int.reduceToNat, Nat.reduceLT, Int.reduceLT, Int.reduceLE, ↓reduceIte, reduceCtorEq, rat, forall_apply_eq_imp_iff₂, toNat_cast]
          refine ⟨fun h0 => ⟨fun h1 => ?_, fun h1 => ?_⟩, fun h0 => ?_⟩
          · rw [if_pos (.inr h1)] at g1 g2
            refine hn _ (k + 1) (Weak.of _ _ [some 11, some 1000000000] (by simp) (by simp) ?_ ?_) (by omega) (by omega)
            · simp -implicitDefEqProofs only [ints, rows, Nat.reduceBEq, Int.add_zero, envOK, maA, maT, upd_apply, Nat.reduceEqDiff, ↓reduceIte, and_true, true_or, or_true, List.map_cons, List.map_nil, Nat.zero_ne_one, and_self, true_and, Int.natCast_zero, Int.cast_ofNat_Int, Int.ofNat_zero, piOf, List.zip_cons_cons, List.zip_nil_right, List.lookup_cons, List.lookup_nil, beq_self_eq_true, rootsOK, mkRoots, mkEnv, next64 h9 (by omega), g1, g2]
            · exact ⟨⟨_, rfl, .refl _⟩, rfl, ⟨_, rfl, .refl _⟩, rfl, trivial⟩
          · rw [if_neg (by rintro (h | h); (· rw [h] at h0; simp at h0); (· exact h1 h))] at g1 g2
            refine hn _ (k + 1) (Weak.of _ _ [some 11, some 1000000000] (by simp) (by simp) ?_ ?_) (by omega) (by omega)
            · simp -implicitDefEqProofs only [ints, rows, Nat.reduceBEq, Int.add_zero, envOK, maA, maT, upd_apply, Nat.reduceEqDiff, ↓reduceIte, and_true, true_or, or_true, List.map_cons, List.map_nil, Nat.zero_ne_one, and_self, true_and, Int.natCast_zero, Int.cast_ofNat_Int, Int.ofNat_zero, piOf, List.zip_cons_cons, List.zip_nil_right, List.lookup_cons, List.lookup_nil, beq_self_eq_true, rootsOK, mkRoots, mkEnv, next64 h9 (by omega), g1, g2]
            · exact ⟨⟨_, rfl, .refl _⟩, rfl, ⟨_, rfl, .refl _⟩, rfl, trivial⟩
          · rw [if_pos (.inl (by simpa using h0))] at g1 g2
            refine hn _ (k + 1) (Weak.of _ _ [some 11, some 1000000000] (by simp) (by simp) ?_ ?_) (by omega) (by omega)
            · simp -implicitDefEqProofs only [ints, rows, Nat.reduceBEq, Int.add_zero, envOK, maA, maT, upd_apply, Nat.reduceEqDiff, ↓reduceIte, and_true, true_or, or_true, List.map_cons, List.map_nil, Nat.zero_ne_one, and_self, true_and, Int.natCast_zero, Int.cast_ofNat_Int, Int.ofNat_zero, piOf, List.zip_cons_cons, List.zip_nil_right, List.lookup_cons, List.lookup_nil, beq_self_eq_true, rootsOK, mkRoots, mkEnv, next64 h9 (by omega), g1, g2]
            · exact ⟨⟨_, rfl, .refl _⟩, rfl, ⟨_, rfl, .refl _⟩, rfl, trivial⟩
        · simp -implicitDefEqProofs only [go_sem, List.reduceReplicate, Nat.reduceEqDiff, Nat.reduceAdd, Nat.reduceLeDiff, Nat.reduceMul, Nat.reduceSub, Nat.reduceDiv, Int.reduceToNat, Nat.reduceLT, Int.reduceLT, Int.reduceLE, ↓reduceIte, reduceCtorEq, forall_apply_eq_imp_iff₂, ints, rows, rat, rats, toNat_cast, srch, nodes, rows, decide_eq_false (show ¬ (k : Int) < (x.ch.length : Int) by omega)]
          refine he _ _ ?_
          simp -implicitDefEqProofs only [go_sem, List.reduceReplicate, Nat.reduceEqDiff, Nat.reduceAdd, Nat.reduceLeDiff, Nat.reduceMul, Nat.reduceSub, Nat.reduceDiv, Int.reduceToNat, Nat.reduceLT, Int.reduceLT, Int.reduceLE, ↓reduceIte, reduceCtorEq, forall_apply_eq_imp_iff₂, ints, rows, rat, rats, toNat_cast, srch, nodes, rows]
          have hke : k = x.ch.length := by omega
          have hcl1 : 1 ≤ x.ch.length := ((ndOK_fields (t2 _ _ hx)).2.2.2.2.1 h2).2
          have hgl := argmax_go_lt vs k (by omega)
          have hge : argmax.go k vs = argmax vs := by rw [argmax_eq, hvl, hke]
          rw [made_one, List.length_replicate]
          refine ⟨by omega, by omega, by omega, by omega, by omega, ?_⟩
          rw [show x.ch.take k = x.ch by rw [hke, List.take_length]]
          refine ⟨_, Weak.open 1000000000 6 500 rfl rfl rfl (by decide) rfl, ?_⟩
          simp -implicitDefEqProofs only [go_sem, List.reduceReplicate, Nat.reduceEqDiff, Nat.reduceAdd, Nat.reduceLeDiff, Nat.reduceMul, Nat.reduceSub, Nat.reduceDiv, Int.reduceToNat, Nat.reduceLT, Int.reduceLT, Int.reduceLE, ↓reduceIte, reduceCtorEq, forall_apply_eq_imp_iff₂, ints, rows, rat, rats, toNat_cast, List.lookup_cons, beq_self_eq_true, Nat.reduceBEq]
          have hset := l23Set_t (pl := pl) hg hi (by rw [hxd]; exact h3) hown
          have hrowA : rows4 (sets g pl).length (x.ch.foldl F B) := by
            refine foldl_inv (rows4 (sets g pl).length) _ _ hBl fun B' c' _ hB' => ?_
            rw [← hF]; exact bestB_rows t2 f _ _ _ _ hB'
          have hslt := setI_lt (pl := pl) hi hown (by rw [hxd]; exact h3)
          have hrl1 := hrowA.1
          refine CallV.pure hset [] rfl Try.call155 (fun e R' hR => ?_) (by first | trivial | simp [T.noSh, T.noShL, rat]) (fun _ => rfl) ?_
          · simp -implicitDefEqProofs only [Int.natCast_zero, Int.cast_ofNat_Int, Int.natCast_one, Nat.le_refl, Nat.reduceLeDiff, Nat.sub_self, Nat.reduceSub, List.getElem?_cons_zero, List.getElem?_cons_succ, vt_self, vaL, vtL, va, vt, vb, maT, List.cons_append, List.nil_append, List.append_nil, true_or, or_true, go_sem, List.reduceReplicate, Nat.reduceEqDiff, Nat.reduceAdd, Nat.reduceLeDiff, Nat.reduceMul, Nat.reduceSub, Nat.reduceDiv, Int.reduceToNat, Nat.reduceLT, Int.reduceLT, Int.reduceLE, ↓reduceIte, reduceCtorEq, ints, rows, rat, rats, ratsO, toShL_ratC, List.mem_cons, List.mem_nil_iff, List.not_mem_nil, or_false, false_or, exists_eq_left, exists_eq_left', exists_eq_right', Root.live.injEq, eq_self_iff_true, exists_eq, and_true, T.toSh, toShL_ints, toShL_intsO, intsO, rowsO]
          simp -implicitDefEqProofs only [go_sem, List.reduceReplicate, Nat.reduceEqDiff, Nat.reduceAdd, Nat.reduceLeDiff, Nat.reduceMul, Nat.reduceSub, Nat.reduceDiv, Int.reduceToNat, Nat.reduceLT, Int.reduceLT, Int.reduceLE, ↓reduceIte, reduceCtorEq, forall_apply_eq_imp_iff₂, ints, rows, rat, rats, toNat_cast, rowsO]
          refine ⟨by omega, by omega, by omega, ?_⟩
          refine ⟨_, Weak.join2 Try.prog tyOne (sl 120) (sl 121) rfl rfl rfl rfl (by decide) (by simp), ?_⟩
          simp -implicitDefEqProofs only [go_sem, List.reduceReplicate, Nat.reduceEqDiff, Nat.reduceAdd, Nat.reduceLeDiff, Nat.reduceMul, Nat.reduceSub, Nat.reduceDiv, Int.reduceToNat, Nat.reduceLT, Int.reduceLT, Int.reduceLE, ↓reduceIte, reduceCtorEq, forall_apply_eq_imp_iff₂, ints, rows, rat, rats, toNat_cast]
          refine ⟨?_, ?_⟩
          · rw [List.map_set, intsO, List.map_set, List.map_replicate, hge]
          · rw [cntA, if_neg (by omega), hge]
    · have h3 : x.p ≠ pl := by simpa using h3
      have hpo : x.p = 1 - pl := by
        obtain ⟨⟨q1, q2⟩, _⟩ := ndOK_fields (t2 _ _ hx)
        omega
      have hpd : (g.nd.getD i nd0).p = 1 - pl := by rw [hxd]; exact hpo
      generalize hF : (fun (B : List (List Int)) (k : Nat) => bestB g ot pl own f (x.ch.getD k 0).toNat (nextR g ot pl i reach k) (p - 1) B) = F at hB0
      generalize hG : (fun k => bestV g ot pl own f (x.ch.getD k 0).toNat (nextR g ot pl i reach k) (p - 1)) = G at hV0
      rw [hB0 h2 h3, hV0 h2 h3]
      refine SemC.loopR (σ := Nat) (fun k => St.of [(0, .own 1000000000), (1, .t (.i i)), (2, .t (.i own)), (3, .t (ints reach)), (4, .t (.i p)), (11, .own 11), (22, .t (.i (sumI ((List.range k).map G)))), (23, .t (.i k))] [(11, .box [.i x.p, .i x.a, .i x.b, .i x.f, ints x.ch]), (1000000000, srch g ot pl ((List.range k).foldl F B))]) (fun k => k ≤ x.ch.length) (fun k => x.ch.length - k) 0 (Weak.of _ _ [some 11, some 1000000000] (by simp) (by simp) ?_ ?_) (by omega) fun k hk R hn hr he => ?_
      · simp -implicitDefEqProofs only [ints, rows, Nat.reduceBEq, Int.add_zero, envOK, maA, maT, upd_apply, Nat.reduceEqDiff, ↓reduceIte, and_true, true_or, or_true, List.map_cons, List.map_nil, Nat.zero_ne_one, and_self, true_and, Int.natCast_zero, Int.cast_ofNat_Int, Int.ofNat_zero, piOf, List.zip_cons_cons, List.zip_nil_right, List.lookup_cons, List.lookup_nil, beq_self_eq_true, rootsOK, mkRoots, mkEnv, List.range_zero, List.map_nil, show sumI [] = 0 from rfl]
      · exact ⟨⟨_, rfl, .refl _⟩, rfl, ⟨_, rfl, .refl _⟩, rfl, trivial⟩
      · rcases Nat.lt_or_ge k x.ch.length with h9 | h9
        · obtain ⟨c, hc⟩ : ∃ c, x.ch[k]? = some c := ⟨_, List.getElem?_eq_getElem h9⟩
          simp -implicitDefEqProofs only [go_sem, List.reduceReplicate, Nat.reduceEqDiff, Nat.reduceAdd, Nat.reduceLeDiff, Nat.reduceMul, Nat.reduceSub, Nat.reduceDiv, Int.reduceToNat, Nat.reduceLT, Int.reduceLT, Int.reduceLE, ↓reduceIte, reduceCtorEq, forall_apply_eq_imp_iff₂, ints, rows, rat, rats, toNat_cast, srch, nodes, rows, hc, decide_eq_true (show (k : Int) < (x.ch.length : Int) by omega)]
          have hnl : (nextR g ot pl i reach k).length = reach.length := nextR_length _ _ _ _ _ _
          refine SemC.loopR (σ := Nat) (fun b => St.of [(0, .own 1000000000), (1, .t (.i i)), (2, .t (.i own)), (3, .t (ints reach)), (4, .t (.i p)), (11, .own 11), (22, .t (.i (sumI ((List.range k).map G)))), (23, .t (.i k)), (24, .own 77), (25, .t (.i b))] [(11, .box [.i x.p, .i x.a, .i x.b, .i x.f, ints x.ch]), (77, .arr 1 (((nextR g ot pl i reach k).take b).map T.i)), (1000000000, srch g ot pl ((List.range k).foldl F B))]) (fun b => b ≤ reach.length) (fun b => reach.length - b) 0 (Weak.of _ _ [some 11, some 143, some 1000000000] (by simp) (by simp) ?_ ?_) (by omega) fun b hb R2 hn2 hr2 he2 => ?_
          · simp -implicitDefEqProofs only [ints, rows, Nat.reduceBEq, Int.add_zero, envOK, maA, maT, upd_apply, Nat.reduceEqDiff, ↓reduceIte, and_true, true_or, or_true, List.map_cons, List.map_nil, Nat.zero_ne_one, and_self, true_and, Int.natCast_zero, Int.cast_ofNat_Int, Int.ofNat_zero, piOf, List.zip_cons_cons, List.zip_nil_right, List.lookup_cons, List.lookup_nil, beq_self_eq_true, rootsOK, mkRoots, mkEnv, List.take_zero, srch, nodes]
          · exact ⟨⟨_, rfl, .refl _⟩, rfl, ⟨_, rfl, .refl _⟩, rfl, ⟨_, rfl, .refl _⟩, rfl, trivial⟩
          · rcases Nat.lt_or_ge b reach.length with h8 | h8
            · obtain ⟨y, hy⟩ : ∃ y, reach[b]? = some y := ⟨_, List.getElem?_eq_getElem h8⟩
              simp -implicitDefEqProofs only [go_sem, List.reduceReplicate, Nat.reduceEqDiff, Nat.reduceAdd, Nat.reduceLeDiff, Nat.reduceMul, Nat.reduceSub, Nat.reduceDiv, Int.reduceToNat, Nat.reduceLT, Int.reduceLT, Int.reduceLE, ↓reduceIte, reduceCtorEq, forall_apply_eq_imp_iff₂, ints, rows, rat, rats, toNat_cast, srch, nodes, rows, hy, decide_eq_true (show (b : Int) < (reach.length : Int) by omega)]
              obtain ⟨o1, o2, o3⟩ := hot i b hi (by omega) hpd
              obtain ⟨r, hr1⟩ : ∃ r, ot[setI g (1 - pl) i b]? = some r := by
                cases h : ot[setI g (1 - pl) i b]? with
                | some r => exact ⟨r, rfl⟩
                | none =>
                  rw [partsOf, List.getD_eq_getElem?_getD, h, hxd] at o1
                  simp at o1
                  omega
              have hrp : partsOf g ot (1 - pl) i b = r := by rw [partsOf, List.getD_eq_getElem?_getD, hr1]; rfl
              rw [hrp] at o1 o2
              rw [hxd] at o1
              obtain ⟨y2, hy2⟩ : ∃ y2, r[k]? = some y2 := ⟨_, List.getElem?_eq_getElem (by omega)⟩
              have hy2b := o2 y2 (List.mem_of_getElem? hy2)
              refine ⟨by omega, by omega, by omega, ?_⟩
              rw [wrap64 (n := 1 - pl) (by omega) (by omega)]
              refine CallV.pure (l23Set_t (pl := 1 - pl) (c := b) hg hi hpd (by omega)) [] rfl Try.call155 (fun e R' hR => ?_) (by first | trivial | simp [T.noSh, T.noShL, rat]) (fun _ => rfl) ?_
              · simp -implicitDefEqProofs only [Int.natCast_zero, Int.cast_ofNat_Int, Int.natCast_one, Nat.le_refl, Nat.reduceLeDiff, Nat.sub_self, Nat.reduceSub, List.getElem?_cons_zero, List.getElem?_cons_succ, vt_self, vaL, vtL, va, vt, vb, maT, List.cons_append, List.nil_append, List.append_nil, true_or, or_true, go_sem, List.reduceReplicate, Nat.reduceEqDiff, Nat.reduceAdd, Nat.reduceLeDiff, Nat.reduceMul, Nat.reduceSub, Nat.reduceDiv, Int.reduceToNat, Nat.reduceLT, Int.reduceLT, Int.reduceLE, ↓reduceIte, reduceCtorEq, ints, rows, rat, rats, ratsO, toShL_ratC, List.mem_cons, List.mem_nil_iff, List.not_mem_nil, or_false, false_or, exists_eq_left, exists_eq_left', exists_eq_right', Root.live.injEq, eq_self_iff_true, exists_eq, and_true, T.toSh, toShL_ints, toShL_intsO, intsO, rowsO]
              simp -implicitDefEqProofs only [go_sem, List.reduceReplicate, Nat.reduceEqDiff, Nat.reduceAdd, Nat.reduceLeDiff, Nat.reduceMul, Nat.reduceSub, Nat.reduceDiv, Int.reduceToNat, Nat.reduceLT, Int.reduceLT, Int.reduceLE, ↓reduceIte, reduceCtorEq, forall_apply_eq_imp_iff₂, ints, rows, rat, rats, toNat_cast, hr1, hy2]
              have hslt := (List.getElem?_eq_some_iff.1 hr1).1
              have hyb : 0 ≤ y ∧ y ≤ 41990400000 := by
                have h1 := reach_pos hr0 b
                rw [List.getD_eq_getElem?_getD, hy] at h1
                have h2 := pw_pos p
                have h3 := sumI_nonneg hr0
                have h4 := Int.mul_le_mul_of_nonneg_left (show (1 : Int) ≤ pw p by omega) h3
                unfold capOK at hcap
                simp only [Option.getD_some] at h1
                omega
              have hm1 := Int.mul_nonneg hyb.1 hy2b.1
              have hm2 : y * y2 ≤ 41990400000 * 60 := Int.mul_le_mul hyb.2 hy2b.2 hy2b.1 (by decide)
              have hnx : (nextR g ot pl i reach k)[b]? = some (y * y2) := by
                rw [nextR, List.getElem?_map, List.getElem?_range (by omega), Option.map_some, hrp, List.getD_eq_getElem?_getD, hy, List.getD_eq_getElem?_getD, hy2]; rfl
              refine ⟨by omega, by omega, by omega, by omega, by omega, by omega, by rw [List.length_take]; omega, hn2 _ (b + 1) (Weak.of _ _ [some 11, some 179, some 1000000000] (by simp) (by simp) ?_ ?_) (by omega) (by omega)⟩
              · simp -implicitDefEqProofs only [ints, rows, Nat.reduceBEq, Int.add_zero, envOK, maA, maT, upd_apply, Nat.reduceEqDiff, ↓reduceIte, and_true, true_or, or_true, List.map_cons, List.map_nil, Nat.zero_ne_one, and_self, true_and, Int.natCast_zero, Int.cast_ofNat_Int, Int.ofNat_zero, piOf, List.zip_cons_cons, List.zip_nil_right, List.lookup_cons, List.lookup_nil, beq_self_eq_true, rootsOK, mkRoots, mkEnv, srch, nodes, next64 h8 (by omega)]
              · refine ⟨⟨_, rfl, .refl _⟩, rfl, ⟨_, rfl, ?_⟩, rfl, ⟨_, rfl, .refl _⟩, rfl, trivial⟩
                rw [take_snoc hnx, List.map_append, wrap64 (n := y * y2) (by omega) (by omega)]; exact .refl _
            · simp -implicitDefEqProofs only [go_sem, List.reduceReplicate, Nat.reduceEqDiff, Nat.reduceAdd, Nat.reduceLeDiff, Nat.reduceMul, Nat.reduceSub, Nat.reduceDiv, Int.reduceToNat, Nat.reduceLT, Int.reduceLT, Int.reduceLE, ↓reduceIte, reduceCtorEq, forall_apply_eq_imp_iff₂, ints, rows, rat, rats, toNat_cast, srch, nodes, rows, hc, decide_eq_false (show ¬ (b : Int) < (reach.length : Int) by omega)]
              refine he2 _ _ ?_
              simp -implicitDefEqProofs only [go_sem, List.reduceReplicate, Nat.reduceEqDiff, Nat.reduceAdd, Nat.reduceLeDiff, Nat.reduceMul, Nat.reduceSub, Nat.reduceDiv, Int.reduceToNat, Nat.reduceLT, Int.reduceLT, Int.reduceLE, ↓reduceIte, reduceCtorEq, forall_apply_eq_imp_iff₂, ints, rows, rat, rats, toNat_cast, srch, nodes, rows, hc]
              have hbl : b = reach.length := by omega
              have htk : (nextR g ot pl i reach k).take b = nextR g ot pl i reach k := List.take_of_length_le (by omega)
              rw [htk]
              refine ⟨_, Weak.trans (Weak.share 77 rfl) (Weak.of [(0, .own 1000000000), (1, .t (.i i)), (2, .t (.i own)), (3, .t (ints reach)), (4, .t (.i p)), (11, .own 11), (22, .t (.i (sumI ((List.range k).map G)))), (23, .t (.i k)), (24, .t (ints (nextR g ot pl i reach k)))] [(11, .box [.i x.p, .i x.a, .i x.b, .i x.f, ints x.ch]), (1000000000, srch g ot pl ((List.range k).foldl F B))] [some 11, some 1000000000] (by simp) (by simp) ?_ ?_), ?_⟩
              · simp -implicitDefEqProofs only [ints, rows, Nat.reduceBEq, Int.add_zero, envOK, maA, maT, upd_apply, Nat.reduceEqDiff, ↓reduceIte, and_true, true_or, or_true, List.map_cons, List.map_nil, Nat.zero_ne_one, and_self, true_and, Int.natCast_zero, Int.cast_ofNat_Int, Int.ofNat_zero, piOf, List.zip_cons_cons, List.zip_nil_right, List.lookup_cons, List.lookup_nil, beq_self_eq_true, rootsOK, mkRoots, mkEnv, shareA, srch, nodes, T.toSh, T.toShL_eq_map, List.map_map]
                exact .inr (.inl rfl)
              · exact ⟨⟨_, rfl, .refl _⟩, rfl, ⟨_, rfl, .refl _⟩, rfl, trivial⟩
              · simp -implicitDefEqProofs only [go_sem, List.reduceReplicate, Nat.reduceEqDiff, Nat.reduceAdd, Nat.reduceLeDiff, Nat.reduceMul, Nat.reduceSub, Nat.reduceDiv, Int.reduceToNat, Nat.reduceLT, Int.reduceLT, Int.reduceLE, ↓reduceIte, reduceCtorEq, forall_apply_eq_imp_iff₂, ints, rows, rat, rats, toNat_cast, srch, nodes, rows, hc]
                refine ⟨by omega, by omega, by omega, ?_⟩
                have hp1 : 1 ≤ p := by omega
                obtain ⟨p', rfl⟩ : ∃ p', p = p' + 1 := ⟨p - 1, by omega⟩
                have hcm := List.mem_of_getElem? hc
                have hcb := hch c hcm
                have hcd := d2 c hcm
                have hcd0 : x.ch.getD k 0 = c := by rw [List.getD_eq_getElem?_getD, hc]; rfl
                have hch1 : ∀ j, j < x.ch.length → -capV ≤ G j ∧ G j ≤ capV := fun j hj => by
                  have hmj := getD_mem (0 : Int) hj
                  have hjb := hch _ hmj
                  have hjd := d2 _ hmj
                  rw [← hG]
                  exact bestV_cap t2 hpl hot (by omega) (by rw [nextR_length]; exact hrl) (nextR_nonneg hot hi hrl hpd hr0 j) (by omega) (capOK_next hot hi hrl hpd hr0 hcap (by rw [hxd]; exact hj))
                have hs1 := sumI_range_abs (G := G) (c := capV) (n := k) fun j hj => hch1 j (by omega)
                have hs2 := hch1 k h9
                have hcv : capV = 4199040000000 := rfl
                have hk4 : (k : Int) * capV ≤ 4 * capV := Int.mul_le_mul_of_nonneg_right (by omega) (by decide)
                have hrow : rows4 (sets g pl).length ((List.range k).foldl F B) := by
                  refine foldl_inv (rows4 (sets g pl).length) _ _ hBl fun B' c' _ hB' => ?_
                  rw [← hF]; exact bestB_rows t2 f _ _ _ _ hB'
                have hcall := ih c.toNat (nextR g ot pl i reach k) p' ((List.range k).foldl F B) (by omega) (by omega) (by omega) (nextR_nonneg hot hi hrl hpd hr0 k) (by omega) (by omega) (capOK_next hot hi hrl hpd hr0 hcap (by rw [hxd]; omega)) hrow
                rw [show ((c.toNat : Nat) : Int) = c by omega, show bestB g ot pl own f c.toNat (nextR g ot pl i reach k) p' ((List.range k).foldl F B) = (List.range (k + 1)).foldl F B by rw [List.range_succ, List.foldl_append, ← hF, List.foldl_cons, List.foldl_nil]; simp only [hcd0, Nat.add_sub_cancel], show bestV g ot pl own f c.toNat (nextR g ot pl i reach k) p' = G k by rw [← hG]; simp only [hcd0, Nat.add_sub_cancel]] at hcall
                have hsg : sumI ((List.range (k + 1)).map G) = sumI ((List.range k).map G) + G k := by rw [List.range_succ, List.map_append, List.map_cons, List.map_nil, sumI_snoc]
                simp only [srch, nodes, rows, ints] at hcall
                rw [wrap64 (n := ((p' + 1 : Nat) : Int) - 1) (by omega) (by omega), show ((p' + 1 : Nat) : Int) - 1 = (p' : Int) by omega]
                refine CallW.ref hcall [1000000000] [] rfl Try.call116 (by simp) ?_ (by simp) ?_ (.inl rfl) ?_
                · simp -implicitDefEqProofs only [rootOf_arr, rootOf_box, rootOf_any, srcsOK, updL, updS, upd_apply, Nat.reduceEqDiff, ↓reduceIte, mkRoots, and_true, ints, rows, intsO, rowsO]
                · simp -implicitDefEqProofs only [Int.natCast_zero, Int.cast_ofNat_Int, Int.natCast_one, Nat.le_refl, Nat.reduceLeDiff, Nat.sub_self, Nat.reduceSub, List.getElem?_cons_zero, List.getElem?_cons_succ, vt_self, vaL, vtL, va, vt, vb, maT, List.cons_append, List.nil_append, List.append_nil, true_or, or_true, go_sem, List.reduceReplicate, Nat.reduceEqDiff, Nat.reduceAdd, Nat.reduceLeDiff, Nat.reduceMul, Nat.reduceSub, Nat.reduceDiv, Int.reduceToNat, Nat.reduceLT, Int.reduceLT, Int.reduceLE, ↓reduceIte, reduceCtorEq, ints, rows, rat, rats, ratsO, toShL_ratC, List.mem_cons, List.mem_nil_iff, List.not_mem_nil, or_false, false_or, exists_eq_left, exists_eq_left', exists_eq_right', Root.live.injEq, eq_self_iff_true, exists_eq, and_true, T.toSh, toShL_ints, toShL_intsO, intsO, rowsO]
                simp -implicitDefEqProofs only [List.append_nil, List.cons_append, Nat.reduceLeDiff, afterCall, absT_rowsO, absT_intsO, absT, absL, updL, updS, freeAll, rid, T.noSh, T.noShL, Nat.zero_le, go_sem, List.reduceReplicate, Nat.reduceEqDiff, Nat.reduceAdd, Nat.reduceLeDiff, Nat.reduceMul, Nat.reduceSub, Nat.reduceDiv, Int.reduceToNat, Nat.reduceLT, Int.reduceLT, Int.reduceLE, ↓reduceIte, reduceCtorEq, rat, forall_apply_eq_imp_iff₂, toNat_cast]
                refine hn _ (k + 1) (Weak.of _ _ [some 11, some 1000000000] (by simp) (by simp) ?_ ?_) (by omega) (by omega)
                · simp -implicitDefEqProofs only [ints, rows, Nat.reduceBEq, Int.add_zero, envOK, maA, maT, upd_apply, Nat.reduceEqDiff, ↓reduceIte, and_true, true_or, or_true, List.map_cons, List.map_nil, Nat.zero_ne_one, and_self, true_and, Int.natCast_zero, Int.cast_ofNat_Int, Int.ofNat_zero, piOf, List.zip_cons_cons, List.zip_nil_right, List.lookup_cons, List.lookup_nil, beq_self_eq_true, rootsOK, mkRoots, mkEnv, srch, nodes, next64 h9 (by omega), hsg, wrap64 (n := sumI ((List.range k).map G) + G k) (by omega) (by omega)]
                · refine ⟨⟨_, rfl, .refl _⟩, rfl, ⟨_, rfl, ?_⟩, rfl, trivial⟩
                  rw [List.range_succ]; exact .refl _
        · simp -implicitDefEqProofs only [go_sem, List.reduceReplicate, Nat.reduceEqDiff, Nat.reduceAdd, Nat.reduceLeDiff, Nat.reduceMul, Nat.reduceSub, Nat.reduceDiv, Int.reduceToNat, Nat.reduceLT, Int.reduceLT, Int.reduceLE, ↓reduceIte, reduceCtorEq, forall_apply_eq_imp_iff₂, ints, rows, rat, rats, toNat_cast, srch, nodes, rows, decide_eq_false (show ¬ (k : Int) < (x.ch.length : Int) by omega)]
          refine he _ _ ?_
          simp -implicitDefEqProofs only [go_sem, List.reduceReplicate, Nat.reduceEqDiff, Nat.reduceAdd, Nat.reduceLeDiff, Nat.reduceMul, Nat.reduceSub, Nat.reduceDiv, Int.reduceToNat, Nat.reduceLT, Int.reduceLT, Int.reduceLE, ↓reduceIte, reduceCtorEq, forall_apply_eq_imp_iff₂, ints, rows, rat, rats, toNat_cast]
          rw [show k = x.ch.length by omega]
          exact ⟨rfl, rfl⟩
end
end Go.Ab

/- Games as data: no strategy does better than the best; bounds of the number of a game. -/
set_option linter.unusedSimpArgs false
set_option linter.unusedVariables false
namespace Go.Ab

theorem dpt_eq (g : Gm) : ((dpt g : Nat) : Int) = dep g.nd g.nd.length 0 := by
  have := (dep_nonneg (l := g.nd) g.nd.length 0).1
  unfold dpt; omega
end Go.Ab

/- Games as data: the parts of a tree below its nodes; what a best response writes. -/
set_option linter.unusedSimpArgs false
set_option linter.unusedVariables false
namespace Go.Ab

/-- j is a child of i. -/
def isKid (l : List Nd) (i j : Nat) : Prop := i < l.length ∧ (l.getD i nd0).p ≠ 2 ∧ (j : Int) ∈ (l.getD i nd0).ch
inductive Rch (l : List Nd) : Nat → Nat → Prop
  | refl (i : Nat) : Rch l i i
  | step {i j k : Nat} : Rch l i j → isKid l j k → Rch l i k
theorem kid_lt {l : List Nd} (h : ndsOK l) {i j : Nat} (hk : isKid l i j) : i < j ∧ j < l.length := by
  obtain ⟨h1, h2, h3⟩ := hk
  have hx : l[i]? = some (l.getD i nd0) := by rw [List.getD_eq_getElem?_getD, List.getElem?_eq_getElem h1]; rfl
  have := ndOK_child (h i _ hx) _ h3
  omega
theorem Rch.le {l : List Nd} (h : ndsOK l) {i j : Nat} (hr : Rch l i j) : i ≤ j := by
  induction hr with
  | refl => exact Nat.le_refl _
  | step _ hk ih => have := kid_lt h hk; omega
theorem occ_count {l : List Nd} {i j : Nat} (hk : isKid l i j) : 1 ≤ occ j [l.getD i nd0] := by
  obtain ⟨h1, h2, h3⟩ := hk
  have := List.count_pos_iff.2 h3
  simp only [occ, List.map_cons, List.map_nil, if_neg h2, List.sum_cons, List.sum_nil]
  omega
theorem occ_append (c : Nat) (l l' : List Nd) : occ c (l ++ l') = occ c l + occ c l' := by simp [occ]
theorem occ_two {l : List Nd} {i i' j : Nat} (hii : i < i') (h : isKid l i j) (h' : isKid l i' j) : 2 ≤ occ j l := by
  have hl' : i' < l.length := h'.1
  have hl : i < l.length := h.1
  have e1 : l = l.take i' ++ (l.getD i' nd0) :: l.drop (i' + 1) := by
    have : l.getD i' nd0 = l[i']'hl' := by simp [List.getD_eq_getElem?_getD, List.getElem?_eq_getElem hl']
    rw [this, ← List.drop_eq_getElem_cons hl', List.take_append_drop]
  have hil : i < (l.take i').length := by rw [List.length_take]; omega
  have e2 : l.take i' = (l.take i').take i ++ (l.getD i nd0) :: (l.take i').drop (i + 1) := by
    have : l.getD i nd0 = (l.take i')[i]'hil := by simp [List.getElem_take, List.getD_eq_getElem?_getD, List.getElem?_eq_getElem hl]
    rw [this, ← List.drop_eq_getElem_cons hil, List.take_append_drop]
  have o1 := occ_count h
  have o2 := occ_count h'
  have e3 : occ j (l.getD i' nd0 :: l.drop (i' + 1)) = occ j [l.getD i' nd0] + occ j (l.drop (i' + 1)) := occ_append j [_] _
  have e4 : occ j (l.getD i nd0 :: (l.take i').drop (i + 1)) = occ j [l.getD i nd0] + occ j ((l.take i').drop (i + 1)) := occ_append j [_] _
  have e5 : occ j l = occ j (l.take i') + occ j (l.getD i' nd0 :: l.drop (i' + 1)) := by
    conv => lhs; rw [e1]
    exact occ_append _ _ _
  have e6 : occ j (l.take i') = occ j ((l.take i').take i) + occ j (l.getD i nd0 :: (l.take i').drop (i + 1)) := by
    conv => lhs; rw [e2]
    exact occ_append _ _ _
  omega
theorem kid_unique {l : List Nd} (h : ndsOK l) (ho : ∀ i, i < l.length → i = 0 ∨ occ i l = 1) {i i' j : Nat} (hk : isKid l i j) (hk' : isKid l i' j) : i = i' := by
  have hj := kid_lt h hk
  have h1 := (ho j hj.2).resolve_left (by omega)
  rcases Nat.lt_trichotomy i i' with h2 | h2 | h2
  · have := occ_two h2 hk hk'; omega
  · exact h2
  · have := occ_two h2 hk' hk; omega
theorem Rch.up {l : List Nd} {i j : Nat} (hr : Rch l i j) : j = i ∨ ∃ m, Rch l i m ∧ isKid l m j := by
  cases hr with
  | refl => exact .inl rfl
  | step h hk => exact .inr ⟨_, h, hk⟩
/-- The parts below two children of one node have nothing in common. -/
theorem Rch.apart {l : List Nd} (h : ndsOK l) (ho : ∀ i, i < l.length → i = 0 ∨ occ i l = 1) {i c1 c2 j : Nat} (k1 : isKid l i c1) (k2 : isKid l i c2) (h1 : Rch l c1 j) (h2 : Rch l c2 j) : c1 = c2 := by
  induction h1 with
  | refl =>
    rcases h2.up with e | ⟨m, hm, hk⟩
    · exact e
    · have := kid_unique h ho k1 hk
      subst this
      have := hm.le h
      have := kid_lt h k2
      omega
  | step hj hk ih =>
    rcases h2.up with e | ⟨m, hm, hk2⟩
    · subst e
      have := kid_unique h ho k2 hk
      subst this
      have := hj.le h
      have := kid_lt h k1
      omega
    · have := kid_unique h ho hk hk2
      subst this
      exact ih hm
theorem occ_pos {c : Nat} : ∀ {l : List Nd}, 1 ≤ occ c l → ∃ i, isKid l i c
  | [], h => by simp [occ] at h
  | x :: l, h => by
    have e : occ c (x :: l) = occ c [x] + occ c l := occ_append c [x] l
    by_cases h1 : 1 ≤ occ c l
    · obtain ⟨i, h2, h3, h4⟩ := occ_pos h1
      exact ⟨i + 1, by simpa using h2, h3, h4⟩
    · have h2 : 1 ≤ occ c [x] := by omega
      simp only [occ, List.map_cons, List.map_nil] at h2
      by_cases hp : x.p = 2
      · rw [if_pos hp] at h2; simp at h2
      · rw [if_neg hp] at h2
        exact ⟨0, by simp, hp, List.count_pos_iff.1 (by simpa using h2)⟩
/-- All nodes are reached. -/
theorem all_rch {l : List Nd} (h : ndsOK l) (ho : ∀ i, i < l.length → i = 0 ∨ occ i l = 1) : ∀ n j, j < n → j < l.length → Rch l 0 j
  | 0, j, hj, _ => absurd hj (by omega)
  | n + 1, j, hj, hjl => by
    rcases ho j hjl with rfl | h1
    · exact .refl 0
    · obtain ⟨i, hk⟩ := occ_pos (c := j) (l := l) (by omega)
      have := kid_lt h hk
      exact .step (all_rch h ho n i (by omega) (by omega)) hk

theorem idxs_mono (l : List Nd) (pl : Int) {i j : Nat} (hij : i < j) (hp : (l.getD i nd0).p = pl) : (idxs l pl i).length < (idxs l pl j).length := by
  obtain ⟨rest, e⟩ := idxs_split l pl hp j hij
  rw [e]; simp
theorem setI_inj {g : Gm} {pl : Int} {i j c d : Nat} (hi : (g.nd.getD i nd0).p = pl) (hj : (g.nd.getD j nd0).p = pl) (hc : c < g.w.length) (hd : d < g.w.length) (h : setI g pl i c = setI g pl j d) : i = j ∧ c = d := by
  unfold setI at h
  have key : ∀ {a b c d k : Nat}, c < k → d < k → a < b → a * k + c = b * k + d → False := by
    intro a b c d k hc hd hab h
    have : (a + 1) * k ≤ b * k := Nat.mul_le_mul_right k hab
    rw [Nat.add_mul] at this
    omega
  rcases Nat.lt_trichotomy i j with h1 | h1 | h1
  · exact (key hc hd (idxs_mono g.nd pl h1 hi) h).elim
  · subst h1; exact ⟨rfl, by omega⟩
  · exact (key hd hc (idxs_mono g.nd pl h1 hj) h.symm).elim

/-- What is written at a node. -/
def pureL (n k : Nat) : List Int := (List.replicate n 0).set k 60
/-- What bestB does not touch. -/
theorem bestB_other {g : Gm} {ot : List (List Int)} {pl : Int} {own : Nat} (e : Nat) : ∀ (f i : Nat) (reach : List Int) (p : Nat) (B : List (List Int)), i < g.nd.length → ndsOK g.nd → (∀ j, Rch g.nd i j → (g.nd.getD j nd0).p = pl → setI g pl j own ≠ e) → (bestB g ot pl own f i reach p B)[e]? = B[e]?
  | 0, i, reach, p, B, _, _, _ => rfl
  | f + 1, i, reach, p, B, hi, hnd, h => by
    rw [bestB]
    (try simp only [])
    have hx : g.nd[i]? = some (g.nd.getD i nd0) := by rw [List.getD_eq_getElem?_getD, List.getElem?_eq_getElem hi]; rfl
    have hch := ndOK_child (hnd i _ hx)
    by_cases h2 : (g.nd.getD i nd0).p = 2
    · rw [if_pos h2]
    · rw [if_neg h2]
      have hkid : ∀ c ∈ (g.nd.getD i nd0).ch, isKid g.nd i c.toNat := fun c hc => ⟨hi, h2, by have := hch c hc; rw [show ((c.toNat : Nat) : Int) = c by omega]; exact hc⟩
      have hsub : ∀ c ∈ (g.nd.getD i nd0).ch, ∀ j, Rch g.nd c.toNat j → Rch g.nd i j := fun c hc j hj => by
        induction hj with
        | refl => exact .step (.refl i) (hkid c hc)
        | step _ hk ih => exact .step ih hk
      by_cases h3 : (g.nd.getD i nd0).p = pl
      · rw [if_pos h3, List.getElem?_set_ne (h i (.refl i) h3)]
        exact foldl_inv (fun B' : List (List Int) => B'[e]? = B[e]?) _ _ rfl fun B' c hc hB' => by
          rw [bestB_other e f c.toNat reach p B' (by have := hch c hc; omega) hnd fun j hj hp => h j (hsub c hc j hj) hp]; exact hB'
      · rw [if_neg h3]
        exact foldl_inv (fun B' : List (List Int) => B'[e]? = B[e]?) _ _ rfl fun B' k hk hB' => by
          have hk := List.mem_range.1 hk
          have hm := getD_mem 0 hk
          rw [bestB_other e f _ (nextR g ot pl i reach k) (p - 1) B' (by have := hch _ hm; omega) hnd fun j hj hp => h j (hsub _ hm j hj) hp]; exact hB'
/-- The lists of B are the choices of a best response, from node i on. -/
def okB (g : Gm) (ot : List (List Int)) (pl : Int) (own : Nat) : Nat → Nat → List Int → Nat → List (List Int) → Prop
  | 0, _, _, _, _ => True
  | f + 1, i, reach, p, B =>
    let x := g.nd.getD i nd0
    x.p ≠ 2 →
      if x.p = pl then B[setI g pl i own]? = some (pureL x.ch.length (argmax (x.ch.map fun c => bestV g ot pl own f c.toNat reach p))) ∧ ∀ c ∈ x.ch, okB g ot pl own f c.toNat reach p B
      else ∀ k, k < x.ch.length → okB g ot pl own f (x.ch.getD k 0).toNat (nextR g ot pl i reach k) (p - 1) B
theorem okB_congr {g : Gm} {ot : List (List Int)} {pl : Int} {own : Nat} (hnd : ndsOK g.nd) : ∀ (f i : Nat) (reach : List Int) (p : Nat) (B B' : List (List Int)), i < g.nd.length → (∀ j, Rch g.nd i j → (g.nd.getD j nd0).p = pl → B'[setI g pl j own]? = B[setI g pl j own]?) → okB g ot pl own f i reach p B → okB g ot pl own f i reach p B'
  | 0, i, reach, p, B, B', _, _, _ => trivial
  | f + 1, i, reach, p, B, B', hi, h, hok => by
    rw [okB] at hok ⊢
    (try simp only [] at hok ⊢)
    intro h2
    have hok := hok h2
    have hx : g.nd[i]? = some (g.nd.getD i nd0) := by rw [List.getD_eq_getElem?_getD, List.getElem?_eq_getElem hi]; rfl
    have hch := ndOK_child (hnd i _ hx)
    have hkid : ∀ c ∈ (g.nd.getD i nd0).ch, isKid g.nd i c.toNat := fun c hc => ⟨hi, h2, by have := hch c hc; rw [show ((c.toNat : Nat) : Int) = c by omega]; exact hc⟩
    have hsub : ∀ c ∈ (g.nd.getD i nd0).ch, ∀ j, Rch g.nd c.toNat j → Rch g.nd i j := fun c hc j hj => by
      induction hj with
      | refl => exact .step (.refl i) (hkid c hc)
      | step _ hk ih => exact .step ih hk
    by_cases h3 : (g.nd.getD i nd0).p = pl
    · rw [if_pos h3] at hok ⊢
      refine ⟨by rw [h i (.refl i) h3]; exact hok.1, fun c hc => ?_⟩
      exact okB_congr hnd f _ _ _ B B' (by have := hch c hc; omega) (fun j hj hp => h j (hsub c hc j hj) hp) (hok.2 c hc)
    · rw [if_neg h3] at hok ⊢
      intro k hk
      have hm := getD_mem 0 hk
      exact okB_congr hnd f _ _ _ B B' (by have := hch _ hm; omega) (fun j hj hp => h j (hsub _ hm j hj) hp) (hok k hk)
theorem bestB_length {g : Gm} {ot : List (List Int)} {pl : Int} {own : Nat} : ∀ (f i : Nat) (reach : List Int) (p : Nat) (B : List (List Int)), (bestB g ot pl own f i reach p B).length = B.length
  | 0, i, reach, p, B => rfl
  | f + 1, i, reach, p, B => by
    rw [bestB]
    (try simp only [])
    split
    · rfl
    · split
      · rw [List.length_set]
        exact foldl_inv (fun B' : List (List Int) => B'.length = B.length) _ _ rfl fun B' c _ hB' => by rw [bestB_length]; exact hB'
      · exact foldl_inv (fun B' : List (List Int) => B'.length = B.length) _ _ rfl fun B' c _ hB' => by rw [bestB_length]; exact hB'
/-- A walk over a list: what each step brings about stays. -/
theorem foldl_all {α β : Type} {F : β → α → β} {P : α → β → Prop} (I : β → Prop) : ∀ (l : List α) (b : β), l.Nodup → I b → (∀ b x, x ∈ l → I b → I (F b x) ∧ P x (F b x)) → (∀ b x y, x ∈ l → y ∈ l → x ≠ y → I b → P x b → P x (F b y)) → I (l.foldl F b) ∧ ∀ x ∈ l, P x (l.foldl F b)
  | [], b, _, hI, _, _ => ⟨hI, by simp⟩
  | x :: l, b, hn, hI, h1, h2 => by
    rw [List.foldl_cons]
    obtain ⟨hx, hn'⟩ := List.nodup_cons.1 hn
    obtain ⟨i1, p1⟩ := h1 b x (by simp) hI
    obtain ⟨i2, p2⟩ := foldl_all I l (F b x) hn' i1 (fun b y hy => h1 b y (by simp [hy])) (fun b y z hy hz => h2 b y z (by simp [hy]) (by simp [hz]))
    refine ⟨i2, fun y hy => ?_⟩
    rcases List.mem_cons.1 hy with rfl | hy
    · have key : ∀ (m : List α) (b : β), (∀ z ∈ m, z ∈ l) → I b → P y b → P y (m.foldl F b) := by
        intro m
        induction m with
        | nil => intro b _ _ hp; exact hp
        | cons z m ih =>
          intro b hm hb hp
          rw [List.foldl_cons]
          have hz := hm z (by simp)
          exact ih _ (fun q hq => hm q (by simp [hq])) (h1 b z (by simp [hz]) hb).1 (h2 b y z (by simp) (by simp [hz]) (fun e => hx (e ▸ hz)) hb hp)
      exact key l _ (fun z hz => hz) i1 p1
    · exact p2 y hy
theorem incr_nodup : ∀ {l : List Int}, incr l = true → l.Nodup := by
  have key : ∀ (l : List Int) (a : Int), incr (a :: l) = true → (∀ x ∈ l, a < x) ∧ l.Nodup := by
    intro l
    induction l with
    | nil => intro a _; simp
    | cons b l ih =>
      intro a h
      simp only [incr, Bool.and_eq_true, decide_eq_true_eq] at h
      obtain ⟨h1, h2⟩ := ih b h.2
      refine ⟨fun x hx => ?_, List.nodup_cons.2 ⟨fun hb => by have := h1 b hb; omega, h2⟩⟩
      rcases List.mem_cons.1 hx with rfl | hx
      · exact h.1
      · have := h1 x hx; omega
  intro l h
  cases l with
  | nil => simp
  | cons a l =>
    obtain ⟨h1, h2⟩ := key l a h
    exact List.nodup_cons.2 ⟨fun hb => by have := h1 a hb; omega, h2⟩
theorem nd_nodup {l : List Nd} (h : ndsOK l) {i : Nat} (hi : i < l.length) (hp : (l.getD i nd0).p ≠ 2) : (l.getD i nd0).ch.Nodup := by
  have hx : l[i]? = some (l.getD i nd0) := by rw [List.getD_eq_getElem?_getD, List.getElem?_eq_getElem hi]; rfl
  have h1 := h i _ hx
  simp only [ndOK, Bool.and_eq_true, if_neg hp] at h1
  exact incr_nodup h1.2.2
theorem bestB_ok {g : Gm} {ot : List (List Int)} {pl : Int} {own : Nat} (hnd : ndsOK g.nd) (ho : ∀ i, i < g.nd.length → i = 0 ∨ occ i g.nd = 1) (hown : own < g.w.length) : ∀ (f i : Nat) (reach : List Int) (p : Nat) (B : List (List Int)), i < g.nd.length → B.length = (sets g pl).length → okB g ot pl own f i reach p (bestB g ot pl own f i reach p B)
  | 0, i, reach, p, B, _, _ => trivial
  | f + 1, i, reach, p, B, hi, hB => by
    rw [bestB, okB]
    (try simp only [])
    intro h2
    rw [if_neg h2]
    have hx : g.nd[i]? = some (g.nd.getD i nd0) := by rw [List.getD_eq_getElem?_getD, List.getElem?_eq_getElem hi]; rfl
    have hch := ndOK_child (hnd i _ hx)
    have hnod := nd_nodup hnd hi h2
    have hkid : ∀ c ∈ (g.nd.getD i nd0).ch, isKid g.nd i c.toNat := fun c hc => ⟨hi, h2, by have := hch c hc; rw [show ((c.toNat : Nat) : Int) = c by omega]; exact hc⟩
    have hlow : ∀ c ∈ (g.nd.getD i nd0).ch, ∀ j, Rch g.nd c.toNat j → i < j := fun c hc j hj => by
      have := hj.le hnd; have := hch c hc; omega
    have hapart : ∀ c ∈ (g.nd.getD i nd0).ch, ∀ d ∈ (g.nd.getD i nd0).ch, c ≠ d → ∀ j j', Rch g.nd c.toNat j → Rch g.nd d.toNat j' → (g.nd.getD j nd0).p = pl → (g.nd.getD j' nd0).p = pl → setI g pl j' own ≠ setI g pl j own := by
      intro c hc d hd hcd j j' h1 h1' hp hp' he
      obtain ⟨e, _⟩ := setI_inj hp' hp hown hown he
      subst e
      have := Rch.apart hnd ho (hkid c hc) (hkid d hd) h1 h1'
      have := hch c hc; have := hch d hd
      omega
    by_cases h3 : (g.nd.getD i nd0).p = pl
    · rw [if_pos h3, if_pos h3]
      obtain ⟨hl, hall⟩ := foldl_all (F := fun B (c : Int) => bestB g ot pl own f c.toNat reach p B) (P := fun c B => okB g ot pl own f c.toNat reach p B) (fun B => B.length = (sets g pl).length) (g.nd.getD i nd0).ch B hnod hB
        (fun B c hc hl => ⟨by rw [bestB_length]; exact hl, bestB_ok hnd ho hown f _ _ _ B (by have := hch c hc; omega) hl⟩)
        (fun B c d hc hd hcd hl hok => okB_congr hnd f _ _ _ B _ (by have := hch c hc; omega) (fun j hj hp => bestB_other _ f _ _ _ B (by have := hch d hd; omega) hnd fun j' hj' hp' => hapart c hc d hd hcd j j' hj hj' hp hp') hok)
      refine ⟨?_, fun c hc => ?_⟩
      · rw [List.getElem?_set_self (by rw [hl]; exact setI_lt hi hown h3)]; rfl
      · refine okB_congr hnd f _ _ _ _ _ (by have := hch c hc; omega) (fun j hj hp => ?_) (hall c hc)
        rw [List.getElem?_set_ne]
        intro he
        obtain ⟨e, _⟩ := setI_inj h3 hp hown hown he
        have := hlow c hc j hj
        omega
    · rw [if_neg h3, if_neg h3]
      obtain ⟨hl, hall⟩ := foldl_all (F := fun B k => bestB g ot pl own f ((g.nd.getD i nd0).ch.getD k 0).toNat (nextR g ot pl i reach k) (p - 1) B) (P := fun k B => okB g ot pl own f ((g.nd.getD i nd0).ch.getD k 0).toNat (nextR g ot pl i reach k) (p - 1) B) (fun B => B.length = (sets g pl).length) (List.range (g.nd.getD i nd0).ch.length) B List.nodup_range hB
        (fun B k hk hl => ⟨by rw [bestB_length]; exact hl, bestB_ok hnd ho hown f _ _ _ B (by have := hch _ (getD_mem 0 (List.mem_range.1 hk)); omega) hl⟩)
        (fun B k k' hk hk' hkk hl hok => by
          have hk := List.mem_range.1 hk
          have hk' := List.mem_range.1 hk'
          have hm := getD_mem 0 hk
          have hm' := getD_mem 0 hk'
          refine okB_congr hnd f _ _ _ B _ (by have := hch _ hm; omega) (fun j hj hp => bestB_other _ f _ _ _ B (by have := hch _ hm'; omega) hnd fun j' hj' hp' => hapart _ hm _ hm' (fun e => hkk ?_) j j' hj hj' hp hp') hok
          have e1 : (g.nd.getD i nd0).ch.getD k 0 = (g.nd.getD i nd0).ch[k] := by rw [List.getD_eq_getElem?_getD, List.getElem?_eq_getElem hk]; rfl
          have e2 : (g.nd.getD i nd0).ch.getD k' 0 = (g.nd.getD i nd0).ch[k'] := by rw [List.getD_eq_getElem?_getD, List.getElem?_eq_getElem hk']; rfl
          rw [e1, e2] at e
          exact (List.getElem_inj hnod).1 e)
      exact fun k hk => hall k (List.mem_range.2 hk)
end Go.Ab

/- Games as data: a best response is a strategy and attains the best value. -/
set_option linter.unusedSimpArgs false
set_option linter.unusedVariables false
namespace Go.Ab

theorem pureL_getD {n j k : Nat} (hj : j < n) : (pureL n j).getD k 0 = if k = j then 60 else 0 := by
  unfold pureL
  rw [List.getD_eq_getElem?_getD, List.getElem?_set, List.length_replicate]
  by_cases h : j = k
  · subst h; rw [if_pos rfl, if_pos hj, if_pos rfl]; rfl
  · rw [if_neg h, if_neg (Ne.symm h), List.getElem?_replicate]
    split <;> rfl
theorem sumI_pick (F : Nat → Int) (j : Nat) : ∀ n, sumI ((List.range n).map fun k => (if k = j then 60 else 0) * F k) = if j < n then 60 * F j else 0
  | 0 => by simp [sumI]
  | n + 1 => by
    rw [List.range_succ, List.map_append, sumI_append, sumI_pick F j n]
    simp only [List.map_cons, List.map_nil, sumI, Int.add_zero]
    by_cases h : n = j
    · subst h; rw [if_neg (by omega), if_pos rfl, if_pos (by omega)]; omega
    · rw [if_neg h, Int.zero_mul, Int.add_zero]
      by_cases h2 : j < n
      · rw [if_pos h2, if_pos (by omega)]
      · rw [if_neg h2, if_neg (by omega)]
theorem pureL_sum {n j : Nat} (F : Nat → Int) (hj : j < n) : sumI ((List.range n).map fun k => (pureL n j).getD k 0 * F k) = 60 * F j := by
  have := sumI_pick F j n
  rw [if_pos hj] at this
  rw [← this]
  exact sumI_congr fun k _ => by rw [pureL_getD hj]
theorem pureL_length (n j : Nat) : (pureL n j).length = n := by simp [pureL]
theorem pureL_parts {n j : Nat} (hj : j < n) : (∀ x ∈ pureL n j, 0 ≤ x ∧ x ≤ 60) ∧ sumI (pureL n j) = 60 := by
  constructor
  · intro x hx
    rcases List.mem_or_eq_of_mem_set hx with h | rfl
    · have := (List.mem_replicate.1 h).2; omega
    · omega
  · have h := pureL_sum (fun _ => 1) hj
    simp only [Int.mul_one] at h
    have e := map_getD_range (pureL n j)
    rw [pureL_length] at e
    rw [← e]; exact h
theorem okB_kid {g : Gm} {ot : List (List Int)} {pl : Int} {own f i j : Nat} {reach : List Int} {p : Nat} {B : List (List Int)} (h : okB g ot pl own (f + 1) i reach p B) (hk : isKid g.nd i j) : ∃ reach' p', okB g ot pl own f j reach' p' B := by
  rw [okB] at h
  (try simp only [] at h)
  obtain ⟨h1, h2, h3⟩ := hk
  have h := h h2
  by_cases hp : (g.nd.getD i nd0).p = pl
  · rw [if_pos hp] at h
    exact ⟨_, _, h.2 _ h3⟩
  · rw [if_neg hp] at h
    obtain ⟨k, hk, e⟩ := List.mem_iff_getElem.1 h3
    have := h k hk
    rw [List.getD_eq_getElem?_getD, List.getElem?_eq_getElem hk] at this
    simp only [Option.getD_some, e, Int.toNat_natCast] at this
    exact ⟨_, _, this⟩
theorem okB_rch {g : Gm} {ot : List (List Int)} {pl : Int} {own f i j : Nat} {reach : List Int} {p : Nat} {B : List (List Int)} (hnd : ndsOK g.nd) (h : okB g ot pl own f i reach p B) (hf : g.nd.length ≤ i + f) (hr : Rch g.nd i j) : ∃ f' reach' p', g.nd.length ≤ j + f' ∧ okB g ot pl own f' j reach' p' B := by
  induction hr with
  | refl => exact ⟨f, reach, p, hf, h⟩
  | step _ hk ih =>
    obtain ⟨f', r', p', h1, h2⟩ := ih
    have hl := kid_lt hnd hk
    obtain ⟨f'', rfl⟩ : ∃ f'', f' = f'' + 1 := ⟨f' - 1, by have := hk.1; omega⟩
    obtain ⟨r2, p2, h3⟩ := okB_kid h2 hk
    exact ⟨f'', r2, p2, by omega, h3⟩
/-- The lists of a best response are a strategy. -/
theorem okB_parts {g : Gm} {ot : List (List Int)} {pl : Int} {B : List (List Int)} (hnd : ndsOK g.nd) (ho : ∀ i, i < g.nd.length → i = 0 ∨ occ i g.nd = 1) (hpl : pl = 0 ∨ pl = 1) (h : ∀ own, own < g.w.length → okB g ot pl own g.nd.length 0 (reach0 g pl own) (dpt g) B) : partsOK g B pl := by
  intro i c hi hc hp
  obtain ⟨f', r', p', h1, h2⟩ := okB_rch hnd (h c hc) (by omega) (all_rch hnd ho (i + 1) i (by omega) hi)
  obtain ⟨f'', rfl⟩ : ∃ f'', f' = f'' + 1 := ⟨f' - 1, by omega⟩
  have hx : g.nd[i]? = some (g.nd.getD i nd0) := by rw [List.getD_eq_getElem?_getD, List.getElem?_eq_getElem hi]; rfl
  obtain ⟨_, _, _, _, hdec, _⟩ := ndOK_fields (hnd i _ hx)
  have hp2 : (g.nd.getD i nd0).p ≠ 2 := by omega
  rw [okB] at h2
  (try simp only [] at h2)
  have h2 := h2 hp2
  rw [if_pos hp] at h2
  have hne : (g.nd.getD i nd0).ch.map (fun c' => bestV g ot pl c f'' c'.toNat r' p') ≠ [] := by
    intro h
    have := congrArg List.length h
    simp at this
    have := (hdec hp2).2
    simp_all
  have hj := argmax_lt hne
  rw [List.length_map] at hj
  have hq : partsOf g B pl i c = pureL (g.nd.getD i nd0).ch.length (argmax ((g.nd.getD i nd0).ch.map fun c' => bestV g ot pl c f'' c'.toNat r' p')) := by unfold partsOf; rw [List.getD_eq_getElem?_getD, h2.1]; rfl
  rw [hq]
  exact ⟨pureL_length _ _, (pureL_parts hj).1, (pureL_parts hj).2⟩
theorem runB_ok {g : Gm} {ot : List (List Int)} {pl : Int} (hnd : ndsOK g.nd) (hn : 1 ≤ g.nd.length) (ho : ∀ i, i < g.nd.length → i = 0 ∨ occ i g.nd = 1) : (runB g ot pl g.w.length).length = (sets g pl).length ∧ ∀ own, own < g.w.length → okB g ot pl own g.nd.length 0 (reach0 g pl own) (dpt g) (runB g ot pl g.w.length) := by
  obtain ⟨h1, h2⟩ := foldl_all (F := fun B own => bestB g ot pl own g.nd.length 0 (reach0 g pl own) (dpt g) B) (P := fun own B => okB g ot pl own g.nd.length 0 (reach0 g pl own) (dpt g) B) (fun B => B.length = (sets g pl).length) (List.range g.w.length) (List.replicate (sets g pl).length []) List.nodup_range (by simp)
    (fun B own hown hl => ⟨by rw [bestB_length]; exact hl, bestB_ok hnd ho (List.mem_range.1 hown) _ _ _ _ B (by omega) hl⟩)
    (fun B own own' hown hown' hne hl hok => okB_congr hnd _ _ _ _ B _ (by omega) (fun j hj hp => bestB_other _ _ _ _ _ B (by omega) hnd fun j' hj' hp' he => hne (setI_inj hp' hp (List.mem_range.1 hown') (List.mem_range.1 hown) he).2.symm) hok)
  exact ⟨h1, fun own hown => h2 own (List.mem_range.2 hown)⟩
theorem runB_parts {g : Gm} (hg : isGameB g = true) (ot : List (List Int)) {pl : Int} (hpl : pl = 0 ∨ pl = 1) : partsOK g (runB g ot pl g.w.length) pl := by
  obtain ⟨ht1, _⟩ := isGameB_spec hg
  obtain ⟨hn, hnd, ho, _⟩ := isTreeB_spec ht1
  exact okB_parts hnd ho hpl (runB_ok hnd hn.1 ho).2
/-- A strategy by its parts. -/
theorem idxs_get {l : List Nd} {pl : Int} : ∀ (n q : Nat) (x : Int), (idxs l pl n)[q]? = some x → ∃ i : Nat, x = i ∧ i < n ∧ (l.getD i nd0).p = pl ∧ (idxs l pl i).length = q
  | 0, q, x, h => by simp [idxs] at h
  | n + 1, q, x, h => by
    rw [idxs_succ] at h
    split at h
    · rename_i hp
      rcases Nat.lt_trichotomy q (idxs l pl n).length with h1 | h1 | h1
      · rw [List.getElem?_append_left h1] at h
        obtain ⟨i, e, hi, h2⟩ := idxs_get n q x h
        exact ⟨i, e, by omega, h2⟩
      · rw [List.getElem?_append_right (by omega), h1, Nat.sub_self] at h
        simp at h
        exact ⟨n, h.symm, by omega, hp, h1.symm⟩
      · rw [List.getElem?_eq_none (by simp; omega)] at h; cases h
    · obtain ⟨i, e, hi, h2⟩ := idxs_get n q x h
      exact ⟨i, e, by omega, h2⟩
theorem setsOf_get {ns : List Int} {k : Nat} : ∀ {e : Nat}, e < (setsOf ns k).length → ∃ q c x, c < k ∧ ns[q]? = some x ∧ e = q * k + c ∧ (setsOf ns k)[e]? = some [x, (c : Int)] := by
  induction ns with
  | nil => intro e h; simp [setsOf] at h
  | cons n ns ih =>
    intro e h
    have e0 : setsOf (n :: ns) k = ((List.range k).map fun c : Nat => [n, (c : Int)]) ++ setsOf ns k := rfl
    rw [e0, List.length_append, List.length_map, List.length_range] at h
    by_cases he : e < k
    · refine ⟨0, e, n, he, rfl, by omega, ?_⟩
      rw [e0, List.getElem?_append_left (by simpa using he), List.getElem?_map, List.getElem?_range he]; rfl
    · obtain ⟨q, c, x, h1, h2, h3, h4⟩ := ih (e := e - k) (by omega)
      refine ⟨q + 1, c, x, h1, h2, by rw [Nat.add_mul]; omega, ?_⟩
      rw [e0, List.getElem?_append_right (by simpa using he), List.length_map, List.length_range]; exact h4
theorem sets_find {g : Gm} {pl : Int} {e : Nat} (h : e < (sets g pl).length) : ∃ i c, i < g.nd.length ∧ c < g.w.length ∧ (g.nd.getD i nd0).p = pl ∧ e = setI g pl i c ∧ sizeAt g pl e = (g.nd.getD i nd0).ch.length := by
  obtain ⟨q, c, x, h1, h2, h3, h4⟩ := setsOf_get h
  obtain ⟨i, rfl, hi, hp, hq⟩ := idxs_get _ _ _ h2
  refine ⟨i, c, hi, h1, hp, by rw [setI, hq]; exact h3, ?_⟩
  have e0 : (sets g pl).getD e [] = [(i : Int), (c : Int)] := by rw [List.getD_eq_getElem?_getD]; rw [show (sets g pl)[e]? = some [(i : Int), (c : Int)] from h4]; rfl
  rw [sizeAt, e0]; rfl
theorem isStratB_of {g : Gm} {pl : Int} {pt : List (List Int)} (hl : pt.length = (sets g pl).length) (h : partsOK g pt pl) : isStratB g pl pt = true := by
  simp only [isStratB, Bool.and_eq_true, decide_eq_true_eq, List.all_eq_true, List.mem_range]
  refine ⟨hl, fun e he => ?_⟩
  obtain ⟨i, c, hi, hc, hp, rfl, hs⟩ := sets_find he
  obtain ⟨h1, h2, h3⟩ := h i c hi hc hp
  simp only [partOK, Bool.and_eq_true, decide_eq_true_eq, List.all_eq_true]
  rw [hs]
  exact ⟨⟨h1, h2⟩, h3⟩
theorem runB_strat {g : Gm} (hg : isGameB g = true) (ot : List (List Int)) {pl : Int} (hpl : pl = 0 ∨ pl = 1) : isStratB g pl (runB g ot pl g.w.length) = true := by
  obtain ⟨ht1, _⟩ := isGameB_spec hg
  obtain ⟨hn, hnd, ho, _⟩ := isTreeB_spec ht1
  exact isStratB_of (runB_ok hnd hn.1 ho).1 (runB_parts hg ot hpl)
end Go.Ab

/- Games as data: where a player's nodes have their sets; the reach as it is made. -/
set_option linter.unusedSimpArgs false
set_option linter.unusedVariables false
namespace Go.Ab

/-- The list of the first sets, behind the first j nodes ns. -/
def fillN (ns : List Int) (k n : Nat) : Nat → List Int
  | 0 => List.replicate n 0
  | j + 1 => (fillN ns k n j).set (ns.getD j 0).toNat ((j * k : Nat) : Int)
theorem fillN_length (ns : List Int) (k n : Nat) : ∀ j, (fillN ns k n j).length = n
  | 0 => by simp [fillN]
  | j + 1 => by rw [fillN, List.length_set, fillN_length ns k n j]
/-- The lists of the nodes of a player. -/
def ownL (g : Gm) (pl : Int) : List Int := fillN (idxs g.nd pl g.nd.length) g.w.length g.nd.length (idxs g.nd pl g.nd.length).length
theorem ownL_length (g : Gm) (pl : Int) : (ownL g pl).length = g.nd.length := fillN_length _ _ _ _
theorem idxs_nodup (l : List Nd) (pl : Int) (n : Nat) : (idxs l pl n).Nodup := by
  unfold idxs
  have h : ((List.range n).filter fun i => decide ((l.getD i nd0).p = pl)).Nodup := List.nodup_range.sublist List.filter_sublist
  refine List.Pairwise.map _ (fun a b hab => ?_) h
  intro he
  exact hab (by have he : (a : Int) = b := he; omega)
theorem fillN_get {ns : List Int} {k n i q0 : Nat} (hn : ns.Nodup) (h0 : ∀ x ∈ ns, 0 ≤ x) (hq : ns[q0]? = some (i : Int)) (hi : i < n) : ∀ j, j ≤ ns.length → (fillN ns k n j)[i]? = some (if q0 < j then ((q0 * k : Nat) : Int) else 0)
  | 0, _ => by
    rw [fillN, List.getElem?_replicate, if_pos hi, if_neg (by omega)]
  | j + 1, hj => by
    have ih := fillN_get (k := k) hn h0 hq hi j (by omega)
    obtain ⟨hq1, hq2⟩ := List.getElem?_eq_some_iff.1 hq
    have hjd : ns.getD j 0 = ns[j]'(by omega) := by rw [List.getD_eq_getElem?_getD, List.getElem?_eq_getElem (by omega : j < ns.length)]; rfl
    have hj0 := h0 (ns[j]'(by omega)) (List.getElem_mem _)
    rw [fillN, hjd, List.getElem?_set, fillN_length]
    by_cases he : j = q0
    · subst he
      rw [hq2]
      simp only [Int.toNat_natCast, if_true]
      rw [if_pos hi, if_pos (by omega)]
    · have hne : ns[j]'(by omega) ≠ (i : Int) := fun h => by
        rcases Nat.lt_or_gt_of_ne he with h1 | h1
        · exact (List.pairwise_iff_getElem.1 hn j q0 (by omega) hq1 h1) (h.trans hq2.symm)
        · exact (List.pairwise_iff_getElem.1 hn q0 j hq1 (by omega) h1) (hq2.trans h.symm)
      rw [if_neg (by omega), ih]
      by_cases h2 : q0 < j
      · rw [if_pos h2, if_pos (by omega)]
      · rw [if_neg h2, if_neg (by omega)]
theorem ownL_get {g : Gm} {pl : Int} {i : Nat} (hi : i < g.nd.length) (hp : (g.nd.getD i nd0).p = pl) : (ownL g pl)[i]? = some (((idxs g.nd pl i).length * g.w.length : Nat) : Int) := by
  obtain ⟨rest, e⟩ := idxs_split g.nd pl hp g.nd.length hi
  have hq : (idxs g.nd pl g.nd.length)[(idxs g.nd pl i).length]? = some (i : Int) := by
    rw [e, List.getElem?_append_right (Nat.le_refl _), Nat.sub_self]; rfl
  have h0 : ∀ x ∈ idxs g.nd pl g.nd.length, 0 ≤ x := fun x hx => by
    obtain ⟨j, rfl, _⟩ := idxs_mem hx; omega
  have hlt := (List.getElem?_eq_some_iff.1 hq).1
  have := fillN_get (k := g.w.length) (idxs_nodup g.nd pl g.nd.length) h0 hq hi _ (Nat.le_refl _)
  rw [if_pos hlt] at this
  exact this
end Go.Ab

/- Contracts: the best number and the first best response, the reference's. -/
set_option linter.unusedSimpArgs false
set_option linter.unusedVariables false
namespace Go.Ab
open Go.Proofs

theorem deal_w {g : Gm} (hg : isGameB g = true) {pl : Int} (hpl : pl = 0 ∨ pl = 1) {own b : Nat} (ho : own < g.w.length) (hb : b < g.w.length) : ∃ (u v : Nat) (r : List Int) (y : Int), fstC pl own b = u ∧ fstC pl b own = v ∧ g.w[u]? = some r ∧ r[v]? = some y ∧ (reach0 g pl own)[b]? = some y ∧ u < g.w.length ∧ v < r.length := by
  have e0 : (reach0 g pl own)[b]? = some (if pl = 0 then (g.w.getD own []).getD b 0 else (g.w.getD b []).getD own 0) := by
    unfold reach0; rw [List.getElem?_map, List.getElem?_range hb]; rfl
  rcases hpl with rfl | rfl
  · obtain ⟨r, y, h1, h2, _⟩ := game_w hg ho hb
    refine ⟨own, b, r, y, rfl, rfl, h1, h2, ?_, ho, (List.getElem?_eq_some_iff.1 h2).1⟩
    rw [e0, if_pos rfl]; simp only [List.getD_eq_getElem?_getD, h1, Option.getD_some, h2]
  · obtain ⟨r, y, h1, h2, _⟩ := game_w hg hb ho
    refine ⟨b, own, r, y, rfl, rfl, h1, h2, ?_, hb, (List.getElem?_eq_some_iff.1 h2).1⟩
    rw [e0, if_neg (by decide)]; simp only [List.getD_eq_getElem?_getD, h1, Option.getD_some, h2]
theorem cap0 {g : Gm} (hg : isGameB g = true) (pl : Int) (own : Nat) : capOK (reach0 g pl own) (dpt g) ∧ (∀ x ∈ reach0 g pl own, 0 ≤ x) := by
  obtain ⟨_, hk, hw, _, _, _⟩ := isGameB_spec hg
  obtain ⟨_, _, _, _, _, h1, h2⟩ := game_unit hg
  have hb := reach0_bound hw pl own
  have hs := sumI_le (b := 9) fun x hx => (hb x hx).2
  rw [reach0_length] at hs
  have hs0 := sumI_nonneg fun x hx => (hb x hx).1
  refine ⟨?_, fun x hx => (hb x hx).1⟩
  unfold capOK
  have h3 : sumI (reach0 g pl own) ≤ 54 := by omega
  have := Int.mul_le_mul h3 h2 (by omega) (by decide)
  omega
theorem Le.bc {a a' : T} {l l' : List T} (h : Le a a') (hl : Le (.box l) (.box l')) : Le (.box (a :: l)) (.box (a' :: l')) := by
  have hb : l.length = l'.length ∧ ∀ i (h : i < l.length) (h' : i < l'.length), Le l[i] l'[i] := by
    cases hl with
    | refl => exact ⟨rfl, fun i _ _ => .refl _⟩
    | box h1 h2 => exact ⟨h1, h2⟩
  refine .box (by simp [hb.1]) fun i hi hi' => ?_
  cases i with
  | zero => exact h
  | succ i => exact hb.2 i (by simpa using hi) (by simpa using hi')
theorem Le.nilRows (n : Nat) : Le (.arr 1 (List.replicate n (.v (.slice none 0 0)))) (rowsO (List.replicate n [])) := by
  refine .arr 1 (by simp) fun i h h' => ?_
  simp only [List.getElem_replicate, List.getElem_map]
  exact .nilArr 1
/-- The parts of a run are bounded. -/
theorem runV_abs {g : Gm} (hg : isGameB g = true) {ot : List (List Int)} {pl : Int} (hpl : pl = 0 ∨ pl = 1) (hot : partsOK g ot (1 - pl)) (n : Nat) : -(n * capV) ≤ runV g ot pl n ∧ runV g ot pl n ≤ n * capV := by
  obtain ⟨p1, hk, hw, _, _, _⟩ := isGameB_spec hg
  obtain ⟨t1, t2, t3, t4⟩ := isTreeB_spec p1
  unfold runV
  refine sumI_range_abs fun own _ => ?_
  have hc := cap0 hg pl own
  exact bestV_cap t2 hpl hot (by omega) (reach0_length g pl own) hc.2 (by rw [dpt_eq]; exact Int.le_refl _) hc.1
/-- What a run returns. -/
def runT (g : Gm) (ot : List (List Int)) (pl : Int) : T := .tup [.i (runV g ot pl g.w.length), .agg [.i pl, rowsO (runB g ot pl g.w.length)]]
section
attribute [-go_sem] load1C load1V fldC lenC idxC loadNV nilCheckW
set_option maxRecDepth 20000 in
theorem spec_l24Run_ok {g : Gm} {ot : List (List Int)} {pl : Int} (hg : isGameB g = true) (hpl : pl = 0 ∨ pl = 1) (hot : partsOK g ot (1 - pl)) : Fun Try.prog 71 [] [.t (gameT g), .t (stratT (1 - pl, ot))] fun o r => o = [] ∧ r = runT g ot pl := by
  obtain ⟨p1, p2, p3, p4, p5⟩ := isGameB_parts hg
  obtain ⟨t1, t2, t3, t4⟩ := isTreeB_spec p1
  obtain ⟨u1, u2, u3, u4, u5, u6, u7⟩ := game_unit hg
  have hsl := sets_len g pl t1.2 p2.2
  have hrv := runV_abs (n := g.w.length) hg hpl hot
  refine fun_spec_l24Run_h (by simp) ?_
  simp -implicitDefEqProofs only [go_sem, List.reduceReplicate, Nat.reduceEqDiff, Nat.reduceAdd, Nat.reduceLeDiff, Nat.reduceMul, Nat.reduceSub, Nat.reduceDiv, Int.reduceToNat, Nat.reduceLT, Int.reduceLT, Int.reduceLE, ↓reduceIte, reduceCtorEq, forall_apply_eq_imp_iff₂, ints, rows, rat, rats, toNat_cast, c_spec_l24Run_h, gameT, stratT, nodes, rows]
  rw [wrap64 (n := 1 - (1 - pl)) (by omega) (by omega), show 1 - (1 - pl) = pl by omega]
  refine CallC.res (l21Sets_t g pl t1.2 p2.2) [] rfl Try.call113 (fun e R' hR => ?_) (.inl rfl) ?_
  · simp -implicitDefEqProofs only [Int.natCast_zero, Int.cast_ofNat_Int, Int.natCast_one, Nat.le_refl, Nat.reduceLeDiff, Nat.sub_self, Nat.reduceSub, List.getElem?_cons_zero, List.getElem?_cons_succ, vt_self, vaL, vtL, va, vt, vb, maT, List.cons_append, List.nil_append, List.append_nil, true_or, or_true, go_sem, List.reduceReplicate, Nat.reduceEqDiff, Nat.reduceAdd, Nat.reduceLeDiff, Nat.reduceMul, Nat.reduceSub, Nat.reduceDiv, Int.reduceToNat, Nat.reduceLT, Int.reduceLT, Int.reduceLE, ↓reduceIte, reduceCtorEq, ints, rows, rat, rats, ratsO, toShL_ratC, List.mem_cons, List.mem_nil_iff, List.not_mem_nil, or_false, false_or, exists_eq_left, exists_eq_left', exists_eq_right', Root.live.injEq, eq_self_iff_true, exists_eq, and_true, T.toSh, toShL_ints, toShL_intsO, intsO, rowsO]
  simp -implicitDefEqProofs only [List.append_nil, List.cons_append, Nat.reduceLeDiff, afterCall, absT_rowsO, absT_intsO, absT, absL, updL, updS, freeAll, rid, T.noSh, T.noShL, Nat.zero_le, go_sem, List.reduceReplicate, Nat.reduceEqDiff, Nat.reduceAdd, Nat.reduceLeDiff, Nat.reduceMul, Nat.reduceSub, Nat.reduceDiv, Int.reduceToNat, Nat.reduceLT, Int.reduceLT, Int.reduceLE, ↓reduceIte, reduceCtorEq, rat, forall_apply_eq_imp_iff₂, toNat_cast, rowsO, made_one, List.length_map]
  refine ⟨by omega, by omega, ?_⟩
  refine SemC.loopR (σ := Nat) (fun k => St.of [(2, .own 2), (5, .own 5), (6, .own 19), (7, .t (.i (runV g ot pl k))), (8, .t (.i k))] [(2, .box [nodes g.nd, rows g.w, rows g.v]), (5, .box [.i 0, .v (.slice none 0 0)]), (19, srch g ot pl (runB g ot pl k))]) (fun k => k ≤ g.w.length) (fun k => g.w.length - k) 0 (Weak.of _ _ [some 2, some 5, some 19] (by simp) (by simp) ?_ ?_) (by omega) fun k hk R hn hr he => ?_
  · simp -implicitDefEqProofs only [ints, rows, Nat.reduceBEq, Int.add_zero, envOK, maA, maT, upd_apply, Nat.reduceEqDiff, ↓reduceIte, and_true, true_or, or_true, List.map_cons, List.map_nil, Nat.zero_ne_one, and_self, true_and, Int.natCast_zero, Int.cast_ofNat_Int, Int.ofNat_zero, piOf, List.zip_cons_cons, List.zip_nil_right, List.lookup_cons, List.lookup_nil, beq_self_eq_true, rootsOK, mkRoots, mkEnv, nodes, runV, List.range_zero, List.map_nil, sumI]
  · refine ⟨⟨_, rfl, .refl _⟩, rfl, ⟨_, rfl, .refl _⟩, rfl, ⟨_, rfl, ?_⟩, rfl, trivial⟩
    refine .bc (.refl _) (.bc (.refl _) (.bc (.refl _) (.bc (.refl _) (.bc (.refl _) (.bc (.refl _) (.bc ?_ (.refl _)))))))
    exact Le.nilRows _
  · rcases Nat.lt_or_ge k g.w.length with h9 | h9
    · simp -implicitDefEqProofs only [go_sem, List.reduceReplicate, Nat.reduceEqDiff, Nat.reduceAdd, Nat.reduceLeDiff, Nat.reduceMul, Nat.reduceSub, Nat.reduceDiv, Int.reduceToNat, Nat.reduceLT, Int.reduceLT, Int.reduceLE, ↓reduceIte, reduceCtorEq, forall_apply_eq_imp_iff₂, ints, rows, rat, rats, toNat_cast, srch, nodes, rows, decide_eq_true (show (k : Int) < (g.w.length : Int) by omega)]
      refine SemC.loopR (σ := Nat) (fun b => St.of [(2, .own 2), (5, .own 5), (6, .own 19), (7, .t (.i (runV g ot pl k))), (8, .t (.i k)), (9, .own 77), (10, .t (.i b))] [(2, .box [nodes g.nd, rows g.w, rows g.v]), (5, .box [.i 0, .v (.slice none 0 0)]), (19, srch g ot pl (runB g ot pl k)), (77, .arr 1 (((reach0 g pl k).take b).map T.i))]) (fun b => b ≤ g.w.length) (fun b => g.w.length - b) 0 (Weak.of _ _ [some 2, some 5, some 19, some 38] (by simp) (by simp) ?_ ?_) (by omega) fun b hb R2 hn2 hr2 he2 => ?_
      · simp -implicitDefEqProofs only [ints, rows, Nat.reduceBEq, Int.add_zero, envOK, maA, maT, upd_apply, Nat.reduceEqDiff, ↓reduceIte, and_true, true_or, or_true, List.map_cons, List.map_nil, Nat.zero_ne_one, and_self, true_and, Int.natCast_zero, Int.cast_ofNat_Int, Int.ofNat_zero, piOf, List.zip_cons_cons, List.zip_nil_right, List.lookup_cons, List.lookup_nil, beq_self_eq_true, rootsOK, mkRoots, mkEnv, nodes, srch]
      · exact ⟨⟨_, rfl, .refl _⟩, rfl, ⟨_, rfl, .refl _⟩, rfl, ⟨_, rfl, .refl _⟩, rfl, ⟨_, rfl, .refl _⟩, rfl, trivial⟩
      · have hrl := reach0_length g pl k
        rcases Nat.lt_or_ge b g.w.length with h8 | h8
        · obtain ⟨u, v, r, y, d1, d2, d3, d4, d5, d6, d7⟩ := deal_w hg hpl h9 h8
          simp -implicitDefEqProofs only [go_sem, List.reduceReplicate, Nat.reduceEqDiff, Nat.reduceAdd, Nat.reduceLeDiff, Nat.reduceMul, Nat.reduceSub, Nat.reduceDiv, Int.reduceToNat, Nat.reduceLT, Int.reduceLT, Int.reduceLE, ↓reduceIte, reduceCtorEq, forall_apply_eq_imp_iff₂, ints, rows, rat, rats, toNat_cast, srch, nodes, rows, decide_eq_true (show (b : Int) < (g.w.length : Int) by omega)]
          refine CallW.ref (l24Deal_t g ot (runB g ot pl k) pl k b) [19] [] rfl Try.call115 (by simp) ?_ (by simp) ?_ (.inl rfl) ?_
          · simp -implicitDefEqProofs only [rootOf_arr, rootOf_box, rootOf_any, srcsOK, updL, updS, upd_apply, Nat.reduceEqDiff, ↓reduceIte, mkRoots, and_true, ints, rows, intsO, rowsO]
          · simp -implicitDefEqProofs only [Int.natCast_zero, Int.cast_ofNat_Int, Int.natCast_one, Nat.le_refl, Nat.reduceLeDiff, Nat.sub_self, Nat.reduceSub, List.getElem?_cons_zero, List.getElem?_cons_succ, vt_self, vaL, vtL, va, vt, vb, maT, List.cons_append, List.nil_append, List.append_nil, true_or, or_true, go_sem, List.reduceReplicate, Nat.reduceEqDiff, Nat.reduceAdd, Nat.reduceLeDiff, Nat.reduceMul, Nat.reduceSub, Nat.reduceDiv, Int.reduceToNat, Nat.reduceLT, Int.reduceLT, Int.reduceLE, ↓reduceIte, reduceCtorEq, ints, rows, rat, rats, ratsO, toShL_ratC, List.mem_cons, List.mem_nil_iff, List.not_mem_nil, or_false, false_or, exists_eq_left, exists_eq_left', exists_eq_right', Root.live.injEq, eq_self_iff_true, exists_eq, and_true, T.toSh, toShL_ints, toShL_intsO, intsO, rowsO]
          simp -implicitDefEqProofs only [List.append_nil, List.cons_append, Nat.reduceLeDiff, afterCall, absT_rowsO, absT_intsO, absT, absL, updL, updS, freeAll, rid, T.noSh, T.noShL, Nat.zero_le, go_sem, List.reduceReplicate, Nat.reduceEqDiff, Nat.reduceAdd, Nat.reduceLeDiff, Nat.reduceMul, Nat.reduceSub, Nat.reduceDiv, Int.reduceToNat, Nat.reduceLT, Int.reduceLT, Int.reduceLE, ↓reduceIte, reduceCtorEq, rat, forall_apply_eq_imp_iff₂, toNat_cast, d1, d2, d3, d4, ints]
          refine ⟨by omega, by omega, by omega, by omega, by omega, by omega, by rw [List.length_take]; omega, hn2 _ (b + 1) (Weak.of _ _ [some 2, some 5, some 19, some 63] (by simp) (by simp) ?_ ?_) (by omega) (by omega)⟩
          · simp -implicitDefEqProofs only [ints, rows, Nat.reduceBEq, Int.add_zero, envOK, maA, maT, upd_apply, Nat.reduceEqDiff, ↓reduceIte, and_true, true_or, or_true, List.map_cons, List.map_nil, Nat.zero_ne_one, and_self, true_and, Int.natCast_zero, Int.cast_ofNat_Int, Int.ofNat_zero, piOf, List.zip_cons_cons, List.zip_nil_right, List.lookup_cons, List.lookup_nil, beq_self_eq_true, rootsOK, mkRoots, mkEnv, nodes, srch, next64 h8 (by omega)]
          · refine ⟨⟨_, rfl, .refl _⟩, rfl, ⟨_, rfl, .refl _⟩, rfl, ⟨_, rfl, .refl _⟩, rfl, ⟨_, rfl, ?_⟩, rfl, trivial⟩
            rw [take_snoc d5, List.map_append]; exact .refl _
        · simp -implicitDefEqProofs only [go_sem, List.reduceReplicate, Nat.reduceEqDiff, Nat.reduceAdd, Nat.reduceLeDiff, Nat.reduceMul, Nat.reduceSub, Nat.reduceDiv, Int.reduceToNat, Nat.reduceLT, Int.reduceLT, Int.reduceLE, ↓reduceIte, reduceCtorEq, forall_apply_eq_imp_iff₂, ints, rows, rat, rats, toNat_cast, srch, nodes, rows, decide_eq_false (show ¬ (b : Int) < (g.w.length : Int) by omega)]
          refine he2 _ _ ?_
          simp -implicitDefEqProofs only [go_sem, List.reduceReplicate, Nat.reduceEqDiff, Nat.reduceAdd, Nat.reduceLeDiff, Nat.reduceMul, Nat.reduceSub, Nat.reduceDiv, Int.reduceToNat, Nat.reduceLT, Int.reduceLT, Int.reduceLE, ↓reduceIte, reduceCtorEq, forall_apply_eq_imp_iff₂, ints, rows, rat, rats, toNat_cast, srch, nodes, rows]
          rw [List.take_of_length_le (show (reach0 g pl k).length ≤ b by omega)]
          refine ⟨_, Weak.trans (Weak.share 77 rfl) (Weak.of [(2, .own 2), (5, .own 5), (6, .own 19), (7, .t (.i (runV g ot pl k))), (8, .t (.i k)), (9, .t (ints (reach0 g pl k)))] [(2, .box [nodes g.nd, rows g.w, rows g.v]), (5, .box [.i 0, .v (.slice none 0 0)]), (19, srch g ot pl (runB g ot pl k))] [some 2, some 5, some 19] (by simp) (by simp) ?_ ?_), ?_⟩
          · simp -implicitDefEqProofs only [ints, rows, Nat.reduceBEq, Int.add_zero, envOK, maA, maT, upd_apply, Nat.reduceEqDiff, ↓reduceIte, and_true, true_or, or_true, List.map_cons, List.map_nil, Nat.zero_ne_one, and_self, true_and, Int.natCast_zero, Int.cast_ofNat_Int, Int.ofNat_zero, piOf, List.zip_cons_cons, List.zip_nil_right, List.lookup_cons, List.lookup_nil, beq_self_eq_true, rootsOK, mkRoots, mkEnv, shareA, srch, nodes, T.toSh, T.toShL_eq_map, List.map_map]
            exact .inr (.inl rfl)
          · exact ⟨⟨_, rfl, .refl _⟩, rfl, ⟨_, rfl, .refl _⟩, rfl, ⟨_, rfl, .refl _⟩, rfl, trivial⟩
          · simp -implicitDefEqProofs only [go_sem, List.reduceReplicate, Nat.reduceEqDiff, Nat.reduceAdd, Nat.reduceLeDiff, Nat.reduceMul, Nat.reduceSub, Nat.reduceDiv, Int.reduceToNat, Nat.reduceLT, Int.reduceLT, Int.reduceLE, ↓reduceIte, reduceCtorEq, forall_apply_eq_imp_iff₂, ints, rows, rat, rats, toNat_cast, srch, nodes, rows]
            refine CallW.pure (dep_t (spec_l20Depth_ok t2 (by omega) g.nd.length 0 (by omega) (by omega) (by omega))) [] rfl Try.call117 ?_ (by first | trivial | simp [T.noSh, T.noShL, rat]) rfl ?_
            · simp -implicitDefEqProofs only [Int.natCast_zero, Int.cast_ofNat_Int, Int.natCast_one, Nat.le_refl, Nat.reduceLeDiff, Nat.sub_self, Nat.reduceSub, List.getElem?_cons_zero, List.getElem?_cons_succ, vt_self, vaL, vtL, va, vt, vb, maT, List.cons_append, List.nil_append, List.append_nil, true_or, or_true, go_sem, List.reduceReplicate, Nat.reduceEqDiff, Nat.reduceAdd, Nat.reduceLeDiff, Nat.reduceMul, Nat.reduceSub, Nat.reduceDiv, Int.reduceToNat, Nat.reduceLT, Int.reduceLT, Int.reduceLE, ↓reduceIte, reduceCtorEq, ints, rows, rat, rats, ratsO, toShL_ratC, List.mem_cons, List.mem_nil_iff, List.not_mem_nil, or_false, false_or, exists_eq_left, exists_eq_left', exists_eq_right', Root.live.injEq, eq_self_iff_true, exists_eq, and_true, T.toSh, toShL_ints, toShL_intsO, intsO, rowsO]
            simp -implicitDefEqProofs only [go_sem, List.reduceReplicate, Nat.reduceEqDiff, Nat.reduceAdd, Nat.reduceLeDiff, Nat.reduceMul, Nat.reduceSub, Nat.reduceDiv, Int.reduceToNat, Nat.reduceLT, Int.reduceLT, Int.reduceLE, ↓reduceIte, reduceCtorEq, forall_apply_eq_imp_iff₂, ints, rows, rat, rats, toNat_cast]
            rw [u2]
            have hc := cap0 hg pl k
            have hcall := spec_l24Visit_ok hg hpl hot h9 g.nd.length 0 (reach0 g pl k) (dpt g) (runB g ot pl k) (by omega) (by omega) hrl hc.2 (by rw [dpt_eq]; exact Int.le_refl _) u3 hc.1 (runB_rows t2 ot pl k)
            rw [← runB_succ] at hcall
            simp only [srch, nodes, rows, ints] at hcall
            have hv1 := runV_abs hg hpl hot k
            have hv2 := runV_abs hg hpl hot (k + 1)
            have hcv : capV = 4199040000000 := rfl
            have hk6 : ((k + 1 : Nat) : Int) * capV ≤ 6 * capV := Int.mul_le_mul_of_nonneg_right (by omega) (by decide)
            rw [runV_succ] at hv2
            refine CallW.ref hcall [19] [] rfl Try.call116 (by simp) ?_ (by simp) ?_ (.inl rfl) ?_
            · simp -implicitDefEqProofs only [rootOf_arr, rootOf_box, rootOf_any, srcsOK, updL, updS, upd_apply, Nat.reduceEqDiff, ↓reduceIte, mkRoots, and_true, ints, rows, intsO, rowsO]
            · simp -implicitDefEqProofs only [Int.natCast_zero, Int.cast_ofNat_Int, Int.natCast_one, Nat.le_refl, Nat.reduceLeDiff, Nat.sub_self, Nat.reduceSub, List.getElem?_cons_zero, List.getElem?_cons_succ, vt_self, vaL, vtL, va, vt, vb, maT, List.cons_append, List.nil_append, List.append_nil, true_or, or_true, go_sem, List.reduceReplicate, Nat.reduceEqDiff, Nat.reduceAdd, Nat.reduceLeDiff, Nat.reduceMul, Nat.reduceSub, Nat.reduceDiv, Int.reduceToNat, Nat.reduceLT, Int.reduceLT, Int.reduceLE, ↓reduceIte, reduceCtorEq, ints, rows, rat, rats, ratsO, toShL_ratC, List.mem_cons, List.mem_nil_iff, List.not_mem_nil, or_false, false_or, exists_eq_left, exists_eq_left', exists_eq_right', Root.live.injEq, eq_self_iff_true, exists_eq, and_true, T.toSh, toShL_ints, toShL_intsO, intsO, rowsO]
            simp -implicitDefEqProofs only [List.append_nil, List.cons_append, Nat.reduceLeDiff, afterCall, absT_rowsO, absT_intsO, absT, absL, updL, updS, freeAll, rid, T.noSh, T.noShL, Nat.zero_le, go_sem, List.reduceReplicate, Nat.reduceEqDiff, Nat.reduceAdd, Nat.reduceLeDiff, Nat.reduceMul, Nat.reduceSub, Nat.reduceDiv, Int.reduceToNat, Nat.reduceLT, Int.reduceLT, Int.reduceLE, ↓reduceIte, reduceCtorEq, rat, forall_apply_eq_imp_iff₂, toNat_cast]
            refine hn _ (k + 1) (Weak.of _ _ [some 2, some 5, some 19] (by simp) (by simp) ?_ ?_) (by omega) (by omega)
            · simp -implicitDefEqProofs only [ints, rows, Nat.reduceBEq, Int.add_zero, envOK, maA, maT, upd_apply, Nat.reduceEqDiff, ↓reduceIte, and_true, true_or, or_true, List.map_cons, List.map_nil, Nat.zero_ne_one, and_self, true_and, Int.natCast_zero, Int.cast_ofNat_Int, Int.ofNat_zero, piOf, List.zip_cons_cons, List.zip_nil_right, List.lookup_cons, List.lookup_nil, beq_self_eq_true, rootsOK, mkRoots, mkEnv, srch, nodes, next64 h9 (by omega), wrap64 (n := runV g ot pl k + bestV g ot pl k g.nd.length 0 (reach0 g pl k) (dpt g)) (by omega) (by omega), runV_succ]
            · exact ⟨⟨_, rfl, .refl _⟩, rfl, ⟨_, rfl, .refl _⟩, rfl, ⟨_, rfl, .refl _⟩, rfl, trivial⟩
    · simp -implicitDefEqProofs only [go_sem, List.reduceReplicate, Nat.reduceEqDiff, Nat.reduceAdd, Nat.reduceLeDiff, Nat.reduceMul, Nat.reduceSub, Nat.reduceDiv, Int.reduceToNat, Nat.reduceLT, Int.reduceLT, Int.reduceLE, ↓reduceIte, reduceCtorEq, forall_apply_eq_imp_iff₂, ints, rows, rat, rats, toNat_cast, srch, nodes, rows, decide_eq_false (show ¬ (k : Int) < (g.w.length : Int) by omega)]
      refine he _ _ ?_
      simp -implicitDefEqProofs only [go_sem, List.reduceReplicate, Nat.reduceEqDiff, Nat.reduceAdd, Nat.reduceLeDiff, Nat.reduceMul, Nat.reduceSub, Nat.reduceDiv, Int.reduceToNat, Nat.reduceLT, Int.reduceLT, Int.reduceLE, ↓reduceIte, reduceCtorEq, forall_apply_eq_imp_iff₂, ints, rows, rat, rats, toNat_cast]
      refine ⟨_, Weak.open 19 6 500 rfl rfl rfl (by decide) rfl, ?_⟩
      simp -implicitDefEqProofs only [go_sem, List.reduceReplicate, Nat.reduceEqDiff, Nat.reduceAdd, Nat.reduceLeDiff, Nat.reduceMul, Nat.reduceSub, Nat.reduceDiv, Int.reduceToNat, Nat.reduceLT, Int.reduceLT, Int.reduceLE, ↓reduceIte, reduceCtorEq, forall_apply_eq_imp_iff₂, ints, rows, rat, rats, toNat_cast, List.lookup_cons, beq_self_eq_true, Nat.reduceBEq]
      rw [show k = g.w.length by omega]; rfl
end
end Go.Ab
