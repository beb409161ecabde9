/- The program's WidthOf returns what the reference's returns, for all arguments, and keeps its arguments (and its earlier result): the law FnExactWidthOf returns true for every input. No conditions. -/
import Derived.Test.YtgingfdddndlfaaRows
import Derived.Test.YtgingfdddndlfaaQ5
/- Contracts: the best number and the first best response, the program's. -/
set_option linter.unusedSimpArgs false
set_option linter.unusedVariables false
namespace Go.Ab
open Go.Proofs

theorem idxs_lt' {l : List Nd} {pl : Int} {j : Nat} {y : Int} (h : (idxs l pl l.length)[j]? = some y) : ∃ i : Nat, y = i ∧ i < l.length := by
  obtain ⟨i, h1, h2, _⟩ := idxs_mem (List.mem_of_getElem? h)
  exact ⟨i, h1, h2⟩
theorem mergeR_at (m : List Nat) (R R' : Nat → Root) (r : Nat) : mergeR m R R' r = if m.any (fun d => decide (r = d) || decide (r / 1000 = d + 1)) then R r else R' r := rfl
/-- The search while it is made. -/
def rbox0 (g : Gm) (ot : List (List Int)) (pl : Int) (a b : List Int) : T := .box [nodes g.nd, rows g.w, rows g.v, .i pl, .i 0, intsO a, intsO b, rows ot, .i 0, .v (.slice none 0 0)]
def rbox1 (g : Gm) (ot : List (List Int)) (pl : Int) (B : List (List Int)) : T := .box [nodes g.nd, rows g.w, rows g.v, .i pl, .any, ints (ownL g pl), ints (ownL g (1 - pl)), rows ot, .i pl, rowsO B]
section
attribute [-go_sem] load1C load1V fldC lenC idxC loadNV nilCheckW
set_option maxRecDepth 20000 in
theorem impl_bestAgainst_ok {g : Gm} {ot : List (List Int)} {pl : Int} (hg : isGameB g = true) (hpl : pl = 0 ∨ pl = 1) (hot : partsOK g ot (1 - pl)) : Fun Try.prog 76 [] [.t (gameT g), .t (stratT (1 - pl, ot))] fun o r => o = [] ∧ r = runT g ot pl := by
  obtain ⟨p1, p2, p3, p4, p5⟩ := isGameB_parts hg
  obtain ⟨t1, t2, t3, t4⟩ := isTreeB_spec p1
  obtain ⟨u1, u2, u3, u4, u5, u6, u7⟩ := game_unit hg
  have hsl := sets_len g pl t1.2 p2.2
  have hsl2 := sets_length g pl
  have hrv := runV_abs (n := g.w.length) hg hpl hot
  have hil := idxs_length g.nd pl g.nd.length
  have hil2 := idxs_length g.nd (1 - pl) g.nd.length
  have hmul : ∀ n : Nat, n ≤ g.nd.length → n * g.w.length ≤ 60 * 6 := fun n hn => Nat.mul_le_mul (by omega) p2.2
  refine fun_impl_bestAgainst_h (by simp) ?_
  simp -implicitDefEqProofs only [go_sem, List.reduceReplicate, Nat.reduceEqDiff, Nat.reduceAdd, Nat.reduceLeDiff, Nat.reduceMul, Nat.reduceSub, Nat.reduceDiv, Int.reduceToNat, Nat.reduceLT, Int.reduceLT, Int.reduceLE, ↓reduceIte, reduceCtorEq, forall_apply_eq_imp_iff₂, ints, rows, rat, rats, toNat_cast, c_impl_bestAgainst_h, gameT, stratT, nodes, rows, made_one]
  rw [wrap64 (n := 1 - (1 - pl)) (by omega) (by omega), show 1 - (1 - pl) = pl by omega]
  refine ⟨by omega, by omega, by omega, by omega, ?_⟩
  refine ⟨?_, ((frameOK.refl _ _ _).upd _ (.inl (by simp))).upd _ (.inl (by simp))⟩
  simp -implicitDefEqProofs only [go_sem, List.reduceReplicate, Nat.reduceEqDiff, Nat.reduceAdd, Nat.reduceLeDiff, Nat.reduceMul, Nat.reduceSub, Nat.reduceDiv, Int.reduceToNat, Nat.reduceLT, Int.reduceLT, Int.reduceLE, ↓reduceIte, reduceCtorEq, forall_apply_eq_imp_iff₂, ints, rows, rat, rats, toNat_cast, mergeR_at]
  have hoL : ∀ q, ownL g q = fillN (idxs g.nd q g.nd.length) g.w.length g.nd.length (idxs g.nd q g.nd.length).length := fun q => rfl
  have hfl : ∀ q j, (fillN (idxs g.nd q g.nd.length) g.w.length g.nd.length j).length = g.nd.length := fun q j => fillN_length _ _ _ _
  have hfs : ∀ q j (n : Nat), (idxs g.nd q g.nd.length)[j]? = some (n : Int) → fillN (idxs g.nd q g.nd.length) g.w.length g.nd.length (j + 1) = (fillN (idxs g.nd q g.nd.length) g.w.length g.nd.length j).set n ((j * g.w.length : Nat) : Int) := fun q j n h => by
    rw [fillN, List.getD_eq_getElem?_getD, h]; rfl
  refine CallW.res (impl_nodesOf_t g.nd pl (by omega)) [] rfl Try.call123 ?_ (.inl rfl) ?_
  · simp -implicitDefEqProofs only [Int.natCast_zero, Int.cast_ofNat_Int, Int.natCast_one, Nat.le_refl, Nat.reduceLeDiff, Nat.sub_self, Nat.reduceSub, List.getElem?_cons_zero, List.getElem?_cons_succ, vt_self, vaL, vtL, va, vt, vb, maT, List.cons_append, List.nil_append, List.append_nil, true_or, or_true, go_sem, List.reduceReplicate, Nat.reduceEqDiff, Nat.reduceAdd, Nat.reduceLeDiff, Nat.reduceMul, Nat.reduceSub, Nat.reduceDiv, Int.reduceToNat, Nat.reduceLT, Int.reduceLT, Int.reduceLE, ↓reduceIte, reduceCtorEq, ints, rows, rat, rats, ratsO, toShL_ratC, List.mem_cons, List.mem_nil_iff, List.not_mem_nil, or_false, false_or, exists_eq_left, exists_eq_left', exists_eq_right', Root.live.injEq, eq_self_iff_true, exists_eq, and_true, T.toSh, toShL_ints, toShL_intsO, intsO, rowsO]
  simp -implicitDefEqProofs only [List.append_nil, List.cons_append, Nat.reduceLeDiff, afterCall, absT_rowsO, absT_intsO, absT, absL, updL, updS, freeAll, rid, T.noSh, T.noShL, Nat.zero_le, go_sem, List.reduceReplicate, Nat.reduceEqDiff, Nat.reduceAdd, Nat.reduceLeDiff, Nat.reduceMul, Nat.reduceSub, Nat.reduceDiv, Int.reduceToNat, Nat.reduceLT, Int.reduceLT, Int.reduceLE, ↓reduceIte, reduceCtorEq, rat, forall_apply_eq_imp_iff₂, toNat_cast, intsO, mergeR_at]
  refine SemC.loopR (σ := Nat) (fun j => St.of [(2, .own 2), (3, .own 3), (5, .own 5), (6, .own 6), (7, .t (.i g.w.length)), (42, .own 42), (43, .t (.i (idxs g.nd pl g.nd.length).length)), (44, .t (.i j))] [(2, .box [nodes g.nd, rows g.w, rows g.v]), (3, .box [.i (1 - pl), rows ot]), (5, .box [.i 0, .v (.slice none 0 0)]), (6, rbox0 g ot pl (fillN (idxs g.nd pl g.nd.length) g.w.length g.nd.length j) (List.replicate g.nd.length 0)), (42, intsO (idxs g.nd pl g.nd.length))]) (fun j => j ≤ (idxs g.nd pl g.nd.length).length) (fun j => (idxs g.nd pl g.nd.length).length - j) 0 (Weak.of _ _ [some 2, some 3, some 5, some 6, some 42] (by simp) (by simp) ?_ ?_) (by omega) fun j hj R hn hr he => ?_
  · simp -implicitDefEqProofs only [ints, rows, Nat.reduceBEq, Int.add_zero, envOK, maA, maT, upd_apply, Nat.reduceEqDiff, ↓reduceIte, and_true, true_or, or_true, List.map_cons, List.map_nil, Nat.zero_ne_one, and_self, true_and, Int.natCast_zero, Int.cast_ofNat_Int, Int.ofNat_zero, piOf, List.zip_cons_cons, List.zip_nil_right, List.lookup_cons, List.lookup_nil, beq_self_eq_true, rootsOK, mkRoots, mkEnv, nodes, mergeR_at]
  · refine ⟨⟨_, rfl, .refl _⟩, rfl, ⟨_, rfl, .refl _⟩, rfl, ⟨_, rfl, .refl _⟩, rfl, ⟨_, rfl, ?_⟩, rfl, ⟨_, rfl, .refl _⟩, rfl, trivial⟩
    have e : T.arr 1 (List.replicate g.nd.length (T.v (Value.int IntKind.i64 0))) = intsO (List.replicate g.nd.length 0) := by rw [intsO, List.map_replicate]
    rw [e]; exact .refl _
  · rcases Nat.lt_or_ge j (idxs g.nd pl g.nd.length).length with h9 | h9
    · obtain ⟨y, hy⟩ : ∃ y, (idxs g.nd pl g.nd.length)[j]? = some y := ⟨_, List.getElem?_eq_getElem h9⟩
      obtain ⟨n, rfl, hn1⟩ := idxs_lt' hy
      have hjm := hmul j (by omega)
      simp -implicitDefEqProofs only [go_sem, List.reduceReplicate, Nat.reduceEqDiff, Nat.reduceAdd, Nat.reduceLeDiff, Nat.reduceMul, Nat.reduceSub, Nat.reduceDiv, Int.reduceToNat, Nat.reduceLT, Int.reduceLT, Int.reduceLE, ↓reduceIte, reduceCtorEq, forall_apply_eq_imp_iff₂, ints, rows, rat, rats, toNat_cast, rbox0, nodes, rows, hy, intsO, decide_eq_true (show (j : Int) < ((idxs g.nd pl g.nd.length).length : Int) by omega), hfl]
      refine ⟨by omega, by omega, by omega, by omega, by omega, by omega, hn _ (j + 1) (Weak.trans (Weak.join2 Try.prog tyOne (sl 49) (sl 50) rfl rfl rfl rfl (by decide) (by simp)) (Weak.of _ _ [some 2, some 3, some 5, some 6, some 42] (by simp) (by simp) ?_ ?_)) (by omega) (by omega)⟩
      · simp -implicitDefEqProofs only [ints, rows, Nat.reduceBEq, Int.add_zero, envOK, maA, maT, upd_apply, Nat.reduceEqDiff, ↓reduceIte, and_true, true_or, or_true, List.map_cons, List.map_nil, Nat.zero_ne_one, and_self, true_and, Int.natCast_zero, Int.cast_ofNat_Int, Int.ofNat_zero, piOf, List.zip_cons_cons, List.zip_nil_right, List.lookup_cons, List.lookup_nil, beq_self_eq_true, rootsOK, mkRoots, mkEnv, nodes, next64 h9 (by omega)]
      · refine ⟨⟨_, rfl, .refl _⟩, rfl, ⟨_, rfl, .refl _⟩, rfl, ⟨_, rfl, .refl _⟩, rfl, ⟨_, rfl, ?_⟩, rfl, ⟨_, rfl, .refl _⟩, rfl, trivial⟩
        rw [hfs _ _ _ hy, rbox0, intsO, List.map_set, wrap64 (n := (j : Int) * (g.w.length : Int)) (by omega) (by omega), ← Int.natCast_mul]; exact .refl _
    · simp -implicitDefEqProofs only [go_sem, List.reduceReplicate, Nat.reduceEqDiff, Nat.reduceAdd, Nat.reduceLeDiff, Nat.reduceMul, Nat.reduceSub, Nat.reduceDiv, Int.reduceToNat, Nat.reduceLT, Int.reduceLT, Int.reduceLE, ↓reduceIte, reduceCtorEq, forall_apply_eq_imp_iff₂, ints, rows, rat, rats, toNat_cast, rbox0, nodes, rows, intsO, decide_eq_false (show ¬ (j : Int) < ((idxs g.nd pl g.nd.length).length : Int) by omega)]
      refine he _ _ ?_
      simp -implicitDefEqProofs only [go_sem, List.reduceReplicate, Nat.reduceEqDiff, Nat.reduceAdd, Nat.reduceLeDiff, Nat.reduceMul, Nat.reduceSub, Nat.reduceDiv, Int.reduceToNat, Nat.reduceLT, Int.reduceLT, Int.reduceLE, ↓reduceIte, reduceCtorEq, forall_apply_eq_imp_iff₂, ints, rows, rat, rats, toNat_cast]
      rw [show j = (idxs g.nd pl g.nd.length).length by omega, ← hoL]
      clear hn hr he R
      refine CallW.res (impl_nodesOf_t g.nd (1 - pl) (by omega)) [] rfl Try.call123 ?_ (.inl rfl) ?_
      · simp -implicitDefEqProofs only [Int.natCast_zero, Int.cast_ofNat_Int, Int.natCast_one, Nat.le_refl, Nat.reduceLeDiff, Nat.sub_self, Nat.reduceSub, List.getElem?_cons_zero, List.getElem?_cons_succ, vt_self, vaL, vtL, va, vt, vb, maT, List.cons_append, List.nil_append, List.append_nil, true_or, or_true, go_sem, List.reduceReplicate, Nat.reduceEqDiff, Nat.reduceAdd, Nat.reduceLeDiff, Nat.reduceMul, Nat.reduceSub, Nat.reduceDiv, Int.reduceToNat, Nat.reduceLT, Int.reduceLT, Int.reduceLE, ↓reduceIte, reduceCtorEq, ints, rows, rat, rats, ratsO, toShL_ratC, List.mem_cons, List.mem_nil_iff, List.not_mem_nil, or_false, false_or, exists_eq_left, exists_eq_left', exists_eq_right', Root.live.injEq, eq_self_iff_true, exists_eq, and_true, T.toSh, toShL_ints, toShL_intsO, intsO, rowsO]
      simp -implicitDefEqProofs only [List.append_nil, List.cons_append, Nat.reduceLeDiff, afterCall, absT_rowsO, absT_intsO, absT, absL, updL, updS, freeAll, rid, T.noSh, T.noShL, Nat.zero_le, go_sem, List.reduceReplicate, Nat.reduceEqDiff, Nat.reduceAdd, Nat.reduceLeDiff, Nat.reduceMul, Nat.reduceSub, Nat.reduceDiv, Int.reduceToNat, Nat.reduceLT, Int.reduceLT, Int.reduceLE, ↓reduceIte, reduceCtorEq, rat, forall_apply_eq_imp_iff₂, toNat_cast, intsO]
      refine SemC.loopR (σ := Nat) (fun j => St.of [(2, .own 2), (3, .own 3), (5, .own 5), (6, .own 6), (7, .t (.i g.w.length)), (61, .own 61), (62, .t (.i (idxs g.nd (1 - pl) g.nd.length).length)), (63, .t (.i j))] [(2, .box [nodes g.nd, rows g.w, rows g.v]), (3, .box [.i (1 - pl), rows ot]), (5, .box [.i 0, .v (.slice none 0 0)]), (6, rbox0 g ot pl (ownL g pl) (fillN (idxs g.nd (1 - pl) g.nd.length) g.w.length g.nd.length j)), (61, intsO (idxs g.nd (1 - pl) g.nd.length))]) (fun j => j ≤ (idxs g.nd (1 - pl) g.nd.length).length) (fun j => (idxs g.nd (1 - pl) g.nd.length).length - j) 0 (Weak.of _ _ [some 2, some 3, some 5, some 6, some 61] (by simp) (by simp) ?_ ?_) (by omega) fun j hj R hn hr he => ?_
      · simp -implicitDefEqProofs only [ints, rows, Nat.reduceBEq, Int.add_zero, envOK, maA, maT, upd_apply, Nat.reduceEqDiff, ↓reduceIte, and_true, true_or, or_true, List.map_cons, List.map_nil, Nat.zero_ne_one, and_self, true_and, Int.natCast_zero, Int.cast_ofNat_Int, Int.ofNat_zero, piOf, List.zip_cons_cons, List.zip_nil_right, List.lookup_cons, List.lookup_nil, beq_self_eq_true, rootsOK, mkRoots, mkEnv, nodes, mergeR_at]
      · refine ⟨⟨_, rfl, .refl _⟩, rfl, ⟨_, rfl, .refl _⟩, rfl, ⟨_, rfl, .refl _⟩, rfl, ⟨_, rfl, .refl _⟩, rfl, ⟨_, rfl, .refl _⟩, rfl, trivial⟩
      · have hol := ownL_length g pl
        rcases Nat.lt_or_ge j (idxs g.nd (1 - pl) g.nd.length).length with h9 | h9
        · obtain ⟨y, hy⟩ : ∃ y, (idxs g.nd (1 - pl) g.nd.length)[j]? = some y := ⟨_, List.getElem?_eq_getElem h9⟩
          obtain ⟨n, rfl, hn1⟩ := idxs_lt' hy
          have hjm := hmul j (by omega)
          simp -implicitDefEqProofs only [go_sem, List.reduceReplicate, Nat.reduceEqDiff, Nat.reduceAdd, Nat.reduceLeDiff, Nat.reduceMul, Nat.reduceSub, Nat.reduceDiv, Int.reduceToNat, Nat.reduceLT, Int.reduceLT, Int.reduceLE, ↓reduceIte, reduceCtorEq, forall_apply_eq_imp_iff₂, ints, rows, rat, rats, toNat_cast, rbox0, nodes, rows, hy, intsO, decide_eq_true (show (j : Int) < ((idxs g.nd (1 - pl) g.nd.length).length : Int) by omega), hfl]
          refine ⟨by omega, by omega, by omega, by omega, by omega, by omega, hn _ (j + 1) (Weak.trans (Weak.join2 Try.prog tyOne (sl 68) (sl 69) rfl rfl rfl rfl (by decide) (by simp)) (Weak.of _ _ [some 2, some 3, some 5, some 6, some 61] (by simp) (by simp) ?_ ?_)) (by omega) (by omega)⟩
          · simp -implicitDefEqProofs only [ints, rows, Nat.reduceBEq, Int.add_zero, envOK, maA, maT, upd_apply, Nat.reduceEqDiff, ↓reduceIte, and_true, true_or, or_true, List.map_cons, List.map_nil, Nat.zero_ne_one, and_self, true_and, Int.natCast_zero, Int.cast_ofNat_Int, Int.ofNat_zero, piOf, List.zip_cons_cons, List.zip_nil_right, List.lookup_cons, List.lookup_nil, beq_self_eq_true, rootsOK, mkRoots, mkEnv, nodes, next64 h9 (by omega)]
          · refine ⟨⟨_, rfl, .refl _⟩, rfl, ⟨_, rfl, .refl _⟩, rfl, ⟨_, rfl, .refl _⟩, rfl, ⟨_, rfl, ?_⟩, rfl, ⟨_, rfl, .refl _⟩, rfl, trivial⟩
            rw [hfs _ _ _ hy, rbox0, intsO, intsO, List.map_set, wrap64 (n := (j : Int) * (g.w.length : Int)) (by omega) (by omega), ← Int.natCast_mul]; exact .refl _
        · simp -implicitDefEqProofs only [go_sem, List.reduceReplicate, Nat.reduceEqDiff, Nat.reduceAdd, Nat.reduceLeDiff, Nat.reduceMul, Nat.reduceSub, Nat.reduceDiv, Int.reduceToNat, Nat.reduceLT, Int.reduceLT, Int.reduceLE, ↓reduceIte, reduceCtorEq, forall_apply_eq_imp_iff₂, ints, rows, rat, rats, toNat_cast, rbox0, nodes, rows, intsO, decide_eq_false (show ¬ (j : Int) < ((idxs g.nd (1 - pl) g.nd.length).length : Int) by omega)]
          refine he _ _ ?_
          simp -implicitDefEqProofs only [go_sem, List.reduceReplicate, Nat.reduceEqDiff, Nat.reduceAdd, Nat.reduceLeDiff, Nat.reduceMul, Nat.reduceSub, Nat.reduceDiv, Int.reduceToNat, Nat.reduceLT, Int.reduceLT, Int.reduceLE, ↓reduceIte, reduceCtorEq, forall_apply_eq_imp_iff₂, ints, rows, rat, rats, toNat_cast]
          rw [show j = (idxs g.nd (1 - pl) g.nd.length).length by omega, ← hoL]
          clear hn hr he R
          have hm1 := hmul (idxs g.nd pl g.nd.length).length (by omega)
          have hm2 : (g.w.length : Int) * ((idxs g.nd pl g.nd.length).length : Int) = ((sets g pl).length : Nat) := by rw [hsl2, Int.natCast_mul, Int.mul_comm]
          refine CallC.res (impl_nodesOf_t g.nd pl (by omega)) [] rfl Try.call123 (fun e R' hR => ?_) (.inl rfl) ?_
          · simp -implicitDefEqProofs only [Int.natCast_zero, Int.cast_ofNat_Int, Int.natCast_one, Nat.le_refl, Nat.reduceLeDiff, Nat.sub_self, Nat.reduceSub, List.getElem?_cons_zero, List.getElem?_cons_succ, vt_self, vaL, vtL, va, vt, vb, maT, List.cons_append, List.nil_append, List.append_nil, true_or, or_true, go_sem, List.reduceReplicate, Nat.reduceEqDiff, Nat.reduceAdd, Nat.reduceLeDiff, Nat.reduceMul, Nat.reduceSub, Nat.reduceDiv, Int.reduceToNat, Nat.reduceLT, Int.reduceLT, Int.reduceLE, ↓reduceIte, reduceCtorEq, ints, rows, rat, rats, ratsO, toShL_ratC, List.mem_cons, List.mem_nil_iff, List.not_mem_nil, or_false, false_or, exists_eq_left, exists_eq_left', exists_eq_right', Root.live.injEq, eq_self_iff_true, exists_eq, and_true, T.toSh, toShL_ints, toShL_intsO, intsO, rowsO]
          simp -implicitDefEqProofs only [List.append_nil, List.cons_append, Nat.reduceLeDiff, afterCall, absT_rowsO, absT_intsO, absT, absL, updL, updS, freeAll, rid, T.noSh, T.noShL, Nat.zero_le, go_sem, List.reduceReplicate, Nat.reduceEqDiff, Nat.reduceAdd, Nat.reduceLeDiff, Nat.reduceMul, Nat.reduceSub, Nat.reduceDiv, Int.reduceToNat, Nat.reduceLT, Int.reduceLT, Int.reduceLE, ↓reduceIte, reduceCtorEq, rat, forall_apply_eq_imp_iff₂, toNat_cast, intsO, made_one, hm2, wrap64 (n := ((sets g pl).length : Int)) (by omega) (by omega)]
          refine ⟨by omega, by omega, ?_⟩
          refine SemC.loopR (σ := Nat) (fun k => St.of [(2, .own 2), (5, .own 5), (6, .own 6), (7, .t (.i g.w.length)), (12, .t (.i (runV g ot pl k))), (89, .t (.i g.w.length)), (90, .t (.i k))] [(2, .box [nodes g.nd, rows g.w, rows g.v]), (5, .box [.i 0, .v (.slice none 0 0)]), (6, rbox1 g ot pl (runB g ot pl k))]) (fun k => k ≤ g.w.length) (fun k => g.w.length - k) 0 (Weak.trans (Weak.open 6 5 500 rfl rfl rfl (by decide) rfl) (Weak.trans (Weak.shareJoin 6 5 500 rfl rfl (by decide) rfl (by simp)) (Weak.trans (Weak.open 6 6 501 rfl rfl rfl (by decide) rfl) (Weak.trans (Weak.shareJoin 6 6 501 rfl rfl (by decide) rfl (by simp)) (Weak.of _ _ [some 2, some 5, some 6] (by simp) (by simp) ?_ ?_))))) (by omega) fun k hk R hn hr he => ?_
          · simp -implicitDefEqProofs only [ints, rows, Nat.reduceBEq, Int.add_zero, envOK, maA, maT, upd_apply, Nat.reduceEqDiff, ↓reduceIte, and_true, true_or, or_true, List.map_cons, List.map_nil, Nat.zero_ne_one, and_self, true_and, Int.natCast_zero, Int.cast_ofNat_Int, Int.ofNat_zero, piOf, List.zip_cons_cons, List.zip_nil_right, List.lookup_cons, List.lookup_nil, beq_self_eq_true, rootsOK, mkRoots, mkEnv, nodes, mergeR_at, runV, List.range_zero, List.map_nil, sumI, shareA]
          · refine ⟨⟨_, rfl, .refl _⟩, rfl, ⟨_, rfl, .refl _⟩, rfl, ⟨_, rfl, ?_⟩, rfl, trivial⟩
            have e1 : (T.arr 1 (List.map T.i (ownL g pl))).toSh = ints (ownL g pl) := intsO_toSh _
            have e2 : (T.arr 1 (List.map T.i (ownL g (1 - pl)))).toSh = ints (ownL g (1 - pl)) := intsO_toSh _
            rw [e1, e2]
            exact .bc (.refl _) (.bc (.refl _) (.bc (.refl _) (.bc (.refl _) (.bc (.any _) (.bc (.refl _) (.bc (.refl _) (.bc (.refl _) (.bc (.refl _) (.bc (Le.nilRows _) (.refl _))))))))))
          · rcases Nat.lt_or_ge k g.w.length with h9 | h9
            · simp -implicitDefEqProofs only [go_sem, List.reduceReplicate, Nat.reduceEqDiff, Nat.reduceAdd, Nat.reduceLeDiff, Nat.reduceMul, Nat.reduceSub, Nat.reduceDiv, Int.reduceToNat, Nat.reduceLT, Int.reduceLT, Int.reduceLE, ↓reduceIte, reduceCtorEq, forall_apply_eq_imp_iff₂, ints, rows, rat, rats, toNat_cast, rbox1, nodes, rows, made_one, decide_eq_true (show (k : Int) < (g.w.length : Int) by omega)]
              refine ⟨by omega, by omega, ?_⟩
              have hrl := reach0_length g pl k
              refine SemC.loopR (σ := Nat) (fun b => St.of [(2, .own 2), (5, .own 5), (6, .own 6), (7, .t (.i g.w.length)), (12, .t (.i (runV g ot pl k))), (13, .t (.i k)), (14, .own 77), (89, .t (.i g.w.length)), (90, .t (.i k)), (97, .own 77), (98, .t (.i g.w.length)), (99, .t (.i b))] [(2, .box [nodes g.nd, rows g.w, rows g.v]), (5, .box [.i 0, .v (.slice none 0 0)]), (6, rbox g ot pl k (runB g ot pl k)), (77, .arr 1 (filled (reach0 g pl k) T.i (.i 0) b))]) (fun b => b ≤ g.w.length) (fun b => g.w.length - b) 0 (Weak.of _ _ [some 2, some 5, some 6, some 96] (by simp) (by simp) ?_ ?_) (by omega) fun b hb R2 hn2 hr2 he2 => ?_
              · simp -implicitDefEqProofs only [ints, rows, Nat.reduceBEq, Int.add_zero, envOK, maA, maT, upd_apply, Nat.reduceEqDiff, ↓reduceIte, and_true, true_or, or_true, List.map_cons, List.map_nil, Nat.zero_ne_one, and_self, true_and, Int.natCast_zero, Int.cast_ofNat_Int, Int.ofNat_zero, piOf, List.zip_cons_cons, List.zip_nil_right, List.lookup_cons, List.lookup_nil, beq_self_eq_true, rootsOK, mkRoots, mkEnv, nodes, rbox, List.length_replicate]
              · refine ⟨⟨_, rfl, .refl _⟩, rfl, ⟨_, rfl, .refl _⟩, rfl, ⟨_, rfl, .refl _⟩, rfl, ⟨_, rfl, ?_⟩, rfl, trivial⟩
                rw [filled_zero, hrl]; exact .refl _
              · have hfl := filled_length (reach0 g pl k) T.i (.i 0) b (by omega)
                rcases Nat.lt_or_ge b g.w.length with h8 | h8
                · obtain ⟨u, v, r, y, d1, d2, d3, d4, d5, d6, d7⟩ := deal_w hg hpl h9 h8
                  have fin : ∀ S, Weak 139 S (St.of [(2, .own 2), (5, .own 5), (6, .own 6), (7, .t (.i g.w.length)), (12, .t (.i (runV g ot pl k))), (13, .t (.i k)), (14, .own 77), (89, .t (.i g.w.length)), (90, .t (.i k)), (97, .own 77), (98, .t (.i g.w.length)), (99, .t (.i (b + 1 : Nat)))] [(2, .box [nodes g.nd, rows g.w, rows g.v]), (5, .box [.i 0, .v (.slice none 0 0)]), (6, rbox g ot pl k (runB g ot pl k)), (77, .arr 1 (filled (reach0 g pl k) T.i (.i 0) (b + 1)))]) → R2 .normal S := fun S h => hn2 S (b + 1) h (by omega) (by omega)
                  rw [← filled_set d5] at fin
                  clear hn2
                  rcases hpl with rfl | rfl
                  · have d1 : k = u := by have e : (k : Int) = (u : Int) := d1; omega
                    have d2 : b = v := by have e : (b : Int) = (v : Int) := d2; omega
                    subst d1 d2
                    simp -implicitDefEqProofs only [go_sem, List.reduceReplicate, Nat.reduceEqDiff, Nat.reduceAdd, Nat.reduceLeDiff, Nat.reduceMul, Nat.reduceSub, Nat.reduceDiv, Int.reduceToNat, Nat.reduceLT, Int.reduceLT, Int.reduceLE, ↓reduceIte, reduceCtorEq, forall_apply_eq_imp_iff₂, ints, rows, rat, rats, toNat_cast, rbox, nodes, rows, d3, d4, hfl, decide_eq_true (show (b : Int) < (g.w.length : Int) by omega)]
                    refine ⟨fun _ => ⟨by omega, by omega, by omega, by omega, by omega, by omega, by omega, by omega, by omega, ?_⟩, fun h => absurd h (by decide)⟩
                    · refine fin _ (Weak.of _ _ [some 2, some 5, some 6, some 77] (by simp) (by simp) ?_ ?_)
                      · simp -implicitDefEqProofs only [ints, rows, Nat.reduceBEq, Int.add_zero, envOK, maA, maT, upd_apply, Nat.reduceEqDiff, ↓reduceIte, and_true, true_or, or_true, List.map_cons, List.map_nil, Nat.zero_ne_one, and_self, true_and, Int.natCast_zero, Int.cast_ofNat_Int, Int.ofNat_zero, piOf, List.zip_cons_cons, List.zip_nil_right, List.lookup_cons, List.lookup_nil, beq_self_eq_true, rootsOK, mkRoots, mkEnv, rbox, nodes, next64 h8 (by omega)]
                      · exact ⟨⟨_, rfl, .refl _⟩, rfl, ⟨_, rfl, .refl _⟩, rfl, ⟨_, rfl, .refl _⟩, rfl, ⟨_, rfl, .refl _⟩, rfl, trivial⟩
                  · have d1 : b = u := by have e : (b : Int) = (u : Int) := d1; omega
                    have d2 : k = v := by have e : (k : Int) = (v : Int) := d2; omega
                    subst d1 d2
                    simp -implicitDefEqProofs only [go_sem, List.reduceReplicate, Nat.reduceEqDiff, Nat.reduceAdd, Nat.reduceLeDiff, Nat.reduceMul, Nat.reduceSub, Nat.reduceDiv, Int.reduceToNat, Nat.reduceLT, Int.reduceLT, Int.reduceLE, ↓reduceIte, reduceCtorEq, forall_apply_eq_imp_iff₂, ints, rows, rat, rats, toNat_cast, rbox, nodes, rows, d3, d4, hfl, decide_eq_true (show (b : Int) < (g.w.length : Int) by omega)]
                    refine ⟨fun h => absurd h (by decide), fun _ => ⟨by omega, by omega, by omega, by omega, by omega, by omega, by omega, by omega, by omega, ?_⟩⟩
                    · refine fin _ (Weak.of _ _ [some 2, some 5, some 6, some 77] (by simp) (by simp) ?_ ?_)
                      · simp -implicitDefEqProofs only [ints, rows, Nat.reduceBEq, Int.add_zero, envOK, maA, maT, upd_apply, Nat.reduceEqDiff, ↓reduceIte, and_true, true_or, or_true, List.map_cons, List.map_nil, Nat.zero_ne_one, and_self, true_and, Int.natCast_zero, Int.cast_ofNat_Int, Int.ofNat_zero, piOf, List.zip_cons_cons, List.zip_nil_right, List.lookup_cons, List.lookup_nil, beq_self_eq_true, rootsOK, mkRoots, mkEnv, rbox, nodes, next64 h8 (by omega)]
                      · exact ⟨⟨_, rfl, .refl _⟩, rfl, ⟨_, rfl, .refl _⟩, rfl, ⟨_, rfl, .refl _⟩, rfl, ⟨_, rfl, .refl _⟩, rfl, trivial⟩
                · simp -implicitDefEqProofs only [go_sem, List.reduceReplicate, Nat.reduceEqDiff, Nat.reduceAdd, Nat.reduceLeDiff, Nat.reduceMul, Nat.reduceSub, Nat.reduceDiv, Int.reduceToNat, Nat.reduceLT, Int.reduceLT, Int.reduceLE, ↓reduceIte, reduceCtorEq, forall_apply_eq_imp_iff₂, ints, rows, rat, rats, toNat_cast, rbox, nodes, rows, decide_eq_false (show ¬ (b : Int) < (g.w.length : Int) by omega)]
                  refine he2 _ _ ?_
                  simp -implicitDefEqProofs only [go_sem, List.reduceReplicate, Nat.reduceEqDiff, Nat.reduceAdd, Nat.reduceLeDiff, Nat.reduceMul, Nat.reduceSub, Nat.reduceDiv, Int.reduceToNat, Nat.reduceLT, Int.reduceLT, Int.reduceLE, ↓reduceIte, reduceCtorEq, forall_apply_eq_imp_iff₂, ints, rows, rat, rats, toNat_cast, rbox, nodes, rows]
                  rw [show b = (reach0 g pl k).length by omega, filled_all]
                  refine ⟨_, Weak.trans (Weak.share 77 rfl) (Weak.of [(2, .own 2), (5, .own 5), (6, .own 6), (7, .t (.i g.w.length)), (12, .t (.i (runV g ot pl k))), (13, .t (.i k)), (14, .t (ints (reach0 g pl k))), (89, .t (.i g.w.length)), (90, .t (.i k))] [(2, .box [nodes g.nd, rows g.w, rows g.v]), (5, .box [.i 0, .v (.slice none 0 0)]), (6, rbox g ot pl k (runB g ot pl k))] [some 2, some 5, some 6] (by simp) (by simp) ?_ ?_), ?_⟩
                  · simp -implicitDefEqProofs only [ints, rows, Nat.reduceBEq, Int.add_zero, envOK, maA, maT, upd_apply, Nat.reduceEqDiff, ↓reduceIte, and_true, true_or, or_true, List.map_cons, List.map_nil, Nat.zero_ne_one, and_self, true_and, Int.natCast_zero, Int.cast_ofNat_Int, Int.ofNat_zero, piOf, List.zip_cons_cons, List.zip_nil_right, List.lookup_cons, List.lookup_nil, beq_self_eq_true, rootsOK, mkRoots, mkEnv, shareA, rbox, nodes, T.toSh, T.toShL_eq_map, List.map_map]
                    exact .inr (.inl rfl)
                  · exact ⟨⟨_, rfl, .refl _⟩, rfl, ⟨_, rfl, .refl _⟩, rfl, ⟨_, rfl, .refl _⟩, rfl, trivial⟩
                  · simp -implicitDefEqProofs only [go_sem, List.reduceReplicate, Nat.reduceEqDiff, Nat.reduceAdd, Nat.reduceLeDiff, Nat.reduceMul, Nat.reduceSub, Nat.reduceDiv, Int.reduceToNat, Nat.reduceLT, Int.reduceLT, Int.reduceLE, ↓reduceIte, reduceCtorEq, forall_apply_eq_imp_iff₂, ints, rows, rat, rats, toNat_cast, rbox, nodes, rows]
                    refine CallW.pure (dep_t (impl_depthFrom_ok t2 (by omega) g.nd.length 0 (by omega) (by omega) (by omega))) [] rfl Try.call125 ?_ (by first | trivial | simp [T.noSh, T.noShL, rat]) rfl ?_
                    · simp -implicitDefEqProofs only [Int.natCast_zero, Int.cast_ofNat_Int, Int.natCast_one, Nat.le_refl, Nat.reduceLeDiff, Nat.sub_self, Nat.reduceSub, List.getElem?_cons_zero, List.getElem?_cons_succ, vt_self, vaL, vtL, va, vt, vb, maT, List.cons_append, List.nil_append, List.append_nil, true_or, or_true, go_sem, List.reduceReplicate, Nat.reduceEqDiff, Nat.reduceAdd, Nat.reduceLeDiff, Nat.reduceMul, Nat.reduceSub, Nat.reduceDiv, Int.reduceToNat, Nat.reduceLT, Int.reduceLT, Int.reduceLE, ↓reduceIte, reduceCtorEq, ints, rows, rat, rats, ratsO, toShL_ratC, List.mem_cons, List.mem_nil_iff, List.not_mem_nil, or_false, false_or, exists_eq_left, exists_eq_left', exists_eq_right', Root.live.injEq, eq_self_iff_true, exists_eq, and_true, T.toSh, toShL_ints, toShL_intsO, intsO, rowsO]
                    simp -implicitDefEqProofs only [go_sem, List.reduceReplicate, Nat.reduceEqDiff, Nat.reduceAdd, Nat.reduceLeDiff, Nat.reduceMul, Nat.reduceSub, Nat.reduceDiv, Int.reduceToNat, Nat.reduceLT, Int.reduceLT, Int.reduceLE, ↓reduceIte, reduceCtorEq, forall_apply_eq_imp_iff₂, ints, rows, rat, rats, toNat_cast]
                    rw [u2]
                    have hc := cap0 hg pl k
                    have hcall := impl_respond_ok hg hpl hot h9 g.nd.length 0 (reach0 g pl k) (dpt g) (runB g ot pl k) (by omega) (by omega) hrl hc.2 (by rw [dpt_eq]; exact Int.le_refl _) u3 hc.1 (runB_rows t2 ot pl k)
                    rw [← runB_succ] at hcall
                    simp only [rbox, nodes, rows, ints] at hcall
                    have hv1 := runV_abs hg hpl hot k
                    have hv2 := runV_abs hg hpl hot (k + 1)
                    have hcv : capV = 4199040000000 := rfl
                    have hk6 : ((k + 1 : Nat) : Int) * capV ≤ 6 * capV := Int.mul_le_mul_of_nonneg_right (by omega) (by decide)
                    rw [runV_succ] at hv2
                    refine CallW.ref hcall [6] [] rfl Try.call124 (by simp) ?_ (by simp) ?_ (.inl rfl) ?_
                    · simp -implicitDefEqProofs only [rootOf_arr, rootOf_box, rootOf_any, srcsOK, updL, updS, upd_apply, Nat.reduceEqDiff, ↓reduceIte, mkRoots, and_true, ints, rows, intsO, rowsO]
                    · simp -implicitDefEqProofs only [Int.natCast_zero, Int.cast_ofNat_Int, Int.natCast_one, Nat.le_refl, Nat.reduceLeDiff, Nat.sub_self, Nat.reduceSub, List.getElem?_cons_zero, List.getElem?_cons_succ, vt_self, vaL, vtL, va, vt, vb, maT, List.cons_append, List.nil_append, List.append_nil, true_or, or_true, go_sem, List.reduceReplicate, Nat.reduceEqDiff, Nat.reduceAdd, Nat.reduceLeDiff, Nat.reduceMul, Nat.reduceSub, Nat.reduceDiv, Int.reduceToNat, Nat.reduceLT, Int.reduceLT, Int.reduceLE, ↓reduceIte, reduceCtorEq, ints, rows, rat, rats, ratsO, toShL_ratC, List.mem_cons, List.mem_nil_iff, List.not_mem_nil, or_false, false_or, exists_eq_left, exists_eq_left', exists_eq_right', Root.live.injEq, eq_self_iff_true, exists_eq, and_true, T.toSh, toShL_ints, toShL_intsO, intsO, rowsO]
                    simp -implicitDefEqProofs only [List.append_nil, List.cons_append, Nat.reduceLeDiff, afterCall, absT_rowsO, absT_intsO, absT, absL, updL, updS, freeAll, rid, T.noSh, T.noShL, Nat.zero_le, go_sem, List.reduceReplicate, Nat.reduceEqDiff, Nat.reduceAdd, Nat.reduceLeDiff, Nat.reduceMul, Nat.reduceSub, Nat.reduceDiv, Int.reduceToNat, Nat.reduceLT, Int.reduceLT, Int.reduceLE, ↓reduceIte, reduceCtorEq, rat, forall_apply_eq_imp_iff₂, toNat_cast]
                    refine hn _ (k + 1) (Weak.of _ _ [some 2, some 5, some 6] (by simp) (by simp) ?_ ?_) (by omega) (by omega)
                    · simp -implicitDefEqProofs only [ints, rows, Nat.reduceBEq, Int.add_zero, envOK, maA, maT, upd_apply, Nat.reduceEqDiff, ↓reduceIte, and_true, true_or, or_true, List.map_cons, List.map_nil, Nat.zero_ne_one, and_self, true_and, Int.natCast_zero, Int.cast_ofNat_Int, Int.ofNat_zero, piOf, List.zip_cons_cons, List.zip_nil_right, List.lookup_cons, List.lookup_nil, beq_self_eq_true, rootsOK, mkRoots, mkEnv, rbox1, nodes, next64 h9 (by omega), wrap64 (n := runV g ot pl k + bestV g ot pl k g.nd.length 0 (reach0 g pl k) (dpt g)) (by omega) (by omega), runV_succ]
                    · refine ⟨⟨_, rfl, .refl _⟩, rfl, ⟨_, rfl, .refl _⟩, rfl, ⟨_, rfl, ?_⟩, rfl, trivial⟩
                      exact .bc (.refl _) (.bc (.refl _) (.bc (.refl _) (.bc (.refl _) (.bc (.any _) (.refl _)))))
            · simp -implicitDefEqProofs only [go_sem, List.reduceReplicate, Nat.reduceEqDiff, Nat.reduceAdd, Nat.reduceLeDiff, Nat.reduceMul, Nat.reduceSub, Nat.reduceDiv, Int.reduceToNat, Nat.reduceLT, Int.reduceLT, Int.reduceLE, ↓reduceIte, reduceCtorEq, forall_apply_eq_imp_iff₂, ints, rows, rat, rats, toNat_cast, rbox1, nodes, rows, decide_eq_false (show ¬ (k : Int) < (g.w.length : Int) by omega)]
              refine he _ _ ?_
              simp -implicitDefEqProofs only [go_sem, List.reduceReplicate, Nat.reduceEqDiff, Nat.reduceAdd, Nat.reduceLeDiff, Nat.reduceMul, Nat.reduceSub, Nat.reduceDiv, Int.reduceToNat, Nat.reduceLT, Int.reduceLT, Int.reduceLE, ↓reduceIte, reduceCtorEq, forall_apply_eq_imp_iff₂, ints, rows, rat, rats, toNat_cast]
              refine ⟨_, Weak.open 6 9 500 rfl rfl rfl (by decide) rfl, ?_⟩
              simp -implicitDefEqProofs only [go_sem, List.reduceReplicate, Nat.reduceEqDiff, Nat.reduceAdd, Nat.reduceLeDiff, Nat.reduceMul, Nat.reduceSub, Nat.reduceDiv, Int.reduceToNat, Nat.reduceLT, Int.reduceLT, Int.reduceLE, ↓reduceIte, reduceCtorEq, forall_apply_eq_imp_iff₂, ints, rows, rat, rats, toNat_cast, List.lookup_cons, beq_self_eq_true, Nat.reduceBEq]
              rw [show k = g.w.length by omega]; rfl
end
end Go.Ab

/- Contracts: pairs of strategies; best numbers, bounds, equilibria, exported. -/
set_option linter.unusedSimpArgs false
set_option linter.unusedVariables false
namespace Go.Ab
open Go.Proofs

theorem strB_parts {g : Gm} {s : Int × List (List Int)} (h : strB g s = true) : isGameB g = true ∧ (s.1 = 0 ∨ s.1 = 1) ∧ isStratB g s.1 s.2 = true := by
  simp only [strB, Bool.and_eq_true, decide_eq_true_eq] at h
  exact ⟨h.1.1, by omega, h.2⟩
theorem strB_run {g : Gm} {s : Int × List (List Int)} (h : strB g s = true) : isGameB g = true ∧ (1 - s.1 = 0 ∨ 1 - s.1 = 1) ∧ partsOK g s.2 (1 - (1 - s.1)) ∧ (1 - (1 - s.1), s.2) = s := by
  obtain ⟨h1, h2, h3⟩ := strB_parts h
  refine ⟨h1, by omega, ?_, ?_⟩
  · rw [show 1 - (1 - s.1) = s.1 by omega]; exact partsOK_of h3
  · rw [show 1 - (1 - s.1) = s.1 by omega]
theorem spec_run {g : Gm} {s : Int × List (List Int)} (h : strB g s = true) : Fun Try.prog 71 [] [.t (.agg [.sh 5 (chunk nodeC g.nd), .sh 1 (g.w.map ints), .sh 1 (g.v.map ints)]), .t (.agg [.i s.1, .sh 1 (s.2.map ints)])] fun o r => o = [] ∧ r = runT g s.2 (1 - s.1) := by
  obtain ⟨h1, h2, h3, h4⟩ := strB_run h
  have := spec_l24Run_ok h1 h2 h3
  rw [h4] at this
  exact this
theorem impl_run {g : Gm} {s : Int × List (List Int)} (h : strB g s = true) : Fun Try.prog 76 [] [.t (.agg [.sh 5 (chunk nodeC g.nd), .sh 1 (g.w.map ints), .sh 1 (g.v.map ints)]), .t (.agg [.i s.1, .sh 1 (s.2.map ints)])] fun o r => o = [] ∧ r = runT g s.2 (1 - s.1) := by
  obtain ⟨h1, h2, h3, h4⟩ := strB_run h
  have := impl_bestAgainst_ok h1 h2 h3
  rw [h4] at this
  exact this
/-- The best number against a strategy. -/
def bestN (g : Gm) (s : Int × List (List Int)) : Int := runV g s.2 (1 - s.1) g.w.length
theorem bestN_abs {g : Gm} {s : Int × List (List Int)} (h : strB g s = true) : -25194240000000 ≤ bestN g s ∧ bestN g s ≤ 25194240000000 := by
  obtain ⟨h1, h2, h3, h4⟩ := strB_run h
  obtain ⟨_, hk, _⟩ := isGameB_spec h1
  have hv := runV_abs h1 h2 h3 g.w.length
  have hcv : capV = 4199040000000 := rfl
  have hk6 : ((g.w.length : Nat) : Int) * capV ≤ 6 * capV := Int.mul_le_mul_of_nonneg_right (by omega) (by decide)
  unfold bestN
  omega
/-- Two strategies, of both players. -/
def pairG (g : Gm) (s t : Int × List (List Int)) : Bool := strB g s && strB g t && decide (s.1 = 0) && decide (t.1 = 1)
theorem pairG_parts {g : Gm} {s t : Int × List (List Int)} (h : pairG g s t = true) : strB g s = true ∧ strB g t = true ∧ s.1 = 0 ∧ t.1 = 1 := by
  simp only [pairG, Bool.and_eq_true, decide_eq_true_eq] at h
  exact ⟨h.1.1.1, h.1.1.2, h.1.2, h.2⟩
theorem pairG_iff {g : Gm} {s t : Int × List (List Int)} : pairG g s t = true ↔ isGameB g = true ∧ s.1 = 0 ∧ t.1 = 1 ∧ isStratB g s.1 s.2 = true ∧ isStratB g t.1 t.2 = true := by
  simp only [pairG, strB, Bool.and_eq_true, decide_eq_true_eq]
  constructor
  · rintro ⟨⟨⟨⟨⟨h1, h2⟩, h3⟩, ⟨_, h4⟩, h5⟩, h6⟩, h7⟩
    exact ⟨h1, h6, h7, h3, h5⟩
  · rintro ⟨h1, h2, h3, h4, h5⟩
    exact ⟨⟨⟨⟨⟨h1, by omega⟩, h4⟩, ⟨h1, by omega⟩, h5⟩, h2⟩, h3⟩
theorem pairG_no {g : Gm} {s t : Int × List (List Int)} (h : ¬ (isGameB g = true ∧ s.1 = 0 ∧ t.1 = 1 ∧ isStratB g s.1 s.2 = true ∧ isStratB g t.1 t.2 = true)) : pairG g s t = false := by
  cases hp : pairG g s t with
  | false => rfl
  | true => exact (h (pairG_iff.1 hp)).elim
section
attribute [-go_sem] load1C load1V fldC lenC idxC loadNV nilCheckW
theorem isStr_t {f : FuncId} {g : Gm} {s : Int × List (List Int)} {b : Bool} (h : Pure Try.prog f [gameT g, stratT s] (.b b)) : Pure Try.prog f [.agg [.sh 5 (chunk nodeC g.nd), .sh 1 (g.w.map ints), .sh 1 (g.v.map ints)], .agg [.i s.1, .sh 1 (s.2.map ints)]] (.b b) := h
theorem unit_t {f : FuncId} {g : Gm} {n : Int} (h : Pure Try.prog f [gameT g] (.i n)) : Pure Try.prog f [.agg [.sh 5 (chunk nodeC g.nd), .sh 1 (g.w.map ints), .sh 1 (g.v.map ints)]] (.i n) := h
set_option maxRecDepth 20000 in
theorem spec_l23Pair_ok (g : Gm) (s t : Int × List (List Int)) (hg : gameL g) (hs : rowsL s.2) (ht : rowsL t.2) : Pure Try.prog 80 [gameT g, stratT s, stratT t] (.b (pairG g s t)) := by
  refine fun_spec_l23Pair (by simp) ?_
  have h1 := isStr_t (spec_IsStrategy_ok g s hg hs)
  have h2 := isStr_t (spec_IsStrategy_ok g t hg ht)
  have hdef : pairG g s t = (strB g s && strB g t && decide (s.1 = 0) && decide (t.1 = 1)) := rfl
  simp -implicitDefEqProofs only [go_sem, List.reduceReplicate, Nat.reduceEqDiff, Nat.reduceAdd, Nat.reduceLeDiff, Nat.reduceMul, Nat.reduceSub, Nat.reduceDiv, Int.reduceToNat, Nat.reduceLT, Int.reduceLT, Int.reduceLE, ↓reduceIte, reduceCtorEq, forall_apply_eq_imp_iff₂, ints, rows, rat, rats, toNat_cast, c_spec_l23Pair, gameT, stratT, nodes, rows]
  cases hb1 : strB g s <;> rw [hb1] at h1
  · refine CallW.pure h1 [] rfl Try.call70 ?_ (by first | trivial | simp [T.noSh, T.noShL, rat]) rfl ?_
    · simp -implicitDefEqProofs only [Int.natCast_zero, Int.cast_ofNat_Int, Int.natCast_one, Nat.le_refl, Nat.reduceLeDiff, Nat.sub_self, Nat.reduceSub, List.getElem?_cons_zero, List.getElem?_cons_succ, vt_self, vaL, vtL, va, vt, vb, maT, List.cons_append, List.nil_append, List.append_nil, true_or, or_true, go_sem, List.reduceReplicate, Nat.reduceEqDiff, Nat.reduceAdd, Nat.reduceLeDiff, Nat.reduceMul, Nat.reduceSub, Nat.reduceDiv, Int.reduceToNat, Nat.reduceLT, Int.reduceLT, Int.reduceLE, ↓reduceIte, reduceCtorEq, ints, rows, rat, rats, ratsO, toShL_ratC, List.mem_cons, List.mem_nil_iff, List.not_mem_nil, or_false, false_or, exists_eq_left, exists_eq_left', exists_eq_right', Root.live.injEq, eq_self_iff_true, exists_eq, and_true, T.toSh, toShL_ints, toShL_intsO, intsO, rowsO]
    simp -implicitDefEqProofs only [go_sem, List.reduceReplicate, Nat.reduceEqDiff, Nat.reduceAdd, Nat.reduceLeDiff, Nat.reduceMul, Nat.reduceSub, Nat.reduceDiv, Int.reduceToNat, Nat.reduceLT, Int.reduceLT, Int.reduceLE, ↓reduceIte, reduceCtorEq, forall_apply_eq_imp_iff₂, ints, rows, rat, rats, toNat_cast]
    rw [hdef, hb1]; rfl
  · refine CallW.pure h1 [] rfl Try.call70 ?_ (by first | trivial | simp [T.noSh, T.noShL, rat]) rfl ?_
    · simp -implicitDefEqProofs only [Int.natCast_zero, Int.cast_ofNat_Int, Int.natCast_one, Nat.le_refl, Nat.reduceLeDiff, Nat.sub_self, Nat.reduceSub, List.getElem?_cons_zero, List.getElem?_cons_succ, vt_self, vaL, vtL, va, vt, vb, maT, List.cons_append, List.nil_append, List.append_nil, true_or, or_true, go_sem, List.reduceReplicate, Nat.reduceEqDiff, Nat.reduceAdd, Nat.reduceLeDiff, Nat.reduceMul, Nat.reduceSub, Nat.reduceDiv, Int.reduceToNat, Nat.reduceLT, Int.reduceLT, Int.reduceLE, ↓reduceIte, reduceCtorEq, ints, rows, rat, rats, ratsO, toShL_ratC, List.mem_cons, List.mem_nil_iff, List.not_mem_nil, or_false, false_or, exists_eq_left, exists_eq_left', exists_eq_right', Root.live.injEq, eq_self_iff_true, exists_eq, and_true, T.toSh, toShL_ints, toShL_intsO, intsO, rowsO]
    simp -implicitDefEqProofs only [go_sem, List.reduceReplicate, Nat.reduceEqDiff, Nat.reduceAdd, Nat.reduceLeDiff, Nat.reduceMul, Nat.reduceSub, Nat.reduceDiv, Int.reduceToNat, Nat.reduceLT, Int.reduceLT, Int.reduceLE, ↓reduceIte, reduceCtorEq, forall_apply_eq_imp_iff₂, ints, rows, rat, rats, toNat_cast]
    cases hb2 : strB g t <;> rw [hb2] at h2
    · refine CallW.pure h2 [] rfl Try.call70 ?_ (by first | trivial | simp [T.noSh, T.noShL, rat]) rfl ?_
      · simp -implicitDefEqProofs only [Int.natCast_zero, Int.cast_ofNat_Int, Int.natCast_one, Nat.le_refl, Nat.reduceLeDiff, Nat.sub_self, Nat.reduceSub, List.getElem?_cons_zero, List.getElem?_cons_succ, vt_self, vaL, vtL, va, vt, vb, maT, List.cons_append, List.nil_append, List.append_nil, true_or, or_true, go_sem, List.reduceReplicate, Nat.reduceEqDiff, Nat.reduceAdd, Nat.reduceLeDiff, Nat.reduceMul, Nat.reduceSub, Nat.reduceDiv, Int.reduceToNat, Nat.reduceLT, Int.reduceLT, Int.reduceLE, ↓reduceIte, reduceCtorEq, ints, rows, rat, rats, ratsO, toShL_ratC, List.mem_cons, List.mem_nil_iff, List.not_mem_nil, or_false, false_or, exists_eq_left, exists_eq_left', exists_eq_right', Root.live.injEq, eq_self_iff_true, exists_eq, and_true, T.toSh, toShL_ints, toShL_intsO, intsO, rowsO]
      simp -implicitDefEqProofs only [go_sem, List.reduceReplicate, Nat.reduceEqDiff, Nat.reduceAdd, Nat.reduceLeDiff, Nat.reduceMul, Nat.reduceSub, Nat.reduceDiv, Int.reduceToNat, Nat.reduceLT, Int.reduceLT, Int.reduceLE, ↓reduceIte, reduceCtorEq, forall_apply_eq_imp_iff₂, ints, rows, rat, rats, toNat_cast]
      rw [hdef, hb1, hb2]; rfl
    · refine CallW.pure h2 [] rfl Try.call70 ?_ (by first | trivial | simp [T.noSh, T.noShL, rat]) rfl ?_
      · simp -implicitDefEqProofs only [Int.natCast_zero, Int.cast_ofNat_Int, Int.natCast_one, Nat.le_refl, Nat.reduceLeDiff, Nat.sub_self, Nat.reduceSub, List.getElem?_cons_zero, List.getElem?_cons_succ, vt_self, vaL, vtL, va, vt, vb, maT, List.cons_append, List.nil_append, List.append_nil, true_or, or_true, go_sem, List.reduceReplicate, Nat.reduceEqDiff, Nat.reduceAdd, Nat.reduceLeDiff, Nat.reduceMul, Nat.reduceSub, Nat.reduceDiv, Int.reduceToNat, Nat.reduceLT, Int.reduceLT, Int.reduceLE, ↓reduceIte, reduceCtorEq, ints, rows, rat, rats, ratsO, toShL_ratC, List.mem_cons, List.mem_nil_iff, List.not_mem_nil, or_false, false_or, exists_eq_left, exists_eq_left', exists_eq_right', Root.live.injEq, eq_self_iff_true, exists_eq, and_true, T.toSh, toShL_ints, toShL_intsO, intsO, rowsO]
      simp -implicitDefEqProofs only [go_sem, List.reduceReplicate, Nat.reduceEqDiff, Nat.reduceAdd, Nat.reduceLeDiff, Nat.reduceMul, Nat.reduceSub, Nat.reduceDiv, Int.reduceToNat, Nat.reduceLT, Int.reduceLT, Int.reduceLE, ↓reduceIte, reduceCtorEq, forall_apply_eq_imp_iff₂, ints, rows, rat, rats, toNat_cast]
      refine ⟨fun h3 => ?_, fun h3 => ?_⟩
      · have h3 : s.1 = 0 := by simpa using h3
        rw [hdef, hb1, hb2, decide_eq_true h3]
        congr 2
      · have h3 : ¬ s.1 = 0 := by simpa using h3
        rw [hdef, hb1, hb2, decide_eq_false h3]; rfl
set_option maxRecDepth 20000 in
theorem impl_arePair_ok (g : Gm) (s t : Int × List (List Int)) (hg : gameL g) (hs : rowsL s.2) (ht : rowsL t.2) : Pure Try.prog 82 [gameT g, stratT s, stratT t] (.b (pairG g s t)) := by
  refine fun_impl_arePair (by simp) ?_
  have h1 := isGame_t (impl_IsGame_ok g hg)
  simp -implicitDefEqProofs only [go_sem, List.reduceReplicate, Nat.reduceEqDiff, Nat.reduceAdd, Nat.reduceLeDiff, Nat.reduceMul, Nat.reduceSub, Nat.reduceDiv, Int.reduceToNat, Nat.reduceLT, Int.reduceLT, Int.reduceLE, ↓reduceIte, reduceCtorEq, forall_apply_eq_imp_iff₂, ints, rows, rat, rats, toNat_cast, c_impl_arePair, gameT, stratT, nodes, rows]
  cases hb1 : isGameB g <;> rw [hb1] at h1
  · refine CallW.pure h1 [] rfl Try.call85 ?_ (by first | trivial | simp [T.noSh, T.noShL, rat]) rfl ?_
    · simp -implicitDefEqProofs only [Int.natCast_zero, Int.cast_ofNat_Int, Int.natCast_one, Nat.le_refl, Nat.reduceLeDiff, Nat.sub_self, Nat.reduceSub, List.getElem?_cons_zero, List.getElem?_cons_succ, vt_self, vaL, vtL, va, vt, vb, maT, List.cons_append, List.nil_append, List.append_nil, true_or, or_true, go_sem, List.reduceReplicate, Nat.reduceEqDiff, Nat.reduceAdd, Nat.reduceLeDiff, Nat.reduceMul, Nat.reduceSub, Nat.reduceDiv, Int.reduceToNat, Nat.reduceLT, Int.reduceLT, Int.reduceLE, ↓reduceIte, reduceCtorEq, ints, rows, rat, rats, ratsO, toShL_ratC, List.mem_cons, List.mem_nil_iff, List.not_mem_nil, or_false, false_or, exists_eq_left, exists_eq_left', exists_eq_right', Root.live.injEq, eq_self_iff_true, exists_eq, and_true, T.toSh, toShL_ints, toShL_intsO, intsO, rowsO]
    simp -implicitDefEqProofs only [go_sem, List.reduceReplicate, Nat.reduceEqDiff, Nat.reduceAdd, Nat.reduceLeDiff, Nat.reduceMul, Nat.reduceSub, Nat.reduceDiv, Int.reduceToNat, Nat.reduceLT, Int.reduceLT, Int.reduceLE, ↓reduceIte, reduceCtorEq, forall_apply_eq_imp_iff₂, ints, rows, rat, rats, toNat_cast]
    rw [pairG_no fun h => by rw [hb1] at h; exact absurd h.1 (by simp)]
  · have h2 := isStr_t (impl_isStrategy_ok g s hb1 hs)
    have h3 := isStr_t (impl_isStrategy_ok g t hb1 ht)
    refine CallW.pure h1 [] rfl Try.call85 ?_ (by first | trivial | simp [T.noSh, T.noShL, rat]) rfl ?_
    · simp -implicitDefEqProofs only [Int.natCast_zero, Int.cast_ofNat_Int, Int.natCast_one, Nat.le_refl, Nat.reduceLeDiff, Nat.sub_self, Nat.reduceSub, List.getElem?_cons_zero, List.getElem?_cons_succ, vt_self, vaL, vtL, va, vt, vb, maT, List.cons_append, List.nil_append, List.append_nil, true_or, or_true, go_sem, List.reduceReplicate, Nat.reduceEqDiff, Nat.reduceAdd, Nat.reduceLeDiff, Nat.reduceMul, Nat.reduceSub, Nat.reduceDiv, Int.reduceToNat, Nat.reduceLT, Int.reduceLT, Int.reduceLE, ↓reduceIte, reduceCtorEq, ints, rows, rat, rats, ratsO, toShL_ratC, List.mem_cons, List.mem_nil_iff, List.not_mem_nil, or_false, false_or, exists_eq_left, exists_eq_left', exists_eq_right', Root.live.injEq, eq_self_iff_true, exists_eq, and_true, T.toSh, toShL_ints, toShL_intsO, intsO, rowsO]
    simp -implicitDefEqProofs only [go_sem, List.reduceReplicate, Nat.reduceEqDiff, Nat.reduceAdd, Nat.reduceLeDiff, Nat.reduceMul, Nat.reduceSub, Nat.reduceDiv, Int.reduceToNat, Nat.reduceLT, Int.reduceLT, Int.reduceLE, ↓reduceIte, reduceCtorEq, forall_apply_eq_imp_iff₂, ints, rows, rat, rats, toNat_cast]
    refine ⟨fun h4 => ⟨fun h5 => ?_, fun h5 => ?_⟩, fun h4 => ?_⟩
    · have h4 : s.1 = 0 := by simpa using h4
      have h5 : t.1 = 1 := by simpa using h5
      cases hb2 : isStratB g s.1 s.2 <;> rw [hb2] at h2
      · refine CallW.pure h2 [] rfl Try.call122 ?_ (by first | trivial | simp [T.noSh, T.noShL, rat]) rfl ?_
        · simp -implicitDefEqProofs only [Int.natCast_zero, Int.cast_ofNat_Int, Int.natCast_one, Nat.le_refl, Nat.reduceLeDiff, Nat.sub_self, Nat.reduceSub, List.getElem?_cons_zero, List.getElem?_cons_succ, vt_self, vaL, vtL, va, vt, vb, maT, List.cons_append, List.nil_append, List.append_nil, true_or, or_true, go_sem, List.reduceReplicate, Nat.reduceEqDiff, Nat.reduceAdd, Nat.reduceLeDiff, Nat.reduceMul, Nat.reduceSub, Nat.reduceDiv, Int.reduceToNat, Nat.reduceLT, Int.reduceLT, Int.reduceLE, ↓reduceIte, reduceCtorEq, ints, rows, rat, rats, ratsO, toShL_ratC, List.mem_cons, List.mem_nil_iff, List.not_mem_nil, or_false, false_or, exists_eq_left, exists_eq_left', exists_eq_right', Root.live.injEq, eq_self_iff_true, exists_eq, and_true, T.toSh, toShL_ints, toShL_intsO, intsO, rowsO]
        simp -implicitDefEqProofs only [go_sem, List.reduceReplicate, Nat.reduceEqDiff, Nat.reduceAdd, Nat.reduceLeDiff, Nat.reduceMul, Nat.reduceSub, Nat.reduceDiv, Int.reduceToNat, Nat.reduceLT, Int.reduceLT, Int.reduceLE, ↓reduceIte, reduceCtorEq, forall_apply_eq_imp_iff₂, ints, rows, rat, rats, toNat_cast]
        rw [pairG_no fun h => by rw [hb2] at h; exact absurd h.2.2.2.1 (by simp)]
      · refine CallW.pure h2 [] rfl Try.call122 ?_ (by first | trivial | simp [T.noSh, T.noShL, rat]) rfl ?_
        · simp -implicitDefEqProofs only [Int.natCast_zero, Int.cast_ofNat_Int, Int.natCast_one, Nat.le_refl, Nat.reduceLeDiff, Nat.sub_self, Nat.reduceSub, List.getElem?_cons_zero, List.getElem?_cons_succ, vt_self, vaL, vtL, va, vt, vb, maT, List.cons_append, List.nil_append, List.append_nil, true_or, or_true, go_sem, List.reduceReplicate, Nat.reduceEqDiff, Nat.reduceAdd, Nat.reduceLeDiff, Nat.reduceMul, Nat.reduceSub, Nat.reduceDiv, Int.reduceToNat, Nat.reduceLT, Int.reduceLT, Int.reduceLE, ↓reduceIte, reduceCtorEq, ints, rows, rat, rats, ratsO, toShL_ratC, List.mem_cons, List.mem_nil_iff, List.not_mem_nil, or_false, false_or, exists_eq_left, exists_eq_left', exists_eq_right', Root.live.injEq, eq_self_iff_true, exists_eq, and_true, T.toSh, toShL_ints, toShL_intsO, intsO, rowsO]
        simp -implicitDefEqProofs only [go_sem, List.reduceReplicate, Nat.reduceEqDiff, Nat.reduceAdd, Nat.reduceLeDiff, Nat.reduceMul, Nat.reduceSub, Nat.reduceDiv, Int.reduceToNat, Nat.reduceLT, Int.reduceLT, Int.reduceLE, ↓reduceIte, reduceCtorEq, forall_apply_eq_imp_iff₂, ints, rows, rat, rats, toNat_cast]
        cases hb3 : isStratB g t.1 t.2 <;> rw [hb3] at h3
        · refine CallW.pure h3 [] rfl Try.call122 ?_ (by first | trivial | simp [T.noSh, T.noShL, rat]) rfl ?_
          · simp -implicitDefEqProofs only [Int.natCast_zero, Int.cast_ofNat_Int, Int.natCast_one, Nat.le_refl, Nat.reduceLeDiff, Nat.sub_self, Nat.reduceSub, List.getElem?_cons_zero, List.getElem?_cons_succ, vt_self, vaL, vtL, va, vt, vb, maT, List.cons_append, List.nil_append, List.append_nil, true_or, or_true, go_sem, List.reduceReplicate, Nat.reduceEqDiff, Nat.reduceAdd, Nat.reduceLeDiff, Nat.reduceMul, Nat.reduceSub, Nat.reduceDiv, Int.reduceToNat, Nat.reduceLT, Int.reduceLT, Int.reduceLE, ↓reduceIte, reduceCtorEq, ints, rows, rat, rats, ratsO, toShL_ratC, List.mem_cons, List.mem_nil_iff, List.not_mem_nil, or_false, false_or, exists_eq_left, exists_eq_left', exists_eq_right', Root.live.injEq, eq_self_iff_true, exists_eq, and_true, T.toSh, toShL_ints, toShL_intsO, intsO, rowsO]
          simp -implicitDefEqProofs only [go_sem, List.reduceReplicate, Nat.reduceEqDiff, Nat.reduceAdd, Nat.reduceLeDiff, Nat.reduceMul, Nat.reduceSub, Nat.reduceDiv, Int.reduceToNat, Nat.reduceLT, Int.reduceLT, Int.reduceLE, ↓reduceIte, reduceCtorEq, forall_apply_eq_imp_iff₂, ints, rows, rat, rats, toNat_cast]
          rw [pairG_no fun h => by rw [hb3] at h; exact absurd h.2.2.2.2 (by simp)]
        · refine CallW.pure h3 [] rfl Try.call122 ?_ (by first | trivial | simp [T.noSh, T.noShL, rat]) rfl ?_
          · simp -implicitDefEqProofs only [Int.natCast_zero, Int.cast_ofNat_Int, Int.natCast_one, Nat.le_refl, Nat.reduceLeDiff, Nat.sub_self, Nat.reduceSub, List.getElem?_cons_zero, List.getElem?_cons_succ, vt_self, vaL, vtL, va, vt, vb, maT, List.cons_append, List.nil_append, List.append_nil, true_or, or_true, go_sem, List.reduceReplicate, Nat.reduceEqDiff, Nat.reduceAdd, Nat.reduceLeDiff, Nat.reduceMul, Nat.reduceSub, Nat.reduceDiv, Int.reduceToNat, Nat.reduceLT, Int.reduceLT, Int.reduceLE, ↓reduceIte, reduceCtorEq, ints, rows, rat, rats, ratsO, toShL_ratC, List.mem_cons, List.mem_nil_iff, List.not_mem_nil, or_false, false_or, exists_eq_left, exists_eq_left', exists_eq_right', Root.live.injEq, eq_self_iff_true, exists_eq, and_true, T.toSh, toShL_ints, toShL_intsO, intsO, rowsO]
          simp -implicitDefEqProofs only [go_sem, List.reduceReplicate, Nat.reduceEqDiff, Nat.reduceAdd, Nat.reduceLeDiff, Nat.reduceMul, Nat.reduceSub, Nat.reduceDiv, Int.reduceToNat, Nat.reduceLT, Int.reduceLT, Int.reduceLE, ↓reduceIte, reduceCtorEq, forall_apply_eq_imp_iff₂, ints, rows, rat, rats, toNat_cast]
          rw [pairG_iff.2 ⟨hb1, h4, h5, hb2, hb3⟩]
    · have h5 : ¬ t.1 = 1 := by simpa using h5
      rw [pairG_no fun h => h5 h.2.2.1]
    · have h4 : ¬ s.1 = 0 := by simpa using h4
      rw [pairG_no fun h => h4 h.2.1]
theorem pair_t {f : FuncId} {g : Gm} {s t : Int × List (List Int)} {b : Bool} (h : Pure Try.prog f [gameT g, stratT s, stratT t] (.b b)) : Pure Try.prog f [.agg [.sh 5 (chunk nodeC g.nd), .sh 1 (g.w.map ints), .sh 1 (g.v.map ints)], .agg [.i s.1, .sh 1 (s.2.map ints)], .agg [.i t.1, .sh 1 (t.2.map ints)]] (.b b) := h
set_option maxRecDepth 20000 in
theorem spec_l24Both_ok (g : Gm) (s t : Int × List (List Int)) (h : pairG g s t = true) : Pure Try.prog 81 [gameT g, stratT s, stratT t] (.tup [.i (bestN g t), .i (bestN g s)]) := by
  obtain ⟨h1, h2, _⟩ := pairG_parts h
  refine fun_spec_l24Both (by simp) ?_
  simp -implicitDefEqProofs only [go_sem, List.reduceReplicate, Nat.reduceEqDiff, Nat.reduceAdd, Nat.reduceLeDiff, Nat.reduceMul, Nat.reduceSub, Nat.reduceDiv, Int.reduceToNat, Nat.reduceLT, Int.reduceLT, Int.reduceLE, ↓reduceIte, reduceCtorEq, forall_apply_eq_imp_iff₂, ints, rows, rat, rats, toNat_cast, c_spec_l24Both, gameT, stratT, nodes, rows]
  refine CallW.res (spec_run h2) [] rfl Try.call71 ?_ (.inl rfl) ?_
  · simp -implicitDefEqProofs only [Int.natCast_zero, Int.cast_ofNat_Int, Int.natCast_one, Nat.le_refl, Nat.reduceLeDiff, Nat.sub_self, Nat.reduceSub, List.getElem?_cons_zero, List.getElem?_cons_succ, vt_self, vaL, vtL, va, vt, vb, maT, List.cons_append, List.nil_append, List.append_nil, true_or, or_true, go_sem, List.reduceReplicate, Nat.reduceEqDiff, Nat.reduceAdd, Nat.reduceLeDiff, Nat.reduceMul, Nat.reduceSub, Nat.reduceDiv, Int.reduceToNat, Nat.reduceLT, Int.reduceLT, Int.reduceLE, ↓reduceIte, reduceCtorEq, ints, rows, rat, rats, ratsO, toShL_ratC, List.mem_cons, List.mem_nil_iff, List.not_mem_nil, or_false, false_or, exists_eq_left, exists_eq_left', exists_eq_right', Root.live.injEq, eq_self_iff_true, exists_eq, and_true, T.toSh, toShL_ints, toShL_intsO, intsO, rowsO]
  simp -implicitDefEqProofs only [List.append_nil, List.cons_append, Nat.reduceLeDiff, afterCall, absT_rowsO, absT_intsO, absT, absL, updL, updS, freeAll, rid, T.noSh, T.noShL, Nat.zero_le, go_sem, List.reduceReplicate, Nat.reduceEqDiff, Nat.reduceAdd, Nat.reduceLeDiff, Nat.reduceMul, Nat.reduceSub, Nat.reduceDiv, Int.reduceToNat, Nat.reduceLT, Int.reduceLT, Int.reduceLE, ↓reduceIte, reduceCtorEq, rat, forall_apply_eq_imp_iff₂, toNat_cast, runT, rowsO]
  refine CallW.res (spec_run h1) [] rfl Try.call71 ?_ (.inl rfl) ?_
  · simp -implicitDefEqProofs only [Int.natCast_zero, Int.cast_ofNat_Int, Int.natCast_one, Nat.le_refl, Nat.reduceLeDiff, Nat.sub_self, Nat.reduceSub, List.getElem?_cons_zero, List.getElem?_cons_succ, vt_self, vaL, vtL, va, vt, vb, maT, List.cons_append, List.nil_append, List.append_nil, true_or, or_true, go_sem, List.reduceReplicate, Nat.reduceEqDiff, Nat.reduceAdd, Nat.reduceLeDiff, Nat.reduceMul, Nat.reduceSub, Nat.reduceDiv, Int.reduceToNat, Nat.reduceLT, Int.reduceLT, Int.reduceLE, ↓reduceIte, reduceCtorEq, ints, rows, rat, rats, ratsO, toShL_ratC, List.mem_cons, List.mem_nil_iff, List.not_mem_nil, or_false, false_or, exists_eq_left, exists_eq_left', exists_eq_right', Root.live.injEq, eq_self_iff_true, exists_eq, and_true, T.toSh, toShL_ints, toShL_intsO, intsO, rowsO]
  simp -implicitDefEqProofs only [List.append_nil, List.cons_append, Nat.reduceLeDiff, afterCall, absT_rowsO, absT_intsO, absT, absL, updL, updS, freeAll, rid, T.noSh, T.noShL, Nat.zero_le, go_sem, List.reduceReplicate, Nat.reduceEqDiff, Nat.reduceAdd, Nat.reduceLeDiff, Nat.reduceMul, Nat.reduceSub, Nat.reduceDiv, Int.reduceToNat, Nat.reduceLT, Int.reduceLT, Int.reduceLE, ↓reduceIte, reduceCtorEq, rat, forall_apply_eq_imp_iff₂, toNat_cast, runT, rowsO]
  rfl
set_option maxRecDepth 20000 in
theorem impl_valueBounds_ok (g : Gm) (s t : Int × List (List Int)) (h : pairG g s t = true) : Pure Try.prog 83 [gameT g, stratT s, stratT t] (.tup [.i (-bestN g s), .i (bestN g t)]) := by
  obtain ⟨h1, h2, _⟩ := pairG_parts h
  have b1 := bestN_abs h1
  refine fun_impl_valueBounds (by simp) ?_
  simp -implicitDefEqProofs only [go_sem, List.reduceReplicate, Nat.reduceEqDiff, Nat.reduceAdd, Nat.reduceLeDiff, Nat.reduceMul, Nat.reduceSub, Nat.reduceDiv, Int.reduceToNat, Nat.reduceLT, Int.reduceLT, Int.reduceLE, ↓reduceIte, reduceCtorEq, forall_apply_eq_imp_iff₂, ints, rows, rat, rats, toNat_cast, c_impl_valueBounds, gameT, stratT, nodes, rows]
  refine CallW.res (impl_run h1) [] rfl Try.call76 ?_ (.inl rfl) ?_
  · simp -implicitDefEqProofs only [Int.natCast_zero, Int.cast_ofNat_Int, Int.natCast_one, Nat.le_refl, Nat.reduceLeDiff, Nat.sub_self, Nat.reduceSub, List.getElem?_cons_zero, List.getElem?_cons_succ, vt_self, vaL, vtL, va, vt, vb, maT, List.cons_append, List.nil_append, List.append_nil, true_or, or_true, go_sem, List.reduceReplicate, Nat.reduceEqDiff, Nat.reduceAdd, Nat.reduceLeDiff, Nat.reduceMul, Nat.reduceSub, Nat.reduceDiv, Int.reduceToNat, Nat.reduceLT, Int.reduceLT, Int.reduceLE, ↓reduceIte, reduceCtorEq, ints, rows, rat, rats, ratsO, toShL_ratC, List.mem_cons, List.mem_nil_iff, List.not_mem_nil, or_false, false_or, exists_eq_left, exists_eq_left', exists_eq_right', Root.live.injEq, eq_self_iff_true, exists_eq, and_true, T.toSh, toShL_ints, toShL_intsO, intsO, rowsO]
  simp -implicitDefEqProofs only [List.append_nil, List.cons_append, Nat.reduceLeDiff, afterCall, absT_rowsO, absT_intsO, absT, absL, updL, updS, freeAll, rid, T.noSh, T.noShL, Nat.zero_le, go_sem, List.reduceReplicate, Nat.reduceEqDiff, Nat.reduceAdd, Nat.reduceLeDiff, Nat.reduceMul, Nat.reduceSub, Nat.reduceDiv, Int.reduceToNat, Nat.reduceLT, Int.reduceLT, Int.reduceLE, ↓reduceIte, reduceCtorEq, rat, forall_apply_eq_imp_iff₂, toNat_cast, runT, rowsO]
  refine CallW.res (impl_run h2) [] rfl Try.call76 ?_ (.inl rfl) ?_
  · simp -implicitDefEqProofs only [Int.natCast_zero, Int.cast_ofNat_Int, Int.natCast_one, Nat.le_refl, Nat.reduceLeDiff, Nat.sub_self, Nat.reduceSub, List.getElem?_cons_zero, List.getElem?_cons_succ, vt_self, vaL, vtL, va, vt, vb, maT, List.cons_append, List.nil_append, List.append_nil, true_or, or_true, go_sem, List.reduceReplicate, Nat.reduceEqDiff, Nat.reduceAdd, Nat.reduceLeDiff, Nat.reduceMul, Nat.reduceSub, Nat.reduceDiv, Int.reduceToNat, Nat.reduceLT, Int.reduceLT, Int.reduceLE, ↓reduceIte, reduceCtorEq, ints, rows, rat, rats, ratsO, toShL_ratC, List.mem_cons, List.mem_nil_iff, List.not_mem_nil, or_false, false_or, exists_eq_left, exists_eq_left', exists_eq_right', Root.live.injEq, eq_self_iff_true, exists_eq, and_true, T.toSh, toShL_ints, toShL_intsO, intsO, rowsO]
  simp -implicitDefEqProofs only [List.append_nil, List.cons_append, Nat.reduceLeDiff, afterCall, absT_rowsO, absT_intsO, absT, absL, updL, updS, freeAll, rid, T.noSh, T.noShL, Nat.zero_le, go_sem, List.reduceReplicate, Nat.reduceEqDiff, Nat.reduceAdd, Nat.reduceLeDiff, Nat.reduceMul, Nat.reduceSub, Nat.reduceDiv, Int.reduceToNat, Nat.reduceLT, Int.reduceLT, Int.reduceLE, ↓reduceIte, reduceCtorEq, rat, forall_apply_eq_imp_iff₂, toNat_cast, runT, rowsO]
  rw [show 0 - runV g s.2 (1 - s.1) g.w.length = -bestN g s by unfold bestN; omega, wrap64 (n := -bestN g s) (by omega) (by omega)]; rfl
theorem vb_t {f : FuncId} {g : Gm} {s t : Int × List (List Int)} {r : T} (h : Pure Try.prog f [gameT g, stratT s, stratT t] r) : Pure Try.prog f [.agg [.sh 5 (chunk nodeC g.nd), .sh 1 (g.w.map ints), .sh 1 (g.v.map ints)], .agg [.i s.1, .sh 1 (s.2.map ints)], .agg [.i t.1, .sh 1 (t.2.map ints)]] r := h
def vbR (g : Gm) (s t : Int × List (List Int)) : Int × Int × Int × Int := if pairG g s t = true then (-bestN g s, bestN g t, unit g, 0) else (0, 0, 0, 1)
def tr4 (r : Int × Int × Int × Int) : T := .tup [.i r.1, .i r.2.1, .i r.2.2.1, .i r.2.2.2]
set_option maxRecDepth 20000 in
theorem spec_ValueBounds_ok (g : Gm) (s t : Int × List (List Int)) (hg : gameL g) (hs : rowsL s.2) (ht : rowsL t.2) : Pure Try.prog 26 [gameT g, stratT s, stratT t] (tr4 (vbR g s t)) := by
  refine fun_spec_ValueBounds (by simp) ?_
  have h1 := pair_t (spec_l23Pair_ok g s t hg hs ht)
  simp -implicitDefEqProofs only [go_sem, List.reduceReplicate, Nat.reduceEqDiff, Nat.reduceAdd, Nat.reduceLeDiff, Nat.reduceMul, Nat.reduceSub, Nat.reduceDiv, Int.reduceToNat, Nat.reduceLT, Int.reduceLT, Int.reduceLE, ↓reduceIte, reduceCtorEq, forall_apply_eq_imp_iff₂, ints, rows, rat, rats, toNat_cast, c_spec_ValueBounds, gameT, stratT, nodes, rows]
  cases hb : pairG g s t <;> rw [hb] at h1
  · refine CallW.pure h1 [] rfl Try.call80 ?_ (by first | trivial | simp [T.noSh, T.noShL, rat]) rfl ?_
    · simp -implicitDefEqProofs only [Int.natCast_zero, Int.cast_ofNat_Int, Int.natCast_one, Nat.le_refl, Nat.reduceLeDiff, Nat.sub_self, Nat.reduceSub, List.getElem?_cons_zero, List.getElem?_cons_succ, vt_self, vaL, vtL, va, vt, vb, maT, List.cons_append, List.nil_append, List.append_nil, true_or, or_true, go_sem, List.reduceReplicate, Nat.reduceEqDiff, Nat.reduceAdd, Nat.reduceLeDiff, Nat.reduceMul, Nat.reduceSub, Nat.reduceDiv, Int.reduceToNat, Nat.reduceLT, Int.reduceLT, Int.reduceLE, ↓reduceIte, reduceCtorEq, ints, rows, rat, rats, ratsO, toShL_ratC, List.mem_cons, List.mem_nil_iff, List.not_mem_nil, or_false, false_or, exists_eq_left, exists_eq_left', exists_eq_right', Root.live.injEq, eq_self_iff_true, exists_eq, and_true, T.toSh, toShL_ints, toShL_intsO, intsO, rowsO]
    simp -implicitDefEqProofs only [go_sem, List.reduceReplicate, Nat.reduceEqDiff, Nat.reduceAdd, Nat.reduceLeDiff, Nat.reduceMul, Nat.reduceSub, Nat.reduceDiv, Int.reduceToNat, Nat.reduceLT, Int.reduceLT, Int.reduceLE, ↓reduceIte, reduceCtorEq, forall_apply_eq_imp_iff₂, ints, rows, rat, rats, toNat_cast]
    rw [vbR, hb]; rfl
  · have b1 := bestN_abs (pairG_parts hb).1
    refine CallW.pure h1 [] rfl Try.call80 ?_ (by first | trivial | simp [T.noSh, T.noShL, rat]) rfl ?_
    · simp -implicitDefEqProofs only [Int.natCast_zero, Int.cast_ofNat_Int, Int.natCast_one, Nat.le_refl, Nat.reduceLeDiff, Nat.sub_self, Nat.reduceSub, List.getElem?_cons_zero, List.getElem?_cons_succ, vt_self, vaL, vtL, va, vt, vb, maT, List.cons_append, List.nil_append, List.append_nil, true_or, or_true, go_sem, List.reduceReplicate, Nat.reduceEqDiff, Nat.reduceAdd, Nat.reduceLeDiff, Nat.reduceMul, Nat.reduceSub, Nat.reduceDiv, Int.reduceToNat, Nat.reduceLT, Int.reduceLT, Int.reduceLE, ↓reduceIte, reduceCtorEq, ints, rows, rat, rats, ratsO, toShL_ratC, List.mem_cons, List.mem_nil_iff, List.not_mem_nil, or_false, false_or, exists_eq_left, exists_eq_left', exists_eq_right', Root.live.injEq, eq_self_iff_true, exists_eq, and_true, T.toSh, toShL_ints, toShL_intsO, intsO, rowsO]
    simp -implicitDefEqProofs only [go_sem, List.reduceReplicate, Nat.reduceEqDiff, Nat.reduceAdd, Nat.reduceLeDiff, Nat.reduceMul, Nat.reduceSub, Nat.reduceDiv, Int.reduceToNat, Nat.reduceLT, Int.reduceLT, Int.reduceLE, ↓reduceIte, reduceCtorEq, forall_apply_eq_imp_iff₂, ints, rows, rat, rats, toNat_cast]
    refine CallW.pure (vb_t (spec_l24Both_ok g s t hb)) [] rfl Try.call81 ?_ (by first | trivial | simp [T.noSh, T.noShL, rat]) rfl ?_
    · simp -implicitDefEqProofs only [Int.natCast_zero, Int.cast_ofNat_Int, Int.natCast_one, Nat.le_refl, Nat.reduceLeDiff, Nat.sub_self, Nat.reduceSub, List.getElem?_cons_zero, List.getElem?_cons_succ, vt_self, vaL, vtL, va, vt, vb, maT, List.cons_append, List.nil_append, List.append_nil, true_or, or_true, go_sem, List.reduceReplicate, Nat.reduceEqDiff, Nat.reduceAdd, Nat.reduceLeDiff, Nat.reduceMul, Nat.reduceSub, Nat.reduceDiv, Int.reduceToNat, Nat.reduceLT, Int.reduceLT, Int.reduceLE, ↓reduceIte, reduceCtorEq, ints, rows, rat, rats, ratsO, toShL_ratC, List.mem_cons, List.mem_nil_iff, List.not_mem_nil, or_false, false_or, exists_eq_left, exists_eq_left', exists_eq_right', Root.live.injEq, eq_self_iff_true, exists_eq, and_true, T.toSh, toShL_ints, toShL_intsO, intsO, rowsO]
    simp -implicitDefEqProofs only [go_sem, List.reduceReplicate, Nat.reduceEqDiff, Nat.reduceAdd, Nat.reduceLeDiff, Nat.reduceMul, Nat.reduceSub, Nat.reduceDiv, Int.reduceToNat, Nat.reduceLT, Int.reduceLT, Int.reduceLE, ↓reduceIte, reduceCtorEq, forall_apply_eq_imp_iff₂, ints, rows, rat, rats, toNat_cast]
    refine CallW.pure (unit_t (spec_l23Unit_ok g (pairG_iff.1 hb).1)) [] rfl Try.call72 ?_ (by first | trivial | simp [T.noSh, T.noShL, rat]) rfl ?_
    · simp -implicitDefEqProofs only [Int.natCast_zero, Int.cast_ofNat_Int, Int.natCast_one, Nat.le_refl, Nat.reduceLeDiff, Nat.sub_self, Nat.reduceSub, List.getElem?_cons_zero, List.getElem?_cons_succ, vt_self, vaL, vtL, va, vt, vb, maT, List.cons_append, List.nil_append, List.append_nil, true_or, or_true, go_sem, List.reduceReplicate, Nat.reduceEqDiff, Nat.reduceAdd, Nat.reduceLeDiff, Nat.reduceMul, Nat.reduceSub, Nat.reduceDiv, Int.reduceToNat, Nat.reduceLT, Int.reduceLT, Int.reduceLE, ↓reduceIte, reduceCtorEq, ints, rows, rat, rats, ratsO, toShL_ratC, List.mem_cons, List.mem_nil_iff, List.not_mem_nil, or_false, false_or, exists_eq_left, exists_eq_left', exists_eq_right', Root.live.injEq, eq_self_iff_true, exists_eq, and_true, T.toSh, toShL_ints, toShL_intsO, intsO, rowsO]
    simp -implicitDefEqProofs only [go_sem, List.reduceReplicate, Nat.reduceEqDiff, Nat.reduceAdd, Nat.reduceLeDiff, Nat.reduceMul, Nat.reduceSub, Nat.reduceDiv, Int.reduceToNat, Nat.reduceLT, Int.reduceLT, Int.reduceLE, ↓reduceIte, reduceCtorEq, forall_apply_eq_imp_iff₂, ints, rows, rat, rats, toNat_cast]
    rw [vbR, hb, show 0 - bestN g s = -bestN g s by omega, wrap64 (n := -bestN g s) (by omega) (by omega)]; rfl
/-- Is a claim proved? -/
def prB (g : Gm) (c : Cl) : Bool := pairG g c.f c.s && decide (-1000000000000000 ≤ c.lo) && decide (c.lo ≤ -bestN g c.f) && decide (bestN g c.s ≤ c.hi) && decide (c.hi ≤ 1000000000000000)
theorem prB_iff {g : Gm} {c : Cl} : prB g c = true ↔ pairG g c.f c.s = true ∧ -1000000000000000 ≤ c.lo ∧ c.lo ≤ -bestN g c.f ∧ bestN g c.s ≤ c.hi ∧ c.hi ≤ 1000000000000000 := by
  simp only [prB, Bool.and_eq_true, decide_eq_true_eq]
  constructor
  · rintro ⟨⟨⟨⟨h1, h2⟩, h3⟩, h4⟩, h5⟩; exact ⟨h1, h2, h3, h4, h5⟩
  · rintro ⟨h1, h2, h3, h4, h5⟩; exact ⟨⟨⟨⟨h1, h2⟩, h3⟩, h4⟩, h5⟩
theorem prB_no {g : Gm} {c : Cl} (h : ¬ (pairG g c.f c.s = true ∧ -1000000000000000 ≤ c.lo ∧ c.lo ≤ -bestN g c.f ∧ bestN g c.s ≤ c.hi ∧ c.hi ≤ 1000000000000000)) : prB g c = false := by
  cases hp : prB g c with
  | false => rfl
  | true => exact (h (prB_iff.1 hp)).elim
set_option maxRecDepth 20000 in
theorem spec_IsProved_ok (g : Gm) (c : Cl) (hg : gameL g) (hf : rowsL c.f.2) (hs : rowsL c.s.2) : Pure Try.prog 33 [gameT g, claimT c] (.b (prB g c)) := by
  refine fun_spec_IsProved (by simp) ?_
  have h1 := vb_t (spec_ValueBounds_ok g c.f c.s hg hf hs)
  simp -implicitDefEqProofs only [go_sem, List.reduceReplicate, Nat.reduceEqDiff, Nat.reduceAdd, Nat.reduceLeDiff, Nat.reduceMul, Nat.reduceSub, Nat.reduceDiv, Int.reduceToNat, Nat.reduceLT, Int.reduceLT, Int.reduceLE, ↓reduceIte, reduceCtorEq, forall_apply_eq_imp_iff₂, ints, rows, rat, rats, toNat_cast, c_spec_IsProved, gameT, claimT, nodes, rows]
  cases hb : pairG g c.f c.s
  · rw [vbR, hb] at h1
    simp only [tr4, Bool.false_eq_true, if_false] at h1
    refine CallW.pure h1 [] rfl Try.call26 ?_ (by first | trivial | simp [T.noSh, T.noShL, rat]) rfl ?_
    · simp -implicitDefEqProofs only [Int.natCast_zero, Int.cast_ofNat_Int, Int.natCast_one, Nat.le_refl, Nat.reduceLeDiff, Nat.sub_self, Nat.reduceSub, List.getElem?_cons_zero, List.getElem?_cons_succ, vt_self, vaL, vtL, va, vt, vb, maT, List.cons_append, List.nil_append, List.append_nil, true_or, or_true, go_sem, List.reduceReplicate, Nat.reduceEqDiff, Nat.reduceAdd, Nat.reduceLeDiff, Nat.reduceMul, Nat.reduceSub, Nat.reduceDiv, Int.reduceToNat, Nat.reduceLT, Int.reduceLT, Int.reduceLE, ↓reduceIte, reduceCtorEq, ints, rows, rat, rats, ratsO, toShL_ratC, List.mem_cons, List.mem_nil_iff, List.not_mem_nil, or_false, false_or, exists_eq_left, exists_eq_left', exists_eq_right', Root.live.injEq, eq_self_iff_true, exists_eq, and_true, T.toSh, toShL_ints, toShL_intsO, intsO, rowsO]
    simp -implicitDefEqProofs only [go_sem, List.reduceReplicate, Nat.reduceEqDiff, Nat.reduceAdd, Nat.reduceLeDiff, Nat.reduceMul, Nat.reduceSub, Nat.reduceDiv, Int.reduceToNat, Nat.reduceLT, Int.reduceLT, Int.reduceLE, ↓reduceIte, reduceCtorEq, forall_apply_eq_imp_iff₂, ints, rows, rat, rats, toNat_cast]
    rw [prB_no fun h => by rw [hb] at h; exact absurd h.1 (by simp)]
    exact ⟨fun h => absurd h (by decide), fun _ => rfl⟩
  · rw [vbR, hb] at h1
    simp only [tr4, if_true] at h1
    refine CallW.pure h1 [] rfl Try.call26 ?_ (by first | trivial | simp [T.noSh, T.noShL, rat]) rfl ?_
    · simp -implicitDefEqProofs only [Int.natCast_zero, Int.cast_ofNat_Int, Int.natCast_one, Nat.le_refl, Nat.reduceLeDiff, Nat.sub_self, Nat.reduceSub, List.getElem?_cons_zero, List.getElem?_cons_succ, vt_self, vaL, vtL, va, vt, vb, maT, List.cons_append, List.nil_append, List.append_nil, true_or, or_true, go_sem, List.reduceReplicate, Nat.reduceEqDiff, Nat.reduceAdd, Nat.reduceLeDiff, Nat.reduceMul, Nat.reduceSub, Nat.reduceDiv, Int.reduceToNat, Nat.reduceLT, Int.reduceLT, Int.reduceLE, ↓reduceIte, reduceCtorEq, ints, rows, rat, rats, ratsO, toShL_ratC, List.mem_cons, List.mem_nil_iff, List.not_mem_nil, or_false, false_or, exists_eq_left, exists_eq_left', exists_eq_right', Root.live.injEq, eq_self_iff_true, exists_eq, and_true, T.toSh, toShL_ints, toShL_intsO, intsO, rowsO]
    simp -implicitDefEqProofs only [go_sem, List.reduceReplicate, Nat.reduceEqDiff, Nat.reduceAdd, Nat.reduceLeDiff, Nat.reduceMul, Nat.reduceSub, Nat.reduceDiv, Int.reduceToNat, Nat.reduceLT, Int.reduceLT, Int.reduceLE, ↓reduceIte, reduceCtorEq, forall_apply_eq_imp_iff₂, ints, rows, rat, rats, toNat_cast]
    refine ⟨fun _ => ⟨fun a1 => ⟨fun a2 => ⟨fun a3 => ?_, fun a3 => ?_⟩, fun a2 => ?_⟩, fun a1 => ?_⟩, fun h => absurd h (by decide)⟩
    · by_cases a4 : c.hi ≤ 1000000000000000
      · rw [decide_eq_true a4, prB_iff.2 ⟨hb, a1, a2, a3, a4⟩]
      · rw [decide_eq_false a4, prB_no fun h => a4 h.2.2.2.2]
    · rw [prB_no fun h => a3 h.2.2.2.1]
    · rw [prB_no fun h => a2 h.2.2.1]
    · rw [prB_no fun h => a1 h.2.1]
set_option maxRecDepth 20000 in
theorem impl_isProved_ok (g : Gm) (c : Cl) (hg : gameL g) (hf : rowsL c.f.2) (hs : rowsL c.s.2) : Pure Try.prog 86 [gameT g, claimT c] (.b (prB g c)) := by
  refine fun_impl_isProved (by simp) ?_
  have h1 := pair_t (impl_arePair_ok g c.f c.s hg hf hs)
  simp -implicitDefEqProofs only [go_sem, List.reduceReplicate, Nat.reduceEqDiff, Nat.reduceAdd, Nat.reduceLeDiff, Nat.reduceMul, Nat.reduceSub, Nat.reduceDiv, Int.reduceToNat, Nat.reduceLT, Int.reduceLT, Int.reduceLE, ↓reduceIte, reduceCtorEq, forall_apply_eq_imp_iff₂, ints, rows, rat, rats, toNat_cast, c_impl_isProved, gameT, claimT, nodes, rows]
  cases hb : pairG g c.f c.s <;> rw [hb] at h1
  · refine CallW.pure h1 [] rfl Try.call82 ?_ (by first | trivial | simp [T.noSh, T.noShL, rat]) rfl ?_
    · simp -implicitDefEqProofs only [Int.natCast_zero, Int.cast_ofNat_Int, Int.natCast_one, Nat.le_refl, Nat.reduceLeDiff, Nat.sub_self, Nat.reduceSub, List.getElem?_cons_zero, List.getElem?_cons_succ, vt_self, vaL, vtL, va, vt, vb, maT, List.cons_append, List.nil_append, List.append_nil, true_or, or_true, go_sem, List.reduceReplicate, Nat.reduceEqDiff, Nat.reduceAdd, Nat.reduceLeDiff, Nat.reduceMul, Nat.reduceSub, Nat.reduceDiv, Int.reduceToNat, Nat.reduceLT, Int.reduceLT, Int.reduceLE, ↓reduceIte, reduceCtorEq, ints, rows, rat, rats, ratsO, toShL_ratC, List.mem_cons, List.mem_nil_iff, List.not_mem_nil, or_false, false_or, exists_eq_left, exists_eq_left', exists_eq_right', Root.live.injEq, eq_self_iff_true, exists_eq, and_true, T.toSh, toShL_ints, toShL_intsO, intsO, rowsO]
    simp -implicitDefEqProofs only [go_sem, List.reduceReplicate, Nat.reduceEqDiff, Nat.reduceAdd, Nat.reduceLeDiff, Nat.reduceMul, Nat.reduceSub, Nat.reduceDiv, Int.reduceToNat, Nat.reduceLT, Int.reduceLT, Int.reduceLE, ↓reduceIte, reduceCtorEq, forall_apply_eq_imp_iff₂, ints, rows, rat, rats, toNat_cast]
    rw [prB_no fun h => by rw [hb] at h; exact absurd h.1 (by simp)]
  · refine CallW.pure h1 [] rfl Try.call82 ?_ (by first | trivial | simp [T.noSh, T.noShL, rat]) rfl ?_
    · simp -implicitDefEqProofs only [Int.natCast_zero, Int.cast_ofNat_Int, Int.natCast_one, Nat.le_refl, Nat.reduceLeDiff, Nat.sub_self, Nat.reduceSub, List.getElem?_cons_zero, List.getElem?_cons_succ, vt_self, vaL, vtL, va, vt, vb, maT, List.cons_append, List.nil_append, List.append_nil, true_or, or_true, go_sem, List.reduceReplicate, Nat.reduceEqDiff, Nat.reduceAdd, Nat.reduceLeDiff, Nat.reduceMul, Nat.reduceSub, Nat.reduceDiv, Int.reduceToNat, Nat.reduceLT, Int.reduceLT, Int.reduceLE, ↓reduceIte, reduceCtorEq, ints, rows, rat, rats, ratsO, toShL_ratC, List.mem_cons, List.mem_nil_iff, List.not_mem_nil, or_false, false_or, exists_eq_left, exists_eq_left', exists_eq_right', Root.live.injEq, eq_self_iff_true, exists_eq, and_true, T.toSh, toShL_ints, toShL_intsO, intsO, rowsO]
    simp -implicitDefEqProofs only [go_sem, List.reduceReplicate, Nat.reduceEqDiff, Nat.reduceAdd, Nat.reduceLeDiff, Nat.reduceMul, Nat.reduceSub, Nat.reduceDiv, Int.reduceToNat, Nat.reduceLT, Int.reduceLT, Int.reduceLE, ↓reduceIte, reduceCtorEq, forall_apply_eq_imp_iff₂, ints, rows, rat, rats, toNat_cast]
    have b1 := bestN_abs (pairG_parts hb).1
    have b2 := bestN_abs (pairG_parts hb).2.1
    have w1 := impl_within_ok c.lo (-1000000000000000) 1000000000000000
    have w2 := impl_within_ok c.hi (-1000000000000000) 1000000000000000
    cases hw1 : decide (-1000000000000000 ≤ c.lo ∧ c.lo ≤ 1000000000000000) <;> rw [hw1] at w1
    · refine CallW.pure w1 [] rfl Try.call95 ?_ (by first | trivial | simp [T.noSh, T.noShL, rat]) rfl ?_
      · simp -implicitDefEqProofs only [Int.natCast_zero, Int.cast_ofNat_Int, Int.natCast_one, Nat.le_refl, Nat.reduceLeDiff, Nat.sub_self, Nat.reduceSub, List.getElem?_cons_zero, List.getElem?_cons_succ, vt_self, vaL, vtL, va, vt, vb, maT, List.cons_append, List.nil_append, List.append_nil, true_or, or_true, go_sem, List.reduceReplicate, Nat.reduceEqDiff, Nat.reduceAdd, Nat.reduceLeDiff, Nat.reduceMul, Nat.reduceSub, Nat.reduceDiv, Int.reduceToNat, Nat.reduceLT, Int.reduceLT, Int.reduceLE, ↓reduceIte, reduceCtorEq, ints, rows, rat, rats, ratsO, toShL_ratC, List.mem_cons, List.mem_nil_iff, List.not_mem_nil, or_false, false_or, exists_eq_left, exists_eq_left', exists_eq_right', Root.live.injEq, eq_self_iff_true, exists_eq, and_true, T.toSh, toShL_ints, toShL_intsO, intsO, rowsO]
      simp -implicitDefEqProofs only [go_sem, List.reduceReplicate, Nat.reduceEqDiff, Nat.reduceAdd, Nat.reduceLeDiff, Nat.reduceMul, Nat.reduceSub, Nat.reduceDiv, Int.reduceToNat, Nat.reduceLT, Int.reduceLT, Int.reduceLE, ↓reduceIte, reduceCtorEq, forall_apply_eq_imp_iff₂, ints, rows, rat, rats, toNat_cast]
      have hw1 := of_decide_eq_false hw1
      rw [prB_no fun h => hw1 ⟨h.2.1, by have := h.2.2.1; omega⟩]
    · refine CallW.pure w1 [] rfl Try.call95 ?_ (by first | trivial | simp [T.noSh, T.noShL, rat]) rfl ?_
      · simp -implicitDefEqProofs only [Int.natCast_zero, Int.cast_ofNat_Int, Int.natCast_one, Nat.le_refl, Nat.reduceLeDiff, Nat.sub_self, Nat.reduceSub, List.getElem?_cons_zero, List.getElem?_cons_succ, vt_self, vaL, vtL, va, vt, vb, maT, List.cons_append, List.nil_append, List.append_nil, true_or, or_true, go_sem, List.reduceReplicate, Nat.reduceEqDiff, Nat.reduceAdd, Nat.reduceLeDiff, Nat.reduceMul, Nat.reduceSub, Nat.reduceDiv, Int.reduceToNat, Nat.reduceLT, Int.reduceLT, Int.reduceLE, ↓reduceIte, reduceCtorEq, ints, rows, rat, rats, ratsO, toShL_ratC, List.mem_cons, List.mem_nil_iff, List.not_mem_nil, or_false, false_or, exists_eq_left, exists_eq_left', exists_eq_right', Root.live.injEq, eq_self_iff_true, exists_eq, and_true, T.toSh, toShL_ints, toShL_intsO, intsO, rowsO]
      simp -implicitDefEqProofs only [go_sem, List.reduceReplicate, Nat.reduceEqDiff, Nat.reduceAdd, Nat.reduceLeDiff, Nat.reduceMul, Nat.reduceSub, Nat.reduceDiv, Int.reduceToNat, Nat.reduceLT, Int.reduceLT, Int.reduceLE, ↓reduceIte, reduceCtorEq, forall_apply_eq_imp_iff₂, ints, rows, rat, rats, toNat_cast]
      have hw1 := of_decide_eq_true hw1
      cases hw2 : decide (-1000000000000000 ≤ c.hi ∧ c.hi ≤ 1000000000000000) <;> rw [hw2] at w2
      · refine CallW.pure w2 [] rfl Try.call95 ?_ (by first | trivial | simp [T.noSh, T.noShL, rat]) rfl ?_
        · simp -implicitDefEqProofs only [Int.natCast_zero, Int.cast_ofNat_Int, Int.natCast_one, Nat.le_refl, Nat.reduceLeDiff, Nat.sub_self, Nat.reduceSub, List.getElem?_cons_zero, List.getElem?_cons_succ, vt_self, vaL, vtL, va, vt, vb, maT, List.cons_append, List.nil_append, List.append_nil, true_or, or_true, go_sem, List.reduceReplicate, Nat.reduceEqDiff, Nat.reduceAdd, Nat.reduceLeDiff, Nat.reduceMul, Nat.reduceSub, Nat.reduceDiv, Int.reduceToNat, Nat.reduceLT, Int.reduceLT, Int.reduceLE, ↓reduceIte, reduceCtorEq, ints, rows, rat, rats, ratsO, toShL_ratC, List.mem_cons, List.mem_nil_iff, List.not_mem_nil, or_false, false_or, exists_eq_left, exists_eq_left', exists_eq_right', Root.live.injEq, eq_self_iff_true, exists_eq, and_true, T.toSh, toShL_ints, toShL_intsO, intsO, rowsO]
        simp -implicitDefEqProofs only [go_sem, List.reduceReplicate, Nat.reduceEqDiff, Nat.reduceAdd, Nat.reduceLeDiff, Nat.reduceMul, Nat.reduceSub, Nat.reduceDiv, Int.reduceToNat, Nat.reduceLT, Int.reduceLT, Int.reduceLE, ↓reduceIte, reduceCtorEq, forall_apply_eq_imp_iff₂, ints, rows, rat, rats, toNat_cast]
        have hw2 := of_decide_eq_false hw2
        rw [prB_no fun h => hw2 ⟨by have := h.2.2.2.1; omega, h.2.2.2.2⟩]
      · refine CallW.pure w2 [] rfl Try.call95 ?_ (by first | trivial | simp [T.noSh, T.noShL, rat]) rfl ?_
        · simp -implicitDefEqProofs only [Int.natCast_zero, Int.cast_ofNat_Int, Int.natCast_one, Nat.le_refl, Nat.reduceLeDiff, Nat.sub_self, Nat.reduceSub, List.getElem?_cons_zero, List.getElem?_cons_succ, vt_self, vaL, vtL, va, vt, vb, maT, List.cons_append, List.nil_append, List.append_nil, true_or, or_true, go_sem, List.reduceReplicate, Nat.reduceEqDiff, Nat.reduceAdd, Nat.reduceLeDiff, Nat.reduceMul, Nat.reduceSub, Nat.reduceDiv, Int.reduceToNat, Nat.reduceLT, Int.reduceLT, Int.reduceLE, ↓reduceIte, reduceCtorEq, ints, rows, rat, rats, ratsO, toShL_ratC, List.mem_cons, List.mem_nil_iff, List.not_mem_nil, or_false, false_or, exists_eq_left, exists_eq_left', exists_eq_right', Root.live.injEq, eq_self_iff_true, exists_eq, and_true, T.toSh, toShL_ints, toShL_intsO, intsO, rowsO]
        simp -implicitDefEqProofs only [go_sem, List.reduceReplicate, Nat.reduceEqDiff, Nat.reduceAdd, Nat.reduceLeDiff, Nat.reduceMul, Nat.reduceSub, Nat.reduceDiv, Int.reduceToNat, Nat.reduceLT, Int.reduceLT, Int.reduceLE, ↓reduceIte, reduceCtorEq, forall_apply_eq_imp_iff₂, ints, rows, rat, rats, toNat_cast]
        have hw2 := of_decide_eq_true hw2
        refine CallW.pure (vb_t (impl_valueBounds_ok g c.f c.s hb)) [] rfl Try.call83 ?_ (by first | trivial | simp [T.noSh, T.noShL, rat]) rfl ?_
        · simp -implicitDefEqProofs only [Int.natCast_zero, Int.cast_ofNat_Int, Int.natCast_one, Nat.le_refl, Nat.reduceLeDiff, Nat.sub_self, Nat.reduceSub, List.getElem?_cons_zero, List.getElem?_cons_succ, vt_self, vaL, vtL, va, vt, vb, maT, List.cons_append, List.nil_append, List.append_nil, true_or, or_true, go_sem, List.reduceReplicate, Nat.reduceEqDiff, Nat.reduceAdd, Nat.reduceLeDiff, Nat.reduceMul, Nat.reduceSub, Nat.reduceDiv, Int.reduceToNat, Nat.reduceLT, Int.reduceLT, Int.reduceLE, ↓reduceIte, reduceCtorEq, ints, rows, rat, rats, ratsO, toShL_ratC, List.mem_cons, List.mem_nil_iff, List.not_mem_nil, or_false, false_or, exists_eq_left, exists_eq_left', exists_eq_right', Root.live.injEq, eq_self_iff_true, exists_eq, and_true, T.toSh, toShL_ints, toShL_intsO, intsO, rowsO]
        simp -implicitDefEqProofs only [go_sem, List.reduceReplicate, Nat.reduceEqDiff, Nat.reduceAdd, Nat.reduceLeDiff, Nat.reduceMul, Nat.reduceSub, Nat.reduceDiv, Int.reduceToNat, Nat.reduceLT, Int.reduceLT, Int.reduceLE, ↓reduceIte, reduceCtorEq, forall_apply_eq_imp_iff₂, ints, rows, rat, rats, toNat_cast]
        refine ⟨fun a2 => ?_, fun a2 => ?_⟩
        · by_cases a3 : c.hi ≥ bestN g c.s
          · rw [decide_eq_true a3, prB_iff.2 ⟨hb, hw1.1, a2, a3, hw2.2⟩]
          · rw [decide_eq_false a3, prB_no fun h => a3 h.2.2.2.1]
        · rw [prB_no fun h => a2 h.2.2.1]
/-- The code of a game and a claim. -/
def clCode (g : Gm) (c : Cl) : Int := if isGameB g = false then 1 else if prB g c = false then 5 else 0
set_option maxRecDepth 20000 in
theorem spec_l28Code_ok (g : Gm) (c : Cl) (hg : gameL g) (hf : rowsL c.f.2) (hs : rowsL c.s.2) : Pure Try.prog 90 [gameT g, claimT c] (.i (clCode g c)) := by
  refine fun_spec_l28Code (by simp) ?_
  have h1 := isGame_t (spec_IsGame_ok g hg)
  have h2 := spec_IsProved_ok g c hg hf hs
  simp only [gameT, claimT, nodes, rows] at h2
  simp -implicitDefEqProofs only [go_sem, List.reduceReplicate, Nat.reduceEqDiff, Nat.reduceAdd, Nat.reduceLeDiff, Nat.reduceMul, Nat.reduceSub, Nat.reduceDiv, Int.reduceToNat, Nat.reduceLT, Int.reduceLT, Int.reduceLE, ↓reduceIte, reduceCtorEq, forall_apply_eq_imp_iff₂, ints, rows, rat, rats, toNat_cast, c_spec_l28Code, gameT, claimT, nodes, rows]
  cases hb1 : isGameB g <;> rw [hb1] at h1
  · refine CallW.pure h1 [] rfl Try.call108 ?_ (by first | trivial | simp [T.noSh, T.noShL, rat]) rfl ?_
    · simp -implicitDefEqProofs only [Int.natCast_zero, Int.cast_ofNat_Int, Int.natCast_one, Nat.le_refl, Nat.reduceLeDiff, Nat.sub_self, Nat.reduceSub, List.getElem?_cons_zero, List.getElem?_cons_succ, vt_self, vaL, vtL, va, vt, vb, maT, List.cons_append, List.nil_append, List.append_nil, true_or, or_true, go_sem, List.reduceReplicate, Nat.reduceEqDiff, Nat.reduceAdd, Nat.reduceLeDiff, Nat.reduceMul, Nat.reduceSub, Nat.reduceDiv, Int.reduceToNat, Nat.reduceLT, Int.reduceLT, Int.reduceLE, ↓reduceIte, reduceCtorEq, ints, rows, rat, rats, ratsO, toShL_ratC, List.mem_cons, List.mem_nil_iff, List.not_mem_nil, or_false, false_or, exists_eq_left, exists_eq_left', exists_eq_right', Root.live.injEq, eq_self_iff_true, exists_eq, and_true, T.toSh, toShL_ints, toShL_intsO, intsO, rowsO]
    simp -implicitDefEqProofs only [go_sem, List.reduceReplicate, Nat.reduceEqDiff, Nat.reduceAdd, Nat.reduceLeDiff, Nat.reduceMul, Nat.reduceSub, Nat.reduceDiv, Int.reduceToNat, Nat.reduceLT, Int.reduceLT, Int.reduceLE, ↓reduceIte, reduceCtorEq, forall_apply_eq_imp_iff₂, ints, rows, rat, rats, toNat_cast]
    rw [clCode, hb1]; rfl
  · refine CallW.pure h1 [] rfl Try.call108 ?_ (by first | trivial | simp [T.noSh, T.noShL, rat]) rfl ?_
    · simp -implicitDefEqProofs only [Int.natCast_zero, Int.cast_ofNat_Int, Int.natCast_one, Nat.le_refl, Nat.reduceLeDiff, Nat.sub_self, Nat.reduceSub, List.getElem?_cons_zero, List.getElem?_cons_succ, vt_self, vaL, vtL, va, vt, vb, maT, List.cons_append, List.nil_append, List.append_nil, true_or, or_true, go_sem, List.reduceReplicate, Nat.reduceEqDiff, Nat.reduceAdd, Nat.reduceLeDiff, Nat.reduceMul, Nat.reduceSub, Nat.reduceDiv, Int.reduceToNat, Nat.reduceLT, Int.reduceLT, Int.reduceLE, ↓reduceIte, reduceCtorEq, ints, rows, rat, rats, ratsO, toShL_ratC, List.mem_cons, List.mem_nil_iff, List.not_mem_nil, or_false, false_or, exists_eq_left, exists_eq_left', exists_eq_right', Root.live.injEq, eq_self_iff_true, exists_eq, and_true, T.toSh, toShL_ints, toShL_intsO, intsO, rowsO]
    simp -implicitDefEqProofs only [go_sem, List.reduceReplicate, Nat.reduceEqDiff, Nat.reduceAdd, Nat.reduceLeDiff, Nat.reduceMul, Nat.reduceSub, Nat.reduceDiv, Int.reduceToNat, Nat.reduceLT, Int.reduceLT, Int.reduceLE, ↓reduceIte, reduceCtorEq, forall_apply_eq_imp_iff₂, ints, rows, rat, rats, toNat_cast]
    cases hb2 : prB g c <;> rw [hb2] at h2
    · refine CallW.pure h2 [] rfl Try.call33 ?_ (by first | trivial | simp [T.noSh, T.noShL, rat]) rfl ?_
      · simp -implicitDefEqProofs only [Int.natCast_zero, Int.cast_ofNat_Int, Int.natCast_one, Nat.le_refl, Nat.reduceLeDiff, Nat.sub_self, Nat.reduceSub, List.getElem?_cons_zero, List.getElem?_cons_succ, vt_self, vaL, vtL, va, vt, vb, maT, List.cons_append, List.nil_append, List.append_nil, true_or, or_true, go_sem, List.reduceReplicate, Nat.reduceEqDiff, Nat.reduceAdd, Nat.reduceLeDiff, Nat.reduceMul, Nat.reduceSub, Nat.reduceDiv, Int.reduceToNat, Nat.reduceLT, Int.reduceLT, Int.reduceLE, ↓reduceIte, reduceCtorEq, ints, rows, rat, rats, ratsO, toShL_ratC, List.mem_cons, List.mem_nil_iff, List.not_mem_nil, or_false, false_or, exists_eq_left, exists_eq_left', exists_eq_right', Root.live.injEq, eq_self_iff_true, exists_eq, and_true, T.toSh, toShL_ints, toShL_intsO, intsO, rowsO]
      simp -implicitDefEqProofs only [go_sem, List.reduceReplicate, Nat.reduceEqDiff, Nat.reduceAdd, Nat.reduceLeDiff, Nat.reduceMul, Nat.reduceSub, Nat.reduceDiv, Int.reduceToNat, Nat.reduceLT, Int.reduceLT, Int.reduceLE, ↓reduceIte, reduceCtorEq, forall_apply_eq_imp_iff₂, ints, rows, rat, rats, toNat_cast]
      rw [clCode, hb1, hb2]; rfl
    · refine CallW.pure h2 [] rfl Try.call33 ?_ (by first | trivial | simp [T.noSh, T.noShL, rat]) rfl ?_
      · simp -implicitDefEqProofs only [Int.natCast_zero, Int.cast_ofNat_Int, Int.natCast_one, Nat.le_refl, Nat.reduceLeDiff, Nat.sub_self, Nat.reduceSub, List.getElem?_cons_zero, List.getElem?_cons_succ, vt_self, vaL, vtL, va, vt, vb, maT, List.cons_append, List.nil_append, List.append_nil, true_or, or_true, go_sem, List.reduceReplicate, Nat.reduceEqDiff, Nat.reduceAdd, Nat.reduceLeDiff, Nat.reduceMul, Nat.reduceSub, Nat.reduceDiv, Int.reduceToNat, Nat.reduceLT, Int.reduceLT, Int.reduceLE, ↓reduceIte, reduceCtorEq, ints, rows, rat, rats, ratsO, toShL_ratC, List.mem_cons, List.mem_nil_iff, List.not_mem_nil, or_false, false_or, exists_eq_left, exists_eq_left', exists_eq_right', Root.live.injEq, eq_self_iff_true, exists_eq, and_true, T.toSh, toShL_ints, toShL_intsO, intsO, rowsO]
      simp -implicitDefEqProofs only [go_sem, List.reduceReplicate, Nat.reduceEqDiff, Nat.reduceAdd, Nat.reduceLeDiff, Nat.reduceMul, Nat.reduceSub, Nat.reduceDiv, Int.reduceToNat, Nat.reduceLT, Int.reduceLT, Int.reduceLE, ↓reduceIte, reduceCtorEq, forall_apply_eq_imp_iff₂, ints, rows, rat, rats, toNat_cast]
      rw [clCode, hb1, hb2]; rfl
def wdR (g : Gm) (c : Cl) : Int × Int := if clCode g c = 0 then (c.hi - c.lo, 0) else (0, clCode g c)
def tr2 (r : Int × Int) : T := .tup [.i r.1, .i r.2]
theorem clCode_zero {g : Gm} {c : Cl} : clCode g c = 0 ↔ isGameB g = true ∧ prB g c = true := by
  unfold clCode
  cases isGameB g <;> cases prB g c <;> simp
set_option maxRecDepth 20000 in
theorem spec_WidthOf_ok (g : Gm) (c : Cl) (hg : gameL g) (hf : rowsL c.f.2) (hs : rowsL c.s.2) : Pure Try.prog 42 [gameT g, claimT c] (tr2 (wdR g c)) := by
  refine fun_spec_WidthOf (by simp) ?_
  have h2 := spec_l28Code_ok g c hg hf hs
  simp only [gameT, claimT, nodes, rows] at h2
  simp -implicitDefEqProofs only [go_sem, List.reduceReplicate, Nat.reduceEqDiff, Nat.reduceAdd, Nat.reduceLeDiff, Nat.reduceMul, Nat.reduceSub, Nat.reduceDiv, Int.reduceToNat, Nat.reduceLT, Int.reduceLT, Int.reduceLE, ↓reduceIte, reduceCtorEq, forall_apply_eq_imp_iff₂, ints, rows, rat, rats, toNat_cast, c_spec_WidthOf, gameT, claimT, nodes, rows]
  refine CallW.pure h2 [] rfl Try.call90 ?_ (by first | trivial | simp [T.noSh, T.noShL, rat]) rfl ?_
  · simp -implicitDefEqProofs only [Int.natCast_zero, Int.cast_ofNat_Int, Int.natCast_one, Nat.le_refl, Nat.reduceLeDiff, Nat.sub_self, Nat.reduceSub, List.getElem?_cons_zero, List.getElem?_cons_succ, vt_self, vaL, vtL, va, vt, vb, maT, List.cons_append, List.nil_append, List.append_nil, true_or, or_true, go_sem, List.reduceReplicate, Nat.reduceEqDiff, Nat.reduceAdd, Nat.reduceLeDiff, Nat.reduceMul, Nat.reduceSub, Nat.reduceDiv, Int.reduceToNat, Nat.reduceLT, Int.reduceLT, Int.reduceLE, ↓reduceIte, reduceCtorEq, ints, rows, rat, rats, ratsO, toShL_ratC, List.mem_cons, List.mem_nil_iff, List.not_mem_nil, or_false, false_or, exists_eq_left, exists_eq_left', exists_eq_right', Root.live.injEq, eq_self_iff_true, exists_eq, and_true, T.toSh, toShL_ints, toShL_intsO, intsO, rowsO]
  simp -implicitDefEqProofs only [go_sem, List.reduceReplicate, Nat.reduceEqDiff, Nat.reduceAdd, Nat.reduceLeDiff, Nat.reduceMul, Nat.reduceSub, Nat.reduceDiv, Int.reduceToNat, Nat.reduceLT, Int.reduceLT, Int.reduceLE, ↓reduceIte, reduceCtorEq, forall_apply_eq_imp_iff₂, ints, rows, rat, rats, toNat_cast]
  refine ⟨fun h => ?_, fun h => ?_⟩
  · have h : ¬ clCode g c = 0 := by simpa using h
    rw [wdR, if_neg h]; rfl
  · have h : clCode g c = 0 := by simpa using h
    obtain ⟨a1, a2⟩ := clCode_zero.1 h
    obtain ⟨p1, p2, p3, p4, p5⟩ := prB_iff.1 a2
    have b1 := bestN_abs (pairG_parts p1).1
    have b2 := bestN_abs (pairG_parts p1).2.1
    rw [wdR, if_pos h, wrap64 (n := c.hi - c.lo) (by omega) (by omega)]; rfl
set_option maxRecDepth 20000 in
theorem impl_WidthOf_ok (g : Gm) (c : Cl) (hg : gameL g) (hf : rowsL c.f.2) (hs : rowsL c.s.2) : Pure Try.prog 43 [gameT g, claimT c] (tr2 (wdR g c)) := by
  refine fun_impl_WidthOf (by simp) ?_
  have h1 := isGame_t (impl_IsGame_ok g hg)
  have h2 := impl_isProved_ok g c hg hf hs
  simp only [gameT, claimT, nodes, rows] at h2
  simp -implicitDefEqProofs only [go_sem, List.reduceReplicate, Nat.reduceEqDiff, Nat.reduceAdd, Nat.reduceLeDiff, Nat.reduceMul, Nat.reduceSub, Nat.reduceDiv, Int.reduceToNat, Nat.reduceLT, Int.reduceLT, Int.reduceLE, ↓reduceIte, reduceCtorEq, forall_apply_eq_imp_iff₂, ints, rows, rat, rats, toNat_cast, c_impl_WidthOf, gameT, claimT, nodes, rows]
  cases hb1 : isGameB g <;> rw [hb1] at h1
  · refine CallW.pure h1 [] rfl Try.call85 ?_ (by first | trivial | simp [T.noSh, T.noShL, rat]) rfl ?_
    · simp -implicitDefEqProofs only [Int.natCast_zero, Int.cast_ofNat_Int, Int.natCast_one, Nat.le_refl, Nat.reduceLeDiff, Nat.sub_self, Nat.reduceSub, List.getElem?_cons_zero, List.getElem?_cons_succ, vt_self, vaL, vtL, va, vt, vb, maT, List.cons_append, List.nil_append, List.append_nil, true_or, or_true, go_sem, List.reduceReplicate, Nat.reduceEqDiff, Nat.reduceAdd, Nat.reduceLeDiff, Nat.reduceMul, Nat.reduceSub, Nat.reduceDiv, Int.reduceToNat, Nat.reduceLT, Int.reduceLT, Int.reduceLE, ↓reduceIte, reduceCtorEq, ints, rows, rat, rats, ratsO, toShL_ratC, List.mem_cons, List.mem_nil_iff, List.not_mem_nil, or_false, false_or, exists_eq_left, exists_eq_left', exists_eq_right', Root.live.injEq, eq_self_iff_true, exists_eq, and_true, T.toSh, toShL_ints, toShL_intsO, intsO, rowsO]
    simp -implicitDefEqProofs only [go_sem, List.reduceReplicate, Nat.reduceEqDiff, Nat.reduceAdd, Nat.reduceLeDiff, Nat.reduceMul, Nat.reduceSub, Nat.reduceDiv, Int.reduceToNat, Nat.reduceLT, Int.reduceLT, Int.reduceLE, ↓reduceIte, reduceCtorEq, forall_apply_eq_imp_iff₂, ints, rows, rat, rats, toNat_cast]
    rw [wdR, clCode, hb1]; rfl
  · refine CallW.pure h1 [] rfl Try.call85 ?_ (by first | trivial | simp [T.noSh, T.noShL, rat]) rfl ?_
    · simp -implicitDefEqProofs only [Int.natCast_zero, Int.cast_ofNat_Int, Int.natCast_one, Nat.le_refl, Nat.reduceLeDiff, Nat.sub_self, Nat.reduceSub, List.getElem?_cons_zero, List.getElem?_cons_succ, vt_self, vaL, vtL, va, vt, vb, maT, List.cons_append, List.nil_append, List.append_nil, true_or, or_true, go_sem, List.reduceReplicate, Nat.reduceEqDiff, Nat.reduceAdd, Nat.reduceLeDiff, Nat.reduceMul, Nat.reduceSub, Nat.reduceDiv, Int.reduceToNat, Nat.reduceLT, Int.reduceLT, Int.reduceLE, ↓reduceIte, reduceCtorEq, ints, rows, rat, rats, ratsO, toShL_ratC, List.mem_cons, List.mem_nil_iff, List.not_mem_nil, or_false, false_or, exists_eq_left, exists_eq_left', exists_eq_right', Root.live.injEq, eq_self_iff_true, exists_eq, and_true, T.toSh, toShL_ints, toShL_intsO, intsO, rowsO]
    simp -implicitDefEqProofs only [go_sem, List.reduceReplicate, Nat.reduceEqDiff, Nat.reduceAdd, Nat.reduceLeDiff, Nat.reduceMul, Nat.reduceSub, Nat.reduceDiv, Int.reduceToNat, Nat.reduceLT, Int.reduceLT, Int.reduceLE, ↓reduceIte, reduceCtorEq, forall_apply_eq_imp_iff₂, ints, rows, rat, rats, toNat_cast]
    cases hb2 : prB g c <;> rw [hb2] at h2
    · refine CallW.pure h2 [] rfl Try.call86 ?_ (by first | trivial | simp [T.noSh, T.noShL, rat]) rfl ?_
      · simp -implicitDefEqProofs only [Int.natCast_zero, Int.cast_ofNat_Int, Int.natCast_one, Nat.le_refl, Nat.reduceLeDiff, Nat.sub_self, Nat.reduceSub, List.getElem?_cons_zero, List.getElem?_cons_succ, vt_self, vaL, vtL, va, vt, vb, maT, List.cons_append, List.nil_append, List.append_nil, true_or, or_true, go_sem, List.reduceReplicate, Nat.reduceEqDiff, Nat.reduceAdd, Nat.reduceLeDiff, Nat.reduceMul, Nat.reduceSub, Nat.reduceDiv, Int.reduceToNat, Nat.reduceLT, Int.reduceLT, Int.reduceLE, ↓reduceIte, reduceCtorEq, ints, rows, rat, rats, ratsO, toShL_ratC, List.mem_cons, List.mem_nil_iff, List.not_mem_nil, or_false, false_or, exists_eq_left, exists_eq_left', exists_eq_right', Root.live.injEq, eq_self_iff_true, exists_eq, and_true, T.toSh, toShL_ints, toShL_intsO, intsO, rowsO]
      simp -implicitDefEqProofs only [go_sem, List.reduceReplicate, Nat.reduceEqDiff, Nat.reduceAdd, Nat.reduceLeDiff, Nat.reduceMul, Nat.reduceSub, Nat.reduceDiv, Int.reduceToNat, Nat.reduceLT, Int.reduceLT, Int.reduceLE, ↓reduceIte, reduceCtorEq, forall_apply_eq_imp_iff₂, ints, rows, rat, rats, toNat_cast]
      rw [wdR, clCode, hb1, hb2]; rfl
    · obtain ⟨p1, p2, p3, p4, p5⟩ := prB_iff.1 hb2
      have b1 := bestN_abs (pairG_parts p1).1
      have b2 := bestN_abs (pairG_parts p1).2.1
      refine CallW.pure h2 [] rfl Try.call86 ?_ (by first | trivial | simp [T.noSh, T.noShL, rat]) rfl ?_
      · simp -implicitDefEqProofs only [Int.natCast_zero, Int.cast_ofNat_Int, Int.natCast_one, Nat.le_refl, Nat.reduceLeDiff, Nat.sub_self, Nat.reduceSub, List.getElem?_cons_zero, List.getElem?_cons_succ, vt_self, vaL, vtL, va, vt, vb, maT, List.cons_append, List.nil_append, List.append_nil, true_or, or_true, go_sem, List.reduceReplicate, Nat.reduceEqDiff, Nat.reduceAdd, Nat.reduceLeDiff, Nat.reduceMul, Nat.reduceSub, Nat.reduceDiv, Int.reduceToNat, Nat.reduceLT, Int.reduceLT, Int.reduceLE, ↓reduceIte, reduceCtorEq, ints, rows, rat, rats, ratsO, toShL_ratC, List.mem_cons, List.mem_nil_iff, List.not_mem_nil, or_false, false_or, exists_eq_left, exists_eq_left', exists_eq_right', Root.live.injEq, eq_self_iff_true, exists_eq, and_true, T.toSh, toShL_ints, toShL_intsO, intsO, rowsO]
      simp -implicitDefEqProofs only [go_sem, List.reduceReplicate, Nat.reduceEqDiff, Nat.reduceAdd, Nat.reduceLeDiff, Nat.reduceMul, Nat.reduceSub, Nat.reduceDiv, Int.reduceToNat, Nat.reduceLT, Int.reduceLT, Int.reduceLE, ↓reduceIte, reduceCtorEq, forall_apply_eq_imp_iff₂, ints, rows, rat, rats, toNat_cast]
      rw [wdR, if_pos (clCode_zero.2 ⟨hb1, hb2⟩), wrap64 (n := c.hi - c.lo) (by omega) (by omega)]; rfl
end
end Go.Ab

/- Sizes of games, strategies and claims behind the laws' budgets. -/
set_option linter.unusedSimpArgs false
set_option linter.unusedVariables false
namespace Go.Ab
open Go.Proofs

def rowsS (m : List (List Int)) : Prop := m.length ≤ 1048576 ∧ tot m ≤ 1048576
def gameS (g : Gm) : Prop := rowsS (chs g.nd) ∧ rowsS g.w ∧ rowsS g.v
theorem rowsS_12 {m : List (List Int)} (h : rowsS m) : rows12 m := ⟨by have := h.1; omega, fun r hr => by have := tot_mem hr; have := h.2; omega⟩
theorem rowsS_L {m : List (List Int)} (h : rowsS m) : rowsL m := ⟨by have := h.1; omega, fun r hr => by have := tot_mem hr; have := h.2; omega⟩
theorem chs_mem {l : List Nd} {x : Nd} (h : x ∈ l) : x.ch ∈ chs l := List.mem_map.2 ⟨x, h, rfl⟩
theorem chs_length (l : List Nd) : (chs l).length = l.length := by simp [chs]
theorem gameS_12 {g : Gm} (h : gameS g) : game12 g := by
  have h1 := rowsS_12 h.1
  exact ⟨by have := h1.1; rw [chs_length] at this; exact this, fun x hx => h1.2 _ (chs_mem hx), rowsS_12 h.2.1, rowsS_12 h.2.2⟩
theorem gameS_L {g : Gm} (h : gameS g) : gameL g := by
  have h1 := rowsS_L h.1
  exact ⟨by have := h1.1; rw [chs_length] at this; exact this, fun x hx => h1.2 _ (chs_mem hx), rowsS_L h.2.1, rowsS_L h.2.2⟩
theorem budgetM_S {m : List (List Int)} {left : Int} (h0 : 0 ≤ left) (h1 : left ≤ 1048576) (h : ¬ budgetMat m left < 0) : rowsS m ∧ 0 ≤ budgetMat m left ∧ budgetMat m left ≤ 1048576 := by
  have h2 := nbudgetMat_le (m := m) (left := left) (by omega)
  have h3 := (budgetMat_ok (m := m) (left := left) h0 (by omega)).1
  have h4 := budgetMat_tot (m := m) (left := left) h0 (by omega)
  exact ⟨⟨by omega, by omega⟩, by omega, by omega⟩
theorem budgetG_S {g : Gm} {left : Int} (h0 : 0 ≤ left) (h1 : left ≤ 1048576) (h : ¬ budgetG g left < 0) : gameS g ∧ 0 ≤ budgetG g left ∧ budgetG g left ≤ 1048576 := by
  unfold budgetG at h ⊢
  by_cases a : budgetMat (chs g.nd) left < 0
  · rw [if_pos a] at h; exact absurd h (by decide)
  rw [if_neg a] at h ⊢
  obtain ⟨a1, a2, a3⟩ := budgetM_S h0 h1 a
  by_cases b : budgetMat g.w (budgetMat (chs g.nd) left) < 0
  · rw [if_pos b] at h; exact absurd h (by decide)
  rw [if_neg b] at h ⊢
  obtain ⟨b1, b2, b3⟩ := budgetM_S a2 a3 b
  obtain ⟨c1, c2, c3⟩ := budgetM_S b2 b3 h
  exact ⟨⟨a1, b1, c1⟩, c2, c3⟩
theorem budgetC_S {c : Cl} {left : Int} (h0 : 0 ≤ left) (h1 : left ≤ 1048576) (h : ¬ budgetC c left < 0) : (rowsS c.f.2 ∧ rowsS c.s.2) ∧ 0 ≤ budgetC c left ∧ budgetC c left ≤ 1048576 := by
  unfold budgetC at h ⊢
  by_cases a : budgetMat c.f.2 left < 0
  · rw [if_pos a] at h; exact absurd h (by decide)
  rw [if_neg a] at h ⊢
  obtain ⟨a1, a2, a3⟩ := budgetM_S h0 h1 a
  obtain ⟨b1, b2, b3⟩ := budgetM_S a2 a3 h
  exact ⟨⟨a1, b1⟩, b2, b3⟩
end Go.Ab

/- The law FnExactWidthOf, as a contract. -/
set_option linter.unusedSimpArgs false
set_option linter.unusedVariables false
namespace Go.Ab
open Go.Proofs

section
attribute [-go_sem] load1C load1V fldC lenC idxC loadNV nilCheckW
set_option maxRecDepth 20000 in
theorem laws_FnExactWidthOf_ok (g : Gm) (hg : gameL g) (c : Cl) (hc : rowsL c.f.2) (hc' : rowsL c.s.2) : Pure Try.prog 9 [gameT g, claimT c] (.b true) := by
  refine fun_laws_FnExactWidthOf (by simp) ?_
  simp -implicitDefEqProofs only [go_sem, List.reduceReplicate, Nat.reduceEqDiff, Nat.reduceAdd, Nat.reduceLeDiff, Nat.reduceMul, Nat.reduceSub, Nat.reduceDiv, Int.reduceToNat, Nat.reduceLT, Int.reduceLT, Int.reduceLE, ↓reduceIte, reduceCtorEq, forall_apply_eq_imp_iff₂, ints, rows, rat, rats, toNat_cast, c_laws_FnExactWidthOf, gameT, stratT, claimT, gameO, stratO, claimO, nodes, nodesO, rows, rowsO, ints, intsO]
  have hc1 := laws_szGame_ok g 1048576 hg (by omega) (by omega)
  (try simp only [gameT, stratT, claimT, gameO, stratO, claimO, nodes, nodesO, rows, rowsO, ints, intsO, tr2] at hc1)
  refine CallW.pure hc1 [] rfl Try.call18 ?_ (by first | trivial | simp [T.noSh, T.noShL, rat]) rfl ?_
  · simp -implicitDefEqProofs only [Int.natCast_zero, Int.cast_ofNat_Int, Int.natCast_one, Nat.le_refl, Nat.reduceLeDiff, Nat.sub_self, Nat.reduceSub, List.getElem?_cons_zero, List.getElem?_cons_succ, vt_self, vaL, vtL, va, vt, vb, maT, List.cons_append, List.nil_append, List.append_nil, true_or, or_true, go_sem, List.reduceReplicate, Nat.reduceEqDiff, Nat.reduceAdd, Nat.reduceLeDiff, Nat.reduceMul, Nat.reduceSub, Nat.reduceDiv, Int.reduceToNat, Nat.reduceLT, Int.reduceLT, Int.reduceLE, ↓reduceIte, reduceCtorEq, ints, rows, rat, rats, ratsO, toShL_ratC, List.mem_cons, List.mem_nil_iff, List.not_mem_nil, or_false, false_or, exists_eq_left, exists_eq_left', exists_eq_right', Root.live.injEq, eq_self_iff_true, exists_eq, and_true, T.toSh, toShL_ints, toShL_intsO, intsO, rowsO]
  simp -implicitDefEqProofs only [go_sem, List.reduceReplicate, Nat.reduceEqDiff, Nat.reduceAdd, Nat.reduceLeDiff, Nat.reduceMul, Nat.reduceSub, Nat.reduceDiv, Int.reduceToNat, Nat.reduceLT, Int.reduceLT, Int.reduceLE, ↓reduceIte, reduceCtorEq, forall_apply_eq_imp_iff₂, ints, rows, rat, rats, toNat_cast, List.lookup_cons, Nat.reduceBEq, beq_self_eq_true, rid, openG.eq_1, openG.eq_2, cellsV, noLk, readOK, readA, mergeR_at]
  refine ⟨fun _ => trivial, fun hb0 => ?_⟩
  obtain ⟨hgS, hgb1, hgb2⟩ := budgetG_S (g := g) (left := 1048576) (by omega) (by omega) hb0
  have hg12 := gameS_12 hgS
  have hc2 := laws_szClaim_ok c (budgetG g 1048576) hc hc' (by omega) (by omega)
  (try simp only [gameT, stratT, claimT, gameO, stratO, claimO, nodes, nodesO, rows, rowsO, ints, intsO, tr2] at hc2)
  refine CallW.pure hc2 [] rfl Try.call32 ?_ (by first | trivial | simp [T.noSh, T.noShL, rat]) rfl ?_
  · simp -implicitDefEqProofs only [Int.natCast_zero, Int.cast_ofNat_Int, Int.natCast_one, Nat.le_refl, Nat.reduceLeDiff, Nat.sub_self, Nat.reduceSub, List.getElem?_cons_zero, List.getElem?_cons_succ, vt_self, vaL, vtL, va, vt, vb, maT, List.cons_append, List.nil_append, List.append_nil, true_or, or_true, go_sem, List.reduceReplicate, Nat.reduceEqDiff, Nat.reduceAdd, Nat.reduceLeDiff, Nat.reduceMul, Nat.reduceSub, Nat.reduceDiv, Int.reduceToNat, Nat.reduceLT, Int.reduceLT, Int.reduceLE, ↓reduceIte, reduceCtorEq, ints, rows, rat, rats, ratsO, toShL_ratC, List.mem_cons, List.mem_nil_iff, List.not_mem_nil, or_false, false_or, exists_eq_left, exists_eq_left', exists_eq_right', Root.live.injEq, eq_self_iff_true, exists_eq, and_true, T.toSh, toShL_ints, toShL_intsO, intsO, rowsO]
  simp -implicitDefEqProofs only [go_sem, List.reduceReplicate, Nat.reduceEqDiff, Nat.reduceAdd, Nat.reduceLeDiff, Nat.reduceMul, Nat.reduceSub, Nat.reduceDiv, Int.reduceToNat, Nat.reduceLT, Int.reduceLT, Int.reduceLE, ↓reduceIte, reduceCtorEq, forall_apply_eq_imp_iff₂, ints, rows, rat, rats, toNat_cast, List.lookup_cons, Nat.reduceBEq, beq_self_eq_true, rid, openG.eq_1, openG.eq_2, cellsV, noLk, readOK, readA, mergeR_at]
  refine ⟨fun _ => trivial, fun hb1 => ?_⟩
  obtain ⟨⟨hcS, hcS'⟩, hcb1, hcb2⟩ := budgetC_S (c := c) (left := (budgetG g 1048576)) (by omega) (by omega) hb1
  have hc12 := rowsS_12 hcS
  have hc12' := rowsS_12 hcS'
  have hc3 := laws_toGame_ok g hg12
  (try simp only [gameT, stratT, claimT, gameO, stratO, claimO, nodes, nodesO, rows, rowsO, ints, intsO, tr2] at hc3)
  refine CallC.res hc3 [] rfl Try.call21 (fun e R' hR => ?_) (.inl rfl) ?_
  · simp -implicitDefEqProofs only [Int.natCast_zero, Int.cast_ofNat_Int, Int.natCast_one, Nat.le_refl, Nat.reduceLeDiff, Nat.sub_self, Nat.reduceSub, List.getElem?_cons_zero, List.getElem?_cons_succ, vt_self, vaL, vtL, va, vt, vb, maT, List.cons_append, List.nil_append, List.append_nil, true_or, or_true, go_sem, List.reduceReplicate, Nat.reduceEqDiff, Nat.reduceAdd, Nat.reduceLeDiff, Nat.reduceMul, Nat.reduceSub, Nat.reduceDiv, Int.reduceToNat, Nat.reduceLT, Int.reduceLT, Int.reduceLE, ↓reduceIte, reduceCtorEq, ints, rows, rat, rats, ratsO, toShL_ratC, List.mem_cons, List.mem_nil_iff, List.not_mem_nil, or_false, false_or, exists_eq_left, exists_eq_left', exists_eq_right', Root.live.injEq, eq_self_iff_true, exists_eq, and_true, T.toSh, toShL_ints, toShL_intsO, intsO, rowsO]
  simp -implicitDefEqProofs only [List.append_nil, List.cons_append, Nat.reduceLeDiff, afterCall, absT_rowsO, absT_intsO, absT, absL, updL, updS, freeAll, rid, T.noSh, T.noShL, Nat.zero_le, go_sem, List.reduceReplicate, Nat.reduceEqDiff, Nat.reduceAdd, Nat.reduceLeDiff, Nat.reduceMul, Nat.reduceSub, Nat.reduceDiv, Int.reduceToNat, Nat.reduceLT, Int.reduceLT, Int.reduceLE, ↓reduceIte, reduceCtorEq, rat, forall_apply_eq_imp_iff₂, toNat_cast, List.lookup_cons, Nat.reduceBEq, beq_self_eq_true, rid, openG.eq_1, openG.eq_2, cellsV, noLk, readOK, readA, mergeR_at]
  have hc4 := laws_toClaim_ok c hc12 hc12'
  (try simp only [gameT, stratT, claimT, gameO, stratO, claimO, nodes, nodesO, rows, rowsO, ints, intsO, tr2] at hc4)
  refine CallC.res hc4 [] rfl Try.call34 (fun e R' hR => ?_) (.inl rfl) ?_
  · simp -implicitDefEqProofs only [Int.natCast_zero, Int.cast_ofNat_Int, Int.natCast_one, Nat.le_refl, Nat.reduceLeDiff, Nat.sub_self, Nat.reduceSub, List.getElem?_cons_zero, List.getElem?_cons_succ, vt_self, vaL, vtL, va, vt, vb, maT, List.cons_append, List.nil_append, List.append_nil, true_or, or_true, go_sem, List.reduceReplicate, Nat.reduceEqDiff, Nat.reduceAdd, Nat.reduceLeDiff, Nat.reduceMul, Nat.reduceSub, Nat.reduceDiv, Int.reduceToNat, Nat.reduceLT, Int.reduceLT, Int.reduceLE, ↓reduceIte, reduceCtorEq, ints, rows, rat, rats, ratsO, toShL_ratC, List.mem_cons, List.mem_nil_iff, List.not_mem_nil, or_false, false_or, exists_eq_left, exists_eq_left', exists_eq_right', Root.live.injEq, eq_self_iff_true, exists_eq, and_true, T.toSh, toShL_ints, toShL_intsO, intsO, rowsO]
  simp -implicitDefEqProofs only [List.append_nil, List.cons_append, Nat.reduceLeDiff, afterCall, absT_rowsO, absT_intsO, absT, absL, updL, updS, freeAll, rid, T.noSh, T.noShL, Nat.zero_le, go_sem, List.reduceReplicate, Nat.reduceEqDiff, Nat.reduceAdd, Nat.reduceLeDiff, Nat.reduceMul, Nat.reduceSub, Nat.reduceDiv, Int.reduceToNat, Nat.reduceLT, Int.reduceLT, Int.reduceLE, ↓reduceIte, reduceCtorEq, rat, forall_apply_eq_imp_iff₂, toNat_cast, List.lookup_cons, Nat.reduceBEq, beq_self_eq_true, rid, openG.eq_1, openG.eq_2, cellsV, noLk, readOK, readA, mergeR_at]
  have hc5 := spec_WidthOf_ok g c (gameS_L hgS) (rowsS_L hcS) (rowsS_L hcS')
  (try simp only [gameT, stratT, claimT, gameO, stratO, claimO, nodes, nodesO, rows, rowsO, ints, intsO, tr2] at hc5)
  refine CallV.pure hc5 [24, 26, 25001, 25002, 27001] rfl Try.call42 (fun e R' hR => ?_) (by first | trivial | simp [T.noSh, T.noShL, rat]) (fun _ => rfl) ?_
  · have hq24 := (hR 24).resolve_left (by simp -implicitDefEqProofs only [go_sem, List.reduceReplicate, Nat.reduceEqDiff, Nat.reduceAdd, Nat.reduceLeDiff, Nat.reduceMul, Nat.reduceSub, Nat.reduceDiv, Int.reduceToNat, Nat.reduceLT, Int.reduceLT, Int.reduceLE, ↓reduceIte, reduceCtorEq, forall_apply_eq_imp_iff₂, ints, rows, rat, rats, toNat_cast, not_false_eq_true]); have hq26 := (hR 26).resolve_left (by simp -implicitDefEqProofs only [go_sem, List.reduceReplicate, Nat.reduceEqDiff, Nat.reduceAdd, Nat.reduceLeDiff, Nat.reduceMul, Nat.reduceSub, Nat.reduceDiv, Int.reduceToNat, Nat.reduceLT, Int.reduceLT, Int.reduceLE, ↓reduceIte, reduceCtorEq, forall_apply_eq_imp_iff₂, ints, rows, rat, rats, toNat_cast, not_false_eq_true]); have hq25001 := (hR 25001).resolve_left (by simp -implicitDefEqProofs only [go_sem, List.reduceReplicate, Nat.reduceEqDiff, Nat.reduceAdd, Nat.reduceLeDiff, Nat.reduceMul, Nat.reduceSub, Nat.reduceDiv, Int.reduceToNat, Nat.reduceLT, Int.reduceLT, Int.reduceLE, ↓reduceIte, reduceCtorEq, forall_apply_eq_imp_iff₂, ints, rows, rat, rats, toNat_cast, not_false_eq_true]); have hq25002 := (hR 25002).resolve_left (by simp -implicitDefEqProofs only [go_sem, List.reduceReplicate, Nat.reduceEqDiff, Nat.reduceAdd, Nat.reduceLeDiff, Nat.reduceMul, Nat.reduceSub, Nat.reduceDiv, Int.reduceToNat, Nat.reduceLT, Int.reduceLT, Int.reduceLE, ↓reduceIte, reduceCtorEq, forall_apply_eq_imp_iff₂, ints, rows, rat, rats, toNat_cast, not_false_eq_true]); have hq27001 := (hR 27001).resolve_left (by simp -implicitDefEqProofs only [go_sem, List.reduceReplicate, Nat.reduceEqDiff, Nat.reduceAdd, Nat.reduceLeDiff, Nat.reduceMul, Nat.reduceSub, Nat.reduceDiv, Int.reduceToNat, Nat.reduceLT, Int.reduceLT, Int.reduceLE, ↓reduceIte, reduceCtorEq, forall_apply_eq_imp_iff₂, ints, rows, rat, rats, toNat_cast, not_false_eq_true])
    simp -implicitDefEqProofs only [go_sem, List.reduceReplicate, Nat.reduceEqDiff, Nat.reduceAdd, Nat.reduceLeDiff, Nat.reduceMul, Nat.reduceSub, Nat.reduceDiv, Int.reduceToNat, Nat.reduceLT, Int.reduceLT, Int.reduceLE, ↓reduceIte, reduceCtorEq, forall_apply_eq_imp_iff₂, ints, rows, rat, rats, toNat_cast] at hq24 hq26 hq25001 hq25002 hq27001
    simp -implicitDefEqProofs only [Int.natCast_zero, Int.cast_ofNat_Int, Int.natCast_one, Nat.le_refl, Nat.reduceLeDiff, Nat.sub_self, Nat.reduceSub, List.getElem?_cons_zero, List.getElem?_cons_succ, vt_self, vaL, vtL, va, vt, vb, maT, List.cons_append, List.nil_append, List.append_nil, true_or, or_true, go_sem, List.reduceReplicate, Nat.reduceEqDiff, Nat.reduceAdd, Nat.reduceLeDiff, Nat.reduceMul, Nat.reduceSub, Nat.reduceDiv, Int.reduceToNat, Nat.reduceLT, Int.reduceLT, Int.reduceLE, ↓reduceIte, reduceCtorEq, ints, rows, rat, rats, ratsO, toShL_ratC, List.mem_cons, List.mem_nil_iff, List.not_mem_nil, or_false, false_or, exists_eq_left, exists_eq_left', exists_eq_right', Root.live.injEq, eq_self_iff_true, exists_eq, and_true, T.toSh, toShL_ints, toShL_intsO, intsO, rowsO, hq24, hq26, hq25001, hq25002, hq27001]
  simp -implicitDefEqProofs only [go_sem, List.reduceReplicate, Nat.reduceEqDiff, Nat.reduceAdd, Nat.reduceLeDiff, Nat.reduceMul, Nat.reduceSub, Nat.reduceDiv, Int.reduceToNat, Nat.reduceLT, Int.reduceLT, Int.reduceLE, ↓reduceIte, reduceCtorEq, forall_apply_eq_imp_iff₂, ints, rows, rat, rats, toNat_cast, List.lookup_cons, Nat.reduceBEq, beq_self_eq_true, rid, openG.eq_1, openG.eq_2, cellsV, noLk, readOK, readA, mergeR_at]
  have hc6 := laws_toGame_ok g hg12
  (try simp only [gameT, stratT, claimT, gameO, stratO, claimO, nodes, nodesO, rows, rowsO, ints, intsO, tr2] at hc6)
  refine CallW.res hc6 [] rfl Try.call21 ?_ (.inl rfl) ?_
  · simp -implicitDefEqProofs only [Int.natCast_zero, Int.cast_ofNat_Int, Int.natCast_one, Nat.le_refl, Nat.reduceLeDiff, Nat.sub_self, Nat.reduceSub, List.getElem?_cons_zero, List.getElem?_cons_succ, vt_self, vaL, vtL, va, vt, vb, maT, List.cons_append, List.nil_append, List.append_nil, true_or, or_true, go_sem, List.reduceReplicate, Nat.reduceEqDiff, Nat.reduceAdd, Nat.reduceLeDiff, Nat.reduceMul, Nat.reduceSub, Nat.reduceDiv, Int.reduceToNat, Nat.reduceLT, Int.reduceLT, Int.reduceLE, ↓reduceIte, reduceCtorEq, ints, rows, rat, rats, ratsO, toShL_ratC, List.mem_cons, List.mem_nil_iff, List.not_mem_nil, or_false, false_or, exists_eq_left, exists_eq_left', exists_eq_right', Root.live.injEq, eq_self_iff_true, exists_eq, and_true, T.toSh, toShL_ints, toShL_intsO, intsO, rowsO]
  simp -implicitDefEqProofs only [List.append_nil, List.cons_append, Nat.reduceLeDiff, afterCall, absT_rowsO, absT_intsO, absT, absL, updL, updS, freeAll, rid, T.noSh, T.noShL, Nat.zero_le, go_sem, List.reduceReplicate, Nat.reduceEqDiff, Nat.reduceAdd, Nat.reduceLeDiff, Nat.reduceMul, Nat.reduceSub, Nat.reduceDiv, Int.reduceToNat, Nat.reduceLT, Int.reduceLT, Int.reduceLE, ↓reduceIte, reduceCtorEq, rat, forall_apply_eq_imp_iff₂, toNat_cast, List.lookup_cons, Nat.reduceBEq, beq_self_eq_true, rid, openG.eq_1, openG.eq_2, cellsV, noLk, readOK, readA, mergeR_at]
  have hc7 := laws_toClaim_ok c hc12 hc12'
  (try simp only [gameT, stratT, claimT, gameO, stratO, claimO, nodes, nodesO, rows, rowsO, ints, intsO, tr2] at hc7)
  refine CallW.res hc7 [] rfl Try.call34 ?_ (.inl rfl) ?_
  · simp -implicitDefEqProofs only [Int.natCast_zero, Int.cast_ofNat_Int, Int.natCast_one, Nat.le_refl, Nat.reduceLeDiff, Nat.sub_self, Nat.reduceSub, List.getElem?_cons_zero, List.getElem?_cons_succ, vt_self, vaL, vtL, va, vt, vb, maT, List.cons_append, List.nil_append, List.append_nil, true_or, or_true, go_sem, List.reduceReplicate, Nat.reduceEqDiff, Nat.reduceAdd, Nat.reduceLeDiff, Nat.reduceMul, Nat.reduceSub, Nat.reduceDiv, Int.reduceToNat, Nat.reduceLT, Int.reduceLT, Int.reduceLE, ↓reduceIte, reduceCtorEq, ints, rows, rat, rats, ratsO, toShL_ratC, List.mem_cons, List.mem_nil_iff, List.not_mem_nil, or_false, false_or, exists_eq_left, exists_eq_left', exists_eq_right', Root.live.injEq, eq_self_iff_true, exists_eq, and_true, T.toSh, toShL_ints, toShL_intsO, intsO, rowsO]
  simp -implicitDefEqProofs only [List.append_nil, List.cons_append, Nat.reduceLeDiff, afterCall, absT_rowsO, absT_intsO, absT, absL, updL, updS, freeAll, rid, T.noSh, T.noShL, Nat.zero_le, go_sem, List.reduceReplicate, Nat.reduceEqDiff, Nat.reduceAdd, Nat.reduceLeDiff, Nat.reduceMul, Nat.reduceSub, Nat.reduceDiv, Int.reduceToNat, Nat.reduceLT, Int.reduceLT, Int.reduceLE, ↓reduceIte, reduceCtorEq, rat, forall_apply_eq_imp_iff₂, toNat_cast, List.lookup_cons, Nat.reduceBEq, beq_self_eq_true, rid, openG.eq_1, openG.eq_2, cellsV, noLk, readOK, readA, mergeR_at]
  have hc8 := impl_WidthOf_ok g c (gameS_L hgS) (rowsS_L hcS) (rowsS_L hcS')
  (try simp only [gameT, stratT, claimT, gameO, stratO, claimO, nodes, nodesO, rows, rowsO, ints, intsO, tr2] at hc8)
  refine CallW.pure hc8 [36001, 36002, 36003, 37002, 37004] rfl Try.call43 ?_ (by first | trivial | simp [T.noSh, T.noShL, rat]) rfl ?_
  · simp -implicitDefEqProofs only [Int.natCast_zero, Int.cast_ofNat_Int, Int.natCast_one, Nat.le_refl, Nat.reduceLeDiff, Nat.sub_self, Nat.reduceSub, List.getElem?_cons_zero, List.getElem?_cons_succ, vt_self, vaL, vtL, va, vt, vb, maT, List.cons_append, List.nil_append, List.append_nil, true_or, or_true, go_sem, List.reduceReplicate, Nat.reduceEqDiff, Nat.reduceAdd, Nat.reduceLeDiff, Nat.reduceMul, Nat.reduceSub, Nat.reduceDiv, Int.reduceToNat, Nat.reduceLT, Int.reduceLT, Int.reduceLE, ↓reduceIte, reduceCtorEq, ints, rows, rat, rats, ratsO, toShL_ratC, List.mem_cons, List.mem_nil_iff, List.not_mem_nil, or_false, false_or, exists_eq_left, exists_eq_left', exists_eq_right', Root.live.injEq, eq_self_iff_true, exists_eq, and_true, T.toSh, toShL_ints, toShL_intsO, intsO, rowsO]
  simp -implicitDefEqProofs only [go_sem, List.reduceReplicate, Nat.reduceEqDiff, Nat.reduceAdd, Nat.reduceLeDiff, Nat.reduceMul, Nat.reduceSub, Nat.reduceDiv, Int.reduceToNat, Nat.reduceLT, Int.reduceLT, Int.reduceLE, ↓reduceIte, reduceCtorEq, forall_apply_eq_imp_iff₂, ints, rows, rat, rats, toNat_cast, List.lookup_cons, Nat.reduceBEq, beq_self_eq_true, rid, openG.eq_1, openG.eq_2, cellsV, noLk, readOK, readA, mergeR_at]
  have hc9 := laws_toGame_ok g hg12
  (try simp only [gameT, stratT, claimT, gameO, stratO, claimO, nodes, nodesO, rows, rowsO, ints, intsO, tr2] at hc9)
  refine CallC.res hc9 [] rfl Try.call21 (fun e R' hR => ?_) (.inl rfl) ?_
  · simp -implicitDefEqProofs only [Int.natCast_zero, Int.cast_ofNat_Int, Int.natCast_one, Nat.le_refl, Nat.reduceLeDiff, Nat.sub_self, Nat.reduceSub, List.getElem?_cons_zero, List.getElem?_cons_succ, vt_self, vaL, vtL, va, vt, vb, maT, List.cons_append, List.nil_append, List.append_nil, true_or, or_true, go_sem, List.reduceReplicate, Nat.reduceEqDiff, Nat.reduceAdd, Nat.reduceLeDiff, Nat.reduceMul, Nat.reduceSub, Nat.reduceDiv, Int.reduceToNat, Nat.reduceLT, Int.reduceLT, Int.reduceLE, ↓reduceIte, reduceCtorEq, ints, rows, rat, rats, ratsO, toShL_ratC, List.mem_cons, List.mem_nil_iff, List.not_mem_nil, or_false, false_or, exists_eq_left, exists_eq_left', exists_eq_right', Root.live.injEq, eq_self_iff_true, exists_eq, and_true, T.toSh, toShL_ints, toShL_intsO, intsO, rowsO]
  simp -implicitDefEqProofs only [List.append_nil, List.cons_append, Nat.reduceLeDiff, afterCall, absT_rowsO, absT_intsO, absT, absL, updL, updS, freeAll, rid, T.noSh, T.noShL, Nat.zero_le, go_sem, List.reduceReplicate, Nat.reduceEqDiff, Nat.reduceAdd, Nat.reduceLeDiff, Nat.reduceMul, Nat.reduceSub, Nat.reduceDiv, Int.reduceToNat, Nat.reduceLT, Int.reduceLT, Int.reduceLE, ↓reduceIte, reduceCtorEq, rat, forall_apply_eq_imp_iff₂, toNat_cast, List.lookup_cons, Nat.reduceBEq, beq_self_eq_true, rid, openG.eq_1, openG.eq_2, cellsV, noLk, readOK, readA, mergeR_at]
  have hc10 := laws_eqGame_ok g g hg12 hg12
  (try simp only [gameT, stratT, claimT, gameO, stratO, claimO, nodes, nodesO, rows, rowsO, ints, intsO, tr2] at hc10)
  refine CallV.pure hc10 [36001, 36002, 36003, 50, 51001, 51002] rfl Try.call24 (fun e R' hR => ?_) (by first | trivial | simp [T.noSh, T.noShL, rat]) (fun _ => rfl) ?_
  · have hq36001 := (hR 36001).resolve_left (by simp -implicitDefEqProofs only [go_sem, List.reduceReplicate, Nat.reduceEqDiff, Nat.reduceAdd, Nat.reduceLeDiff, Nat.reduceMul, Nat.reduceSub, Nat.reduceDiv, Int.reduceToNat, Nat.reduceLT, Int.reduceLT, Int.reduceLE, ↓reduceIte, reduceCtorEq, forall_apply_eq_imp_iff₂, ints, rows, rat, rats, toNat_cast, not_false_eq_true]); have hq36002 := (hR 36002).resolve_left (by simp -implicitDefEqProofs only [go_sem, List.reduceReplicate, Nat.reduceEqDiff, Nat.reduceAdd, Nat.reduceLeDiff, Nat.reduceMul, Nat.reduceSub, Nat.reduceDiv, Int.reduceToNat, Nat.reduceLT, Int.reduceLT, Int.reduceLE, ↓reduceIte, reduceCtorEq, forall_apply_eq_imp_iff₂, ints, rows, rat, rats, toNat_cast, not_false_eq_true]); have hq36003 := (hR 36003).resolve_left (by simp -implicitDefEqProofs only [go_sem, List.reduceReplicate, Nat.reduceEqDiff, Nat.reduceAdd, Nat.reduceLeDiff, Nat.reduceMul, Nat.reduceSub, Nat.reduceDiv, Int.reduceToNat, Nat.reduceLT, Int.reduceLT, Int.reduceLE, ↓reduceIte, reduceCtorEq, forall_apply_eq_imp_iff₂, ints, rows, rat, rats, toNat_cast, not_false_eq_true]); have hq50 := (hR 50).resolve_left (by simp -implicitDefEqProofs only [go_sem, List.reduceReplicate, Nat.reduceEqDiff, Nat.reduceAdd, Nat.reduceLeDiff, Nat.reduceMul, Nat.reduceSub, Nat.reduceDiv, Int.reduceToNat, Nat.reduceLT, Int.reduceLT, Int.reduceLE, ↓reduceIte, reduceCtorEq, forall_apply_eq_imp_iff₂, ints, rows, rat, rats, toNat_cast, not_false_eq_true]); have hq51001 := (hR 51001).resolve_left (by simp -implicitDefEqProofs only [go_sem, List.reduceReplicate, Nat.reduceEqDiff, Nat.reduceAdd, Nat.reduceLeDiff, Nat.reduceMul, Nat.reduceSub, Nat.reduceDiv, Int.reduceToNat, Nat.reduceLT, Int.reduceLT, Int.reduceLE, ↓reduceIte, reduceCtorEq, forall_apply_eq_imp_iff₂, ints, rows, rat, rats, toNat_cast, not_false_eq_true]); have hq51002 := (hR 51002).resolve_left (by simp -implicitDefEqProofs only [go_sem, List.reduceReplicate, Nat.reduceEqDiff, Nat.reduceAdd, Nat.reduceLeDiff, Nat.reduceMul, Nat.reduceSub, Nat.reduceDiv, Int.reduceToNat, Nat.reduceLT, Int.reduceLT, Int.reduceLE, ↓reduceIte, reduceCtorEq, forall_apply_eq_imp_iff₂, ints, rows, rat, rats, toNat_cast, not_false_eq_true])
    simp -implicitDefEqProofs only [go_sem, List.reduceReplicate, Nat.reduceEqDiff, Nat.reduceAdd, Nat.reduceLeDiff, Nat.reduceMul, Nat.reduceSub, Nat.reduceDiv, Int.reduceToNat, Nat.reduceLT, Int.reduceLT, Int.reduceLE, ↓reduceIte, reduceCtorEq, forall_apply_eq_imp_iff₂, ints, rows, rat, rats, toNat_cast] at hq36001 hq36002 hq36003 hq50 hq51001 hq51002
    simp -implicitDefEqProofs only [Int.natCast_zero, Int.cast_ofNat_Int, Int.natCast_one, Nat.le_refl, Nat.reduceLeDiff, Nat.sub_self, Nat.reduceSub, List.getElem?_cons_zero, List.getElem?_cons_succ, vt_self, vaL, vtL, va, vt, vb, maT, List.cons_append, List.nil_append, List.append_nil, true_or, or_true, go_sem, List.reduceReplicate, Nat.reduceEqDiff, Nat.reduceAdd, Nat.reduceLeDiff, Nat.reduceMul, Nat.reduceSub, Nat.reduceDiv, Int.reduceToNat, Nat.reduceLT, Int.reduceLT, Int.reduceLE, ↓reduceIte, reduceCtorEq, ints, rows, rat, rats, ratsO, toShL_ratC, List.mem_cons, List.mem_nil_iff, List.not_mem_nil, or_false, false_or, exists_eq_left, exists_eq_left', exists_eq_right', Root.live.injEq, eq_self_iff_true, exists_eq, and_true, T.toSh, toShL_ints, toShL_intsO, intsO, rowsO, hq36001, hq36002, hq36003, hq50, hq51001, hq51002]
  simp -implicitDefEqProofs only [go_sem, List.reduceReplicate, Nat.reduceEqDiff, Nat.reduceAdd, Nat.reduceLeDiff, Nat.reduceMul, Nat.reduceSub, Nat.reduceDiv, Int.reduceToNat, Nat.reduceLT, Int.reduceLT, Int.reduceLE, ↓reduceIte, reduceCtorEq, forall_apply_eq_imp_iff₂, ints, rows, rat, rats, toNat_cast, List.lookup_cons, Nat.reduceBEq, beq_self_eq_true, rid, openG.eq_1, openG.eq_2, cellsV, noLk, readOK, readA, mergeR_at, not_true_eq_false, decide_true, decide_false]
  have hc11 := laws_toClaim_ok c hc12 hc12'
  (try simp only [gameT, stratT, claimT, gameO, stratO, claimO, nodes, nodesO, rows, rowsO, ints, intsO, tr2] at hc11)
  refine CallC.res hc11 [] rfl Try.call34 (fun e R' hR => ?_) (.inl rfl) ?_
  · simp -implicitDefEqProofs only [Int.natCast_zero, Int.cast_ofNat_Int, Int.natCast_one, Nat.le_refl, Nat.reduceLeDiff, Nat.sub_self, Nat.reduceSub, List.getElem?_cons_zero, List.getElem?_cons_succ, vt_self, vaL, vtL, va, vt, vb, maT, List.cons_append, List.nil_append, List.append_nil, true_or, or_true, go_sem, List.reduceReplicate, Nat.reduceEqDiff, Nat.reduceAdd, Nat.reduceLeDiff, Nat.reduceMul, Nat.reduceSub, Nat.reduceDiv, Int.reduceToNat, Nat.reduceLT, Int.reduceLT, Int.reduceLE, ↓reduceIte, reduceCtorEq, ints, rows, rat, rats, ratsO, toShL_ratC, List.mem_cons, List.mem_nil_iff, List.not_mem_nil, or_false, false_or, exists_eq_left, exists_eq_left', exists_eq_right', Root.live.injEq, eq_self_iff_true, exists_eq, and_true, T.toSh, toShL_ints, toShL_intsO, intsO, rowsO]
  simp -implicitDefEqProofs only [List.append_nil, List.cons_append, Nat.reduceLeDiff, afterCall, absT_rowsO, absT_intsO, absT, absL, updL, updS, freeAll, rid, T.noSh, T.noShL, Nat.zero_le, go_sem, List.reduceReplicate, Nat.reduceEqDiff, Nat.reduceAdd, Nat.reduceLeDiff, Nat.reduceMul, Nat.reduceSub, Nat.reduceDiv, Int.reduceToNat, Nat.reduceLT, Int.reduceLT, Int.reduceLE, ↓reduceIte, reduceCtorEq, rat, forall_apply_eq_imp_iff₂, toNat_cast, List.lookup_cons, Nat.reduceBEq, beq_self_eq_true, rid, openG.eq_1, openG.eq_2, cellsV, noLk, readOK, readA, mergeR_at]
  have hc12 := laws_eqClaim_ok c c hc12 hc12' hc12 hc12'
  (try simp only [gameT, stratT, claimT, gameO, stratO, claimO, nodes, nodesO, rows, rowsO, ints, intsO, tr2] at hc12)
  refine CallV.pure hc12 [37002, 37004, 55, 56001] rfl Try.call36 (fun e R' hR => ?_) (by first | trivial | simp [T.noSh, T.noShL, rat]) (fun _ => rfl) ?_
  · have hq37002 := (hR 37002).resolve_left (by simp -implicitDefEqProofs only [go_sem, List.reduceReplicate, Nat.reduceEqDiff, Nat.reduceAdd, Nat.reduceLeDiff, Nat.reduceMul, Nat.reduceSub, Nat.reduceDiv, Int.reduceToNat, Nat.reduceLT, Int.reduceLT, Int.reduceLE, ↓reduceIte, reduceCtorEq, forall_apply_eq_imp_iff₂, ints, rows, rat, rats, toNat_cast, not_false_eq_true]); have hq37004 := (hR 37004).resolve_left (by simp -implicitDefEqProofs only [go_sem, List.reduceReplicate, Nat.reduceEqDiff, Nat.reduceAdd, Nat.reduceLeDiff, Nat.reduceMul, Nat.reduceSub, Nat.reduceDiv, Int.reduceToNat, Nat.reduceLT, Int.reduceLT, Int.reduceLE, ↓reduceIte, reduceCtorEq, forall_apply_eq_imp_iff₂, ints, rows, rat, rats, toNat_cast, not_false_eq_true]); have hq55 := (hR 55).resolve_left (by simp -implicitDefEqProofs only [go_sem, List.reduceReplicate, Nat.reduceEqDiff, Nat.reduceAdd, Nat.reduceLeDiff, Nat.reduceMul, Nat.reduceSub, Nat.reduceDiv, Int.reduceToNat, Nat.reduceLT, Int.reduceLT, Int.reduceLE, ↓reduceIte, reduceCtorEq, forall_apply_eq_imp_iff₂, ints, rows, rat, rats, toNat_cast, not_false_eq_true]); have hq56001 := (hR 56001).resolve_left (by simp -implicitDefEqProofs only [go_sem, List.reduceReplicate, Nat.reduceEqDiff, Nat.reduceAdd, Nat.reduceLeDiff, Nat.reduceMul, Nat.reduceSub, Nat.reduceDiv, Int.reduceToNat, Nat.reduceLT, Int.reduceLT, Int.reduceLE, ↓reduceIte, reduceCtorEq, forall_apply_eq_imp_iff₂, ints, rows, rat, rats, toNat_cast, not_false_eq_true])
    simp -implicitDefEqProofs only [go_sem, List.reduceReplicate, Nat.reduceEqDiff, Nat.reduceAdd, Nat.reduceLeDiff, Nat.reduceMul, Nat.reduceSub, Nat.reduceDiv, Int.reduceToNat, Nat.reduceLT, Int.reduceLT, Int.reduceLE, ↓reduceIte, reduceCtorEq, forall_apply_eq_imp_iff₂, ints, rows, rat, rats, toNat_cast] at hq37002 hq37004 hq55 hq56001
    simp -implicitDefEqProofs only [Int.natCast_zero, Int.cast_ofNat_Int, Int.natCast_one, Nat.le_refl, Nat.reduceLeDiff, Nat.sub_self, Nat.reduceSub, List.getElem?_cons_zero, List.getElem?_cons_succ, vt_self, vaL, vtL, va, vt, vb, maT, List.cons_append, List.nil_append, List.append_nil, true_or, or_true, go_sem, List.reduceReplicate, Nat.reduceEqDiff, Nat.reduceAdd, Nat.reduceLeDiff, Nat.reduceMul, Nat.reduceSub, Nat.reduceDiv, Int.reduceToNat, Nat.reduceLT, Int.reduceLT, Int.reduceLE, ↓reduceIte, reduceCtorEq, ints, rows, rat, rats, ratsO, toShL_ratC, List.mem_cons, List.mem_nil_iff, List.not_mem_nil, or_false, false_or, exists_eq_left, exists_eq_left', exists_eq_right', Root.live.injEq, eq_self_iff_true, exists_eq, and_true, T.toSh, toShL_ints, toShL_intsO, intsO, rowsO, hq37002, hq37004, hq55, hq56001]
  simp -implicitDefEqProofs only [go_sem, List.reduceReplicate, Nat.reduceEqDiff, Nat.reduceAdd, Nat.reduceLeDiff, Nat.reduceMul, Nat.reduceSub, Nat.reduceDiv, Int.reduceToNat, Nat.reduceLT, Int.reduceLT, Int.reduceLE, ↓reduceIte, reduceCtorEq, forall_apply_eq_imp_iff₂, ints, rows, rat, rats, toNat_cast, List.lookup_cons, Nat.reduceBEq, beq_self_eq_true, rid, openG.eq_1, openG.eq_2, cellsV, noLk, readOK, readA, mergeR_at, not_true_eq_false, decide_true, decide_false]
end
end Go.Ab

set_option linter.unusedSimpArgs false
set_option linter.unusedVariables false
namespace Go.Proofs.Ytgingfdddndlfaa
open Go.ChangeShapes Go.WideShapes Go.ChangeAt Go.RowKit Go.Ab

namespace fnExactWidthOf
theorem said : ∀ xs, wtL [tyGame, tyClaim] xs → Pure Try.prog 9 xs (.b true)
  | [x0, x1], h => by
    obtain ⟨g, rfl, hg⟩ := wt_game h.1
    obtain ⟨c, rfl, hc, hc'⟩ := wt_claim h.2.1
    exact laws_FnExactWidthOf_ok g hg c hc hc'
  | [], h => h.elim
  | [_], h => h.2.elim
  | _ :: _ :: _ :: _, h => h.2.2.elim

set_option maxRecDepth 100000 in
theorem lifted (os : Os) (started : os.Started) (H : Type) (enc : TypeId × Value → H) :
    ReturnsInHanded {} Try.checked os 9 .any (Rows.fnExactWidthOfSpec.pre6 enc Try.prog Try.f9 Rows.fnExactWidthOfRow.domain false) (Rows.fnExactWidthOfSpec.post enc Try.prog Try.f9 false true false false) := by
  refine returnsInHanded_of_change (C := Try.checked) (by kernel_rfl) started (by kernel_rfl) Try.func9
    (ChangeSpec.witness6 (enc := enc) (C := Try.checked) false ⟨#[], #[.agg #[.slice none 0 0, .slice none 0 0, .slice none 0 0], .agg #[.int .i64 0, .slice none 0 0, .int .i64 0, .slice none 0 0, .int .i64 0, .int .i64 0]], []⟩ 8 (by kernel_rfl) (by kernel_rfl) (by kernel_rfl) (by kernel_rfl)) ?_
  intro W base args ds gs before hval hW _ _
  refine law_contract (tys := [tyGame, tyClaim]) (by kernel_rfl) (by kernel_rfl) rfl (by kernel_rfl) rfl (fun ds h => ?_) said W base args ds gs before hval hW
  match ds, h with
  | [d0, d1], _ => rfl

theorem andT {a b : Bool} (ha : a = true) (hb : b = true) : (a && b) = true := by rw [ha, hb]; rfl
theorem joined0 : ((Rows.fnExactWidthOfRow.wf (OpenSpec.ofChange Rows.fnExactWidthOfSpec))) = true := by kernel_rfl
theorem joined1 : (laidOutB Try.prog) = true := Try.laidOutT
theorem joined2 : (mapsRowed Try.prog) = true := Try.mapsRowedT
theorem joined3 : (Try.f9.params.all (Try.prog.readableRec ·)) = true := by kernel_rfl
theorem joined4 : (namedTie Try.prog Rows.fnExactWidthOfRow.named Rows.fnExactWidthOfSpec.vars) = true := by kernel_rfl
theorem joined5 : ((Rows.fnExactWidthOfRow.stops == [])) = true := by kernel_rfl
theorem joined6 : ((Try.prog.stops == [])) = true := by kernel_rfl
theorem joined7 : ((Rows.fnExactWidthOfRow.knobs == [])) = true := by kernel_rfl
theorem joined8 : ((Try.prog.stopKnobs == [])) = true := by kernel_rfl
theorem joined9 : ((Rows.fnExactWidthOfRow.inPlace == Try.prog.inPlace 9)) = true := by kernel_rfl
theorem joined10 : ((Rows.fnExactWidthOfRow.unfollowed == Try.prog.unfollowed 9)) = true := by kernel_rfl
theorem joined11 : ((Rows.fnExactWidthOfRow.recurses == Try.prog.recurses 9)) = true := by kernel_rfl
theorem joined12 : ((Rows.fnExactWidthOfRow.named == Try.prog.varsNamed 9)) = true := by kernel_rfl
theorem joined13 : ((Rows.fnExactWidthOfRow.maps == (Try.f9.params.toList ++ Rows.fnExactWidthOfSpec.plain.varTypes Try.prog).any (Try.prog.mapsRec ·))) = true := by kernel_rfl
theorem joined14 : ((Rows.fnExactWidthOfRow.ifaces == (Try.f9.params.toList ++ Rows.fnExactWidthOfSpec.plain.varTypes Try.prog).any (Try.prog.ifacesRec ·))) = true := by kernel_rfl
theorem joined15 : ((Rows.fnExactWidthOfRow.mapsOut == Try.prog.mapsAmong Try.f9.resultTypes.toList)) = true := by kernel_rfl
theorem joined16 : ((Rows.fnExactWidthOfRow.loops == (Try.f9.params.toList ++ Rows.fnExactWidthOfSpec.plain.varTypes Try.prog).any (Try.prog.loopsFrom ·))) = true := by kernel_rfl
theorem joined17 : ((Rows.fnExactWidthOfRow.wideKeys == (Try.f9.params.toList ++ Rows.fnExactWidthOfSpec.plain.varTypes Try.prog ++ Try.f9.resultTypes.toList).any (Try.prog.wideKeysFrom ·))) = true := by kernel_rfl
theorem joined18 : (Rows.fnExactWidthOfSpec.vars.all (Try.prog.varReadable ·)) = true := by kernel_rfl
theorem joined19 : (Try.f9.resultTypes.all (fun t => Try.prog.readableRec t && decide (t < Try.prog.types.size))) = true := by kernel_rfl
theorem joined20 : ((Rows.fnExactWidthOfRow.ifacesOut == Try.f9.resultTypes.toList.any (Try.prog.ifacesRec ·))) = true := by kernel_rfl
theorem joined21 : ((Rows.fnExactWidthOfRow.loopsOut == Try.f9.resultTypes.toList.any (Try.prog.loopsFrom ·))) = true := by kernel_rfl
theorem joined22 : ((Rows.fnExactWidthOfRow.plainKeys == Try.prog.plainKeys)) = true := by kernel_rfl
theorem joined23 : (Rows.fnExactWidthOfRow.shortTexts.isNone) = true := by kernel_rfl
theorem joined24 : (Try.prog.stopsHeard) = true := Try.heardT
theorem joined25 : (Try.prog.mayEnter) = true := Try.mayEnterT
theorem joined26 : ((Rows.fnExactWidthOfRow.lifted == Try.prog.liftsFinal)) = true := (by rw [Try.liftsF]; rfl)
theorem joined27 : ((Try.prog.make == some Rows.fnExactWidthOfRow.make)) = true := (by rw [Try.makeC]; rfl)
theorem joined28 : ((Rows.fnExactWidthOfRow.kinds == (if Rows.fnExactWidthOfRow.domain.isEmpty then [] else Try.f9.params.toList.map fun t => match Try.prog.underlying t with | some (.int k) => some k | _ => none))) = true := by kernel_rfl
theorem joined29 : ((Rows.fnExactWidthOfRow.pinned == Rows.fnExactWidthOfRow.pinnedBy)) = true := by kernel_rfl
theorem joined30 : ((Rows.fnExactWidthOfRow.veiled == (Try.f9.params.toList ++ Rows.fnExactWidthOfSpec.plain.varTypes Try.prog ++ Try.f9.resultTypes.toList).any (Try.prog.veiledRec ·))) = true := by kernel_rfl
theorem joined31 : (Rows.fnExactWidthOfRow.veiledFits Try.prog Try.f9.params.toList (Try.f9.params.toList ++ Rows.fnExactWidthOfSpec.plain.varTypes Try.prog ++ Try.f9.resultTypes.toList)) = true := by kernel_rfl
set_option maxRecDepth 100000 in
theorem joined : joinedFacts Try.prog 9 Try.f9 Rows.fnExactWidthOfSpec Rows.fnExactWidthOfRow = true := by
  unfold joinedFacts
  exact andT (andT (andT (andT (andT (andT (andT (andT (andT (andT (andT (andT (andT (andT (andT (andT (andT (andT (andT (andT (andT (andT (andT (andT (andT (andT (andT (andT (andT (andT (andT (joined0) joined1) joined2) joined3) joined4) joined5) joined6) joined7) joined8) joined9) joined10) joined11) joined12) joined13) joined14) joined15) joined16) joined17) joined18) joined19) joined20) joined21) joined22) joined23) joined24) joined25) joined26) joined27) joined28) joined29) joined30) joined31
theorem over : Rows.fnExactWidthOfRow.holds Try.pinned (OpenSpec.ofChange Rows.fnExactWidthOfSpec) :=
  OpenClaim.holds_of_wide 9 Try.f9 rfl rfl rfl rfl rfl rfl rfl ⟨rfl, rfl, rfl, rfl, rfl⟩ rfl rfl rfl rfl rfl (by kernel_rfl) Try.func9 joined
    (of_decide_eq_true (by kernel_rfl)) (by unfold Func.isWrapper; first | (rw [if_pos (by decide +kernel)]; kernel_rfl) | (rw [if_neg (by decide +kernel)]; exact ⟨rfl, rfl⟩))
    (fun os started H enc _ => lifted os started H enc)
end fnExactWidthOf

theorem fnExactWidthOf_holds : Rows.FnExactWidthOfSaid := fnExactWidthOf.over
#print axioms fnExactWidthOf_holds
end Go.Proofs.Ytgingfdddndlfaa
