/- The program's BestResponse returns what the reference's returns, for all arguments, and keeps its arguments (and its earlier result): the law FnExactBestResponse returns true for every input. No conditions. -/
import Derived.Test.YtgingfdddndlfaaRows
import Derived.Test.YtgingfdddndlfaaQ5
/- Contracts: the best number and the first best response, the program's. -/
set_option linter.unusedSimpArgs false
set_option linter.unusedVariables false
namespace Go.Ab
open Go.Proofs

theorem idxs_lt' {l : List Nd} {pl : Int} {j : Nat} {y : Int} (h : (idxs l pl l.length)[j]? = some y) : ∃ i : Nat, y = i ∧ i < l.length := by
  obtain ⟨i, h1, h2, _⟩ := idxs_mem (List.mem_of_getElem? h)
  exact ⟨i, h1, h2⟩
theorem mergeR_at (m : List Nat) (R R' : Nat → Root) (r : Nat) : mergeR m R R' r = if m.any (fun d => decide (r = d) || decide (r / 1000 = d + 1)) then R r else R' r := rfl
/-- The search while it is made. -/
def rbox0 (g : Gm) (ot : List (List Int)) (pl : Int) (a b : List Int) : T := .box [nodes g.nd, rows g.w, rows g.v, .i pl, .i 0, intsO a, intsO b, rows ot, .i 0, .v (.slice none 0 0)]
def rbox1 (g : Gm) (ot : List (List Int)) (pl : Int) (B : List (List Int)) : T := .box [nodes g.nd, rows g.w, rows g.v, .i pl, .any, ints (ownL g pl), ints (ownL g (1 - pl)), rows ot, .i pl, rowsO B]
section
attribute [-go_sem] load1C load1V fldC lenC idxC loadNV nilCheckW
set_option maxRecDepth 20000 in
theorem impl_bestAgainst_ok {g : Gm} {ot : List (List Int)} {pl : Int} (hg : isGameB g = true) (hpl : pl = 0 ∨ pl = 1) (hot : partsOK g ot (1 - pl)) : Fun Try.prog 76 [] [.t (gameT g), .t (stratT (1 - pl, ot))] fun o r => o = [] ∧ r = runT g ot pl := by
  obtain ⟨p1, p2, p3, p4, p5⟩ := isGameB_parts hg
  obtain ⟨t1, t2, t3, t4⟩ := isTreeB_spec p1
  obtain ⟨u1, u2, u3, u4, u5, u6, u7⟩ := game_unit hg
  have hsl := sets_len g pl t1.2 p2.2
  have hsl2 := sets_length g pl
  have hrv := runV_abs (n := g.w.length) hg hpl hot
  have hil := idxs_length g.nd pl g.nd.length
  have hil2 := idxs_length g.nd (1 - pl) g.nd.length
  have hmul : ∀ n : Nat, n ≤ g.nd.length → n * g.w.length ≤ 60 * 6 := fun n hn => Nat.mul_le_mul (by omega) p2.2
  refine fun_impl_bestAgainst_h (by simp) ?_
  simp -implicitDefEqProofs only [go_sem, List.reduceReplicate, Nat.reduceEqDiff, Nat.reduceAdd, Nat.reduceLeDiff, Nat.reduceMul, Nat.reduceSub, Nat.reduceDiv, Int.reduceToNat, Nat.reduceLT, Int.reduceLT, Int.reduceLE, ↓reduceIte, reduceCtorEq, forall_apply_eq_imp_iff₂, ints, rows, rat, rats, toNat_cast, c_impl_bestAgainst_h, gameT, stratT, nodes, rows, made_one]
  rw [wrap64 (n := 1 - (1 - pl)) (by omega) (by omega), show 1 - (1 - pl) = pl by omega]
  refine ⟨by omega, by omega, by omega, by omega, ?_⟩
  refine ⟨?_, ((frameOK.refl _ _ _).upd _ (.inl (by simp))).upd _ (.inl (by simp))⟩
  simp -implicitDefEqProofs only [go_sem, List.reduceReplicate, Nat.reduceEqDiff, Nat.reduceAdd, Nat.reduceLeDiff, Nat.reduceMul, Nat.reduceSub, Nat.reduceDiv, Int.reduceToNat, Nat.reduceLT, Int.reduceLT, Int.reduceLE, ↓reduceIte, reduceCtorEq, forall_apply_eq_imp_iff₂, ints, rows, rat, rats, toNat_cast, mergeR_at]
  have hoL : ∀ q, ownL g q = fillN (idxs g.nd q g.nd.length) g.w.length g.nd.length (idxs g.nd q g.nd.length).length := fun q => rfl
  have hfl : ∀ q j, (fillN (idxs g.nd q g.nd.length) g.w.length g.nd.length j).length = g.nd.length := fun q j => fillN_length _ _ _ _
  have hfs : ∀ q j (n : Nat), (idxs g.nd q g.nd.length)[j]? = some (n : Int) → fillN (idxs g.nd q g.nd.length) g.w.length g.nd.length (j + 1) = (fillN (idxs g.nd q g.nd.length) g.w.length g.nd.length j).set n ((j * g.w.length : Nat) : Int) := fun q j n h => by
    rw [fillN, List.getD_eq_getElem?_getD, h]; rfl
  refine CallW.res (impl_nodesOf_t g.nd pl (by omega)) [] rfl Try.call123 ?_ (.inl rfl) ?_
  · simp -implicitDefEqProofs only [Int.natCast_zero, Int.cast_ofNat_Int, Int.natCast_one, Nat.le_refl, Nat.reduceLeDiff, Nat.sub_self, Nat.reduceSub, List.getElem?_cons_zero, List.getElem?_cons_succ, vt_self, vaL, vtL, va, vt, vb, maT, List.cons_append, List.nil_append, List.append_nil, true_or, or_true, go_sem, List.reduceReplicate, Nat.reduceEqDiff, Nat.reduceAdd, Nat.reduceLeDiff, Nat.reduceMul, Nat.reduceSub, Nat.reduceDiv, Int.reduceToNat, Nat.reduceLT, Int.reduceLT, Int.reduceLE, ↓reduceIte, reduceCtorEq, ints, rows, rat, rats, ratsO, toShL_ratC, List.mem_cons, List.mem_nil_iff, List.not_mem_nil, or_false, false_or, exists_eq_left, exists_eq_left', exists_eq_right', Root.live.injEq, eq_self_iff_true, exists_eq, and_true, T.toSh, toShL_ints, toShL_intsO, intsO, rowsO]
  simp -implicitDefEqProofs only [List.append_nil, List.cons_append, Nat.reduceLeDiff, afterCall, absT_rowsO, absT_intsO, absT, absL, updL, updS, freeAll, rid, T.noSh, T.noShL, Nat.zero_le, go_sem, List.reduceReplicate, Nat.reduceEqDiff, Nat.reduceAdd, Nat.reduceLeDiff, Nat.reduceMul, Nat.reduceSub, Nat.reduceDiv, Int.reduceToNat, Nat.reduceLT, Int.reduceLT, Int.reduceLE, ↓reduceIte, reduceCtorEq, rat, forall_apply_eq_imp_iff₂, toNat_cast, intsO, mergeR_at]
  refine SemC.loopR (σ := Nat) (fun j => St.of [(2, .own 2), (3, .own 3), (5, .own 5), (6, .own 6), (7, .t (.i g.w.length)), (42, .own 42), (43, .t (.i (idxs g.nd pl g.nd.length).length)), (44, .t (.i j))] [(2, .box [nodes g.nd, rows g.w, rows g.v]), (3, .box [.i (1 - pl), rows ot]), (5, .box [.i 0, .v (.slice none 0 0)]), (6, rbox0 g ot pl (fillN (idxs g.nd pl g.nd.length) g.w.length g.nd.length j) (List.replicate g.nd.length 0)), (42, intsO (idxs g.nd pl g.nd.length))]) (fun j => j ≤ (idxs g.nd pl g.nd.length).length) (fun j => (idxs g.nd pl g.nd.length).length - j) 0 (Weak.of _ _ [some 2, some 3, some 5, some 6, some 42] (by simp) (by simp) ?_ ?_) (by omega) fun j hj R hn hr he => ?_
  · simp -implicitDefEqProofs only [ints, rows, Nat.reduceBEq, Int.add_zero, envOK, maA, maT, upd_apply, Nat.reduceEqDiff, ↓reduceIte, and_true, true_or, or_true, List.map_cons, List.map_nil, Nat.zero_ne_one, and_self, true_and, Int.natCast_zero, Int.cast_ofNat_Int, Int.ofNat_zero, piOf, List.zip_cons_cons, List.zip_nil_right, List.lookup_cons, List.lookup_nil, beq_self_eq_true, rootsOK, mkRoots, mkEnv, nodes, mergeR_at]
  · refine ⟨⟨_, rfl, .refl _⟩, rfl, ⟨_, rfl, .refl _⟩, rfl, ⟨_, rfl, .refl _⟩, rfl, ⟨_, rfl, ?_⟩, rfl, ⟨_, rfl, .refl _⟩, rfl, trivial⟩
    have e : T.arr 1 (List.replicate g.nd.length (T.v (Value.int IntKind.i64 0))) = intsO (List.replicate g.nd.length 0) := by rw [intsO, List.map_replicate]
    rw [e]; exact .refl _
  · rcases Nat.lt_or_ge j (idxs g.nd pl g.nd.length).length with h9 | h9
    · obtain ⟨y, hy⟩ : ∃ y, (idxs g.nd pl g.nd.length)[j]? = some y := ⟨_, List.getElem?_eq_getElem h9⟩
      obtain ⟨n, rfl, hn1⟩ := idxs_lt' hy
      have hjm := hmul j (by omega)
      simp -implicitDefEqProofs only [go_sem, List.reduceReplicate, Nat.reduceEqDiff, Nat.reduceAdd, Nat.reduceLeDiff, Nat.reduceMul, Nat.reduceSub, Nat.reduceDiv, Int.reduceToNat, Nat.reduceLT, Int.reduceLT, Int.reduceLE, ↓reduceIte, reduceCtorEq, forall_apply_eq_imp_iff₂, ints, rows, rat, rats, toNat_cast, rbox0, nodes, rows, hy, intsO, decide_eq_true (show (j : Int) < ((idxs g.nd pl g.nd.length).length : Int) by omega), hfl]
      refine ⟨by omega, by omega, by omega, by omega, by omega, by omega, hn _ (j + 1) (Weak.trans (Weak.join2 Try.prog tyOne (sl 49) (sl 50) rfl rfl rfl rfl (by decide) (by simp)) (Weak.of _ _ [some 2, some 3, some 5, some 6, some 42] (by simp) (by simp) ?_ ?_)) (by omega) (by omega)⟩
      · simp -implicitDefEqProofs only [ints, rows, Nat.reduceBEq, Int.add_zero, envOK, maA, maT, upd_apply, Nat.reduceEqDiff, ↓reduceIte, and_true, true_or, or_true, List.map_cons, List.map_nil, Nat.zero_ne_one, and_self, true_and, Int.natCast_zero, Int.cast_ofNat_Int, Int.ofNat_zero, piOf, List.zip_cons_cons, List.zip_nil_right, List.lookup_cons, List.lookup_nil, beq_self_eq_true, rootsOK, mkRoots, mkEnv, nodes, next64 h9 (by omega)]
      · refine ⟨⟨_, rfl, .refl _⟩, rfl, ⟨_, rfl, .refl _⟩, rfl, ⟨_, rfl, .refl _⟩, rfl, ⟨_, rfl, ?_⟩, rfl, ⟨_, rfl, .refl _⟩, rfl, trivial⟩
        rw [hfs _ _ _ hy, rbox0, intsO, List.map_set, wrap64 (n := (j : Int) * (g.w.length : Int)) (by omega) (by omega), ← Int.natCast_mul]; exact .refl _
    · simp -implicitDefEqProofs only [go_sem, List.reduceReplicate, Nat.reduceEqDiff, Nat.reduceAdd, Nat.reduceLeDiff, Nat.reduceMul, Nat.reduceSub, Nat.reduceDiv, Int.reduceToNat, Nat.reduceLT, Int.reduceLT, Int.reduceLE, ↓reduceIte, reduceCtorEq, forall_apply_eq_imp_iff₂, ints, rows, rat, rats, toNat_cast, rbox0, nodes, rows, intsO, decide_eq_false (show ¬ (j : Int) < ((idxs g.nd pl g.nd.length).length : Int) by omega)]
      refine he _ _ ?_
      simp -implicitDefEqProofs only [go_sem, List.reduceReplicate, Nat.reduceEqDiff, Nat.reduceAdd, Nat.reduceLeDiff, Nat.reduceMul, Nat.reduceSub, Nat.reduceDiv, Int.reduceToNat, Nat.reduceLT, Int.reduceLT, Int.reduceLE, ↓reduceIte, reduceCtorEq, forall_apply_eq_imp_iff₂, ints, rows, rat, rats, toNat_cast]
      rw [show j = (idxs g.nd pl g.nd.length).length by omega, ← hoL]
      clear hn hr he R
      refine CallW.res (impl_nodesOf_t g.nd (1 - pl) (by omega)) [] rfl Try.call123 ?_ (.inl rfl) ?_
      · simp -implicitDefEqProofs only [Int.natCast_zero, Int.cast_ofNat_Int, Int.natCast_one, Nat.le_refl, Nat.reduceLeDiff, Nat.sub_self, Nat.reduceSub, List.getElem?_cons_zero, List.getElem?_cons_succ, vt_self, vaL, vtL, va, vt, vb, maT, List.cons_append, List.nil_append, List.append_nil, true_or, or_true, go_sem, List.reduceReplicate, Nat.reduceEqDiff, Nat.reduceAdd, Nat.reduceLeDiff, Nat.reduceMul, Nat.reduceSub, Nat.reduceDiv, Int.reduceToNat, Nat.reduceLT, Int.reduceLT, Int.reduceLE, ↓reduceIte, reduceCtorEq, ints, rows, rat, rats, ratsO, toShL_ratC, List.mem_cons, List.mem_nil_iff, List.not_mem_nil, or_false, false_or, exists_eq_left, exists_eq_left', exists_eq_right', Root.live.injEq, eq_self_iff_true, exists_eq, and_true, T.toSh, toShL_ints, toShL_intsO, intsO, rowsO]
      simp -implicitDefEqProofs only [List.append_nil, List.cons_append, Nat.reduceLeDiff, afterCall, absT_rowsO, absT_intsO, absT, absL, updL, updS, freeAll, rid, T.noSh, T.noShL, Nat.zero_le, go_sem, List.reduceReplicate, Nat.reduceEqDiff, Nat.reduceAdd, Nat.reduceLeDiff, Nat.reduceMul, Nat.reduceSub, Nat.reduceDiv, Int.reduceToNat, Nat.reduceLT, Int.reduceLT, Int.reduceLE, ↓reduceIte, reduceCtorEq, rat, forall_apply_eq_imp_iff₂, toNat_cast, intsO]
      refine SemC.loopR (σ := Nat) (fun j => St.of [(2, .own 2), (3, .own 3), (5, .own 5), (6, .own 6), (7, .t (.i g.w.length)), (61, .own 61), (62, .t (.i (idxs g.nd (1 - pl) g.nd.length).length)), (63, .t (.i j))] [(2, .box [nodes g.nd, rows g.w, rows g.v]), (3, .box [.i (1 - pl), rows ot]), (5, .box [.i 0, .v (.slice none 0 0)]), (6, rbox0 g ot pl (ownL g pl) (fillN (idxs g.nd (1 - pl) g.nd.length) g.w.length g.nd.length j)), (61, intsO (idxs g.nd (1 - pl) g.nd.length))]) (fun j => j ≤ (idxs g.nd (1 - pl) g.nd.length).length) (fun j => (idxs g.nd (1 - pl) g.nd.length).length - j) 0 (Weak.of _ _ [some 2, some 3, some 5, some 6, some 61] (by simp) (by simp) ?_ ?_) (by omega) fun j hj R hn hr he => ?_
      · simp -implicitDefEqProofs only [ints, rows, Nat.reduceBEq, Int.add_zero, envOK, maA, maT, upd_apply, Nat.reduceEqDiff, ↓reduceIte, and_true, true_or, or_true, List.map_cons, List.map_nil, Nat.zero_ne_one, and_self, true_and, Int.natCast_zero, Int.cast_ofNat_Int, Int.ofNat_zero, piOf, List.zip_cons_cons, List.zip_nil_right, List.lookup_cons, List.lookup_nil, beq_self_eq_true, rootsOK, mkRoots, mkEnv, nodes, mergeR_at]
      · refine ⟨⟨_, rfl, .refl _⟩, rfl, ⟨_, rfl, .refl _⟩, rfl, ⟨_, rfl, .refl _⟩, rfl, ⟨_, rfl, .refl _⟩, rfl, ⟨_, rfl, .refl _⟩, rfl, trivial⟩
      · have hol := ownL_length g pl
        rcases Nat.lt_or_ge j (idxs g.nd (1 - pl) g.nd.length).length with h9 | h9
        · obtain ⟨y, hy⟩ : ∃ y, (idxs g.nd (1 - pl) g.nd.length)[j]? = some y := ⟨_, List.getElem?_eq_getElem h9⟩
          obtain ⟨n, rfl, hn1⟩ := idxs_lt' hy
          have hjm := hmul j (by omega)
          simp -implicitDefEqProofs only [go_sem, List.reduceReplicate, Nat.reduceEqDiff, Nat.reduceAdd, Nat.reduceLeDiff, Nat.reduceMul, Nat.reduceSub, Nat.reduceDiv, Int.reduceToNat, Nat.reduceLT, Int.reduceLT, Int.reduceLE, ↓reduceIte, reduceCtorEq, forall_apply_eq_imp_iff₂, ints, rows, rat, rats, toNat_cast, rbox0, nodes, rows, hy, intsO, decide_eq_true (show (j : Int) < ((idxs g.nd (1 - pl) g.nd.length).length : Int) by omega), hfl]
          refine ⟨by omega, by omega, by omega, by omega, by omega, by omega, hn _ (j + 1) (Weak.trans (Weak.join2 Try.prog tyOne (sl 68) (sl 69) rfl rfl rfl rfl (by decide) (by simp)) (Weak.of _ _ [some 2, some 3, some 5, some 6, some 61] (by simp) (by simp) ?_ ?_)) (by omega) (by omega)⟩
          · simp -implicitDefEqProofs only [ints, rows, Nat.reduceBEq, Int.add_zero, envOK, maA, maT, upd_apply, Nat.reduceEqDiff, ↓reduceIte, and_true, true_or, or_true, List.map_cons, List.map_nil, Nat.zero_ne_one, and_self, true_and, Int.natCast_zero, Int.cast_ofNat_Int, Int.ofNat_zero, piOf, List.zip_cons_cons, List.zip_nil_right, List.lookup_cons, List.lookup_nil, beq_self_eq_true, rootsOK, mkRoots, mkEnv, nodes, next64 h9 (by omega)]
          · refine ⟨⟨_, rfl, .refl _⟩, rfl, ⟨_, rfl, .refl _⟩, rfl, ⟨_, rfl, .refl _⟩, rfl, ⟨_, rfl, ?_⟩, rfl, ⟨_, rfl, .refl _⟩, rfl, trivial⟩
            rw [hfs _ _ _ hy, rbox0, intsO, intsO, List.map_set, wrap64 (n := (j : Int) * (g.w.length : Int)) (by omega) (by omega), ← Int.natCast_mul]; exact .refl _
        · simp -implicitDefEqProofs only [go_sem, List.reduceReplicate, Nat.reduceEqDiff, Nat.reduceAdd, Nat.reduceLeDiff, Nat.reduceMul, Nat.reduceSub, Nat.reduceDiv, Int.reduceToNat, Nat.reduceLT, Int.reduceLT, Int.reduceLE, ↓reduceIte, reduceCtorEq, forall_apply_eq_imp_iff₂, ints, rows, rat, rats, toNat_cast, rbox0, nodes, rows, intsO, decide_eq_false (show ¬ (j : Int) < ((idxs g.nd (1 - pl) g.nd.length).length : Int) by omega)]
          refine he _ _ ?_
          simp -implicitDefEqProofs only [go_sem, List.reduceReplicate, Nat.reduceEqDiff, Nat.reduceAdd, Nat.reduceLeDiff, Nat.reduceMul, Nat.reduceSub, Nat.reduceDiv, Int.reduceToNat, Nat.reduceLT, Int.reduceLT, Int.reduceLE, ↓reduceIte, reduceCtorEq, forall_apply_eq_imp_iff₂, ints, rows, rat, rats, toNat_cast]
          rw [show j = (idxs g.nd (1 - pl) g.nd.length).length by omega, ← hoL]
          clear hn hr he R
          have hm1 := hmul (idxs g.nd pl g.nd.length).length (by omega)
          have hm2 : (g.w.length : Int) * ((idxs g.nd pl g.nd.length).length : Int) = ((sets g pl).length : Nat) := by rw [hsl2, Int.natCast_mul, Int.mul_comm]
          refine CallC.res (impl_nodesOf_t g.nd pl (by omega)) [] rfl Try.call123 (fun e R' hR => ?_) (.inl rfl) ?_
          · simp -implicitDefEqProofs only [Int.natCast_zero, Int.cast_ofNat_Int, Int.natCast_one, Nat.le_refl, Nat.reduceLeDiff, Nat.sub_self, Nat.reduceSub, List.getElem?_cons_zero, List.getElem?_cons_succ, vt_self, vaL, vtL, va, vt, vb, maT, List.cons_append, List.nil_append, List.append_nil, true_or, or_true, go_sem, List.reduceReplicate, Nat.reduceEqDiff, Nat.reduceAdd, Nat.reduceLeDiff, Nat.reduceMul, Nat.reduceSub, Nat.reduceDiv, Int.reduceToNat, Nat.reduceLT, Int.reduceLT, Int.reduceLE, ↓reduceIte, reduceCtorEq, ints, rows, rat, rats, ratsO, toShL_ratC, List.mem_cons, List.mem_nil_iff, List.not_mem_nil, or_false, false_or, exists_eq_left, exists_eq_left', exists_eq_right', Root.live.injEq, eq_self_iff_true, exists_eq, and_true, T.toSh, toShL_ints, toShL_intsO, intsO, rowsO]
          simp -implicitDefEqProofs only [List.append_nil, List.cons_append, Nat.reduceLeDiff, afterCall, absT_rowsO, absT_intsO, absT, absL, updL, updS, freeAll, rid, T.noSh, T.noShL, Nat.zero_le, go_sem, List.reduceReplicate, Nat.reduceEqDiff, Nat.reduceAdd, Nat.reduceLeDiff, Nat.reduceMul, Nat.reduceSub, Nat.reduceDiv, Int.reduceToNat, Nat.reduceLT, Int.reduceLT, Int.reduceLE, ↓reduceIte, reduceCtorEq, rat, forall_apply_eq_imp_iff₂, toNat_cast, intsO, made_one, hm2, wrap64 (n := ((sets g pl).length : Int)) (by omega) (by omega)]
          refine ⟨by omega, by omega, ?_⟩
          refine SemC.loopR (σ := Nat) (fun k => St.of [(2, .own 2), (5, .own 5), (6, .own 6), (7, .t (.i g.w.length)), (12, .t (.i (runV g ot pl k))), (89, .t (.i g.w.length)), (90, .t (.i k))] [(2, .box [nodes g.nd, rows g.w, rows g.v]), (5, .box [.i 0, .v (.slice none 0 0)]), (6, rbox1 g ot pl (runB g ot pl k))]) (fun k => k ≤ g.w.length) (fun k => g.w.length - k) 0 (Weak.trans (Weak.open 6 5 500 rfl rfl rfl (by decide) rfl) (Weak.trans (Weak.shareJoin 6 5 500 rfl rfl (by decide) rfl (by simp)) (Weak.trans (Weak.open 6 6 501 rfl rfl rfl (by decide) rfl) (Weak.trans (Weak.shareJoin 6 6 501 rfl rfl (by decide) rfl (by simp)) (Weak.of _ _ [some 2, some 5, some 6] (by simp) (by simp) ?_ ?_))))) (by omega) fun k hk R hn hr he => ?_
          · simp -implicitDefEqProofs only [ints, rows, Nat.reduceBEq, Int.add_zero, envOK, maA, maT, upd_apply, Nat.reduceEqDiff, ↓reduceIte, and_true, true_or, or_true, List.map_cons, List.map_nil, Nat.zero_ne_one, and_self, true_and, Int.natCast_zero, Int.cast_ofNat_Int, Int.ofNat_zero, piOf, List.zip_cons_cons, List.zip_nil_right, List.lookup_cons, List.lookup_nil, beq_self_eq_true, rootsOK, mkRoots, mkEnv, nodes, mergeR_at, runV, List.range_zero, List.map_nil, sumI, shareA]
          · refine ⟨⟨_, rfl, .refl _⟩, rfl, ⟨_, rfl, .refl _⟩, rfl, ⟨_, rfl, ?_⟩, rfl, trivial⟩
            have e1 : (T.arr 1 (List.map T.i (ownL g pl))).toSh = ints (ownL g pl) := intsO_toSh _
            have e2 : (T.arr 1 (List.map T.i (ownL g (1 - pl)))).toSh = ints (ownL g (1 - pl)) := intsO_toSh _
            rw [e1, e2]
            exact .bc (.refl _) (.bc (.refl _) (.bc (.refl _) (.bc (.refl _) (.bc (.any _) (.bc (.refl _) (.bc (.refl _) (.bc (.refl _) (.bc (.refl _) (.bc (Le.nilRows _) (.refl _))))))))))
          · rcases Nat.lt_or_ge k g.w.length with h9 | h9
            · simp -implicitDefEqProofs only [go_sem, List.reduceReplicate, Nat.reduceEqDiff, Nat.reduceAdd, Nat.reduceLeDiff, Nat.reduceMul, Nat.reduceSub, Nat.reduceDiv, Int.reduceToNat, Nat.reduceLT, Int.reduceLT, Int.reduceLE, ↓reduceIte, reduceCtorEq, forall_apply_eq_imp_iff₂, ints, rows, rat, rats, toNat_cast, rbox1, nodes, rows, made_one, decide_eq_true (show (k : Int) < (g.w.length : Int) by omega)]
              refine ⟨by omega, by omega, ?_⟩
              have hrl := reach0_length g pl k
              refine SemC.loopR (σ := Nat) (fun b => St.of [(2, .own 2), (5, .own 5), (6, .own 6), (7, .t (.i g.w.length)), (12, .t (.i (runV g ot pl k))), (13, .t (.i k)), (14, .own 77), (89, .t (.i g.w.length)), (90, .t (.i k)), (97, .own 77), (98, .t (.i g.w.length)), (99, .t (.i b))] [(2, .box [nodes g.nd, rows g.w, rows g.v]), (5, .box [.i 0, .v (.slice none 0 0)]), (6, rbox g ot pl k (runB g ot pl k)), (77, .arr 1 (filled (reach0 g pl k) T.i (.i 0) b))]) (fun b => b ≤ g.w.length) (fun b => g.w.length - b) 0 (Weak.of _ _ [some 2, some 5, some 6, some 96] (by simp) (by simp) ?_ ?_) (by omega) fun b hb R2 hn2 hr2 he2 => ?_
              · simp -implicitDefEqProofs only [ints, rows, Nat.reduceBEq, Int.add_zero, envOK, maA, maT, upd_apply, Nat.reduceEqDiff, ↓reduceIte, and_true, true_or, or_true, List.map_cons, List.map_nil, Nat.zero_ne_one, and_self, true_and, Int.natCast_zero, Int.cast_ofNat_Int, Int.ofNat_zero, piOf, List.zip_cons_cons, List.zip_nil_right, List.lookup_cons, List.lookup_nil, beq_self_eq_true, rootsOK, mkRoots, mkEnv, nodes, rbox, List.length_replicate]
              · refine ⟨⟨_, rfl, .refl _⟩, rfl, ⟨_, rfl, .refl _⟩, rfl, ⟨_, rfl, .refl _⟩, rfl, ⟨_, rfl, ?_⟩, rfl, trivial⟩
                rw [filled_zero, hrl]; exact .refl _
              · have hfl := filled_length (reach0 g pl k) T.i (.i 0) b (by omega)
                rcases Nat.lt_or_ge b g.w.length with h8 | h8
                · obtain ⟨u, v, r, y, d1, d2, d3, d4, d5, d6, d7⟩ := deal_w hg hpl h9 h8
                  have fin : ∀ S, Weak 139 S (St.of [(2, .own 2), (5, .own 5), (6, .own 6), (7, .t (.i g.w.length)), (12, .t (.i (runV g ot pl k))), (13, .t (.i k)), (14, .own 77), (89, .t (.i g.w.length)), (90, .t (.i k)), (97, .own 77), (98, .t (.i g.w.length)), (99, .t (.i (b + 1 : Nat)))] [(2, .box [nodes g.nd, rows g.w, rows g.v]), (5, .box [.i 0, .v (.slice none 0 0)]), (6, rbox g ot pl k (runB g ot pl k)), (77, .arr 1 (filled (reach0 g pl k) T.i (.i 0) (b + 1)))]) → R2 .normal S := fun S h => hn2 S (b + 1) h (by omega) (by omega)
                  rw [← filled_set d5] at fin
                  clear hn2
                  rcases hpl with rfl | rfl
                  · have d1 : k = u := by have e : (k : Int) = (u : Int) := d1; omega
                    have d2 : b = v := by have e : (b : Int) = (v : Int) := d2; omega
                    subst d1 d2
                    simp -implicitDefEqProofs only [go_sem, List.reduceReplicate, Nat.reduceEqDiff, Nat.reduceAdd, Nat.reduceLeDiff, Nat.reduceMul, Nat.reduceSub, Nat.reduceDiv, Int.reduceToNat, Nat.reduceLT, Int.reduceLT, Int.reduceLE, ↓reduceIte, reduceCtorEq, forall_apply_eq_imp_iff₂, ints, rows, rat, rats, toNat_cast, rbox, nodes, rows, d3, d4, hfl, decide_eq_true (show (b : Int) < (g.w.length : Int) by omega)]
                    refine ⟨fun _ => ⟨by omega, by omega, by omega, by omega, by omega, by omega, by omega, by omega, by omega, ?_⟩, fun h => absurd h (by decide)⟩
                    · refine fin _ (Weak.of _ _ [some 2, some 5, some 6, some 77] (by simp) (by simp) ?_ ?_)
                      · simp -implicitDefEqProofs only [ints, rows, Nat.reduceBEq, Int.add_zero, envOK, maA, maT, upd_apply, Nat.reduceEqDiff, ↓reduceIte, and_true, true_or, or_true, List.map_cons, List.map_nil, Nat.zero_ne_one, and_self, true_and, Int.natCast_zero, Int.cast_ofNat_Int, Int.ofNat_zero, piOf, List.zip_cons_cons, List.zip_nil_right, List.lookup_cons, List.lookup_nil, beq_self_eq_true, rootsOK, mkRoots, mkEnv, rbox, nodes, next64 h8 (by omega)]
                      · exact ⟨⟨_, rfl, .refl _⟩, rfl, ⟨_, rfl, .refl _⟩, rfl, ⟨_, rfl, .refl _⟩, rfl, ⟨_, rfl, .refl _⟩, rfl, trivial⟩
                  · have d1 : b = u := by have e : (b : Int) = (u : Int) := d1; omega
                    have d2 : k = v := by have e : (k : Int) = (v : Int) := d2; omega
                    subst d1 d2
                    simp -implicitDefEqProofs only [go_sem, List.reduceReplicate, Nat.reduceEqDiff, Nat.reduceAdd, Nat.reduceLeDiff, Nat.reduceMul, Nat.reduceSub, Nat.reduceDiv, Int.reduceToNat, Nat.reduceLT, Int.reduceLT, Int.reduceLE, ↓reduceIte, reduceCtorEq, forall_apply_eq_imp_iff₂, ints, rows, rat, rats, toNat_cast, rbox, nodes, rows, d3, d4, hfl, decide_eq_true (show (b : Int) < (g.w.length : Int) by omega)]
                    refine ⟨fun h => absurd h (by decide), fun _ => ⟨by omega, by omega, by omega, by omega, by omega, by omega, by omega, by omega, by omega, ?_⟩⟩
                    · refine fin _ (Weak.of _ _ [some 2, some 5, some 6, some 77] (by simp) (by simp) ?_ ?_)
                      · simp -implicitDefEqProofs only [ints, rows, Nat.reduceBEq, Int.add_zero, envOK, maA, maT, upd_apply, Nat.reduceEqDiff, ↓reduceIte, and_true, true_or, or_true, List.map_cons, List.map_nil, Nat.zero_ne_one, and_self, true_and, Int.natCast_zero, Int.cast_ofNat_Int, Int.ofNat_zero, piOf, List.zip_cons_cons, List.zip_nil_right, List.lookup_cons, List.lookup_nil, beq_self_eq_true, rootsOK, mkRoots, mkEnv, rbox, nodes, next64 h8 (by omega)]
                      · exact ⟨⟨_, rfl, .refl _⟩, rfl, ⟨_, rfl, .refl _⟩, rfl, ⟨_, rfl, .refl _⟩, rfl, ⟨_, rfl, .refl _⟩, rfl, trivial⟩
                · simp -implicitDefEqProofs only [go_sem, List.reduceReplicate, Nat.reduceEqDiff, Nat.reduceAdd, Nat.reduceLeDiff, Nat.reduceMul, Nat.reduceSub, Nat.reduceDiv, Int.reduceToNat, Nat.reduceLT, Int.reduceLT, Int.reduceLE, ↓reduceIte, reduceCtorEq, forall_apply_eq_imp_iff₂, ints, rows, rat, rats, toNat_cast, rbox, nodes, rows, decide_eq_false (show ¬ (b : Int) < (g.w.length : Int) by omega)]
                  refine he2 _ _ ?_
                  simp -implicitDefEqProofs only [go_sem, List.reduceReplicate, Nat.reduceEqDiff, Nat.reduceAdd, Nat.reduceLeDiff, Nat.reduceMul, Nat.reduceSub, Nat.reduceDiv, Int.reduceToNat, Nat.reduceLT, Int.reduceLT, Int.reduceLE, ↓reduceIte, reduceCtorEq, forall_apply_eq_imp_iff₂, ints, rows, rat, rats, toNat_cast, rbox, nodes, rows]
                  rw [show b = (reach0 g pl k).length by omega, filled_all]
                  refine ⟨_, Weak.trans (Weak.share 77 rfl) (Weak.of [(2, .own 2), (5, .own 5), (6, .own 6), (7, .t (.i g.w.length)), (12, .t (.i (runV g ot pl k))), (13, .t (.i k)), (14, .t (ints (reach0 g pl k))), (89, .t (.i g.w.length)), (90, .t (.i k))] [(2, .box [nodes g.nd, rows g.w, rows g.v]), (5, .box [.i 0, .v (.slice none 0 0)]), (6, rbox g ot pl k (runB g ot pl k))] [some 2, some 5, some 6] (by simp) (by simp) ?_ ?_), ?_⟩
                  · simp -implicitDefEqProofs only [ints, rows, Nat.reduceBEq, Int.add_zero, envOK, maA, maT, upd_apply, Nat.reduceEqDiff, ↓reduceIte, and_true, true_or, or_true, List.map_cons, List.map_nil, Nat.zero_ne_one, and_self, true_and, Int.natCast_zero, Int.cast_ofNat_Int, Int.ofNat_zero, piOf, List.zip_cons_cons, List.zip_nil_right, List.lookup_cons, List.lookup_nil, beq_self_eq_true, rootsOK, mkRoots, mkEnv, shareA, rbox, nodes, T.toSh, T.toShL_eq_map, List.map_map]
                    exact .inr (.inl rfl)
                  · exact ⟨⟨_, rfl, .refl _⟩, rfl, ⟨_, rfl, .refl _⟩, rfl, ⟨_, rfl, .refl _⟩, rfl, trivial⟩
                  · simp -implicitDefEqProofs only [go_sem, List.reduceReplicate, Nat.reduceEqDiff, Nat.reduceAdd, Nat.reduceLeDiff, Nat.reduceMul, Nat.reduceSub, Nat.reduceDiv, Int.reduceToNat, Nat.reduceLT, Int.reduceLT, Int.reduceLE, ↓reduceIte, reduceCtorEq, forall_apply_eq_imp_iff₂, ints, rows, rat, rats, toNat_cast, rbox, nodes, rows]
                    refine CallW.pure (dep_t (impl_depthFrom_ok t2 (by omega) g.nd.length 0 (by omega) (by omega) (by omega))) [] rfl Try.call125 ?_ (by first | trivial | simp [T.noSh, T.noShL, rat]) rfl ?_
                    · simp -implicitDefEqProofs only [Int.natCast_zero, Int.cast_ofNat_Int, Int.natCast_one, Nat.le_refl, Nat.reduceLeDiff, Nat.sub_self, Nat.reduceSub, List.getElem?_cons_zero, List.getElem?_cons_succ, vt_self, vaL, vtL, va, vt, vb, maT, List.cons_append, List.nil_append, List.append_nil, true_or, or_true, go_sem, List.reduceReplicate, Nat.reduceEqDiff, Nat.reduceAdd, Nat.reduceLeDiff, Nat.reduceMul, Nat.reduceSub, Nat.reduceDiv, Int.reduceToNat, Nat.reduceLT, Int.reduceLT, Int.reduceLE, ↓reduceIte, reduceCtorEq, ints, rows, rat, rats, ratsO, toShL_ratC, List.mem_cons, List.mem_nil_iff, List.not_mem_nil, or_false, false_or, exists_eq_left, exists_eq_left', exists_eq_right', Root.live.injEq, eq_self_iff_true, exists_eq, and_true, T.toSh, toShL_ints, toShL_intsO, intsO, rowsO]
                    simp -implicitDefEqProofs only [go_sem, List.reduceReplicate, Nat.reduceEqDiff, Nat.reduceAdd, Nat.reduceLeDiff, Nat.reduceMul, Nat.reduceSub, Nat.reduceDiv, Int.reduceToNat, Nat.reduceLT, Int.reduceLT, Int.reduceLE, ↓reduceIte, reduceCtorEq, forall_apply_eq_imp_iff₂, ints, rows, rat, rats, toNat_cast]
                    rw [u2]
                    have hc := cap0 hg pl k
                    have hcall := impl_respond_ok hg hpl hot h9 g.nd.length 0 (reach0 g pl k) (dpt g) (runB g ot pl k) (by omega) (by omega) hrl hc.2 (by rw [dpt_eq]; exact Int.le_refl _) u3 hc.1 (runB_rows t2 ot pl k)
                    rw [← runB_succ] at hcall
                    simp only [rbox, nodes, rows, ints] at hcall
                    have hv1 := runV_abs hg hpl hot k
                    have hv2 := runV_abs hg hpl hot (k + 1)
                    have hcv : capV = 4199040000000 := rfl
                    have hk6 : ((k + 1 : Nat) : Int) * capV ≤ 6 * capV := Int.mul_le_mul_of_nonneg_right (by omega) (by decide)
                    rw [runV_succ] at hv2
                    refine CallW.ref hcall [6] [] rfl Try.call124 (by simp) ?_ (by simp) ?_ (.inl rfl) ?_
                    · simp -implicitDefEqProofs only [rootOf_arr, rootOf_box, rootOf_any, srcsOK, updL, updS, upd_apply, Nat.reduceEqDiff, ↓reduceIte, mkRoots, and_true, ints, rows, intsO, rowsO]
                    · simp -implicitDefEqProofs only [Int.natCast_zero, Int.cast_ofNat_Int, Int.natCast_one, Nat.le_refl, Nat.reduceLeDiff, Nat.sub_self, Nat.reduceSub, List.getElem?_cons_zero, List.getElem?_cons_succ, vt_self, vaL, vtL, va, vt, vb, maT, List.cons_append, List.nil_append, List.append_nil, true_or, or_true, go_sem, List.reduceReplicate, Nat.reduceEqDiff, Nat.reduceAdd, Nat.reduceLeDiff, Nat.reduceMul, Nat.reduceSub, Nat.reduceDiv, Int.reduceToNat, Nat.reduceLT, Int.reduceLT, Int.reduceLE, ↓reduceIte, reduceCtorEq, ints, rows, rat, rats, ratsO, toShL_ratC, List.mem_cons, List.mem_nil_iff, List.not_mem_nil, or_false, false_or, exists_eq_left, exists_eq_left', exists_eq_right', Root.live.injEq, eq_self_iff_true, exists_eq, and_true, T.toSh, toShL_ints, toShL_intsO, intsO, rowsO]
                    simp -implicitDefEqProofs only [List.append_nil, List.cons_append, Nat.reduceLeDiff, afterCall, absT_rowsO, absT_intsO, absT, absL, updL, updS, freeAll, rid, T.noSh, T.noShL, Nat.zero_le, go_sem, List.reduceReplicate, Nat.reduceEqDiff, Nat.reduceAdd, Nat.reduceLeDiff, Nat.reduceMul, Nat.reduceSub, Nat.reduceDiv, Int.reduceToNat, Nat.reduceLT, Int.reduceLT, Int.reduceLE, ↓reduceIte, reduceCtorEq, rat, forall_apply_eq_imp_iff₂, toNat_cast]
                    refine hn _ (k + 1) (Weak.of _ _ [some 2, some 5, some 6] (by simp) (by simp) ?_ ?_) (by omega) (by omega)
                    · simp -implicitDefEqProofs only [ints, rows, Nat.reduceBEq, Int.add_zero, envOK, maA, maT, upd_apply, Nat.reduceEqDiff, ↓reduceIte, and_true, true_or, or_true, List.map_cons, List.map_nil, Nat.zero_ne_one, and_self, true_and, Int.natCast_zero, Int.cast_ofNat_Int, Int.ofNat_zero, piOf, List.zip_cons_cons, List.zip_nil_right, List.lookup_cons, List.lookup_nil, beq_self_eq_true, rootsOK, mkRoots, mkEnv, rbox1, nodes, next64 h9 (by omega), wrap64 (n := runV g ot pl k + bestV g ot pl k g.nd.length 0 (reach0 g pl k) (dpt g)) (by omega) (by omega), runV_succ]
                    · refine ⟨⟨_, rfl, .refl _⟩, rfl, ⟨_, rfl, .refl _⟩, rfl, ⟨_, rfl, ?_⟩, rfl, trivial⟩
                      exact .bc (.refl _) (.bc (.refl _) (.bc (.refl _) (.bc (.refl _) (.bc (.any _) (.refl _)))))
            · simp -implicitDefEqProofs only [go_sem, List.reduceReplicate, Nat.reduceEqDiff, Nat.reduceAdd, Nat.reduceLeDiff, Nat.reduceMul, Nat.reduceSub, Nat.reduceDiv, Int.reduceToNat, Nat.reduceLT, Int.reduceLT, Int.reduceLE, ↓reduceIte, reduceCtorEq, forall_apply_eq_imp_iff₂, ints, rows, rat, rats, toNat_cast, rbox1, nodes, rows, decide_eq_false (show ¬ (k : Int) < (g.w.length : Int) by omega)]
              refine he _ _ ?_
              simp -implicitDefEqProofs only [go_sem, List.reduceReplicate, Nat.reduceEqDiff, Nat.reduceAdd, Nat.reduceLeDiff, Nat.reduceMul, Nat.reduceSub, Nat.reduceDiv, Int.reduceToNat, Nat.reduceLT, Int.reduceLT, Int.reduceLE, ↓reduceIte, reduceCtorEq, forall_apply_eq_imp_iff₂, ints, rows, rat, rats, toNat_cast]
              refine ⟨_, Weak.open 6 9 500 rfl rfl rfl (by decide) rfl, ?_⟩
              simp -implicitDefEqProofs only [go_sem, List.reduceReplicate, Nat.reduceEqDiff, Nat.reduceAdd, Nat.reduceLeDiff, Nat.reduceMul, Nat.reduceSub, Nat.reduceDiv, Int.reduceToNat, Nat.reduceLT, Int.reduceLT, Int.reduceLE, ↓reduceIte, reduceCtorEq, forall_apply_eq_imp_iff₂, ints, rows, rat, rats, toNat_cast, List.lookup_cons, beq_self_eq_true, Nat.reduceBEq]
              rw [show k = g.w.length by omega]; rfl
end
end Go.Ab

/- Contracts: pairs of strategies; best numbers, bounds, equilibria, exported. -/
set_option linter.unusedSimpArgs false
set_option linter.unusedVariables false
namespace Go.Ab
open Go.Proofs

theorem strB_parts {g : Gm} {s : Int × List (List Int)} (h : strB g s = true) : isGameB g = true ∧ (s.1 = 0 ∨ s.1 = 1) ∧ isStratB g s.1 s.2 = true := by
  simp only [strB, Bool.and_eq_true, decide_eq_true_eq] at h
  exact ⟨h.1.1, by omega, h.2⟩
theorem strB_run {g : Gm} {s : Int × List (List Int)} (h : strB g s = true) : isGameB g = true ∧ (1 - s.1 = 0 ∨ 1 - s.1 = 1) ∧ partsOK g s.2 (1 - (1 - s.1)) ∧ (1 - (1 - s.1), s.2) = s := by
  obtain ⟨h1, h2, h3⟩ := strB_parts h
  refine ⟨h1, by omega, ?_, ?_⟩
  · rw [show 1 - (1 - s.1) = s.1 by omega]; exact partsOK_of h3
  · rw [show 1 - (1 - s.1) = s.1 by omega]
theorem spec_run {g : Gm} {s : Int × List (List Int)} (h : strB g s = true) : Fun Try.prog 71 [] [.t (.agg [.sh 5 (chunk nodeC g.nd), .sh 1 (g.w.map ints), .sh 1 (g.v.map ints)]), .t (.agg [.i s.1, .sh 1 (s.2.map ints)])] fun o r => o = [] ∧ r = runT g s.2 (1 - s.1) := by
  obtain ⟨h1, h2, h3, h4⟩ := strB_run h
  have := spec_l24Run_ok h1 h2 h3
  rw [h4] at this
  exact this
theorem impl_run {g : Gm} {s : Int × List (List Int)} (h : strB g s = true) : Fun Try.prog 76 [] [.t (.agg [.sh 5 (chunk nodeC g.nd), .sh 1 (g.w.map ints), .sh 1 (g.v.map ints)]), .t (.agg [.i s.1, .sh 1 (s.2.map ints)])] fun o r => o = [] ∧ r = runT g s.2 (1 - s.1) := by
  obtain ⟨h1, h2, h3, h4⟩ := strB_run h
  have := impl_bestAgainst_ok h1 h2 h3
  rw [h4] at this
  exact this
def bestS (g : Gm) (s : Int × List (List Int)) : Int × List (List Int) := (1 - s.1, runB g s.2 (1 - s.1) g.w.length)
section
attribute [-go_sem] load1C load1V fldC lenC idxC loadNV nilCheckW
theorem isStr_t {f : FuncId} {g : Gm} {s : Int × List (List Int)} {b : Bool} (h : Pure Try.prog f [gameT g, stratT s] (.b b)) : Pure Try.prog f [.agg [.sh 5 (chunk nodeC g.nd), .sh 1 (g.w.map ints), .sh 1 (g.v.map ints)], .agg [.i s.1, .sh 1 (s.2.map ints)]] (.b b) := h
/-- A best response, and the code. -/
def brR (g : Gm) (s : Int × List (List Int)) : (Int × List (List Int)) × Int := if strB g s = true then (bestS g s, 0) else ((0, []), 1)
def brO (r : (Int × List (List Int)) × Int) : T := .tup [.agg [.i r.1.1, rowsO r.1.2], .i r.2]
theorem brO_le : Le (.tup [.agg [.i 0, .v (.slice none 0 0)], .i 1]) (brO ((0, []), 1)) := by
  refine .tup2 (.agg rfl fun i h h' => ?_) (.refl _)
  match i with
  | 0 => exact .refl _
  | 1 => exact .nilArr 1
set_option maxRecDepth 20000 in
theorem spec_BestResponse_ok (g : Gm) (s : Int × List (List Int)) (hg : gameL g) (hs : rowsL s.2) : Fun Try.prog 37 [] [.t (gameT g), .t (stratT s)] fun o r => o = [] ∧ r = brO (brR g s) := by
  refine Fun.le (Q := fun o r => o = [] ∧ (r = brO (brR g s) ∨ (strB g s = false ∧ r = .tup [.agg [.i 0, .v (.slice none 0 0)], .i 1]))) ?_ ?_
  case refine_2 =>
    rintro o r ⟨rfl, rfl | ⟨h, rfl⟩⟩
    · exact ⟨_, .refl _, rfl, rfl⟩
    · refine ⟨_, brO_le, rfl, ?_⟩
      rw [brR, h]; rfl
  refine fun_spec_BestResponse (by simp) ?_
  have h1 := isStr_t (spec_IsStrategy_ok g s hg hs)
  simp -implicitDefEqProofs only [go_sem, List.reduceReplicate, Nat.reduceEqDiff, Nat.reduceAdd, Nat.reduceLeDiff, Nat.reduceMul, Nat.reduceSub, Nat.reduceDiv, Int.reduceToNat, Nat.reduceLT, Int.reduceLT, Int.reduceLE, ↓reduceIte, reduceCtorEq, forall_apply_eq_imp_iff₂, ints, rows, rat, rats, toNat_cast, c_spec_BestResponse, gameT, stratT, nodes, rows]
  cases hb1 : strB g s <;> rw [hb1] at h1
  · refine CallW.pure h1 [] rfl Try.call70 ?_ (by first | trivial | simp [T.noSh, T.noShL, rat]) rfl ?_
    · simp -implicitDefEqProofs only [Int.natCast_zero, Int.cast_ofNat_Int, Int.natCast_one, Nat.le_refl, Nat.reduceLeDiff, Nat.sub_self, Nat.reduceSub, List.getElem?_cons_zero, List.getElem?_cons_succ, vt_self, vaL, vtL, va, vt, vb, maT, List.cons_append, List.nil_append, List.append_nil, true_or, or_true, go_sem, List.reduceReplicate, Nat.reduceEqDiff, Nat.reduceAdd, Nat.reduceLeDiff, Nat.reduceMul, Nat.reduceSub, Nat.reduceDiv, Int.reduceToNat, Nat.reduceLT, Int.reduceLT, Int.reduceLE, ↓reduceIte, reduceCtorEq, ints, rows, rat, rats, ratsO, toShL_ratC, List.mem_cons, List.mem_nil_iff, List.not_mem_nil, or_false, false_or, exists_eq_left, exists_eq_left', exists_eq_right', Root.live.injEq, eq_self_iff_true, exists_eq, and_true, T.toSh, toShL_ints, toShL_intsO, intsO, rowsO]
    simp -implicitDefEqProofs only [go_sem, List.reduceReplicate, Nat.reduceEqDiff, Nat.reduceAdd, Nat.reduceLeDiff, Nat.reduceMul, Nat.reduceSub, Nat.reduceDiv, Int.reduceToNat, Nat.reduceLT, Int.reduceLT, Int.reduceLE, ↓reduceIte, reduceCtorEq, forall_apply_eq_imp_iff₂, ints, rows, rat, rats, toNat_cast]
    exact .inr trivial
  · refine CallW.pure h1 [] rfl Try.call70 ?_ (by first | trivial | simp [T.noSh, T.noShL, rat]) rfl ?_
    · simp -implicitDefEqProofs only [Int.natCast_zero, Int.cast_ofNat_Int, Int.natCast_one, Nat.le_refl, Nat.reduceLeDiff, Nat.sub_self, Nat.reduceSub, List.getElem?_cons_zero, List.getElem?_cons_succ, vt_self, vaL, vtL, va, vt, vb, maT, List.cons_append, List.nil_append, List.append_nil, true_or, or_true, go_sem, List.reduceReplicate, Nat.reduceEqDiff, Nat.reduceAdd, Nat.reduceLeDiff, Nat.reduceMul, Nat.reduceSub, Nat.reduceDiv, Int.reduceToNat, Nat.reduceLT, Int.reduceLT, Int.reduceLE, ↓reduceIte, reduceCtorEq, ints, rows, rat, rats, ratsO, toShL_ratC, List.mem_cons, List.mem_nil_iff, List.not_mem_nil, or_false, false_or, exists_eq_left, exists_eq_left', exists_eq_right', Root.live.injEq, eq_self_iff_true, exists_eq, and_true, T.toSh, toShL_ints, toShL_intsO, intsO, rowsO]
    simp -implicitDefEqProofs only [go_sem, List.reduceReplicate, Nat.reduceEqDiff, Nat.reduceAdd, Nat.reduceLeDiff, Nat.reduceMul, Nat.reduceSub, Nat.reduceDiv, Int.reduceToNat, Nat.reduceLT, Int.reduceLT, Int.reduceLE, ↓reduceIte, reduceCtorEq, forall_apply_eq_imp_iff₂, ints, rows, rat, rats, toNat_cast]
    refine CallW.res (spec_run hb1) [] rfl Try.call71 ?_ (.inl rfl) ?_
    · simp -implicitDefEqProofs only [Int.natCast_zero, Int.cast_ofNat_Int, Int.natCast_one, Nat.le_refl, Nat.reduceLeDiff, Nat.sub_self, Nat.reduceSub, List.getElem?_cons_zero, List.getElem?_cons_succ, vt_self, vaL, vtL, va, vt, vb, maT, List.cons_append, List.nil_append, List.append_nil, true_or, or_true, go_sem, List.reduceReplicate, Nat.reduceEqDiff, Nat.reduceAdd, Nat.reduceLeDiff, Nat.reduceMul, Nat.reduceSub, Nat.reduceDiv, Int.reduceToNat, Nat.reduceLT, Int.reduceLT, Int.reduceLE, ↓reduceIte, reduceCtorEq, ints, rows, rat, rats, ratsO, toShL_ratC, List.mem_cons, List.mem_nil_iff, List.not_mem_nil, or_false, false_or, exists_eq_left, exists_eq_left', exists_eq_right', Root.live.injEq, eq_self_iff_true, exists_eq, and_true, T.toSh, toShL_ints, toShL_intsO, intsO, rowsO]
    simp -implicitDefEqProofs only [List.append_nil, List.cons_append, Nat.reduceLeDiff, afterCall, absT_rowsO, absT_intsO, absT, absL, updL, updS, freeAll, rid, T.noSh, T.noShL, Nat.zero_le, go_sem, List.reduceReplicate, Nat.reduceEqDiff, Nat.reduceAdd, Nat.reduceLeDiff, Nat.reduceMul, Nat.reduceSub, Nat.reduceDiv, Int.reduceToNat, Nat.reduceLT, Int.reduceLT, Int.reduceLE, ↓reduceIte, reduceCtorEq, rat, forall_apply_eq_imp_iff₂, toNat_cast, runT, rowsO, List.lookup_cons, Nat.reduceBEq, beq_self_eq_true, rid, openG.eq_1, openG.eq_2]
    exact .inl (by rw [brR, hb1]; rfl)
set_option maxRecDepth 20000 in
theorem impl_BestResponse_ok (g : Gm) (s : Int × List (List Int)) (hg : gameL g) (hs : rowsL s.2) : Fun Try.prog 38 [] [.t (gameT g), .t (stratT s)] fun o r => o = [] ∧ r = brO (brR g s) := by
  refine Fun.le (Q := fun o r => o = [] ∧ (r = brO (brR g s) ∨ (strB g s = false ∧ r = .tup [.agg [.i 0, .v (.slice none 0 0)], .i 1]))) ?_ ?_
  case refine_2 =>
    rintro o r ⟨rfl, rfl | ⟨h, rfl⟩⟩
    · exact ⟨_, .refl _, rfl, rfl⟩
    · refine ⟨_, brO_le, rfl, ?_⟩
      rw [brR, h]; rfl
  refine fun_impl_BestResponse (by simp) ?_
  have h1 := isStr_t (impl_IsStrategy_ok g s hg hs)
  simp -implicitDefEqProofs only [go_sem, List.reduceReplicate, Nat.reduceEqDiff, Nat.reduceAdd, Nat.reduceLeDiff, Nat.reduceMul, Nat.reduceSub, Nat.reduceDiv, Int.reduceToNat, Nat.reduceLT, Int.reduceLT, Int.reduceLE, ↓reduceIte, reduceCtorEq, forall_apply_eq_imp_iff₂, ints, rows, rat, rats, toNat_cast, c_impl_BestResponse, gameT, stratT, nodes, rows]
  cases hb1 : strB g s <;> rw [hb1] at h1
  · refine CallW.pure h1 [] rfl Try.call75 ?_ (by first | trivial | simp [T.noSh, T.noShL, rat]) rfl ?_
    · simp -implicitDefEqProofs only [Int.natCast_zero, Int.cast_ofNat_Int, Int.natCast_one, Nat.le_refl, Nat.reduceLeDiff, Nat.sub_self, Nat.reduceSub, List.getElem?_cons_zero, List.getElem?_cons_succ, vt_self, vaL, vtL, va, vt, vb, maT, List.cons_append, List.nil_append, List.append_nil, true_or, or_true, go_sem, List.reduceReplicate, Nat.reduceEqDiff, Nat.reduceAdd, Nat.reduceLeDiff, Nat.reduceMul, Nat.reduceSub, Nat.reduceDiv, Int.reduceToNat, Nat.reduceLT, Int.reduceLT, Int.reduceLE, ↓reduceIte, reduceCtorEq, ints, rows, rat, rats, ratsO, toShL_ratC, List.mem_cons, List.mem_nil_iff, List.not_mem_nil, or_false, false_or, exists_eq_left, exists_eq_left', exists_eq_right', Root.live.injEq, eq_self_iff_true, exists_eq, and_true, T.toSh, toShL_ints, toShL_intsO, intsO, rowsO]
    simp -implicitDefEqProofs only [go_sem, List.reduceReplicate, Nat.reduceEqDiff, Nat.reduceAdd, Nat.reduceLeDiff, Nat.reduceMul, Nat.reduceSub, Nat.reduceDiv, Int.reduceToNat, Nat.reduceLT, Int.reduceLT, Int.reduceLE, ↓reduceIte, reduceCtorEq, forall_apply_eq_imp_iff₂, ints, rows, rat, rats, toNat_cast]
    exact .inr trivial
  · refine CallW.pure h1 [] rfl Try.call75 ?_ (by first | trivial | simp [T.noSh, T.noShL, rat]) rfl ?_
    · simp -implicitDefEqProofs only [Int.natCast_zero, Int.cast_ofNat_Int, Int.natCast_one, Nat.le_refl, Nat.reduceLeDiff, Nat.sub_self, Nat.reduceSub, List.getElem?_cons_zero, List.getElem?_cons_succ, vt_self, vaL, vtL, va, vt, vb, maT, List.cons_append, List.nil_append, List.append_nil, true_or, or_true, go_sem, List.reduceReplicate, Nat.reduceEqDiff, Nat.reduceAdd, Nat.reduceLeDiff, Nat.reduceMul, Nat.reduceSub, Nat.reduceDiv, Int.reduceToNat, Nat.reduceLT, Int.reduceLT, Int.reduceLE, ↓reduceIte, reduceCtorEq, ints, rows, rat, rats, ratsO, toShL_ratC, List.mem_cons, List.mem_nil_iff, List.not_mem_nil, or_false, false_or, exists_eq_left, exists_eq_left', exists_eq_right', Root.live.injEq, eq_self_iff_true, exists_eq, and_true, T.toSh, toShL_ints, toShL_intsO, intsO, rowsO]
    simp -implicitDefEqProofs only [go_sem, List.reduceReplicate, Nat.reduceEqDiff, Nat.reduceAdd, Nat.reduceLeDiff, Nat.reduceMul, Nat.reduceSub, Nat.reduceDiv, Int.reduceToNat, Nat.reduceLT, Int.reduceLT, Int.reduceLE, ↓reduceIte, reduceCtorEq, forall_apply_eq_imp_iff₂, ints, rows, rat, rats, toNat_cast]
    refine CallW.res (impl_run hb1) [] rfl Try.call76 ?_ (.inl rfl) ?_
    · simp -implicitDefEqProofs only [Int.natCast_zero, Int.cast_ofNat_Int, Int.natCast_one, Nat.le_refl, Nat.reduceLeDiff, Nat.sub_self, Nat.reduceSub, List.getElem?_cons_zero, List.getElem?_cons_succ, vt_self, vaL, vtL, va, vt, vb, maT, List.cons_append, List.nil_append, List.append_nil, true_or, or_true, go_sem, List.reduceReplicate, Nat.reduceEqDiff, Nat.reduceAdd, Nat.reduceLeDiff, Nat.reduceMul, Nat.reduceSub, Nat.reduceDiv, Int.reduceToNat, Nat.reduceLT, Int.reduceLT, Int.reduceLE, ↓reduceIte, reduceCtorEq, ints, rows, rat, rats, ratsO, toShL_ratC, List.mem_cons, List.mem_nil_iff, List.not_mem_nil, or_false, false_or, exists_eq_left, exists_eq_left', exists_eq_right', Root.live.injEq, eq_self_iff_true, exists_eq, and_true, T.toSh, toShL_ints, toShL_intsO, intsO, rowsO]
    simp -implicitDefEqProofs only [List.append_nil, List.cons_append, Nat.reduceLeDiff, afterCall, absT_rowsO, absT_intsO, absT, absL, updL, updS, freeAll, rid, T.noSh, T.noShL, Nat.zero_le, go_sem, List.reduceReplicate, Nat.reduceEqDiff, Nat.reduceAdd, Nat.reduceLeDiff, Nat.reduceMul, Nat.reduceSub, Nat.reduceDiv, Int.reduceToNat, Nat.reduceLT, Int.reduceLT, Int.reduceLE, ↓reduceIte, reduceCtorEq, rat, forall_apply_eq_imp_iff₂, toNat_cast, runT, rowsO, List.lookup_cons, Nat.reduceBEq, beq_self_eq_true, rid, openG.eq_1, openG.eq_2]
    exact .inl (by rw [brR, hb1]; rfl)
end
end Go.Ab

/- Sizes of games, strategies and claims behind the laws' budgets. -/
set_option linter.unusedSimpArgs false
set_option linter.unusedVariables false
namespace Go.Ab
open Go.Proofs

def rowsS (m : List (List Int)) : Prop := m.length ≤ 1048576 ∧ tot m ≤ 1048576
def gameS (g : Gm) : Prop := rowsS (chs g.nd) ∧ rowsS g.w ∧ rowsS g.v
theorem rowsS_12 {m : List (List Int)} (h : rowsS m) : rows12 m := ⟨by have := h.1; omega, fun r hr => by have := tot_mem hr; have := h.2; omega⟩
theorem rowsS_L {m : List (List Int)} (h : rowsS m) : rowsL m := ⟨by have := h.1; omega, fun r hr => by have := tot_mem hr; have := h.2; omega⟩
theorem chs_mem {l : List Nd} {x : Nd} (h : x ∈ l) : x.ch ∈ chs l := List.mem_map.2 ⟨x, h, rfl⟩
theorem chs_length (l : List Nd) : (chs l).length = l.length := by simp [chs]
theorem gameS_12 {g : Gm} (h : gameS g) : game12 g := by
  have h1 := rowsS_12 h.1
  exact ⟨by have := h1.1; rw [chs_length] at this; exact this, fun x hx => h1.2 _ (chs_mem hx), rowsS_12 h.2.1, rowsS_12 h.2.2⟩
theorem gameS_L {g : Gm} (h : gameS g) : gameL g := by
  have h1 := rowsS_L h.1
  exact ⟨by have := h1.1; rw [chs_length] at this; exact this, fun x hx => h1.2 _ (chs_mem hx), rowsS_L h.2.1, rowsS_L h.2.2⟩
theorem budgetM_S {m : List (List Int)} {left : Int} (h0 : 0 ≤ left) (h1 : left ≤ 1048576) (h : ¬ budgetMat m left < 0) : rowsS m ∧ 0 ≤ budgetMat m left ∧ budgetMat m left ≤ 1048576 := by
  have h2 := nbudgetMat_le (m := m) (left := left) (by omega)
  have h3 := (budgetMat_ok (m := m) (left := left) h0 (by omega)).1
  have h4 := budgetMat_tot (m := m) (left := left) h0 (by omega)
  exact ⟨⟨by omega, by omega⟩, by omega, by omega⟩
theorem budgetG_S {g : Gm} {left : Int} (h0 : 0 ≤ left) (h1 : left ≤ 1048576) (h : ¬ budgetG g left < 0) : gameS g ∧ 0 ≤ budgetG g left ∧ budgetG g left ≤ 1048576 := by
  unfold budgetG at h ⊢
  by_cases a : budgetMat (chs g.nd) left < 0
  · rw [if_pos a] at h; exact absurd h (by decide)
  rw [if_neg a] at h ⊢
  obtain ⟨a1, a2, a3⟩ := budgetM_S h0 h1 a
  by_cases b : budgetMat g.w (budgetMat (chs g.nd) left) < 0
  · rw [if_pos b] at h; exact absurd h (by decide)
  rw [if_neg b] at h ⊢
  obtain ⟨b1, b2, b3⟩ := budgetM_S a2 a3 b
  obtain ⟨c1, c2, c3⟩ := budgetM_S b2 b3 h
  exact ⟨⟨a1, b1, c1⟩, c2, c3⟩
end Go.Ab

/- Functions in compact form, with hints. -/
set_option linter.unusedVariables false
namespace Go.Ab
open Go.Proofs

def c_laws_markGame_h : CC :=
 (.seq (.regL [.o (.box 2 (sl 0)),
 .o (.move 4 (ci 0))])
 ((.seq (.reg [.o (.fld 5 0 (sl 2)),
 .o (.loadN 6 1 (sl 5)),
 .o (.move 7 (sl 1)),
 .o (.call (some 8) (cf 87) [(sl 6), (sl 7)]),
 .o (.move 1 (sl 8))])
 ((.seq (.reg [.o (.fld 9 1 (sl 2)),
 .o (.load1 10 (sl 9)),
 .o (.move 11 (sl 1)),
 .o (.call (some 12) (cf 88) [(sl 10), (sl 11)]),
 .o (.move 1 (sl 12))])
 ((.seq (.reg [.o (.fld 13 2 (sl 2)),
 .o (.load1 14 (sl 13)),
 .o (.move 15 (sl 1)),
 .o (.call (some 16) (cf 88) [(sl 14), (sl 15)]),
 .o (.move 1 (sl 16))])
 ((.seq (.reg [.o (.move 17 (sl 1)),
 .o (.move 4 (sl 17))])
 (.ret))))))))))
theorem fun_laws_markGame_h {rin : List T} {args : List A} {Q : List T → T → Prop} (ha : args.length ≤ 18) (h : cW Try.prog 18 c_laws_markGame_h (retP Try.prog [.tmp 4] rin.length Q) (St.of (enum 0 args) (enum 1000000000 rin))) :
    Fun Try.prog 39 rin args Q :=
  Fun.of (H := ⟨[], [1000]⟩) Try.func39 rfl rfl rfl (by kernel_rfl) ha (by decide) h

def c_laws_markStrategy_h : CC :=
 (.seq (.regL [.o (.box 2 (sl 0)),
 .o (.move 4 (ci 0))])
 ((.seq (.reg [.o (.fld 5 1 (sl 2)),
 .o (.load1 6 (sl 5)),
 .o (.move 7 (sl 1)),
 .o (.call (some 8) (cf 88) [(sl 6), (sl 7)]),
 .o (.move 1 (sl 8))])
 ((.seq (.reg [.o (.move 9 (sl 1)),
 .o (.move 4 (sl 9))])
 (.ret))))))
theorem fun_laws_markStrategy_h {rin : List T} {args : List A} {Q : List T → T → Prop} (ha : args.length ≤ 10) (h : cW Try.prog 10 c_laws_markStrategy_h (retP Try.prog [.tmp 4] rin.length Q) (St.of (enum 0 args) (enum 1000000000 rin))) :
    Fun Try.prog 40 rin args Q :=
  Fun.of (H := ⟨[], [1000]⟩) Try.func40 rfl rfl rfl (by kernel_rfl) ha (by decide) h

def c_laws_markTree_h : CC :=
 (.seq (.regL [.o (.box 2 (sl 0)),
 .o (.move 4 (ci 0))])
 ((.seq (.reg [.o (.fld 5 0 (sl 2)),
 .o (.load1 6 (sl 5)),
 .o (.move 7 (sl 1)),
 .o (.call (some 8) (cf 132) [(sl 6), (sl 7)]),
 .o (.move 1 (sl 8))])
 ((.seq (.reg [.o (.move 9 (sl 1)),
 .o (.move 4 (sl 9))])
 (.ret))))))
theorem fun_laws_markTree_h {rin : List T} {args : List A} {Q : List T → T → Prop} (ha : args.length ≤ 10) (h : cW Try.prog 10 c_laws_markTree_h (retP Try.prog [.tmp 4] rin.length Q) (St.of (enum 0 args) (enum 1000000000 rin))) :
    Fun Try.prog 87 rin args Q :=
  Fun.of (H := ⟨[], [1000]⟩) Try.func87 rfl rfl rfl (by kernel_rfl) ha (by decide) h

end Go.Ab

/- Contracts: marks of games, strategies and claims. -/
set_option linter.unusedSimpArgs false
set_option linter.unusedVariables false
namespace Go.Ab
open Go.Proofs

theorem totM_marksR : ∀ (m : List (List Int)) (k : Int), tot (marksR m k) = tot m
  | [], k => rfl
  | x :: m, k => by simp [marksR, tot, marks_length, totM_marksR m]
theorem marksR_len {m : List (List Int)} {k : Int} {r : List Int} (h : r ∈ marksR m k) : r.length ≤ tot m := by
  have := tot_mem h
  rwa [totM_marksR] at this
def marksN : List Nd → Int → List Nd
  | [], _ => []
  | x :: l, k => ⟨k, k + 1, k + 2, k + 3, marks x.ch.length (k + 4)⟩ :: marksN l (k + 4 + x.ch.length)
def totN (l : List Nd) : Nat := l.length * 4 + tot (chs l)
theorem marksN_length : ∀ (l : List Nd) (k : Int), (marksN l k).length = l.length
  | [], _ => rfl
  | x :: l, k => by simp [marksN, marksN_length l]
theorem totN_append (l l' : List Nd) : totN (l ++ l') = totN l + totN l' := by
  simp only [totN, chs, List.map_append, tot_append, List.length_append]; omega
theorem totN_one (x : Nd) : totN [x] = 4 + x.ch.length := by simp [totN, chs, tot]
theorem marksN_snoc : ∀ (l : List Nd) (x : Nd) (k : Int), marksN (l ++ [x]) k = marksN l k ++ [⟨k + totN l, k + totN l + 1, k + totN l + 2, k + totN l + 3, marks x.ch.length (k + totN l + 4)⟩]
  | [], x, k => by simp [marksN, totN, chs, tot]
  | y :: l, x, k => by
    have e : totN (y :: l) = (4 + y.ch.length) + totN l := by rw [show y :: l = [y] ++ l from rfl, totN_append, totN_one]
    have e2 : k + 4 + (y.ch.length : Int) + (totN l : Int) = k + (totN (y :: l) : Int) := by rw [e]; omega
    simp only [List.cons_append, marksN]
    rw [marksN_snoc l x, e2]
theorem Weak.close1 {n : Nat} {S : St} (r o d : Nat) {t : T} {l : List T} (hd : S.roots d = .live t []) (hr : (S.roots r).cells = some (l, [(o, d)])) (hne : d ≠ r) (hc : l[o]? = some .any) :
    Weak n S ⟨S.env, upd (upd S.roots d .dead) r ((S.roots r).with (l.set o t) [])⟩ := by
  have h := Weak.close (n := n) r o d hd hr hne hc (by simp)
  have e : ([(o, d)] : List (Nat × Nat)).filter (fun p => decide (p.1 < o) || decide (o + 1 ≤ p.1)) = [] := by
    rw [List.filter_cons_of_neg (by simp), List.filter_nil]
  rw [e] at h
  exact h
theorem totN_nil : totN [] = 0 := rfl
theorem set4 : ∀ {A : List T} {n : Nat} (hA : A.length = n) (c0 c1 c2 c3 d0 d1 d2 d3 : T) (R : List T),
    ((((A ++ c0 :: c1 :: c2 :: c3 :: R).set n d0).set (n + 1) d1).set (n + 2) d2).set (n + 3) d3 = A ++ d0 :: d1 :: d2 :: d3 :: R
  | [], _, rfl, c0, c1, c2, c3, d0, d1, d2, d3, R => rfl
  | a :: A, _, rfl, c0, c1, c2, c3, d0, d1, d2, d3, R => by
    have ih := set4 (A := A) rfl c0 c1 c2 c3 d0 d1 d2 d3 R
    rw [List.length_cons, show A.length + 1 + 1 = (A.length + 1) + 1 from rfl, show A.length + 1 + 2 = (A.length + 2) + 1 by omega, show A.length + 1 + 3 = (A.length + 3) + 1 by omega]
    simp only [List.cons_append, List.set_cons_succ]
    rw [ih]
theorem get4 {A : List T} {n : Nat} (hA : A.length = n) (c0 c1 c2 c3 c4 : T) (R : List T) : (A ++ c0 :: c1 :: c2 :: c3 :: c4 :: R)[n + 4]? = some c4 := by
  rw [List.getElem?_append_right (by omega), hA, Nat.add_sub_cancel_left]; rfl
theorem put4 {A : List T} {n : Nat} (hA : A.length = n) (c0 c1 c2 c3 c4 d : T) (R : List T) : (A ++ c0 :: c1 :: c2 :: c3 :: c4 :: R).set (n + 4) d = A ++ c0 :: c1 :: c2 :: c3 :: d :: R := by
  rw [List.set_append_right _ _ (by omega), hA, Nat.add_sub_cancel_left]; rfl
section
attribute [-go_sem] load1C load1V fldC lenC idxC loadNV nilCheckW
theorem laws_markStrategy_ok (s : Int × List (List Int)) (k : Int) (hm : s.2.length ≤ 1000000000000) (ht : tot s.2 ≤ 100000000000) (h0 : 0 ≤ k) (h1 : k ≤ 100000000000) :
    Fun Try.prog 40 [rowsO s.2] [.agg [.t (.i s.1), .own 1000000000], .t (.i k)] fun o r => o = [rowsO (marksR s.2 k)] ∧ r = .i (k + tot s.2) := by
  refine fun_laws_markStrategy_h (by simp) ?_
  simp -implicitDefEqProofs only [go_sem, List.reduceReplicate, Nat.reduceEqDiff, Nat.reduceAdd, Nat.reduceLeDiff, Nat.reduceMul, Nat.reduceSub, Nat.reduceDiv, Int.reduceToNat, Nat.reduceLT, Int.reduceLT, Int.reduceLE, ↓reduceIte, reduceCtorEq, forall_apply_eq_imp_iff₂, ints, rows, rat, rats, toNat_cast, c_laws_markStrategy_h, rowsO, List.lookup_cons, beq_self_eq_true, Nat.reduceBEq]
  have hp := laws_markInt64SS_ok s.2 k hm ht h0 h1
  simp only [rowsO] at hp
  refine CallW.ref hp [1000000000] [] rfl Try.call88 (by simp) ?_ (by simp) ?_ (.inl rfl) ?_
  · simp -implicitDefEqProofs only [rootOf_arr, rootOf_box, rootOf_any, srcsOK, updL, updS, upd_apply, Nat.reduceEqDiff, ↓reduceIte, mkRoots, and_true, ints, rows, intsO, rowsO]
  · simp -implicitDefEqProofs only [Int.natCast_zero, Int.cast_ofNat_Int, Int.natCast_one, Nat.le_refl, Nat.reduceLeDiff, Nat.sub_self, Nat.reduceSub, List.getElem?_cons_zero, List.getElem?_cons_succ, vt_self, vaL, vtL, va, vt, vb, maT, List.cons_append, List.nil_append, List.append_nil, true_or, or_true, go_sem, List.reduceReplicate, Nat.reduceEqDiff, Nat.reduceAdd, Nat.reduceLeDiff, Nat.reduceMul, Nat.reduceSub, Nat.reduceDiv, Int.reduceToNat, Nat.reduceLT, Int.reduceLT, Int.reduceLE, ↓reduceIte, reduceCtorEq, ints, rows, rat, rats, ratsO, toShL_ratC, List.mem_cons, List.mem_nil_iff, List.not_mem_nil, or_false, false_or, exists_eq_left, exists_eq_left', exists_eq_right', Root.live.injEq, eq_self_iff_true, exists_eq, and_true, T.toSh, toShL_ints, toShL_intsO, intsO, rowsO]
  simp -implicitDefEqProofs only [List.append_nil, List.cons_append, Nat.reduceLeDiff, afterCall, absT_rowsO, absT_intsO, absT, absL, updL, updS, freeAll, rid, T.noSh, T.noShL, Nat.zero_le, go_sem, List.reduceReplicate, Nat.reduceEqDiff, Nat.reduceAdd, Nat.reduceLeDiff, Nat.reduceMul, Nat.reduceSub, Nat.reduceDiv, Int.reduceToNat, Nat.reduceLT, Int.reduceLT, Int.reduceLE, ↓reduceIte, reduceCtorEq, rat, forall_apply_eq_imp_iff₂, toNat_cast]
theorem laws_heldStrategy_ok (s : Int × List (List Int)) (k : Int) (hm : s.2.length ≤ 1000000000000) (hk : ∀ r ∈ s.2, r.length ≤ 100000000) (ht : tot s.2 ≤ 100000000000) (h0 : 0 ≤ k) (h1 : k ≤ 100000000000) :
    Pure Try.prog 41 [stratT s, .i k] (.i (if heldR s.2 k < 0 then -1 else heldR s.2 k)) := by
  refine fun_laws_heldStrategy (by simp) ?_
  simp -implicitDefEqProofs only [go_sem, List.reduceReplicate, Nat.reduceEqDiff, Nat.reduceAdd, Nat.reduceLeDiff, Nat.reduceMul, Nat.reduceSub, Nat.reduceDiv, Int.reduceToNat, Nat.reduceLT, Int.reduceLT, Int.reduceLE, ↓reduceIte, reduceCtorEq, forall_apply_eq_imp_iff₂, ints, rows, rat, rats, toNat_cast, c_laws_heldStrategy, stratT, rows]
  refine CallW.pure (laws_heldInt64SS_ok s.2 k hm hk ht h0 h1) [] rfl Try.call89 ?_ (by first | trivial | simp [T.noSh, T.noShL, rat]) rfl ?_
  · simp -implicitDefEqProofs only [Int.natCast_zero, Int.cast_ofNat_Int, Int.natCast_one, Nat.le_refl, Nat.reduceLeDiff, Nat.sub_self, Nat.reduceSub, List.getElem?_cons_zero, List.getElem?_cons_succ, vt_self, vaL, vtL, va, vt, vb, maT, List.cons_append, List.nil_append, List.append_nil, true_or, or_true, go_sem, List.reduceReplicate, Nat.reduceEqDiff, Nat.reduceAdd, Nat.reduceLeDiff, Nat.reduceMul, Nat.reduceSub, Nat.reduceDiv, Int.reduceToNat, Nat.reduceLT, Int.reduceLT, Int.reduceLE, ↓reduceIte, reduceCtorEq, ints, rows, rat, rats, ratsO, toShL_ratC, List.mem_cons, List.mem_nil_iff, List.not_mem_nil, or_false, false_or, exists_eq_left, exists_eq_left', exists_eq_right', Root.live.injEq, eq_self_iff_true, exists_eq, and_true, T.toSh, toShL_ints, toShL_intsO, intsO, rowsO]
  simp -implicitDefEqProofs only [go_sem, List.reduceReplicate, Nat.reduceEqDiff, Nat.reduceAdd, Nat.reduceLeDiff, Nat.reduceMul, Nat.reduceSub, Nat.reduceDiv, Int.reduceToNat, Nat.reduceLT, Int.reduceLT, Int.reduceLE, ↓reduceIte, reduceCtorEq, forall_apply_eq_imp_iff₂, ints, rows, rat, rats, toNat_cast]
  exact ⟨fun h => by rw [if_pos h], fun h => by rw [if_neg h]⟩
theorem laws_heldStrategy_marks (s : Int × List (List Int)) (k : Int) (hm : s.2.length ≤ 1048576) (ht : tot s.2 ≤ 1048576) (h0 : 0 ≤ k) (h1 : k ≤ 100000000000) :
    Pure Try.prog 41 [stratT (s.1, marksR s.2 k), .i k] (.i (k + tot s.2)) := by
  have := laws_heldStrategy_ok (s.1, marksR s.2 k) k (by simp only [marksR_length]; omega) (fun r h => by have := marksR_len h; omega) (by simp only [totM_marksR]; omega) h0 h1
  simp only [heldR_marks s.2 k h0] at this
  rw [if_neg (by omega)] at this
  exact this
theorem laws_markTreeNodeS_ok (l : List Nd) (k : Int) (hl : l.length ≤ 1048576) (ht : tot (chs l) ≤ 1048576) (h0 : 0 ≤ k) (h1 : k ≤ 1000000000) :
    Fun Try.prog 132 [nodesO l] [.own 1000000000, .t (.i k)] fun o r => o = [nodesO (marksN l k)] ∧ r = .i (k + totN l) := by
  refine fun_laws_markTreeNodeS (by simp) ?_
  simp -implicitDefEqProofs only [go_sem, List.reduceReplicate, Nat.reduceEqDiff, Nat.reduceAdd, Nat.reduceLeDiff, Nat.reduceMul, Nat.reduceSub, Nat.reduceDiv, Int.reduceToNat, Nat.reduceLT, Int.reduceLT, Int.reduceLE, ↓reduceIte, reduceCtorEq, forall_apply_eq_imp_iff₂, ints, rows, rat, rats, toNat_cast, c_laws_markTreeNodeS, nodesO]
  refine SemC.loopR (σ := Nat) (fun i => St.of [(0, .own 1000000000), (1, .t (.i (k + totN (l.take i)))), (5, .t (.i i))] [(1000000000, .arr 5 (chunk nodeCO (marksN (l.take i) k ++ l.drop i)))]) (fun i => i ≤ l.length) (fun i => l.length - i) 0 (Weak.of _ _ [some 1000000000] (by simp) (by simp) ?_ ?_) (by simp) fun i hi R hn hr he => ?_
  · simp -implicitDefEqProofs only [ints, rows, Nat.reduceBEq, Int.add_zero, envOK, maA, maT, upd_apply, Nat.reduceEqDiff, ↓reduceIte, and_true, true_or, or_true, List.map_cons, List.map_nil, Nat.zero_ne_one, and_self, true_and, Int.natCast_zero, Int.cast_ofNat_Int, Int.ofNat_zero, piOf, List.zip_cons_cons, List.zip_nil_right, List.lookup_cons, List.lookup_nil, beq_self_eq_true, rootsOK, mkRoots, mkEnv, List.take_zero, totN_nil, Int.add_zero]
  · exact ⟨⟨_, rfl, .refl _⟩, rfl, trivial⟩
  · have hlen : (chunk nodeCO (marksN (l.take i) k ++ l.drop i)).length = l.length * 5 := by
      rw [chunk_length nodeCO_len, List.length_append, marksN_length, List.length_take, List.length_drop]; congr 1; omega
    rcases Nat.lt_or_ge i l.length with h9 | h9
    · obtain ⟨y, hy⟩ : ∃ y, l[i]? = some y := ⟨_, List.getElem?_eq_getElem h9⟩
      have hd : l.drop i = y :: l.drop (i + 1) := drop_of_get hy
      have hA : (chunk nodeCO (marksN (l.take i) k)).length = i * 5 := by rw [chunk_length nodeCO_len, marksN_length, List.length_take, Nat.min_eq_left (by omega)]
      have hch : chunk nodeCO (marksN (l.take i) k ++ l.drop i) = chunk nodeCO (marksN (l.take i) k) ++ (.i y.p :: .i y.a :: .i y.b :: .i y.f :: intsO y.ch :: chunk nodeCO (l.drop (i + 1))) := by
        rw [chunk_append, hd, chunk_cons]; rfl
      rw [hch] at hlen ⊢
      have htk : totN (l.take (i + 1)) = totN (l.take i) + (4 + y.ch.length) := by rw [take_snoc hy, totN_append, totN_one]
      have htl : totN (l.take (i + 1)) ≤ totN l := by
        have e := totN_append (l.take (i + 1)) (l.drop (i + 1))
        rw [List.take_append_drop] at e; omega
      have htn : totN l = l.length * 4 + tot (chs l) := rfl
      have hres : chunk nodeCO (marksN (l.take (i + 1)) k ++ l.drop (i + 1)) = chunk nodeCO (marksN (l.take i) k) ++ (.i (k + totN (l.take i)) :: .i (k + totN (l.take i) + 1) :: .i (k + totN (l.take i) + 2) :: .i (k + totN (l.take i) + 3) :: intsO (marks y.ch.length (k + totN (l.take i) + 4)) :: chunk nodeCO (l.drop (i + 1))) := by
        rw [take_snoc hy, marksN_snoc, List.append_assoc, chunk_append, List.singleton_append, chunk_cons]; rfl
      have e1 : k + (totN (l.take (i + 1)) : Int) = k + (totN (l.take i) : Int) + 4 + (y.ch.length : Int) := by rw [htk]; omega
      generalize chunk nodeCO (marksN (l.take i) k) = A at hlen hA hres ⊢
      generalize hK : k + (totN (l.take i) : Int) = K at hres e1 ⊢
      have w1 : IntKind.i64.wrap (K + 1) = K + 1 := wrap64 (by omega) (by omega)
      have w2 : IntKind.i64.wrap (K + 1 + 1) = K + 2 := by rw [wrap64 (by omega) (by omega)]; omega
      have w3 : IntKind.i64.wrap (K + 2 + 1) = K + 3 := by rw [wrap64 (by omega) (by omega)]; omega
      have w4 : IntKind.i64.wrap (K + 3 + 1) = K + 4 := by rw [wrap64 (by omega) (by omega)]; omega
      have hiI : (i : Int) < (l.length : Int) := by omega
      have h5 : l.length * 5 / 5 = l.length := by omega
      have hlG : ∀ c0 c1 c2 c3 c4, (A ++ c0 :: c1 :: c2 :: c3 :: c4 :: chunk nodeCO (l.drop (i + 1))).length = l.length * 5 := fun c0 c1 c2 c3 c4 => by
        rw [← hlen]; simp only [List.length_append, List.length_cons]
      simp -implicitDefEqProofs only [go_sem, List.reduceReplicate, Nat.reduceEqDiff, Nat.reduceAdd, Nat.reduceLeDiff, Nat.reduceMul, Nat.reduceSub, Nat.reduceDiv, Int.reduceToNat, Nat.reduceLT, Int.reduceLT, Int.reduceLE, ↓reduceIte, reduceCtorEq, forall_apply_eq_imp_iff₂, ints, rows, rat, rats, toNat_cast, hlG, h5, hiI, set4 hA, get4 hA, w1, w2, w3, w4, intsO]
      refine ⟨by omega, by omega, by omega, by omega, by omega, by omega, by omega, by omega, by omega, by omega, by omega, by omega, by omega, by omega, by omega, ?_⟩
      refine CallW.ref (laws_markInt64S_ok y.ch (K + 4) (by omega) (by omega) (by omega)) [44] [] rfl Try.call133 (by simp) ?_ (by simp) ?_ (.inl rfl) ?_
      · simp -implicitDefEqProofs only [rootOf_arr, rootOf_box, rootOf_any, srcsOK, updL, updS, upd_apply, Nat.reduceEqDiff, ↓reduceIte, mkRoots, and_true, ints, rows, intsO, rowsO]
      · simp -implicitDefEqProofs only [Int.natCast_zero, Int.cast_ofNat_Int, Int.natCast_one, Nat.le_refl, Nat.reduceLeDiff, Nat.sub_self, Nat.reduceSub, List.getElem?_cons_zero, List.getElem?_cons_succ, vt_self, vaL, vtL, va, vt, vb, maT, List.cons_append, List.nil_append, List.append_nil, true_or, or_true, go_sem, List.reduceReplicate, Nat.reduceEqDiff, Nat.reduceAdd, Nat.reduceLeDiff, Nat.reduceMul, Nat.reduceSub, Nat.reduceDiv, Int.reduceToNat, Nat.reduceLT, Int.reduceLT, Int.reduceLE, ↓reduceIte, reduceCtorEq, ints, rows, rat, rats, ratsO, toShL_ratC, List.mem_cons, List.mem_nil_iff, List.not_mem_nil, or_false, false_or, exists_eq_left, exists_eq_left', exists_eq_right', Root.live.injEq, eq_self_iff_true, exists_eq, and_true, T.toSh, toShL_ints, toShL_intsO, intsO, rowsO]
      simp -implicitDefEqProofs only [List.append_nil, List.cons_append, Nat.reduceLeDiff, afterCall, absT_rowsO, absT_intsO, absT, absL, updL, updS, freeAll, rid, T.noSh, T.noShL, Nat.zero_le, go_sem, List.reduceReplicate, Nat.reduceEqDiff, Nat.reduceAdd, Nat.reduceLeDiff, Nat.reduceMul, Nat.reduceSub, Nat.reduceDiv, Int.reduceToNat, Nat.reduceLT, Int.reduceLT, Int.reduceLE, ↓reduceIte, reduceCtorEq, rat, forall_apply_eq_imp_iff₂, toNat_cast, intsO]
      refine hn _ (i + 1) (Weak.trans (Weak.close1 1000000000 (i * 5 + 4) 44 rfl rfl (by decide) ?_) (Weak.of _ _ [some 1000000000] (by simp) (by simp) ?_ ?_)) (by omega) (by omega)
      · simp [put4 hA, get4 hA]
      · simp -implicitDefEqProofs only [ints, rows, Nat.reduceBEq, Int.add_zero, envOK, maA, maT, upd_apply, Nat.reduceEqDiff, ↓reduceIte, and_true, true_or, or_true, List.map_cons, List.map_nil, Nat.zero_ne_one, and_self, true_and, Int.natCast_zero, Int.cast_ofNat_Int, Int.ofNat_zero, piOf, List.zip_cons_cons, List.zip_nil_right, List.lookup_cons, List.lookup_nil, beq_self_eq_true, rootsOK, mkRoots, mkEnv, e1, next64 (show i < l.length by omega) (by omega : l.length ≤ 1000000000000)]
      · refine ⟨⟨_, rfl, ?_⟩, rfl, trivial⟩
        rw [hres, List.set_set, put4 hA]
        exact .refl _
    · have hil : i = l.length := by omega
      subst hil
      have hiI : ¬ (l.length : Int) < (l.length : Int) := by omega
      have h5 : l.length * 5 / 5 = l.length := by omega
      simp -implicitDefEqProofs only [go_sem, List.reduceReplicate, Nat.reduceEqDiff, Nat.reduceAdd, Nat.reduceLeDiff, Nat.reduceMul, Nat.reduceSub, Nat.reduceDiv, Int.reduceToNat, Nat.reduceLT, Int.reduceLT, Int.reduceLE, ↓reduceIte, reduceCtorEq, forall_apply_eq_imp_iff₂, ints, rows, rat, rats, toNat_cast, hlen, h5, hiI]
      refine he _ _ ?_
      simp -implicitDefEqProofs only [go_sem, List.reduceReplicate, Nat.reduceEqDiff, Nat.reduceAdd, Nat.reduceLeDiff, Nat.reduceMul, Nat.reduceSub, Nat.reduceDiv, Int.reduceToNat, Nat.reduceLT, Int.reduceLT, Int.reduceLE, ↓reduceIte, reduceCtorEq, forall_apply_eq_imp_iff₂, ints, rows, rat, rats, toNat_cast]
      rw [List.take_of_length_le (Nat.le_refl _), List.drop_of_length_le (Nat.le_refl _), List.append_nil]
      exact ⟨rfl, rfl⟩
theorem laws_markTree_ok (l : List Nd) (k : Int) (hl : l.length ≤ 1048576) (ht : tot (chs l) ≤ 1048576) (h0 : 0 ≤ k) (h1 : k ≤ 1000000000) :
    Fun Try.prog 87 [nodesO l] [.agg [.own 1000000000], .t (.i k)] fun o r => o = [nodesO (marksN l k)] ∧ r = .i (k + totN l) := by
  refine fun_laws_markTree_h (by simp) ?_
  simp -implicitDefEqProofs only [go_sem, List.reduceReplicate, Nat.reduceEqDiff, Nat.reduceAdd, Nat.reduceLeDiff, Nat.reduceMul, Nat.reduceSub, Nat.reduceDiv, Int.reduceToNat, Nat.reduceLT, Int.reduceLT, Int.reduceLE, ↓reduceIte, reduceCtorEq, forall_apply_eq_imp_iff₂, ints, rows, rat, rats, toNat_cast, c_laws_markTree_h, nodesO, List.lookup_cons, beq_self_eq_true, Nat.reduceBEq]
  have hp := laws_markTreeNodeS_ok l k hl ht h0 h1
  simp only [nodesO] at hp
  refine CallW.ref hp [1000000000] [] rfl Try.call132 (by simp) ?_ (by simp) ?_ (.inl rfl) ?_
  · simp -implicitDefEqProofs only [rootOf_arr, rootOf_box, rootOf_any, srcsOK, updL, updS, upd_apply, Nat.reduceEqDiff, ↓reduceIte, mkRoots, and_true, ints, rows, intsO, rowsO]
  · simp -implicitDefEqProofs only [Int.natCast_zero, Int.cast_ofNat_Int, Int.natCast_one, Nat.le_refl, Nat.reduceLeDiff, Nat.sub_self, Nat.reduceSub, List.getElem?_cons_zero, List.getElem?_cons_succ, vt_self, vaL, vtL, va, vt, vb, maT, List.cons_append, List.nil_append, List.append_nil, true_or, or_true, go_sem, List.reduceReplicate, Nat.reduceEqDiff, Nat.reduceAdd, Nat.reduceLeDiff, Nat.reduceMul, Nat.reduceSub, Nat.reduceDiv, Int.reduceToNat, Nat.reduceLT, Int.reduceLT, Int.reduceLE, ↓reduceIte, reduceCtorEq, ints, rows, rat, rats, ratsO, toShL_ratC, List.mem_cons, List.mem_nil_iff, List.not_mem_nil, or_false, false_or, exists_eq_left, exists_eq_left', exists_eq_right', Root.live.injEq, eq_self_iff_true, exists_eq, and_true, T.toSh, toShL_ints, toShL_intsO, intsO, rowsO]
  simp -implicitDefEqProofs only [List.append_nil, List.cons_append, Nat.reduceLeDiff, afterCall, absT_rowsO, absT_intsO, absT, absL, updL, updS, freeAll, rid, T.noSh, T.noShL, Nat.zero_le, go_sem, List.reduceReplicate, Nat.reduceEqDiff, Nat.reduceAdd, Nat.reduceLeDiff, Nat.reduceMul, Nat.reduceSub, Nat.reduceDiv, Int.reduceToNat, Nat.reduceLT, Int.reduceLT, Int.reduceLE, ↓reduceIte, reduceCtorEq, rat, forall_apply_eq_imp_iff₂, toNat_cast]
def totG (g : Gm) : Nat := totN g.nd + tot g.w + tot g.v
theorem totG_le {g : Gm} (h : gameS g) : totG g ≤ 8388608 := by
  have h1 := h.1.1
  rw [chs_length] at h1
  have h2 := h.1.2
  have h3 := h.2.1.2
  have h4 := h.2.2.2
  unfold totG totN; omega
theorem laws_markGame_ok (g : Gm) (k : Int) (hg : gameS g) (h0 : 0 ≤ k) (h1 : k ≤ 100000000) :
    Fun Try.prog 39 [nodesO g.nd, rowsO g.w, rowsO g.v] [.agg [.own 1000000000, .own 1000000001, .own 1000000002], .t (.i k)] fun o r => o = [nodesO (marksN g.nd k), rowsO (marksR g.w (k + totN g.nd)), rowsO (marksR g.v (k + totN g.nd + tot g.w))] ∧ r = .i (k + totG g) := by
  have hl := hg.1.1
  rw [chs_length] at hl
  have h2 := hg.1.2
  have h3 := hg.2.1
  have h4 := hg.2.2
  have hN : totN g.nd ≤ 5242880 := by unfold totN; omega
  have h31 := h3.1
  have h32 := h3.2
  have h41 := h4.1
  have h42 := h4.2
  refine fun_laws_markGame_h (by simp) ?_
  simp -implicitDefEqProofs only [go_sem, List.reduceReplicate, Nat.reduceEqDiff, Nat.reduceAdd, Nat.reduceLeDiff, Nat.reduceMul, Nat.reduceSub, Nat.reduceDiv, Int.reduceToNat, Nat.reduceLT, Int.reduceLT, Int.reduceLE, ↓reduceIte, reduceCtorEq, forall_apply_eq_imp_iff₂, ints, rows, rat, rats, toNat_cast, c_laws_markGame_h, nodesO, rowsO, List.lookup_cons, beq_self_eq_true, Nat.reduceBEq, noLk, readOK, readA]
  have hp := laws_markTree_ok g.nd k hl h2 h0 (by omega)
  have hp2 := laws_markInt64SS_ok g.w (k + totN g.nd) (by omega) (by omega) (by omega) (by omega)
  have hp3 := laws_markInt64SS_ok g.v (k + totN g.nd + tot g.w) (by omega) (by omega) (by omega) (by omega)
  simp only [nodesO, rowsO] at hp hp2 hp3
  refine CallW.ref hp [1000000000] [] rfl Try.call87 (by simp) ?_ (by simp) ?_ (.inl rfl) ?_
  · simp -implicitDefEqProofs only [rootOf_arr, rootOf_box, rootOf_any, srcsOK, updL, updS, upd_apply, Nat.reduceEqDiff, ↓reduceIte, mkRoots, and_true, ints, rows, intsO, rowsO]
  · simp -implicitDefEqProofs only [Int.natCast_zero, Int.cast_ofNat_Int, Int.natCast_one, Nat.le_refl, Nat.reduceLeDiff, Nat.sub_self, Nat.reduceSub, List.getElem?_cons_zero, List.getElem?_cons_succ, vt_self, vaL, vtL, va, vt, vb, maT, List.cons_append, List.nil_append, List.append_nil, true_or, or_true, go_sem, List.reduceReplicate, Nat.reduceEqDiff, Nat.reduceAdd, Nat.reduceLeDiff, Nat.reduceMul, Nat.reduceSub, Nat.reduceDiv, Int.reduceToNat, Nat.reduceLT, Int.reduceLT, Int.reduceLE, ↓reduceIte, reduceCtorEq, ints, rows, rat, rats, ratsO, toShL_ratC, List.mem_cons, List.mem_nil_iff, List.not_mem_nil, or_false, false_or, exists_eq_left, exists_eq_left', exists_eq_right', Root.live.injEq, eq_self_iff_true, exists_eq, and_true, T.toSh, toShL_ints, toShL_intsO, intsO, rowsO]
  simp -implicitDefEqProofs only [List.append_nil, List.cons_append, Nat.reduceLeDiff, afterCall, absT_rowsO, absT_intsO, absT, absL, updL, updS, freeAll, rid, T.noSh, T.noShL, Nat.zero_le, go_sem, List.reduceReplicate, Nat.reduceEqDiff, Nat.reduceAdd, Nat.reduceLeDiff, Nat.reduceMul, Nat.reduceSub, Nat.reduceDiv, Int.reduceToNat, Nat.reduceLT, Int.reduceLT, Int.reduceLE, ↓reduceIte, reduceCtorEq, rat, forall_apply_eq_imp_iff₂, toNat_cast, List.lookup_cons, beq_self_eq_true, Nat.reduceBEq, noLk, readOK, readA]
  refine CallW.ref hp2 [1000000001] [] rfl Try.call88 (by simp) ?_ (by simp) ?_ (.inl rfl) ?_
  · simp -implicitDefEqProofs only [rootOf_arr, rootOf_box, rootOf_any, srcsOK, updL, updS, upd_apply, Nat.reduceEqDiff, ↓reduceIte, mkRoots, and_true, ints, rows, intsO, rowsO]
  · simp -implicitDefEqProofs only [Int.natCast_zero, Int.cast_ofNat_Int, Int.natCast_one, Nat.le_refl, Nat.reduceLeDiff, Nat.sub_self, Nat.reduceSub, List.getElem?_cons_zero, List.getElem?_cons_succ, vt_self, vaL, vtL, va, vt, vb, maT, List.cons_append, List.nil_append, List.append_nil, true_or, or_true, go_sem, List.reduceReplicate, Nat.reduceEqDiff, Nat.reduceAdd, Nat.reduceLeDiff, Nat.reduceMul, Nat.reduceSub, Nat.reduceDiv, Int.reduceToNat, Nat.reduceLT, Int.reduceLT, Int.reduceLE, ↓reduceIte, reduceCtorEq, ints, rows, rat, rats, ratsO, toShL_ratC, List.mem_cons, List.mem_nil_iff, List.not_mem_nil, or_false, false_or, exists_eq_left, exists_eq_left', exists_eq_right', Root.live.injEq, eq_self_iff_true, exists_eq, and_true, T.toSh, toShL_ints, toShL_intsO, intsO, rowsO]
  simp -implicitDefEqProofs only [List.append_nil, List.cons_append, Nat.reduceLeDiff, afterCall, absT_rowsO, absT_intsO, absT, absL, updL, updS, freeAll, rid, T.noSh, T.noShL, Nat.zero_le, go_sem, List.reduceReplicate, Nat.reduceEqDiff, Nat.reduceAdd, Nat.reduceLeDiff, Nat.reduceMul, Nat.reduceSub, Nat.reduceDiv, Int.reduceToNat, Nat.reduceLT, Int.reduceLT, Int.reduceLE, ↓reduceIte, reduceCtorEq, rat, forall_apply_eq_imp_iff₂, toNat_cast, List.lookup_cons, beq_self_eq_true, Nat.reduceBEq, noLk, readOK, readA]
  refine CallW.ref hp3 [1000000002] [] rfl Try.call88 (by simp) ?_ (by simp) ?_ (.inl rfl) ?_
  · simp -implicitDefEqProofs only [rootOf_arr, rootOf_box, rootOf_any, srcsOK, updL, updS, upd_apply, Nat.reduceEqDiff, ↓reduceIte, mkRoots, and_true, ints, rows, intsO, rowsO]
  · simp -implicitDefEqProofs only [Int.natCast_zero, Int.cast_ofNat_Int, Int.natCast_one, Nat.le_refl, Nat.reduceLeDiff, Nat.sub_self, Nat.reduceSub, List.getElem?_cons_zero, List.getElem?_cons_succ, vt_self, vaL, vtL, va, vt, vb, maT, List.cons_append, List.nil_append, List.append_nil, true_or, or_true, go_sem, List.reduceReplicate, Nat.reduceEqDiff, Nat.reduceAdd, Nat.reduceLeDiff, Nat.reduceMul, Nat.reduceSub, Nat.reduceDiv, Int.reduceToNat, Nat.reduceLT, Int.reduceLT, Int.reduceLE, ↓reduceIte, reduceCtorEq, ints, rows, rat, rats, ratsO, toShL_ratC, List.mem_cons, List.mem_nil_iff, List.not_mem_nil, or_false, false_or, exists_eq_left, exists_eq_left', exists_eq_right', Root.live.injEq, eq_self_iff_true, exists_eq, and_true, T.toSh, toShL_ints, toShL_intsO, intsO, rowsO]
  simp -implicitDefEqProofs only [List.append_nil, List.cons_append, Nat.reduceLeDiff, afterCall, absT_rowsO, absT_intsO, absT, absL, updL, updS, freeAll, rid, T.noSh, T.noShL, Nat.zero_le, go_sem, List.reduceReplicate, Nat.reduceEqDiff, Nat.reduceAdd, Nat.reduceLeDiff, Nat.reduceMul, Nat.reduceSub, Nat.reduceDiv, Int.reduceToNat, Nat.reduceLT, Int.reduceLT, Int.reduceLE, ↓reduceIte, reduceCtorEq, rat, forall_apply_eq_imp_iff₂, toNat_cast]
  exact congrArg T.i (by unfold totG; omega)
end
end Go.Ab

/- Contracts: copies of strategies; responses in turn; claims made and joined. -/
set_option linter.unusedSimpArgs false
set_option linter.unusedVariables false
namespace Go.Ab
open Go.Proofs

theorem bestS_rowsS {g : Gm} {s : Int × List (List Int)} (h : strB g s = true) : rowsS (bestS g s).2 := by
  obtain ⟨h1, h2, h3, h4⟩ := strB_run h
  obtain ⟨p1, p2, _⟩ := isGameB_parts h1
  obtain ⟨t1, t2, t3, t4⟩ := isTreeB_spec p1
  have hr := runB_rows t2 s.2 (1 - s.1) g.w.length
  have hl := sets_len g (1 - s.1) t1.2 p2.2
  have ht : ∀ (m : List (List Int)), (∀ r ∈ m, r.length ≤ 4) → tot m ≤ m.length * 4 := by
    intro m
    induction m with
    | nil => intro _; simp [tot]
    | cons r m ih =>
      intro h
      have h1 := ih fun r hr => h r (by simp [hr])
      have h2 := h r (by simp)
      simp only [tot, List.length_cons]; omega
  have h5 := ht _ hr.2
  have h6 := hr.1
  exact ⟨by show (runB g s.2 (1 - s.1) g.w.length).length ≤ _; omega, by show tot (runB g s.2 (1 - s.1) g.w.length) ≤ _; omega⟩
section
attribute [-go_sem] load1C load1V fldC lenC idxC loadNV nilCheckW
theorem brO_noSh (r : (Int × List (List Int)) × Int) : (brO r).noSh := ⟨⟨trivial, rowsO_noSh _, trivial⟩, trivial, trivial⟩
theorem brR_rowsS (g : Gm) (s : Int × List (List Int)) : rowsS (brR g s).1.2 := by
  unfold brR
  cases hb : strB g s with
  | false => exact ⟨by simp, by simp [tot]⟩
  | true => exact bestS_rowsS hb
end
end Go.Ab

/- The law FnExactBestResponse, as a contract. -/
set_option linter.unusedSimpArgs false
set_option linter.unusedVariables false
namespace Go.Ab
open Go.Proofs

section
attribute [-go_sem] load1C load1V fldC lenC idxC loadNV nilCheckW
set_option maxRecDepth 20000 in
theorem laws_FnExactBestResponse_ok (g : Gm) (hg : gameL g) (s : Int × List (List Int)) (hs : rowsL s.2) : Pure Try.prog 8 [gameT g, stratT s] (.b true) := by
  refine fun_laws_FnExactBestResponse (by simp) ?_
  simp -implicitDefEqProofs only [go_sem, List.reduceReplicate, Nat.reduceEqDiff, Nat.reduceAdd, Nat.reduceLeDiff, Nat.reduceMul, Nat.reduceSub, Nat.reduceDiv, Int.reduceToNat, Nat.reduceLT, Int.reduceLT, Int.reduceLE, ↓reduceIte, reduceCtorEq, forall_apply_eq_imp_iff₂, ints, rows, rat, rats, toNat_cast, c_laws_FnExactBestResponse, gameT, stratT, claimT, gameO, stratO, claimO, nodes, nodesO, rows, rowsO, ints, intsO]
  have hc1 := laws_szGame_ok g 1048576 hg (by omega) (by omega)
  (try simp only [gameT, stratT, claimT, gameO, stratO, claimO, nodes, nodesO, rows, rowsO, ints, intsO, brO] at hc1)
  refine CallW.pure hc1 [] rfl Try.call18 ?_ (by first | trivial | simp [T.noSh, T.noShL, rat]) rfl ?_
  · simp -implicitDefEqProofs only [Int.natCast_zero, Int.cast_ofNat_Int, Int.natCast_one, Nat.le_refl, Nat.reduceLeDiff, Nat.sub_self, Nat.reduceSub, List.getElem?_cons_zero, List.getElem?_cons_succ, vt_self, vaL, vtL, va, vt, vb, maT, List.cons_append, List.nil_append, List.append_nil, true_or, or_true, go_sem, List.reduceReplicate, Nat.reduceEqDiff, Nat.reduceAdd, Nat.reduceLeDiff, Nat.reduceMul, Nat.reduceSub, Nat.reduceDiv, Int.reduceToNat, Nat.reduceLT, Int.reduceLT, Int.reduceLE, ↓reduceIte, reduceCtorEq, ints, rows, rat, rats, ratsO, toShL_ratC, List.mem_cons, List.mem_nil_iff, List.not_mem_nil, or_false, false_or, exists_eq_left, exists_eq_left', exists_eq_right', Root.live.injEq, eq_self_iff_true, exists_eq, and_true, T.toSh, toShL_ints, toShL_intsO, intsO, rowsO]
  simp -implicitDefEqProofs only [go_sem, List.reduceReplicate, Nat.reduceEqDiff, Nat.reduceAdd, Nat.reduceLeDiff, Nat.reduceMul, Nat.reduceSub, Nat.reduceDiv, Int.reduceToNat, Nat.reduceLT, Int.reduceLT, Int.reduceLE, ↓reduceIte, reduceCtorEq, forall_apply_eq_imp_iff₂, ints, rows, rat, rats, toNat_cast, List.lookup_cons, Nat.reduceBEq, beq_self_eq_true, rid, openG.eq_1, openG.eq_2, cellsV, noLk, readOK, readA, mergeR_at]
  refine ⟨fun _ => trivial, fun hb0 => ?_⟩
  obtain ⟨hgS, hgb1, hgb2⟩ := budgetG_S (g := g) (left := 1048576) (by omega) (by omega) hb0
  have hg12 := gameS_12 hgS
  have hc2 := laws_szStrategy_ok s (budgetG g 1048576) hs (by omega) (by omega)
  (try simp only [gameT, stratT, claimT, gameO, stratO, claimO, nodes, nodesO, rows, rowsO, ints, intsO, brO] at hc2)
  refine CallW.pure hc2 [] rfl Try.call19 ?_ (by first | trivial | simp [T.noSh, T.noShL, rat]) rfl ?_
  · simp -implicitDefEqProofs only [Int.natCast_zero, Int.cast_ofNat_Int, Int.natCast_one, Nat.le_refl, Nat.reduceLeDiff, Nat.sub_self, Nat.reduceSub, List.getElem?_cons_zero, List.getElem?_cons_succ, vt_self, vaL, vtL, va, vt, vb, maT, List.cons_append, List.nil_append, List.append_nil, true_or, or_true, go_sem, List.reduceReplicate, Nat.reduceEqDiff, Nat.reduceAdd, Nat.reduceLeDiff, Nat.reduceMul, Nat.reduceSub, Nat.reduceDiv, Int.reduceToNat, Nat.reduceLT, Int.reduceLT, Int.reduceLE, ↓reduceIte, reduceCtorEq, ints, rows, rat, rats, ratsO, toShL_ratC, List.mem_cons, List.mem_nil_iff, List.not_mem_nil, or_false, false_or, exists_eq_left, exists_eq_left', exists_eq_right', Root.live.injEq, eq_self_iff_true, exists_eq, and_true, T.toSh, toShL_ints, toShL_intsO, intsO, rowsO]
  simp -implicitDefEqProofs only [go_sem, List.reduceReplicate, Nat.reduceEqDiff, Nat.reduceAdd, Nat.reduceLeDiff, Nat.reduceMul, Nat.reduceSub, Nat.reduceDiv, Int.reduceToNat, Nat.reduceLT, Int.reduceLT, Int.reduceLE, ↓reduceIte, reduceCtorEq, forall_apply_eq_imp_iff₂, ints, rows, rat, rats, toNat_cast, List.lookup_cons, Nat.reduceBEq, beq_self_eq_true, rid, openG.eq_1, openG.eq_2, cellsV, noLk, readOK, readA, mergeR_at]
  refine ⟨fun _ => trivial, fun hb1 => ?_⟩
  obtain ⟨hsS, hsb1, hsb2⟩ := budgetM_S (m := s.2) (left := (budgetG g 1048576)) (by omega) (by omega) hb1
  have hs12 := rowsS_12 hsS
  have hf01 := (brR_rowsS g s)
  have hf02 := hf01.1
  have hf03 := hf01.2
  have hc3 := laws_toGame_ok g hg12
  (try simp only [gameT, stratT, claimT, gameO, stratO, claimO, nodes, nodesO, rows, rowsO, ints, intsO, brO] at hc3)
  refine CallC.res hc3 [] rfl Try.call21 (fun e R' hR => ?_) (.inl rfl) ?_
  · simp -implicitDefEqProofs only [Int.natCast_zero, Int.cast_ofNat_Int, Int.natCast_one, Nat.le_refl, Nat.reduceLeDiff, Nat.sub_self, Nat.reduceSub, List.getElem?_cons_zero, List.getElem?_cons_succ, vt_self, vaL, vtL, va, vt, vb, maT, List.cons_append, List.nil_append, List.append_nil, true_or, or_true, go_sem, List.reduceReplicate, Nat.reduceEqDiff, Nat.reduceAdd, Nat.reduceLeDiff, Nat.reduceMul, Nat.reduceSub, Nat.reduceDiv, Int.reduceToNat, Nat.reduceLT, Int.reduceLT, Int.reduceLE, ↓reduceIte, reduceCtorEq, ints, rows, rat, rats, ratsO, toShL_ratC, List.mem_cons, List.mem_nil_iff, List.not_mem_nil, or_false, false_or, exists_eq_left, exists_eq_left', exists_eq_right', Root.live.injEq, eq_self_iff_true, exists_eq, and_true, T.toSh, toShL_ints, toShL_intsO, intsO, rowsO]
  simp -implicitDefEqProofs only [List.append_nil, List.cons_append, Nat.reduceLeDiff, afterCall, absT_rowsO, absT_intsO, absT, absL, updL, updS, freeAll, rid, T.noSh, T.noShL, Nat.zero_le, go_sem, List.reduceReplicate, Nat.reduceEqDiff, Nat.reduceAdd, Nat.reduceLeDiff, Nat.reduceMul, Nat.reduceSub, Nat.reduceDiv, Int.reduceToNat, Nat.reduceLT, Int.reduceLT, Int.reduceLE, ↓reduceIte, reduceCtorEq, rat, forall_apply_eq_imp_iff₂, toNat_cast, List.lookup_cons, Nat.reduceBEq, beq_self_eq_true, rid, openG.eq_1, openG.eq_2, cellsV, noLk, readOK, readA, mergeR_at]
  have hc4 := laws_toStrategy_ok s hs12
  (try simp only [gameT, stratT, claimT, gameO, stratO, claimO, nodes, nodesO, rows, rowsO, ints, intsO, brO] at hc4)
  refine CallC.res hc4 [] rfl Try.call22 (fun e R' hR => ?_) (.inl rfl) ?_
  · simp -implicitDefEqProofs only [Int.natCast_zero, Int.cast_ofNat_Int, Int.natCast_one, Nat.le_refl, Nat.reduceLeDiff, Nat.sub_self, Nat.reduceSub, List.getElem?_cons_zero, List.getElem?_cons_succ, vt_self, vaL, vtL, va, vt, vb, maT, List.cons_append, List.nil_append, List.append_nil, true_or, or_true, go_sem, List.reduceReplicate, Nat.reduceEqDiff, Nat.reduceAdd, Nat.reduceLeDiff, Nat.reduceMul, Nat.reduceSub, Nat.reduceDiv, Int.reduceToNat, Nat.reduceLT, Int.reduceLT, Int.reduceLE, ↓reduceIte, reduceCtorEq, ints, rows, rat, rats, ratsO, toShL_ratC, List.mem_cons, List.mem_nil_iff, List.not_mem_nil, or_false, false_or, exists_eq_left, exists_eq_left', exists_eq_right', Root.live.injEq, eq_self_iff_true, exists_eq, and_true, T.toSh, toShL_ints, toShL_intsO, intsO, rowsO]
  simp -implicitDefEqProofs only [List.append_nil, List.cons_append, Nat.reduceLeDiff, afterCall, absT_rowsO, absT_intsO, absT, absL, updL, updS, freeAll, rid, T.noSh, T.noShL, Nat.zero_le, go_sem, List.reduceReplicate, Nat.reduceEqDiff, Nat.reduceAdd, Nat.reduceLeDiff, Nat.reduceMul, Nat.reduceSub, Nat.reduceDiv, Int.reduceToNat, Nat.reduceLT, Int.reduceLT, Int.reduceLE, ↓reduceIte, reduceCtorEq, rat, forall_apply_eq_imp_iff₂, toNat_cast, List.lookup_cons, Nat.reduceBEq, beq_self_eq_true, rid, openG.eq_1, openG.eq_2, cellsV, noLk, readOK, readA, mergeR_at]
  have hc5 := spec_BestResponse_ok g s (gameS_L hgS) (rowsS_L hsS)
  (try simp only [gameT, stratT, claimT, gameO, stratO, claimO, nodes, nodesO, rows, rowsO, ints, intsO, brO] at hc5)
  refine CallC.res hc5 [29, 31, 30001, 30002] rfl Try.call37 (fun e R' hR => ?_) (.inr (brO_noSh _)) ?_
  · have hq29 := (hR 29).resolve_left (by simp -implicitDefEqProofs only [go_sem, List.reduceReplicate, Nat.reduceEqDiff, Nat.reduceAdd, Nat.reduceLeDiff, Nat.reduceMul, Nat.reduceSub, Nat.reduceDiv, Int.reduceToNat, Nat.reduceLT, Int.reduceLT, Int.reduceLE, ↓reduceIte, reduceCtorEq, forall_apply_eq_imp_iff₂, ints, rows, rat, rats, toNat_cast, not_false_eq_true]); have hq31 := (hR 31).resolve_left (by simp -implicitDefEqProofs only [go_sem, List.reduceReplicate, Nat.reduceEqDiff, Nat.reduceAdd, Nat.reduceLeDiff, Nat.reduceMul, Nat.reduceSub, Nat.reduceDiv, Int.reduceToNat, Nat.reduceLT, Int.reduceLT, Int.reduceLE, ↓reduceIte, reduceCtorEq, forall_apply_eq_imp_iff₂, ints, rows, rat, rats, toNat_cast, not_false_eq_true]); have hq30001 := (hR 30001).resolve_left (by simp -implicitDefEqProofs only [go_sem, List.reduceReplicate, Nat.reduceEqDiff, Nat.reduceAdd, Nat.reduceLeDiff, Nat.reduceMul, Nat.reduceSub, Nat.reduceDiv, Int.reduceToNat, Nat.reduceLT, Int.reduceLT, Int.reduceLE, ↓reduceIte, reduceCtorEq, forall_apply_eq_imp_iff₂, ints, rows, rat, rats, toNat_cast, not_false_eq_true]); have hq30002 := (hR 30002).resolve_left (by simp -implicitDefEqProofs only [go_sem, List.reduceReplicate, Nat.reduceEqDiff, Nat.reduceAdd, Nat.reduceLeDiff, Nat.reduceMul, Nat.reduceSub, Nat.reduceDiv, Int.reduceToNat, Nat.reduceLT, Int.reduceLT, Int.reduceLE, ↓reduceIte, reduceCtorEq, forall_apply_eq_imp_iff₂, ints, rows, rat, rats, toNat_cast, not_false_eq_true])
    simp -implicitDefEqProofs only [go_sem, List.reduceReplicate, Nat.reduceEqDiff, Nat.reduceAdd, Nat.reduceLeDiff, Nat.reduceMul, Nat.reduceSub, Nat.reduceDiv, Int.reduceToNat, Nat.reduceLT, Int.reduceLT, Int.reduceLE, ↓reduceIte, reduceCtorEq, forall_apply_eq_imp_iff₂, ints, rows, rat, rats, toNat_cast] at hq29 hq31 hq30001 hq30002
    simp -implicitDefEqProofs only [Int.natCast_zero, Int.cast_ofNat_Int, Int.natCast_one, Nat.le_refl, Nat.reduceLeDiff, Nat.sub_self, Nat.reduceSub, List.getElem?_cons_zero, List.getElem?_cons_succ, vt_self, vaL, vtL, va, vt, vb, maT, List.cons_append, List.nil_append, List.append_nil, true_or, or_true, go_sem, List.reduceReplicate, Nat.reduceEqDiff, Nat.reduceAdd, Nat.reduceLeDiff, Nat.reduceMul, Nat.reduceSub, Nat.reduceDiv, Int.reduceToNat, Nat.reduceLT, Int.reduceLT, Int.reduceLE, ↓reduceIte, reduceCtorEq, ints, rows, rat, rats, ratsO, toShL_ratC, List.mem_cons, List.mem_nil_iff, List.not_mem_nil, or_false, false_or, exists_eq_left, exists_eq_left', exists_eq_right', Root.live.injEq, eq_self_iff_true, exists_eq, and_true, T.toSh, toShL_ints, toShL_intsO, intsO, rowsO, hq29, hq31, hq30001, hq30002]
  simp -implicitDefEqProofs only [List.append_nil, List.cons_append, Nat.reduceLeDiff, afterCall, absT_rowsO, absT_intsO, absT, absL, updL, updS, freeAll, rid, T.noSh, T.noShL, Nat.zero_le, go_sem, List.reduceReplicate, Nat.reduceEqDiff, Nat.reduceAdd, Nat.reduceLeDiff, Nat.reduceMul, Nat.reduceSub, Nat.reduceDiv, Int.reduceToNat, Nat.reduceLT, Int.reduceLT, Int.reduceLE, ↓reduceIte, reduceCtorEq, rat, forall_apply_eq_imp_iff₂, toNat_cast, List.lookup_cons, Nat.reduceBEq, beq_self_eq_true, rid, openG.eq_1, openG.eq_2, cellsV, noLk, readOK, readA, mergeR_at]
  have hc6 := laws_toGame_ok g hg12
  (try simp only [gameT, stratT, claimT, gameO, stratO, claimO, nodes, nodesO, rows, rowsO, ints, intsO, brO] at hc6)
  refine CallW.res hc6 [] rfl Try.call21 ?_ (.inl rfl) ?_
  · simp -implicitDefEqProofs only [Int.natCast_zero, Int.cast_ofNat_Int, Int.natCast_one, Nat.le_refl, Nat.reduceLeDiff, Nat.sub_self, Nat.reduceSub, List.getElem?_cons_zero, List.getElem?_cons_succ, vt_self, vaL, vtL, va, vt, vb, maT, List.cons_append, List.nil_append, List.append_nil, true_or, or_true, go_sem, List.reduceReplicate, Nat.reduceEqDiff, Nat.reduceAdd, Nat.reduceLeDiff, Nat.reduceMul, Nat.reduceSub, Nat.reduceDiv, Int.reduceToNat, Nat.reduceLT, Int.reduceLT, Int.reduceLE, ↓reduceIte, reduceCtorEq, ints, rows, rat, rats, ratsO, toShL_ratC, List.mem_cons, List.mem_nil_iff, List.not_mem_nil, or_false, false_or, exists_eq_left, exists_eq_left', exists_eq_right', Root.live.injEq, eq_self_iff_true, exists_eq, and_true, T.toSh, toShL_ints, toShL_intsO, intsO, rowsO]
  simp -implicitDefEqProofs only [List.append_nil, List.cons_append, Nat.reduceLeDiff, afterCall, absT_rowsO, absT_intsO, absT, absL, updL, updS, freeAll, rid, T.noSh, T.noShL, Nat.zero_le, go_sem, List.reduceReplicate, Nat.reduceEqDiff, Nat.reduceAdd, Nat.reduceLeDiff, Nat.reduceMul, Nat.reduceSub, Nat.reduceDiv, Int.reduceToNat, Nat.reduceLT, Int.reduceLT, Int.reduceLE, ↓reduceIte, reduceCtorEq, rat, forall_apply_eq_imp_iff₂, toNat_cast, List.lookup_cons, Nat.reduceBEq, beq_self_eq_true, rid, openG.eq_1, openG.eq_2, cellsV, noLk, readOK, readA, mergeR_at]
  have hc7 := laws_toStrategy_ok s hs12
  (try simp only [gameT, stratT, claimT, gameO, stratO, claimO, nodes, nodesO, rows, rowsO, ints, intsO, brO] at hc7)
  refine CallW.res hc7 [] rfl Try.call22 ?_ (.inl rfl) ?_
  · simp -implicitDefEqProofs only [Int.natCast_zero, Int.cast_ofNat_Int, Int.natCast_one, Nat.le_refl, Nat.reduceLeDiff, Nat.sub_self, Nat.reduceSub, List.getElem?_cons_zero, List.getElem?_cons_succ, vt_self, vaL, vtL, va, vt, vb, maT, List.cons_append, List.nil_append, List.append_nil, true_or, or_true, go_sem, List.reduceReplicate, Nat.reduceEqDiff, Nat.reduceAdd, Nat.reduceLeDiff, Nat.reduceMul, Nat.reduceSub, Nat.reduceDiv, Int.reduceToNat, Nat.reduceLT, Int.reduceLT, Int.reduceLE, ↓reduceIte, reduceCtorEq, ints, rows, rat, rats, ratsO, toShL_ratC, List.mem_cons, List.mem_nil_iff, List.not_mem_nil, or_false, false_or, exists_eq_left, exists_eq_left', exists_eq_right', Root.live.injEq, eq_self_iff_true, exists_eq, and_true, T.toSh, toShL_ints, toShL_intsO, intsO, rowsO]
  simp -implicitDefEqProofs only [List.append_nil, List.cons_append, Nat.reduceLeDiff, afterCall, absT_rowsO, absT_intsO, absT, absL, updL, updS, freeAll, rid, T.noSh, T.noShL, Nat.zero_le, go_sem, List.reduceReplicate, Nat.reduceEqDiff, Nat.reduceAdd, Nat.reduceLeDiff, Nat.reduceMul, Nat.reduceSub, Nat.reduceDiv, Int.reduceToNat, Nat.reduceLT, Int.reduceLT, Int.reduceLE, ↓reduceIte, reduceCtorEq, rat, forall_apply_eq_imp_iff₂, toNat_cast, List.lookup_cons, Nat.reduceBEq, beq_self_eq_true, rid, openG.eq_1, openG.eq_2, cellsV, noLk, readOK, readA, mergeR_at]
  have hc8 := impl_BestResponse_ok g s (gameS_L hgS) (rowsS_L hsS)
  (try simp only [gameT, stratT, claimT, gameO, stratO, claimO, nodes, nodesO, rows, rowsO, ints, intsO, brO] at hc8)
  refine CallW.res hc8 [41001, 41002, 41003, 42002] rfl Try.call38 ?_ (.inr (brO_noSh _)) ?_
  · simp -implicitDefEqProofs only [Int.natCast_zero, Int.cast_ofNat_Int, Int.natCast_one, Nat.le_refl, Nat.reduceLeDiff, Nat.sub_self, Nat.reduceSub, List.getElem?_cons_zero, List.getElem?_cons_succ, vt_self, vaL, vtL, va, vt, vb, maT, List.cons_append, List.nil_append, List.append_nil, true_or, or_true, go_sem, List.reduceReplicate, Nat.reduceEqDiff, Nat.reduceAdd, Nat.reduceLeDiff, Nat.reduceMul, Nat.reduceSub, Nat.reduceDiv, Int.reduceToNat, Nat.reduceLT, Int.reduceLT, Int.reduceLE, ↓reduceIte, reduceCtorEq, ints, rows, rat, rats, ratsO, toShL_ratC, List.mem_cons, List.mem_nil_iff, List.not_mem_nil, or_false, false_or, exists_eq_left, exists_eq_left', exists_eq_right', Root.live.injEq, eq_self_iff_true, exists_eq, and_true, T.toSh, toShL_ints, toShL_intsO, intsO, rowsO]
  simp -implicitDefEqProofs only [List.append_nil, List.cons_append, Nat.reduceLeDiff, afterCall, absT_rowsO, absT_intsO, absT, absL, updL, updS, freeAll, rid, T.noSh, T.noShL, Nat.zero_le, go_sem, List.reduceReplicate, Nat.reduceEqDiff, Nat.reduceAdd, Nat.reduceLeDiff, Nat.reduceMul, Nat.reduceSub, Nat.reduceDiv, Int.reduceToNat, Nat.reduceLT, Int.reduceLT, Int.reduceLE, ↓reduceIte, reduceCtorEq, rat, forall_apply_eq_imp_iff₂, toNat_cast, List.lookup_cons, Nat.reduceBEq, beq_self_eq_true, rid, openG.eq_1, openG.eq_2, cellsV, noLk, readOK, readA, mergeR_at]
  have hc9 := laws_eqStrategy_ok (brR g s).1 (brR g s).1 (rowsS_12 hf01) (rowsS_12 hf01)
  (try simp only [gameT, stratT, claimT, gameO, stratO, claimO, nodes, nodesO, rows, rowsO, ints, intsO, brO] at hc9)
  refine CallW.pure hc9 [46002, 47002] rfl Try.call25 ?_ (by first | trivial | simp [T.noSh, T.noShL, rat]) rfl ?_
  · simp -implicitDefEqProofs only [Int.natCast_zero, Int.cast_ofNat_Int, Int.natCast_one, Nat.le_refl, Nat.reduceLeDiff, Nat.sub_self, Nat.reduceSub, List.getElem?_cons_zero, List.getElem?_cons_succ, vt_self, vaL, vtL, va, vt, vb, maT, List.cons_append, List.nil_append, List.append_nil, true_or, or_true, go_sem, List.reduceReplicate, Nat.reduceEqDiff, Nat.reduceAdd, Nat.reduceLeDiff, Nat.reduceMul, Nat.reduceSub, Nat.reduceDiv, Int.reduceToNat, Nat.reduceLT, Int.reduceLT, Int.reduceLE, ↓reduceIte, reduceCtorEq, ints, rows, rat, rats, ratsO, toShL_ratC, List.mem_cons, List.mem_nil_iff, List.not_mem_nil, or_false, false_or, exists_eq_left, exists_eq_left', exists_eq_right', Root.live.injEq, eq_self_iff_true, exists_eq, and_true, T.toSh, toShL_ints, toShL_intsO, intsO, rowsO]
  simp -implicitDefEqProofs only [go_sem, List.reduceReplicate, Nat.reduceEqDiff, Nat.reduceAdd, Nat.reduceLeDiff, Nat.reduceMul, Nat.reduceSub, Nat.reduceDiv, Int.reduceToNat, Nat.reduceLT, Int.reduceLT, Int.reduceLE, ↓reduceIte, reduceCtorEq, forall_apply_eq_imp_iff₂, ints, rows, rat, rats, toNat_cast, List.lookup_cons, Nat.reduceBEq, beq_self_eq_true, rid, openG.eq_1, openG.eq_2, cellsV, noLk, readOK, readA, mergeR_at, not_true_eq_false, decide_true, decide_false]
  have hc10 := laws_toGame_ok g hg12
  (try simp only [gameT, stratT, claimT, gameO, stratO, claimO, nodes, nodesO, rows, rowsO, ints, intsO, brO] at hc10)
  refine CallC.res hc10 [] rfl Try.call21 (fun e R' hR => ?_) (.inl rfl) ?_
  · simp -implicitDefEqProofs only [Int.natCast_zero, Int.cast_ofNat_Int, Int.natCast_one, Nat.le_refl, Nat.reduceLeDiff, Nat.sub_self, Nat.reduceSub, List.getElem?_cons_zero, List.getElem?_cons_succ, vt_self, vaL, vtL, va, vt, vb, maT, List.cons_append, List.nil_append, List.append_nil, true_or, or_true, go_sem, List.reduceReplicate, Nat.reduceEqDiff, Nat.reduceAdd, Nat.reduceLeDiff, Nat.reduceMul, Nat.reduceSub, Nat.reduceDiv, Int.reduceToNat, Nat.reduceLT, Int.reduceLT, Int.reduceLE, ↓reduceIte, reduceCtorEq, ints, rows, rat, rats, ratsO, toShL_ratC, List.mem_cons, List.mem_nil_iff, List.not_mem_nil, or_false, false_or, exists_eq_left, exists_eq_left', exists_eq_right', Root.live.injEq, eq_self_iff_true, exists_eq, and_true, T.toSh, toShL_ints, toShL_intsO, intsO, rowsO]
  simp -implicitDefEqProofs only [List.append_nil, List.cons_append, Nat.reduceLeDiff, afterCall, absT_rowsO, absT_intsO, absT, absL, updL, updS, freeAll, rid, T.noSh, T.noShL, Nat.zero_le, go_sem, List.reduceReplicate, Nat.reduceEqDiff, Nat.reduceAdd, Nat.reduceLeDiff, Nat.reduceMul, Nat.reduceSub, Nat.reduceDiv, Int.reduceToNat, Nat.reduceLT, Int.reduceLT, Int.reduceLE, ↓reduceIte, reduceCtorEq, rat, forall_apply_eq_imp_iff₂, toNat_cast, List.lookup_cons, Nat.reduceBEq, beq_self_eq_true, rid, openG.eq_1, openG.eq_2, cellsV, noLk, readOK, readA, mergeR_at]
  have hc11 := laws_eqGame_ok g g hg12 hg12
  (try simp only [gameT, stratT, claimT, gameO, stratO, claimO, nodes, nodesO, rows, rowsO, ints, intsO, brO] at hc11)
  refine CallV.pure hc11 [41001, 41002, 41003, 56, 57001, 57002] rfl Try.call24 (fun e R' hR => ?_) (by first | trivial | simp [T.noSh, T.noShL, rat]) (fun _ => rfl) ?_
  · have hq41001 := (hR 41001).resolve_left (by simp -implicitDefEqProofs only [go_sem, List.reduceReplicate, Nat.reduceEqDiff, Nat.reduceAdd, Nat.reduceLeDiff, Nat.reduceMul, Nat.reduceSub, Nat.reduceDiv, Int.reduceToNat, Nat.reduceLT, Int.reduceLT, Int.reduceLE, ↓reduceIte, reduceCtorEq, forall_apply_eq_imp_iff₂, ints, rows, rat, rats, toNat_cast, not_false_eq_true]); have hq41002 := (hR 41002).resolve_left (by simp -implicitDefEqProofs only [go_sem, List.reduceReplicate, Nat.reduceEqDiff, Nat.reduceAdd, Nat.reduceLeDiff, Nat.reduceMul, Nat.reduceSub, Nat.reduceDiv, Int.reduceToNat, Nat.reduceLT, Int.reduceLT, Int.reduceLE, ↓reduceIte, reduceCtorEq, forall_apply_eq_imp_iff₂, ints, rows, rat, rats, toNat_cast, not_false_eq_true]); have hq41003 := (hR 41003).resolve_left (by simp -implicitDefEqProofs only [go_sem, List.reduceReplicate, Nat.reduceEqDiff, Nat.reduceAdd, Nat.reduceLeDiff, Nat.reduceMul, Nat.reduceSub, Nat.reduceDiv, Int.reduceToNat, Nat.reduceLT, Int.reduceLT, Int.reduceLE, ↓reduceIte, reduceCtorEq, forall_apply_eq_imp_iff₂, ints, rows, rat, rats, toNat_cast, not_false_eq_true]); have hq56 := (hR 56).resolve_left (by simp -implicitDefEqProofs only [go_sem, List.reduceReplicate, Nat.reduceEqDiff, Nat.reduceAdd, Nat.reduceLeDiff, Nat.reduceMul, Nat.reduceSub, Nat.reduceDiv, Int.reduceToNat, Nat.reduceLT, Int.reduceLT, Int.reduceLE, ↓reduceIte, reduceCtorEq, forall_apply_eq_imp_iff₂, ints, rows, rat, rats, toNat_cast, not_false_eq_true]); have hq57001 := (hR 57001).resolve_left (by simp -implicitDefEqProofs only [go_sem, List.reduceReplicate, Nat.reduceEqDiff, Nat.reduceAdd, Nat.reduceLeDiff, Nat.reduceMul, Nat.reduceSub, Nat.reduceDiv, Int.reduceToNat, Nat.reduceLT, Int.reduceLT, Int.reduceLE, ↓reduceIte, reduceCtorEq, forall_apply_eq_imp_iff₂, ints, rows, rat, rats, toNat_cast, not_false_eq_true]); have hq57002 := (hR 57002).resolve_left (by simp -implicitDefEqProofs only [go_sem, List.reduceReplicate, Nat.reduceEqDiff, Nat.reduceAdd, Nat.reduceLeDiff, Nat.reduceMul, Nat.reduceSub, Nat.reduceDiv, Int.reduceToNat, Nat.reduceLT, Int.reduceLT, Int.reduceLE, ↓reduceIte, reduceCtorEq, forall_apply_eq_imp_iff₂, ints, rows, rat, rats, toNat_cast, not_false_eq_true])
    simp -implicitDefEqProofs only [go_sem, List.reduceReplicate, Nat.reduceEqDiff, Nat.reduceAdd, Nat.reduceLeDiff, Nat.reduceMul, Nat.reduceSub, Nat.reduceDiv, Int.reduceToNat, Nat.reduceLT, Int.reduceLT, Int.reduceLE, ↓reduceIte, reduceCtorEq, forall_apply_eq_imp_iff₂, ints, rows, rat, rats, toNat_cast] at hq41001 hq41002 hq41003 hq56 hq57001 hq57002
    simp -implicitDefEqProofs only [Int.natCast_zero, Int.cast_ofNat_Int, Int.natCast_one, Nat.le_refl, Nat.reduceLeDiff, Nat.sub_self, Nat.reduceSub, List.getElem?_cons_zero, List.getElem?_cons_succ, vt_self, vaL, vtL, va, vt, vb, maT, List.cons_append, List.nil_append, List.append_nil, true_or, or_true, go_sem, List.reduceReplicate, Nat.reduceEqDiff, Nat.reduceAdd, Nat.reduceLeDiff, Nat.reduceMul, Nat.reduceSub, Nat.reduceDiv, Int.reduceToNat, Nat.reduceLT, Int.reduceLT, Int.reduceLE, ↓reduceIte, reduceCtorEq, ints, rows, rat, rats, ratsO, toShL_ratC, List.mem_cons, List.mem_nil_iff, List.not_mem_nil, or_false, false_or, exists_eq_left, exists_eq_left', exists_eq_right', Root.live.injEq, eq_self_iff_true, exists_eq, and_true, T.toSh, toShL_ints, toShL_intsO, intsO, rowsO, hq41001, hq41002, hq41003, hq56, hq57001, hq57002]
  simp -implicitDefEqProofs only [go_sem, List.reduceReplicate, Nat.reduceEqDiff, Nat.reduceAdd, Nat.reduceLeDiff, Nat.reduceMul, Nat.reduceSub, Nat.reduceDiv, Int.reduceToNat, Nat.reduceLT, Int.reduceLT, Int.reduceLE, ↓reduceIte, reduceCtorEq, forall_apply_eq_imp_iff₂, ints, rows, rat, rats, toNat_cast, List.lookup_cons, Nat.reduceBEq, beq_self_eq_true, rid, openG.eq_1, openG.eq_2, cellsV, noLk, readOK, readA, mergeR_at, not_true_eq_false, decide_true, decide_false]
  have hc12 := laws_toStrategy_ok s hs12
  (try simp only [gameT, stratT, claimT, gameO, stratO, claimO, nodes, nodesO, rows, rowsO, ints, intsO, brO] at hc12)
  refine CallC.res hc12 [] rfl Try.call22 (fun e R' hR => ?_) (.inl rfl) ?_
  · simp -implicitDefEqProofs only [Int.natCast_zero, Int.cast_ofNat_Int, Int.natCast_one, Nat.le_refl, Nat.reduceLeDiff, Nat.sub_self, Nat.reduceSub, List.getElem?_cons_zero, List.getElem?_cons_succ, vt_self, vaL, vtL, va, vt, vb, maT, List.cons_append, List.nil_append, List.append_nil, true_or, or_true, go_sem, List.reduceReplicate, Nat.reduceEqDiff, Nat.reduceAdd, Nat.reduceLeDiff, Nat.reduceMul, Nat.reduceSub, Nat.reduceDiv, Int.reduceToNat, Nat.reduceLT, Int.reduceLT, Int.reduceLE, ↓reduceIte, reduceCtorEq, ints, rows, rat, rats, ratsO, toShL_ratC, List.mem_cons, List.mem_nil_iff, List.not_mem_nil, or_false, false_or, exists_eq_left, exists_eq_left', exists_eq_right', Root.live.injEq, eq_self_iff_true, exists_eq, and_true, T.toSh, toShL_ints, toShL_intsO, intsO, rowsO]
  simp -implicitDefEqProofs only [List.append_nil, List.cons_append, Nat.reduceLeDiff, afterCall, absT_rowsO, absT_intsO, absT, absL, updL, updS, freeAll, rid, T.noSh, T.noShL, Nat.zero_le, go_sem, List.reduceReplicate, Nat.reduceEqDiff, Nat.reduceAdd, Nat.reduceLeDiff, Nat.reduceMul, Nat.reduceSub, Nat.reduceDiv, Int.reduceToNat, Nat.reduceLT, Int.reduceLT, Int.reduceLE, ↓reduceIte, reduceCtorEq, rat, forall_apply_eq_imp_iff₂, toNat_cast, List.lookup_cons, Nat.reduceBEq, beq_self_eq_true, rid, openG.eq_1, openG.eq_2, cellsV, noLk, readOK, readA, mergeR_at]
  have hc13 := laws_eqStrategy_ok s s hs12 hs12
  (try simp only [gameT, stratT, claimT, gameO, stratO, claimO, nodes, nodesO, rows, rowsO, ints, intsO, brO] at hc13)
  refine CallV.pure hc13 [42002, 61] rfl Try.call25 (fun e R' hR => ?_) (by first | trivial | simp [T.noSh, T.noShL, rat]) (fun _ => rfl) ?_
  · have hq42002 := (hR 42002).resolve_left (by simp -implicitDefEqProofs only [go_sem, List.reduceReplicate, Nat.reduceEqDiff, Nat.reduceAdd, Nat.reduceLeDiff, Nat.reduceMul, Nat.reduceSub, Nat.reduceDiv, Int.reduceToNat, Nat.reduceLT, Int.reduceLT, Int.reduceLE, ↓reduceIte, reduceCtorEq, forall_apply_eq_imp_iff₂, ints, rows, rat, rats, toNat_cast, not_false_eq_true]); have hq61 := (hR 61).resolve_left (by simp -implicitDefEqProofs only [go_sem, List.reduceReplicate, Nat.reduceEqDiff, Nat.reduceAdd, Nat.reduceLeDiff, Nat.reduceMul, Nat.reduceSub, Nat.reduceDiv, Int.reduceToNat, Nat.reduceLT, Int.reduceLT, Int.reduceLE, ↓reduceIte, reduceCtorEq, forall_apply_eq_imp_iff₂, ints, rows, rat, rats, toNat_cast, not_false_eq_true])
    simp -implicitDefEqProofs only [go_sem, List.reduceReplicate, Nat.reduceEqDiff, Nat.reduceAdd, Nat.reduceLeDiff, Nat.reduceMul, Nat.reduceSub, Nat.reduceDiv, Int.reduceToNat, Nat.reduceLT, Int.reduceLT, Int.reduceLE, ↓reduceIte, reduceCtorEq, forall_apply_eq_imp_iff₂, ints, rows, rat, rats, toNat_cast] at hq42002 hq61
    simp -implicitDefEqProofs only [Int.natCast_zero, Int.cast_ofNat_Int, Int.natCast_one, Nat.le_refl, Nat.reduceLeDiff, Nat.sub_self, Nat.reduceSub, List.getElem?_cons_zero, List.getElem?_cons_succ, vt_self, vaL, vtL, va, vt, vb, maT, List.cons_append, List.nil_append, List.append_nil, true_or, or_true, go_sem, List.reduceReplicate, Nat.reduceEqDiff, Nat.reduceAdd, Nat.reduceLeDiff, Nat.reduceMul, Nat.reduceSub, Nat.reduceDiv, Int.reduceToNat, Nat.reduceLT, Int.reduceLT, Int.reduceLE, ↓reduceIte, reduceCtorEq, ints, rows, rat, rats, ratsO, toShL_ratC, List.mem_cons, List.mem_nil_iff, List.not_mem_nil, or_false, false_or, exists_eq_left, exists_eq_left', exists_eq_right', Root.live.injEq, eq_self_iff_true, exists_eq, and_true, T.toSh, toShL_ints, toShL_intsO, intsO, rowsO, hq42002, hq61]
  simp -implicitDefEqProofs only [go_sem, List.reduceReplicate, Nat.reduceEqDiff, Nat.reduceAdd, Nat.reduceLeDiff, Nat.reduceMul, Nat.reduceSub, Nat.reduceDiv, Int.reduceToNat, Nat.reduceLT, Int.reduceLT, Int.reduceLE, ↓reduceIte, reduceCtorEq, forall_apply_eq_imp_iff₂, ints, rows, rat, rats, toNat_cast, List.lookup_cons, Nat.reduceBEq, beq_self_eq_true, rid, openG.eq_1, openG.eq_2, cellsV, noLk, readOK, readA, mergeR_at, not_true_eq_false, decide_true, decide_false]
  have hgt := totG_le hgS
  have hc14 := laws_markGame_ok g 1 hgS (by omega) (by omega)
  (try simp only [gameT, stratT, claimT, gameO, stratO, claimO, nodes, nodesO, rows, rowsO, ints, intsO, brO] at hc14)
  refine CallW.ref hc14 [41001, 41002, 41003] [] rfl Try.call39 (by simp) ?_ (by simp) ?_ (.inl rfl) ?_
  · simp -implicitDefEqProofs only [rootOf_arr, rootOf_box, rootOf_any, srcsOK, updL, updS, upd_apply, Nat.reduceEqDiff, ↓reduceIte, mkRoots, and_true, ints, rows, intsO, rowsO]
  · simp -implicitDefEqProofs only [Int.natCast_zero, Int.cast_ofNat_Int, Int.natCast_one, Nat.le_refl, Nat.reduceLeDiff, Nat.sub_self, Nat.reduceSub, List.getElem?_cons_zero, List.getElem?_cons_succ, vt_self, vaL, vtL, va, vt, vb, maT, List.cons_append, List.nil_append, List.append_nil, true_or, or_true, go_sem, List.reduceReplicate, Nat.reduceEqDiff, Nat.reduceAdd, Nat.reduceLeDiff, Nat.reduceMul, Nat.reduceSub, Nat.reduceDiv, Int.reduceToNat, Nat.reduceLT, Int.reduceLT, Int.reduceLE, ↓reduceIte, reduceCtorEq, ints, rows, rat, rats, ratsO, toShL_ratC, List.mem_cons, List.mem_nil_iff, List.not_mem_nil, or_false, false_or, exists_eq_left, exists_eq_left', exists_eq_right', Root.live.injEq, eq_self_iff_true, exists_eq, and_true, T.toSh, toShL_ints, toShL_intsO, intsO, rowsO]
  simp -implicitDefEqProofs only [List.append_nil, List.cons_append, Nat.reduceLeDiff, afterCall, absT_rowsO, absT_intsO, absT, absL, updL, updS, freeAll, rid, T.noSh, T.noShL, Nat.zero_le, go_sem, List.reduceReplicate, Nat.reduceEqDiff, Nat.reduceAdd, Nat.reduceLeDiff, Nat.reduceMul, Nat.reduceSub, Nat.reduceDiv, Int.reduceToNat, Nat.reduceLT, Int.reduceLT, Int.reduceLE, ↓reduceIte, reduceCtorEq, rat, forall_apply_eq_imp_iff₂, toNat_cast, List.lookup_cons, Nat.reduceBEq, beq_self_eq_true, rid, openG.eq_1, openG.eq_2, cellsV, noLk, readOK, readA, mergeR_at]
  have hst := hsS.2
  have hst1 := hsS.1
  have hc15 := laws_markStrategy_ok s (1 + totG g) (by omega) (by omega) (by omega) (by omega)
  (try simp only [gameT, stratT, claimT, gameO, stratO, claimO, nodes, nodesO, rows, rowsO, ints, intsO, brO] at hc15)
  refine CallW.ref hc15 [42002] [] rfl Try.call40 (by simp) ?_ (by simp) ?_ (.inl rfl) ?_
  · simp -implicitDefEqProofs only [rootOf_arr, rootOf_box, rootOf_any, srcsOK, updL, updS, upd_apply, Nat.reduceEqDiff, ↓reduceIte, mkRoots, and_true, ints, rows, intsO, rowsO]
  · simp -implicitDefEqProofs only [Int.natCast_zero, Int.cast_ofNat_Int, Int.natCast_one, Nat.le_refl, Nat.reduceLeDiff, Nat.sub_self, Nat.reduceSub, List.getElem?_cons_zero, List.getElem?_cons_succ, vt_self, vaL, vtL, va, vt, vb, maT, List.cons_append, List.nil_append, List.append_nil, true_or, or_true, go_sem, List.reduceReplicate, Nat.reduceEqDiff, Nat.reduceAdd, Nat.reduceLeDiff, Nat.reduceMul, Nat.reduceSub, Nat.reduceDiv, Int.reduceToNat, Nat.reduceLT, Int.reduceLT, Int.reduceLE, ↓reduceIte, reduceCtorEq, ints, rows, rat, rats, ratsO, toShL_ratC, List.mem_cons, List.mem_nil_iff, List.not_mem_nil, or_false, false_or, exists_eq_left, exists_eq_left', exists_eq_right', Root.live.injEq, eq_self_iff_true, exists_eq, and_true, T.toSh, toShL_ints, toShL_intsO, intsO, rowsO]
  simp -implicitDefEqProofs only [List.append_nil, List.cons_append, Nat.reduceLeDiff, afterCall, absT_rowsO, absT_intsO, absT, absL, updL, updS, freeAll, rid, T.noSh, T.noShL, Nat.zero_le, go_sem, List.reduceReplicate, Nat.reduceEqDiff, Nat.reduceAdd, Nat.reduceLeDiff, Nat.reduceMul, Nat.reduceSub, Nat.reduceDiv, Int.reduceToNat, Nat.reduceLT, Int.reduceLT, Int.reduceLE, ↓reduceIte, reduceCtorEq, rat, forall_apply_eq_imp_iff₂, toNat_cast, List.lookup_cons, Nat.reduceBEq, beq_self_eq_true, rid, openG.eq_1, openG.eq_2, cellsV, noLk, readOK, readA, mergeR_at]
  refine ⟨fun _ => ?_, fun h => absurd h (by omega)⟩
  have hc16 := laws_eqStrategy_ok (brR g s).1 (brR g s).1 (rowsS_12 hf01) (rowsS_12 hf01)
  (try simp only [gameT, stratT, claimT, gameO, stratO, claimO, nodes, nodesO, rows, rowsO, ints, intsO, brO] at hc16)
  refine CallW.pure hc16 [46002, 47002] rfl Try.call25 ?_ (by first | trivial | simp [T.noSh, T.noShL, rat]) rfl ?_
  · simp -implicitDefEqProofs only [Int.natCast_zero, Int.cast_ofNat_Int, Int.natCast_one, Nat.le_refl, Nat.reduceLeDiff, Nat.sub_self, Nat.reduceSub, List.getElem?_cons_zero, List.getElem?_cons_succ, vt_self, vaL, vtL, va, vt, vb, maT, List.cons_append, List.nil_append, List.append_nil, true_or, or_true, go_sem, List.reduceReplicate, Nat.reduceEqDiff, Nat.reduceAdd, Nat.reduceLeDiff, Nat.reduceMul, Nat.reduceSub, Nat.reduceDiv, Int.reduceToNat, Nat.reduceLT, Int.reduceLT, Int.reduceLE, ↓reduceIte, reduceCtorEq, ints, rows, rat, rats, ratsO, toShL_ratC, List.mem_cons, List.mem_nil_iff, List.not_mem_nil, or_false, false_or, exists_eq_left, exists_eq_left', exists_eq_right', Root.live.injEq, eq_self_iff_true, exists_eq, and_true, T.toSh, toShL_ints, toShL_intsO, intsO, rowsO]
  simp -implicitDefEqProofs only [go_sem, List.reduceReplicate, Nat.reduceEqDiff, Nat.reduceAdd, Nat.reduceLeDiff, Nat.reduceMul, Nat.reduceSub, Nat.reduceDiv, Int.reduceToNat, Nat.reduceLT, Int.reduceLT, Int.reduceLE, ↓reduceIte, reduceCtorEq, forall_apply_eq_imp_iff₂, ints, rows, rat, rats, toNat_cast, List.lookup_cons, Nat.reduceBEq, beq_self_eq_true, rid, openG.eq_1, openG.eq_2, cellsV, noLk, readOK, readA, mergeR_at, not_true_eq_false, decide_true, decide_false]
  have hc17 := laws_markStrategy_ok (brR g s).1 1 (by omega) (by omega) (by omega) (by omega)
  (try simp only [gameT, stratT, claimT, gameO, stratO, claimO, nodes, nodesO, rows, rowsO, ints, intsO, brO] at hc17)
  refine CallW.ref hc17 [46002] [] rfl Try.call40 (by simp) ?_ (by simp) ?_ (.inl rfl) ?_
  · simp -implicitDefEqProofs only [rootOf_arr, rootOf_box, rootOf_any, srcsOK, updL, updS, upd_apply, Nat.reduceEqDiff, ↓reduceIte, mkRoots, and_true, ints, rows, intsO, rowsO]
  · simp -implicitDefEqProofs only [Int.natCast_zero, Int.cast_ofNat_Int, Int.natCast_one, Nat.le_refl, Nat.reduceLeDiff, Nat.sub_self, Nat.reduceSub, List.getElem?_cons_zero, List.getElem?_cons_succ, vt_self, vaL, vtL, va, vt, vb, maT, List.cons_append, List.nil_append, List.append_nil, true_or, or_true, go_sem, List.reduceReplicate, Nat.reduceEqDiff, Nat.reduceAdd, Nat.reduceLeDiff, Nat.reduceMul, Nat.reduceSub, Nat.reduceDiv, Int.reduceToNat, Nat.reduceLT, Int.reduceLT, Int.reduceLE, ↓reduceIte, reduceCtorEq, ints, rows, rat, rats, ratsO, toShL_ratC, List.mem_cons, List.mem_nil_iff, List.not_mem_nil, or_false, false_or, exists_eq_left, exists_eq_left', exists_eq_right', Root.live.injEq, eq_self_iff_true, exists_eq, and_true, T.toSh, toShL_ints, toShL_intsO, intsO, rowsO]
  simp -implicitDefEqProofs only [List.append_nil, List.cons_append, Nat.reduceLeDiff, afterCall, absT_rowsO, absT_intsO, absT, absL, updL, updS, freeAll, rid, T.noSh, T.noShL, Nat.zero_le, go_sem, List.reduceReplicate, Nat.reduceEqDiff, Nat.reduceAdd, Nat.reduceLeDiff, Nat.reduceMul, Nat.reduceSub, Nat.reduceDiv, Int.reduceToNat, Nat.reduceLT, Int.reduceLT, Int.reduceLE, ↓reduceIte, reduceCtorEq, rat, forall_apply_eq_imp_iff₂, toNat_cast, List.lookup_cons, Nat.reduceBEq, beq_self_eq_true, rid, openG.eq_1, openG.eq_2, cellsV, noLk, readOK, readA, mergeR_at]
  have hc18 := laws_heldStrategy_marks (brR g s).1 1 hf02 hf03 (by omega) (by omega)
  (try simp only [gameT, stratT, claimT, gameO, stratO, claimO, nodes, nodesO, rows, rowsO, ints, intsO, brO] at hc18)
  refine CallW.pure hc18 [46002] rfl Try.call41 ?_ (by first | trivial | simp [T.noSh, T.noShL, rat]) rfl ?_
  · simp -implicitDefEqProofs only [Int.natCast_zero, Int.cast_ofNat_Int, Int.natCast_one, Nat.le_refl, Nat.reduceLeDiff, Nat.sub_self, Nat.reduceSub, List.getElem?_cons_zero, List.getElem?_cons_succ, vt_self, vaL, vtL, va, vt, vb, maT, List.cons_append, List.nil_append, List.append_nil, true_or, or_true, go_sem, List.reduceReplicate, Nat.reduceEqDiff, Nat.reduceAdd, Nat.reduceLeDiff, Nat.reduceMul, Nat.reduceSub, Nat.reduceDiv, Int.reduceToNat, Nat.reduceLT, Int.reduceLT, Int.reduceLE, ↓reduceIte, reduceCtorEq, ints, rows, rat, rats, ratsO, toShL_ratC, List.mem_cons, List.mem_nil_iff, List.not_mem_nil, or_false, false_or, exists_eq_left, exists_eq_left', exists_eq_right', Root.live.injEq, eq_self_iff_true, exists_eq, and_true, T.toSh, toShL_ints, toShL_intsO, intsO, rowsO]
  simp -implicitDefEqProofs only [go_sem, List.reduceReplicate, Nat.reduceEqDiff, Nat.reduceAdd, Nat.reduceLeDiff, Nat.reduceMul, Nat.reduceSub, Nat.reduceDiv, Int.reduceToNat, Nat.reduceLT, Int.reduceLT, Int.reduceLE, ↓reduceIte, reduceCtorEq, forall_apply_eq_imp_iff₂, ints, rows, rat, rats, toNat_cast, List.lookup_cons, Nat.reduceBEq, beq_self_eq_true, rid, openG.eq_1, openG.eq_2, cellsV, noLk, readOK, readA, mergeR_at]
  refine ⟨fun h => absurd h (by omega), fun _ => ?_⟩
  have hc19 := laws_toGame_ok g hg12
  (try simp only [gameT, stratT, claimT, gameO, stratO, claimO, nodes, nodesO, rows, rowsO, ints, intsO, brO] at hc19)
  refine CallC.res hc19 [] rfl Try.call21 (fun e R' hR => ?_) (.inl rfl) ?_
  · simp -implicitDefEqProofs only [Int.natCast_zero, Int.cast_ofNat_Int, Int.natCast_one, Nat.le_refl, Nat.reduceLeDiff, Nat.sub_self, Nat.reduceSub, List.getElem?_cons_zero, List.getElem?_cons_succ, vt_self, vaL, vtL, va, vt, vb, maT, List.cons_append, List.nil_append, List.append_nil, true_or, or_true, go_sem, List.reduceReplicate, Nat.reduceEqDiff, Nat.reduceAdd, Nat.reduceLeDiff, Nat.reduceMul, Nat.reduceSub, Nat.reduceDiv, Int.reduceToNat, Nat.reduceLT, Int.reduceLT, Int.reduceLE, ↓reduceIte, reduceCtorEq, ints, rows, rat, rats, ratsO, toShL_ratC, List.mem_cons, List.mem_nil_iff, List.not_mem_nil, or_false, false_or, exists_eq_left, exists_eq_left', exists_eq_right', Root.live.injEq, eq_self_iff_true, exists_eq, and_true, T.toSh, toShL_ints, toShL_intsO, intsO, rowsO]
  simp -implicitDefEqProofs only [List.append_nil, List.cons_append, Nat.reduceLeDiff, afterCall, absT_rowsO, absT_intsO, absT, absL, updL, updS, freeAll, rid, T.noSh, T.noShL, Nat.zero_le, go_sem, List.reduceReplicate, Nat.reduceEqDiff, Nat.reduceAdd, Nat.reduceLeDiff, Nat.reduceMul, Nat.reduceSub, Nat.reduceDiv, Int.reduceToNat, Nat.reduceLT, Int.reduceLT, Int.reduceLE, ↓reduceIte, reduceCtorEq, rat, forall_apply_eq_imp_iff₂, toNat_cast, List.lookup_cons, Nat.reduceBEq, beq_self_eq_true, rid, openG.eq_1, openG.eq_2, cellsV, noLk, readOK, readA, mergeR_at]
  have hc20 := laws_toStrategy_ok s hs12
  (try simp only [gameT, stratT, claimT, gameO, stratO, claimO, nodes, nodesO, rows, rowsO, ints, intsO, brO] at hc20)
  refine CallC.res hc20 [] rfl Try.call22 (fun e R' hR => ?_) (.inl rfl) ?_
  · simp -implicitDefEqProofs only [Int.natCast_zero, Int.cast_ofNat_Int, Int.natCast_one, Nat.le_refl, Nat.reduceLeDiff, Nat.sub_self, Nat.reduceSub, List.getElem?_cons_zero, List.getElem?_cons_succ, vt_self, vaL, vtL, va, vt, vb, maT, List.cons_append, List.nil_append, List.append_nil, true_or, or_true, go_sem, List.reduceReplicate, Nat.reduceEqDiff, Nat.reduceAdd, Nat.reduceLeDiff, Nat.reduceMul, Nat.reduceSub, Nat.reduceDiv, Int.reduceToNat, Nat.reduceLT, Int.reduceLT, Int.reduceLE, ↓reduceIte, reduceCtorEq, ints, rows, rat, rats, ratsO, toShL_ratC, List.mem_cons, List.mem_nil_iff, List.not_mem_nil, or_false, false_or, exists_eq_left, exists_eq_left', exists_eq_right', Root.live.injEq, eq_self_iff_true, exists_eq, and_true, T.toSh, toShL_ints, toShL_intsO, intsO, rowsO]
  simp -implicitDefEqProofs only [List.append_nil, List.cons_append, Nat.reduceLeDiff, afterCall, absT_rowsO, absT_intsO, absT, absL, updL, updS, freeAll, rid, T.noSh, T.noShL, Nat.zero_le, go_sem, List.reduceReplicate, Nat.reduceEqDiff, Nat.reduceAdd, Nat.reduceLeDiff, Nat.reduceMul, Nat.reduceSub, Nat.reduceDiv, Int.reduceToNat, Nat.reduceLT, Int.reduceLT, Int.reduceLE, ↓reduceIte, reduceCtorEq, rat, forall_apply_eq_imp_iff₂, toNat_cast, List.lookup_cons, Nat.reduceBEq, beq_self_eq_true, rid, openG.eq_1, openG.eq_2, cellsV, noLk, readOK, readA, mergeR_at]
  have hc21 := impl_BestResponse_ok g s (gameS_L hgS) (rowsS_L hsS)
  (try simp only [gameT, stratT, claimT, gameO, stratO, claimO, nodes, nodesO, rows, rowsO, ints, intsO, brO] at hc21)
  refine CallC.res hc21 [96, 98, 97001, 97002] rfl Try.call38 (fun e R' hR => ?_) (.inr (brO_noSh _)) ?_
  · have hq96 := (hR 96).resolve_left (by simp -implicitDefEqProofs only [go_sem, List.reduceReplicate, Nat.reduceEqDiff, Nat.reduceAdd, Nat.reduceLeDiff, Nat.reduceMul, Nat.reduceSub, Nat.reduceDiv, Int.reduceToNat, Nat.reduceLT, Int.reduceLT, Int.reduceLE, ↓reduceIte, reduceCtorEq, forall_apply_eq_imp_iff₂, ints, rows, rat, rats, toNat_cast, not_false_eq_true]); have hq98 := (hR 98).resolve_left (by simp -implicitDefEqProofs only [go_sem, List.reduceReplicate, Nat.reduceEqDiff, Nat.reduceAdd, Nat.reduceLeDiff, Nat.reduceMul, Nat.reduceSub, Nat.reduceDiv, Int.reduceToNat, Nat.reduceLT, Int.reduceLT, Int.reduceLE, ↓reduceIte, reduceCtorEq, forall_apply_eq_imp_iff₂, ints, rows, rat, rats, toNat_cast, not_false_eq_true]); have hq97001 := (hR 97001).resolve_left (by simp -implicitDefEqProofs only [go_sem, List.reduceReplicate, Nat.reduceEqDiff, Nat.reduceAdd, Nat.reduceLeDiff, Nat.reduceMul, Nat.reduceSub, Nat.reduceDiv, Int.reduceToNat, Nat.reduceLT, Int.reduceLT, Int.reduceLE, ↓reduceIte, reduceCtorEq, forall_apply_eq_imp_iff₂, ints, rows, rat, rats, toNat_cast, not_false_eq_true]); have hq97002 := (hR 97002).resolve_left (by simp -implicitDefEqProofs only [go_sem, List.reduceReplicate, Nat.reduceEqDiff, Nat.reduceAdd, Nat.reduceLeDiff, Nat.reduceMul, Nat.reduceSub, Nat.reduceDiv, Int.reduceToNat, Nat.reduceLT, Int.reduceLT, Int.reduceLE, ↓reduceIte, reduceCtorEq, forall_apply_eq_imp_iff₂, ints, rows, rat, rats, toNat_cast, not_false_eq_true])
    simp -implicitDefEqProofs only [go_sem, List.reduceReplicate, Nat.reduceEqDiff, Nat.reduceAdd, Nat.reduceLeDiff, Nat.reduceMul, Nat.reduceSub, Nat.reduceDiv, Int.reduceToNat, Nat.reduceLT, Int.reduceLT, Int.reduceLE, ↓reduceIte, reduceCtorEq, forall_apply_eq_imp_iff₂, ints, rows, rat, rats, toNat_cast] at hq96 hq98 hq97001 hq97002
    simp -implicitDefEqProofs only [Int.natCast_zero, Int.cast_ofNat_Int, Int.natCast_one, Nat.le_refl, Nat.reduceLeDiff, Nat.sub_self, Nat.reduceSub, List.getElem?_cons_zero, List.getElem?_cons_succ, vt_self, vaL, vtL, va, vt, vb, maT, List.cons_append, List.nil_append, List.append_nil, true_or, or_true, go_sem, List.reduceReplicate, Nat.reduceEqDiff, Nat.reduceAdd, Nat.reduceLeDiff, Nat.reduceMul, Nat.reduceSub, Nat.reduceDiv, Int.reduceToNat, Nat.reduceLT, Int.reduceLT, Int.reduceLE, ↓reduceIte, reduceCtorEq, ints, rows, rat, rats, ratsO, toShL_ratC, List.mem_cons, List.mem_nil_iff, List.not_mem_nil, or_false, false_or, exists_eq_left, exists_eq_left', exists_eq_right', Root.live.injEq, eq_self_iff_true, exists_eq, and_true, T.toSh, toShL_ints, toShL_intsO, intsO, rowsO, hq96, hq98, hq97001, hq97002]
  simp -implicitDefEqProofs only [List.append_nil, List.cons_append, Nat.reduceLeDiff, afterCall, absT_rowsO, absT_intsO, absT, absL, updL, updS, freeAll, rid, T.noSh, T.noShL, Nat.zero_le, go_sem, List.reduceReplicate, Nat.reduceEqDiff, Nat.reduceAdd, Nat.reduceLeDiff, Nat.reduceMul, Nat.reduceSub, Nat.reduceDiv, Int.reduceToNat, Nat.reduceLT, Int.reduceLT, Int.reduceLE, ↓reduceIte, reduceCtorEq, rat, forall_apply_eq_imp_iff₂, toNat_cast, List.lookup_cons, Nat.reduceBEq, beq_self_eq_true, rid, openG.eq_1, openG.eq_2, cellsV, noLk, readOK, readA, mergeR_at]
  have hc22 := laws_eqStrategy_ok (brR g s).1 (brR g s).1 (rowsS_12 hf01) (rowsS_12 hf01)
  (try simp only [gameT, stratT, claimT, gameO, stratO, claimO, nodes, nodesO, rows, rowsO, ints, intsO, brO] at hc22)
  refine CallW.pure hc22 [103002, 47002] rfl Try.call25 ?_ (by first | trivial | simp [T.noSh, T.noShL, rat]) rfl ?_
  · simp -implicitDefEqProofs only [Int.natCast_zero, Int.cast_ofNat_Int, Int.natCast_one, Nat.le_refl, Nat.reduceLeDiff, Nat.sub_self, Nat.reduceSub, List.getElem?_cons_zero, List.getElem?_cons_succ, vt_self, vaL, vtL, va, vt, vb, maT, List.cons_append, List.nil_append, List.append_nil, true_or, or_true, go_sem, List.reduceReplicate, Nat.reduceEqDiff, Nat.reduceAdd, Nat.reduceLeDiff, Nat.reduceMul, Nat.reduceSub, Nat.reduceDiv, Int.reduceToNat, Nat.reduceLT, Int.reduceLT, Int.reduceLE, ↓reduceIte, reduceCtorEq, ints, rows, rat, rats, ratsO, toShL_ratC, List.mem_cons, List.mem_nil_iff, List.not_mem_nil, or_false, false_or, exists_eq_left, exists_eq_left', exists_eq_right', Root.live.injEq, eq_self_iff_true, exists_eq, and_true, T.toSh, toShL_ints, toShL_intsO, intsO, rowsO]
  simp -implicitDefEqProofs only [go_sem, List.reduceReplicate, Nat.reduceEqDiff, Nat.reduceAdd, Nat.reduceLeDiff, Nat.reduceMul, Nat.reduceSub, Nat.reduceDiv, Int.reduceToNat, Nat.reduceLT, Int.reduceLT, Int.reduceLE, ↓reduceIte, reduceCtorEq, forall_apply_eq_imp_iff₂, ints, rows, rat, rats, toNat_cast, List.lookup_cons, Nat.reduceBEq, beq_self_eq_true, rid, openG.eq_1, openG.eq_2, cellsV, noLk, readOK, readA, mergeR_at, not_true_eq_false, decide_true, decide_false]
  have hc23 := laws_heldStrategy_marks (brR g s).1 1 hf02 hf03 (by omega) (by omega)
  (try simp only [gameT, stratT, claimT, gameO, stratO, claimO, nodes, nodesO, rows, rowsO, ints, intsO, brO] at hc23)
  refine CallW.pure hc23 [46002] rfl Try.call41 ?_ (by first | trivial | simp [T.noSh, T.noShL, rat]) rfl ?_
  · simp -implicitDefEqProofs only [Int.natCast_zero, Int.cast_ofNat_Int, Int.natCast_one, Nat.le_refl, Nat.reduceLeDiff, Nat.sub_self, Nat.reduceSub, List.getElem?_cons_zero, List.getElem?_cons_succ, vt_self, vaL, vtL, va, vt, vb, maT, List.cons_append, List.nil_append, List.append_nil, true_or, or_true, go_sem, List.reduceReplicate, Nat.reduceEqDiff, Nat.reduceAdd, Nat.reduceLeDiff, Nat.reduceMul, Nat.reduceSub, Nat.reduceDiv, Int.reduceToNat, Nat.reduceLT, Int.reduceLT, Int.reduceLE, ↓reduceIte, reduceCtorEq, ints, rows, rat, rats, ratsO, toShL_ratC, List.mem_cons, List.mem_nil_iff, List.not_mem_nil, or_false, false_or, exists_eq_left, exists_eq_left', exists_eq_right', Root.live.injEq, eq_self_iff_true, exists_eq, and_true, T.toSh, toShL_ints, toShL_intsO, intsO, rowsO]
  simp -implicitDefEqProofs only [go_sem, List.reduceReplicate, Nat.reduceEqDiff, Nat.reduceAdd, Nat.reduceLeDiff, Nat.reduceMul, Nat.reduceSub, Nat.reduceDiv, Int.reduceToNat, Nat.reduceLT, Int.reduceLT, Int.reduceLE, ↓reduceIte, reduceCtorEq, forall_apply_eq_imp_iff₂, ints, rows, rat, rats, toNat_cast, List.lookup_cons, Nat.reduceBEq, beq_self_eq_true, rid, openG.eq_1, openG.eq_2, cellsV, noLk, readOK, readA, mergeR_at]
  exact ⟨fun h => absurd h (by omega), fun _ => trivial⟩
end
end Go.Ab

set_option linter.unusedSimpArgs false
set_option linter.unusedVariables false
namespace Go.Proofs.Ytgingfdddndlfaa
open Go.ChangeShapes Go.WideShapes Go.ChangeAt Go.RowKit Go.Ab

namespace fnExactBestResponse
theorem said : ∀ xs, wtL [tyGame, tyStrat] xs → Pure Try.prog 8 xs (.b true)
  | [x0, x1], h => by
    obtain ⟨g, rfl, hg⟩ := wt_game h.1
    obtain ⟨s, rfl, hs⟩ := wt_strat h.2.1
    exact laws_FnExactBestResponse_ok g hg s hs
  | [], h => h.elim
  | [_], h => h.2.elim
  | _ :: _ :: _ :: _, h => h.2.2.elim

set_option maxRecDepth 100000 in
theorem lifted (os : Os) (started : os.Started) (H : Type) (enc : TypeId × Value → H) :
    ReturnsInHanded {} Try.checked os 8 .any (Rows.fnExactBestResponseSpec.pre6 enc Try.prog Try.f8 Rows.fnExactBestResponseRow.domain false) (Rows.fnExactBestResponseSpec.post enc Try.prog Try.f8 false true false false) := by
  refine returnsInHanded_of_change (C := Try.checked) (by kernel_rfl) started (by kernel_rfl) Try.func8
    (ChangeSpec.witness6 (enc := enc) (C := Try.checked) false ⟨#[], #[.agg #[.slice none 0 0, .slice none 0 0, .slice none 0 0], .agg #[.int .i64 0, .slice none 0 0]], []⟩ 8 (by kernel_rfl) (by kernel_rfl) (by kernel_rfl) (by kernel_rfl)) ?_
  intro W base args ds gs before hval hW _ _
  refine law_contract (tys := [tyGame, tyStrat]) (by kernel_rfl) (by kernel_rfl) rfl (by kernel_rfl) rfl (fun ds h => ?_) said W base args ds gs before hval hW
  match ds, h with
  | [d0, d1], _ => rfl

theorem andT {a b : Bool} (ha : a = true) (hb : b = true) : (a && b) = true := by rw [ha, hb]; rfl
theorem joined0 : ((Rows.fnExactBestResponseRow.wf (OpenSpec.ofChange Rows.fnExactBestResponseSpec))) = true := by kernel_rfl
theorem joined1 : (laidOutB Try.prog) = true := Try.laidOutT
theorem joined2 : (mapsRowed Try.prog) = true := Try.mapsRowedT
theorem joined3 : (Try.f8.params.all (Try.prog.readableRec ·)) = true := by kernel_rfl
theorem joined4 : (namedTie Try.prog Rows.fnExactBestResponseRow.named Rows.fnExactBestResponseSpec.vars) = true := by kernel_rfl
theorem joined5 : ((Rows.fnExactBestResponseRow.stops == [])) = true := by kernel_rfl
theorem joined6 : ((Try.prog.stops == [])) = true := by kernel_rfl
theorem joined7 : ((Rows.fnExactBestResponseRow.knobs == [])) = true := by kernel_rfl
theorem joined8 : ((Try.prog.stopKnobs == [])) = true := by kernel_rfl
theorem joined9 : ((Rows.fnExactBestResponseRow.inPlace == Try.prog.inPlace 8)) = true := by kernel_rfl
theorem joined10 : ((Rows.fnExactBestResponseRow.unfollowed == Try.prog.unfollowed 8)) = true := by kernel_rfl
theorem joined11 : ((Rows.fnExactBestResponseRow.recurses == Try.prog.recurses 8)) = true := by kernel_rfl
theorem joined12 : ((Rows.fnExactBestResponseRow.named == Try.prog.varsNamed 8)) = true := by kernel_rfl
theorem joined13 : ((Rows.fnExactBestResponseRow.maps == (Try.f8.params.toList ++ Rows.fnExactBestResponseSpec.plain.varTypes Try.prog).any (Try.prog.mapsRec ·))) = true := by kernel_rfl
theorem joined14 : ((Rows.fnExactBestResponseRow.ifaces == (Try.f8.params.toList ++ Rows.fnExactBestResponseSpec.plain.varTypes Try.prog).any (Try.prog.ifacesRec ·))) = true := by kernel_rfl
theorem joined15 : ((Rows.fnExactBestResponseRow.mapsOut == Try.prog.mapsAmong Try.f8.resultTypes.toList)) = true := by kernel_rfl
theorem joined16 : ((Rows.fnExactBestResponseRow.loops == (Try.f8.params.toList ++ Rows.fnExactBestResponseSpec.plain.varTypes Try.prog).any (Try.prog.loopsFrom ·))) = true := by kernel_rfl
theorem joined17 : ((Rows.fnExactBestResponseRow.wideKeys == (Try.f8.params.toList ++ Rows.fnExactBestResponseSpec.plain.varTypes Try.prog ++ Try.f8.resultTypes.toList).any (Try.prog.wideKeysFrom ·))) = true := by kernel_rfl
theorem joined18 : (Rows.fnExactBestResponseSpec.vars.all (Try.prog.varReadable ·)) = true := by kernel_rfl
theorem joined19 : (Try.f8.resultTypes.all (fun t => Try.prog.readableRec t && decide (t < Try.prog.types.size))) = true := by kernel_rfl
theorem joined20 : ((Rows.fnExactBestResponseRow.ifacesOut == Try.f8.resultTypes.toList.any (Try.prog.ifacesRec ·))) = true := by kernel_rfl
theorem joined21 : ((Rows.fnExactBestResponseRow.loopsOut == Try.f8.resultTypes.toList.any (Try.prog.loopsFrom ·))) = true := by kernel_rfl
theorem joined22 : ((Rows.fnExactBestResponseRow.plainKeys == Try.prog.plainKeys)) = true := by kernel_rfl
theorem joined23 : (Rows.fnExactBestResponseRow.shortTexts.isNone) = true := by kernel_rfl
theorem joined24 : (Try.prog.stopsHeard) = true := Try.heardT
theorem joined25 : (Try.prog.mayEnter) = true := Try.mayEnterT
theorem joined26 : ((Rows.fnExactBestResponseRow.lifted == Try.prog.liftsFinal)) = true := (by rw [Try.liftsF]; rfl)
theorem joined27 : ((Try.prog.make == some Rows.fnExactBestResponseRow.make)) = true := (by rw [Try.makeC]; rfl)
theorem joined28 : ((Rows.fnExactBestResponseRow.kinds == (if Rows.fnExactBestResponseRow.domain.isEmpty then [] else Try.f8.params.toList.map fun t => match Try.prog.underlying t with | some (.int k) => some k | _ => none))) = true := by kernel_rfl
theorem joined29 : ((Rows.fnExactBestResponseRow.pinned == Rows.fnExactBestResponseRow.pinnedBy)) = true := by kernel_rfl
theorem joined30 : ((Rows.fnExactBestResponseRow.veiled == (Try.f8.params.toList ++ Rows.fnExactBestResponseSpec.plain.varTypes Try.prog ++ Try.f8.resultTypes.toList).any (Try.prog.veiledRec ·))) = true := by kernel_rfl
theorem joined31 : (Rows.fnExactBestResponseRow.veiledFits Try.prog Try.f8.params.toList (Try.f8.params.toList ++ Rows.fnExactBestResponseSpec.plain.varTypes Try.prog ++ Try.f8.resultTypes.toList)) = true := by kernel_rfl
set_option maxRecDepth 100000 in
theorem joined : joinedFacts Try.prog 8 Try.f8 Rows.fnExactBestResponseSpec Rows.fnExactBestResponseRow = true := by
  unfold joinedFacts
  exact andT (andT (andT (andT (andT (andT (andT (andT (andT (andT (andT (andT (andT (andT (andT (andT (andT (andT (andT (andT (andT (andT (andT (andT (andT (andT (andT (andT (andT (andT (andT (joined0) joined1) joined2) joined3) joined4) joined5) joined6) joined7) joined8) joined9) joined10) joined11) joined12) joined13) joined14) joined15) joined16) joined17) joined18) joined19) joined20) joined21) joined22) joined23) joined24) joined25) joined26) joined27) joined28) joined29) joined30) joined31
theorem over : Rows.fnExactBestResponseRow.holds Try.pinned (OpenSpec.ofChange Rows.fnExactBestResponseSpec) :=
  OpenClaim.holds_of_wide 8 Try.f8 rfl rfl rfl rfl rfl rfl rfl ⟨rfl, rfl, rfl, rfl, rfl⟩ rfl rfl rfl rfl rfl (by kernel_rfl) Try.func8 joined
    (of_decide_eq_true (by kernel_rfl)) (by unfold Func.isWrapper; first | (rw [if_pos (by decide +kernel)]; kernel_rfl) | (rw [if_neg (by decide +kernel)]; exact ⟨rfl, rfl⟩))
    (fun os started H enc _ => lifted os started H enc)
end fnExactBestResponse

theorem fnExactBestResponse_holds : Rows.FnExactBestResponseSaid := fnExactBestResponse.over
#print axioms fnExactBestResponse_holds
end Go.Proofs.Ytgingfdddndlfaa
