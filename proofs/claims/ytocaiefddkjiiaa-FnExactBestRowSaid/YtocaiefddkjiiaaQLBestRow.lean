/- The program's BestRow returns what the reference's returns, for all arguments, and keeps its arguments (and its earlier result): the law FnExactBestRow returns true for every input. No conditions. -/
import Derived.Test.YtocaiefddkjiiaaRows
import Derived.Test.YtocaiefddkjiiaaQ3
/- Contracts: mixes. -/
set_option linter.unusedSimpArgs false
set_option linter.unusedVariables false
namespace Go.Ab
open Go.Proofs

def mixGo : Int × Int → List (Int × Int) → Bool
  | s, [] => decide (s = (1, 1))
  | s, x :: l => isRat x && decide (0 ≤ x.1) && decide ((addR s x).2 = 0) && mixGo (addR s x).1 l
def mixSp : Int → Int × Int → List (Int × Int) → Bool
  | c, s, [] => decide (c = 0) && decide (s = (1, 1))
  | c, s, x :: l => isRat x && decide (0 ≤ x.1) && mixSp (stepA c s x).2 (stepA c s x).1 l
theorem mixSp_err : ∀ (l : List (Int × Int)) (c : Int) (s : Int × Int), c ≠ 0 → mixSp c s l = false
  | [], c, s, h => by simp [mixSp, h]
  | x :: l, c, s, h => by
    rw [mixSp, stepA, if_pos h]
    simp only []
    rw [mixSp_err l c _ h]; simp
theorem mixSp_eq : ∀ (l : List (Int × Int)) (s : Int × Int), mixSp 0 s l = mixGo s l
  | [], s => by simp [mixSp, mixGo]
  | x :: l, s => by
    rw [mixSp, mixGo, stepA, if_neg (by simp)]
    by_cases h : (addR s x).2 = 0
    · rw [h, mixSp_eq l]; simp
    · rw [mixSp_err l _ _ h]; simp [h]
/-- Is p a mix of n? -/
def isMixB (p : List (Int × Int)) (n : Int) : Bool := decide (1 ≤ n ∧ n ≤ 4) && decide ((p.length : Int) = n) && mixGo (0, 1) p

theorem impl_IsMix_ok (p : List (Int × Int)) (n : Int) (hp : p.length ≤ 1000000000000) : Pure Try.prog 33 [rats p, .i n] (.b (isMixB p n)) := by
  refine fun_impl_IsMix (by simp) ?_
  simp -implicitDefEqProofs only [go_sem, List.reduceReplicate, Nat.reduceEqDiff, Nat.reduceAdd, Nat.reduceLeDiff, Nat.reduceMul, Nat.reduceSub, Nat.reduceDiv, Int.reduceToNat, Nat.reduceLT, Int.reduceLT, Int.reduceLE, ↓reduceIte, reduceCtorEq, forall_apply_eq_imp_iff₂, ints, rows, rat, rats, toNat_cast, c_impl_IsMix]
  refine CallW.pure (impl_within_ok n 1 4) [] rfl Try.call93 ?_ (by first | trivial | simp [T.noSh, T.noShL, rat]) rfl ?_
  · simp -implicitDefEqProofs only [Int.natCast_zero, Int.cast_ofNat_Int, Int.natCast_one, Nat.le_refl, Nat.reduceLeDiff, Nat.sub_self, Nat.reduceSub, List.getElem?_cons_zero, List.getElem?_cons_succ, vt_self, vaL, vtL, va, vt, vb, maT, List.cons_append, List.nil_append, List.append_nil, true_or, or_true, go_sem, List.reduceReplicate, Nat.reduceEqDiff, Nat.reduceAdd, Nat.reduceLeDiff, Nat.reduceMul, Nat.reduceSub, Nat.reduceDiv, Int.reduceToNat, Nat.reduceLT, Int.reduceLT, Int.reduceLE, ↓reduceIte, reduceCtorEq, ints, rows, rat, rats, ratsO, toShL_ratC, List.mem_cons, List.mem_nil_iff, List.not_mem_nil, or_false, false_or, exists_eq_left, exists_eq_left', exists_eq_right', Root.live.injEq, eq_self_iff_true, exists_eq, and_true, T.toSh, toShL_ints, toShL_intsO, intsO, rowsO]
  simp -implicitDefEqProofs only [go_sem, List.reduceReplicate, Nat.reduceEqDiff, Nat.reduceAdd, Nat.reduceLeDiff, Nat.reduceMul, Nat.reduceSub, Nat.reduceDiv, Int.reduceToNat, Nat.reduceLT, Int.reduceLT, Int.reduceLE, ↓reduceIte, reduceCtorEq, forall_apply_eq_imp_iff₂, ints, rows, rat, rats, toNat_cast]
  refine ⟨fun h => ⟨fun h1 => ?_, fun h1 => ?_⟩, fun h => ?_⟩
  · rw [isMixB, decide_eq_false (p := (p.length : Int) = n) (by simpa using h1)]; simp
  · have hn : 1 ≤ n ∧ n ≤ 4 := by simpa using h
    have hl : (p.length : Int) = n := by simpa using h1
    refine SemC.loopR (σ := Nat × (Int × Int)) (fun s => St.of [(5, .own 5), (20, .t (rats p)), (21, .t (.i p.length)), (22, .t (.i s.1))] [(5, .box [.i s.2.1, .i s.2.2])]) (fun s => s.1 ≤ p.length ∧ mixGo s.2 (p.drop s.1) = mixGo (0, 1) p) (fun s => p.length - s.1) (0, (0, 1)) (Weak.of _ _ [some 5] (by simp) (by simp) ?_ ?_) ⟨by simp, rfl⟩ fun s hI R hn' hr he => ?_
    · simp -implicitDefEqProofs only [ints, rows, Nat.reduceBEq, Int.add_zero, envOK, maA, maT, upd_apply, Nat.reduceEqDiff, ↓reduceIte, and_true, true_or, or_true, List.map_cons, List.map_nil, Nat.zero_ne_one, and_self, true_and, Int.natCast_zero, Int.cast_ofNat_Int, Int.ofNat_zero, piOf, List.zip_cons_cons, List.zip_nil_right, List.lookup_cons, List.lookup_nil, beq_self_eq_true, rootsOK, mkRoots, mkEnv, rats]
    · exact ⟨⟨_, rfl, .refl _⟩, rfl, trivial⟩
    · obtain ⟨i, s1, s2⟩ := s
      obtain ⟨hi, hm⟩ := hI
      (try simp only [] at hi hm)
      simp -implicitDefEqProofs only [go_sem, List.reduceReplicate, Nat.reduceEqDiff, Nat.reduceAdd, Nat.reduceLeDiff, Nat.reduceMul, Nat.reduceSub, Nat.reduceDiv, Int.reduceToNat, Nat.reduceLT, Int.reduceLT, Int.reduceLE, ↓reduceIte, reduceCtorEq, forall_apply_eq_imp_iff₂, ints, rows, rat, rats, toNat_cast]
      refine ⟨fun h => ⟨by omega, by rw [ratC_length]; omega, by rw [ratC_length]; omega, ?_⟩, fun h => he _ _ ?_⟩
      · obtain ⟨x, hx⟩ : ∃ x, p[i]? = some x := ⟨_, List.getElem?_eq_getElem (by omega)⟩
        rw [ratC_at hx]
        simp -implicitDefEqProofs only [go_sem, List.reduceReplicate, Nat.reduceEqDiff, Nat.reduceAdd, Nat.reduceLeDiff, Nat.reduceMul, Nat.reduceSub, Nat.reduceDiv, Int.reduceToNat, Nat.reduceLT, Int.reduceLT, Int.reduceLE, ↓reduceIte, reduceCtorEq, forall_apply_eq_imp_iff₂, ints, rows, rat, rats, toNat_cast]
        rw [drop_of_get hx, mixGo] at hm
        have hmB : isMixB p n = mixGo (0, 1) p := by rw [isMixB, decide_eq_true hn, decide_eq_true hl]; simp
        refine CallW.pure (impl_IsRatio_ok x) [] rfl Try.call94 ?_ (by first | trivial | simp [T.noSh, T.noShL, rat]) rfl ?_
        · simp -implicitDefEqProofs only [Int.natCast_zero, Int.cast_ofNat_Int, Int.natCast_one, Nat.le_refl, Nat.reduceLeDiff, Nat.sub_self, Nat.reduceSub, List.getElem?_cons_zero, List.getElem?_cons_succ, vt_self, vaL, vtL, va, vt, vb, maT, List.cons_append, List.nil_append, List.append_nil, true_or, or_true, go_sem, List.reduceReplicate, Nat.reduceEqDiff, Nat.reduceAdd, Nat.reduceLeDiff, Nat.reduceMul, Nat.reduceSub, Nat.reduceDiv, Int.reduceToNat, Nat.reduceLT, Int.reduceLT, Int.reduceLE, ↓reduceIte, reduceCtorEq, ints, rows, rat, rats, ratsO, toShL_ratC, List.mem_cons, List.mem_nil_iff, List.not_mem_nil, or_false, false_or, exists_eq_left, exists_eq_left', exists_eq_right', Root.live.injEq, eq_self_iff_true, exists_eq, and_true, T.toSh, toShL_ints, toShL_intsO, intsO, rowsO]
        simp -implicitDefEqProofs only [go_sem, List.reduceReplicate, Nat.reduceEqDiff, Nat.reduceAdd, Nat.reduceLeDiff, Nat.reduceMul, Nat.reduceSub, Nat.reduceDiv, Int.reduceToNat, Nat.reduceLT, Int.reduceLT, Int.reduceLE, ↓reduceIte, reduceCtorEq, forall_apply_eq_imp_iff₂, ints, rows, rat, rats, toNat_cast]
        refine ⟨fun h1 => ⟨fun h2 => hr _ ?_, fun h2 => ?_⟩, fun h1 => hr _ ?_⟩
        · simp -implicitDefEqProofs only [go_sem, List.reduceReplicate, Nat.reduceEqDiff, Nat.reduceAdd, Nat.reduceLeDiff, Nat.reduceMul, Nat.reduceSub, Nat.reduceDiv, Int.reduceToNat, Nat.reduceLT, Int.reduceLT, Int.reduceLE, ↓reduceIte, reduceCtorEq, forall_apply_eq_imp_iff₂, ints, rows, rat, rats, toNat_cast]
          rw [hmB, ← hm, decide_eq_false (p := 0 ≤ x.1) (by omega)]; simp
        · refine CallW.res (impl_AddRatios_ok (s1, s2) x) [] rfl Try.call37 ?_ (.inl rfl) ?_
          · simp -implicitDefEqProofs only [Int.natCast_zero, Int.cast_ofNat_Int, Int.natCast_one, Nat.le_refl, Nat.reduceLeDiff, Nat.sub_self, Nat.reduceSub, List.getElem?_cons_zero, List.getElem?_cons_succ, vt_self, vaL, vtL, va, vt, vb, maT, List.cons_append, List.nil_append, List.append_nil, true_or, or_true, go_sem, List.reduceReplicate, Nat.reduceEqDiff, Nat.reduceAdd, Nat.reduceLeDiff, Nat.reduceMul, Nat.reduceSub, Nat.reduceDiv, Int.reduceToNat, Nat.reduceLT, Int.reduceLT, Int.reduceLE, ↓reduceIte, reduceCtorEq, ints, rows, rat, rats, ratsO, toShL_ratC, List.mem_cons, List.mem_nil_iff, List.not_mem_nil, or_false, false_or, exists_eq_left, exists_eq_left', exists_eq_right', Root.live.injEq, eq_self_iff_true, exists_eq, and_true, T.toSh, toShL_ints, toShL_intsO, intsO, rowsO]
          simp -implicitDefEqProofs only [List.append_nil, List.cons_append, Nat.reduceLeDiff, afterCall, absT_rowsO, absT_intsO, absT, absL, updL, updS, freeAll, rid, T.noSh, T.noShL, Nat.zero_le, go_sem, List.reduceReplicate, Nat.reduceEqDiff, Nat.reduceAdd, Nat.reduceLeDiff, Nat.reduceMul, Nat.reduceSub, Nat.reduceDiv, Int.reduceToNat, Nat.reduceLT, Int.reduceLT, Int.reduceLE, ↓reduceIte, reduceCtorEq, rat, forall_apply_eq_imp_iff₂, toNat_cast, redT, rat]
          refine ⟨fun h3 => hr _ ?_, fun h3 => ?_⟩
          · simp -implicitDefEqProofs only [go_sem, List.reduceReplicate, Nat.reduceEqDiff, Nat.reduceAdd, Nat.reduceLeDiff, Nat.reduceMul, Nat.reduceSub, Nat.reduceDiv, Int.reduceToNat, Nat.reduceLT, Int.reduceLT, Int.reduceLE, ↓reduceIte, reduceCtorEq, forall_apply_eq_imp_iff₂, ints, rows, rat, rats, toNat_cast]
            rw [hmB, ← hm, decide_eq_false (p := (addR (s1, s2) x).2 = 0) (by simpa using h3)]; simp
          · refine hn' _ (i + 1, (addR (s1, s2) x).1) (Weak.of _ _ [some 5] (by simp) (by simp) ?_ ?_) ⟨by simp only []; omega, ?_⟩ (by simp only []; omega)
            · simp -implicitDefEqProofs only [ints, rows, Nat.reduceBEq, Int.add_zero, envOK, maA, maT, upd_apply, Nat.reduceEqDiff, ↓reduceIte, and_true, true_or, or_true, List.map_cons, List.map_nil, Nat.zero_ne_one, and_self, true_and, Int.natCast_zero, Int.cast_ofNat_Int, Int.ofNat_zero, piOf, List.zip_cons_cons, List.zip_nil_right, List.lookup_cons, List.lookup_nil, beq_self_eq_true, rootsOK, mkRoots, mkEnv, rats, next64 (by omega : i < p.length) hp]
            · exact ⟨⟨_, rfl, .refl _⟩, rfl, trivial⟩
            · simp only []
              rw [← hm]
              have e1 : isRat x = true := by simpa using h1
              have e3 : (addR (s1, s2) x).2 = 0 := by simpa using h3
              rw [e1, e3, decide_eq_true (p := 0 ≤ x.1) (by omega)]; simp
        · simp -implicitDefEqProofs only [go_sem, List.reduceReplicate, Nat.reduceEqDiff, Nat.reduceAdd, Nat.reduceLeDiff, Nat.reduceMul, Nat.reduceSub, Nat.reduceDiv, Int.reduceToNat, Nat.reduceLT, Int.reduceLT, Int.reduceLE, ↓reduceIte, reduceCtorEq, forall_apply_eq_imp_iff₂, ints, rows, rat, rats, toNat_cast]
          rw [hmB, ← hm]
          have e1 : isRat x = false := by simpa using h1
          rw [e1]; simp
      · simp -implicitDefEqProofs only [go_sem, List.reduceReplicate, Nat.reduceEqDiff, Nat.reduceAdd, Nat.reduceLeDiff, Nat.reduceMul, Nat.reduceSub, Nat.reduceDiv, Int.reduceToNat, Nat.reduceLT, Int.reduceLT, Int.reduceLE, ↓reduceIte, reduceCtorEq, forall_apply_eq_imp_iff₂, ints, rows, rat, rats, toNat_cast]
        have hmB : isMixB p n = mixGo (0, 1) p := by rw [isMixB, decide_eq_true hn, decide_eq_true hl]; simp
        rw [hmB, ← hm, List.drop_of_length_le (by omega), mixGo]
        simp
  · rw [isMixB, decide_eq_false (p := 1 ≤ n ∧ n ≤ 4) (by simp at h; omega)]; simp

theorem spec_IsMix_ok (p : List (Int × Int)) (n : Int) (hp : p.length ≤ 1000000000000) : Pure Try.prog 36 [rats p, .i n] (.b (isMixB p n)) := by
  refine fun_spec_IsMix (by simp) ?_
  simp -implicitDefEqProofs only [go_sem, List.reduceReplicate, Nat.reduceEqDiff, Nat.reduceAdd, Nat.reduceLeDiff, Nat.reduceMul, Nat.reduceSub, Nat.reduceDiv, Int.reduceToNat, Nat.reduceLT, Int.reduceLT, Int.reduceLE, ↓reduceIte, reduceCtorEq, forall_apply_eq_imp_iff₂, ints, rows, rat, rats, toNat_cast, c_spec_IsMix]
  refine ⟨fun h => ?_, fun h => ?_⟩
  case refine_2 => rw [isMixB, decide_eq_false (p := (p.length : Int) = n) (by simpa using h)]; simp
  have hl : (p.length : Int) = n := by simpa using h
  refine CallW.pure (spec_l01In_ok n 1 4) [] rfl Try.call95 ?_ (by first | trivial | simp [T.noSh, T.noShL, rat]) rfl ?_
  · simp -implicitDefEqProofs only [Int.natCast_zero, Int.cast_ofNat_Int, Int.natCast_one, Nat.le_refl, Nat.reduceLeDiff, Nat.sub_self, Nat.reduceSub, List.getElem?_cons_zero, List.getElem?_cons_succ, vt_self, vaL, vtL, va, vt, vb, maT, List.cons_append, List.nil_append, List.append_nil, true_or, or_true, go_sem, List.reduceReplicate, Nat.reduceEqDiff, Nat.reduceAdd, Nat.reduceLeDiff, Nat.reduceMul, Nat.reduceSub, Nat.reduceDiv, Int.reduceToNat, Nat.reduceLT, Int.reduceLT, Int.reduceLE, ↓reduceIte, reduceCtorEq, ints, rows, rat, rats, ratsO, toShL_ratC, List.mem_cons, List.mem_nil_iff, List.not_mem_nil, or_false, false_or, exists_eq_left, exists_eq_left', exists_eq_right', Root.live.injEq, eq_self_iff_true, exists_eq, and_true, T.toSh, toShL_ints, toShL_intsO, intsO, rowsO]
  simp -implicitDefEqProofs only [go_sem, List.reduceReplicate, Nat.reduceEqDiff, Nat.reduceAdd, Nat.reduceLeDiff, Nat.reduceMul, Nat.reduceSub, Nat.reduceDiv, Int.reduceToNat, Nat.reduceLT, Int.reduceLT, Int.reduceLE, ↓reduceIte, reduceCtorEq, forall_apply_eq_imp_iff₂, ints, rows, rat, rats, toNat_cast]
  refine ⟨fun h => ?_, fun h => ?_⟩
  · rw [isMixB, decide_eq_false (p := 1 ≤ n ∧ n ≤ 4) (by simp at h; omega)]; simp
  have hn : 1 ≤ n ∧ n ≤ 4 := by simpa using h
  have hmB : isMixB p n = mixGo (0, 1) p := by rw [isMixB, decide_eq_true hn, decide_eq_true hl]; simp
  refine CallW.pure (spec_l19Whole_ok 0) [] rfl Try.call96 ?_ (by first | trivial | simp [T.noSh, T.noShL, rat]) rfl ?_
  · simp -implicitDefEqProofs only [Int.natCast_zero, Int.cast_ofNat_Int, Int.natCast_one, Nat.le_refl, Nat.reduceLeDiff, Nat.sub_self, Nat.reduceSub, List.getElem?_cons_zero, List.getElem?_cons_succ, vt_self, vaL, vtL, va, vt, vb, maT, List.cons_append, List.nil_append, List.append_nil, true_or, or_true, go_sem, List.reduceReplicate, Nat.reduceEqDiff, Nat.reduceAdd, Nat.reduceLeDiff, Nat.reduceMul, Nat.reduceSub, Nat.reduceDiv, Int.reduceToNat, Nat.reduceLT, Int.reduceLT, Int.reduceLE, ↓reduceIte, reduceCtorEq, ints, rows, rat, rats, ratsO, toShL_ratC, List.mem_cons, List.mem_nil_iff, List.not_mem_nil, or_false, false_or, exists_eq_left, exists_eq_left', exists_eq_right', Root.live.injEq, eq_self_iff_true, exists_eq, and_true, T.toSh, toShL_ints, toShL_intsO, intsO, rowsO]
  simp -implicitDefEqProofs only [go_sem, List.reduceReplicate, Nat.reduceEqDiff, Nat.reduceAdd, Nat.reduceLeDiff, Nat.reduceMul, Nat.reduceSub, Nat.reduceDiv, Int.reduceToNat, Nat.reduceLT, Int.reduceLT, Int.reduceLE, ↓reduceIte, reduceCtorEq, forall_apply_eq_imp_iff₂, ints, rows, rat, rats, toNat_cast]
  refine SemC.loopR (σ := Nat × Int × (Int × Int)) (fun s => St.of [(0, .t (rats p)), (5, .own 18), (6, .own 6), (7, .t (.i s.1))] [(6, .box [.i s.2.2.1, .i s.2.2.2]), (18, .box [.i s.2.1])]) (fun s => s.1 ≤ p.length ∧ mixSp s.2.1 s.2.2 (p.drop s.1) = mixSp 0 (0, 1) p) (fun s => p.length - s.1) (0, 0, (0, 1)) (Weak.of _ _ [some 6, some 18] (by simp) (by simp) ?_ ?_) ⟨by simp, rfl⟩ fun s hI R hn' hr he => ?_
  · simp -implicitDefEqProofs only [ints, rows, Nat.reduceBEq, Int.add_zero, envOK, maA, maT, upd_apply, Nat.reduceEqDiff, ↓reduceIte, and_true, true_or, or_true, List.map_cons, List.map_nil, Nat.zero_ne_one, and_self, true_and, Int.natCast_zero, Int.cast_ofNat_Int, Int.ofNat_zero, piOf, List.zip_cons_cons, List.zip_nil_right, List.lookup_cons, List.lookup_nil, beq_self_eq_true, rootsOK, mkRoots, mkEnv, rats]
  · exact ⟨⟨_, rfl, .refl _⟩, rfl, ⟨_, rfl, .refl _⟩, rfl, trivial⟩
  · obtain ⟨i, c, s1, s2⟩ := s
    obtain ⟨hi, hm⟩ := hI
    (try simp only [] at hi hm)
    rw [mixSp_eq, ← hmB] at hm
    simp -implicitDefEqProofs only [go_sem, List.reduceReplicate, Nat.reduceEqDiff, Nat.reduceAdd, Nat.reduceLeDiff, Nat.reduceMul, Nat.reduceSub, Nat.reduceDiv, Int.reduceToNat, Nat.reduceLT, Int.reduceLT, Int.reduceLE, ↓reduceIte, reduceCtorEq, forall_apply_eq_imp_iff₂, ints, rows, rat, rats, toNat_cast]
    refine ⟨fun h => ⟨by omega, by rw [ratC_length]; omega, by rw [ratC_length]; omega, ?_⟩, fun h => he _ _ ?_⟩
    · obtain ⟨x, hx⟩ : ∃ x, p[i]? = some x := ⟨_, List.getElem?_eq_getElem (by omega)⟩
      rw [ratC_at hx]
      rw [drop_of_get hx, mixSp] at hm
      refine CallW.pure (spec_IsRatio_ok x) [] rfl Try.call97 ?_ (by first | trivial | simp [T.noSh, T.noShL, rat]) rfl ?_
      · simp -implicitDefEqProofs only [Int.natCast_zero, Int.cast_ofNat_Int, Int.natCast_one, Nat.le_refl, Nat.reduceLeDiff, Nat.sub_self, Nat.reduceSub, List.getElem?_cons_zero, List.getElem?_cons_succ, vt_self, vaL, vtL, va, vt, vb, maT, List.cons_append, List.nil_append, List.append_nil, true_or, or_true, go_sem, List.reduceReplicate, Nat.reduceEqDiff, Nat.reduceAdd, Nat.reduceLeDiff, Nat.reduceMul, Nat.reduceSub, Nat.reduceDiv, Int.reduceToNat, Nat.reduceLT, Int.reduceLT, Int.reduceLE, ↓reduceIte, reduceCtorEq, ints, rows, rat, rats, ratsO, toShL_ratC, List.mem_cons, List.mem_nil_iff, List.not_mem_nil, or_false, false_or, exists_eq_left, exists_eq_left', exists_eq_right', Root.live.injEq, eq_self_iff_true, exists_eq, and_true, T.toSh, toShL_ints, toShL_intsO, intsO, rowsO]
      simp -implicitDefEqProofs only [go_sem, List.reduceReplicate, Nat.reduceEqDiff, Nat.reduceAdd, Nat.reduceLeDiff, Nat.reduceMul, Nat.reduceSub, Nat.reduceDiv, Int.reduceToNat, Nat.reduceLT, Int.reduceLT, Int.reduceLE, ↓reduceIte, reduceCtorEq, forall_apply_eq_imp_iff₂, ints, rows, rat, rats, toNat_cast, ratC_get1 hx]
      refine ⟨fun h1 => ⟨by omega, by rw [ratC_length]; omega, by rw [ratC_length]; omega, fun h2 => hr _ ?_, fun h2 => ?_⟩, fun h1 => hr _ ?_⟩
      · simp -implicitDefEqProofs only [go_sem, List.reduceReplicate, Nat.reduceEqDiff, Nat.reduceAdd, Nat.reduceLeDiff, Nat.reduceMul, Nat.reduceSub, Nat.reduceDiv, Int.reduceToNat, Nat.reduceLT, Int.reduceLT, Int.reduceLE, ↓reduceIte, reduceCtorEq, forall_apply_eq_imp_iff₂, ints, rows, rat, rats, toNat_cast]
        rw [← hm, decide_eq_false (p := 0 ≤ x.1) (by omega)]; simp
      · refine ⟨by omega, by rw [ratC_length]; omega, by rw [ratC_length]; omega, ?_⟩
        (try rw [ratC_at hx])
        refine CallH.ref (spec_l19Add_ok c (s1, s2) x) [18] [] rfl Try.call98 (by simp) ?_ (by simp) (fun e R' hR => ?_) (.inl rfl) ?_
        · simp -implicitDefEqProofs only [rootOf_arr, rootOf_box, rootOf_any, srcsOK, updL, updS, upd_apply, Nat.reduceEqDiff, ↓reduceIte, mkRoots, and_true, ints, rows, intsO, rowsO]
        · simp -implicitDefEqProofs only [Int.natCast_zero, Int.cast_ofNat_Int, Int.natCast_one, Nat.le_refl, Nat.reduceLeDiff, Nat.sub_self, Nat.reduceSub, List.getElem?_cons_zero, List.getElem?_cons_succ, vt_self, vaL, vtL, va, vt, vb, maT, List.cons_append, List.nil_append, List.append_nil, true_or, or_true, go_sem, List.reduceReplicate, Nat.reduceEqDiff, Nat.reduceAdd, Nat.reduceLeDiff, Nat.reduceMul, Nat.reduceSub, Nat.reduceDiv, Int.reduceToNat, Nat.reduceLT, Int.reduceLT, Int.reduceLE, ↓reduceIte, reduceCtorEq, ints, rows, rat, rats, ratsO, toShL_ratC, List.mem_cons, List.mem_nil_iff, List.not_mem_nil, or_false, false_or, exists_eq_left, exists_eq_left', exists_eq_right', Root.live.injEq, eq_self_iff_true, exists_eq, and_true, T.toSh, toShL_ints, toShL_intsO, intsO, rowsO]
        simp -implicitDefEqProofs only [List.append_nil, List.cons_append, Nat.reduceLeDiff, afterCall, absT_rowsO, absT_intsO, absT, absL, updL, updS, freeAll, rid, T.noSh, T.noShL, Nat.zero_le, go_sem, List.reduceReplicate, Nat.reduceEqDiff, Nat.reduceAdd, Nat.reduceLeDiff, Nat.reduceMul, Nat.reduceSub, Nat.reduceDiv, Int.reduceToNat, Nat.reduceLT, Int.reduceLT, Int.reduceLE, ↓reduceIte, reduceCtorEq, rat, forall_apply_eq_imp_iff₂, toNat_cast]
        refine hn' _ (i + 1, (stepA c (s1, s2) x).2, (stepA c (s1, s2) x).1) (Weak.of _ _ [some 6, some 18] (by simp) (by simp) ?_ ?_) ⟨by simp only []; omega, ?_⟩ (by simp only []; omega)
        · simp -implicitDefEqProofs only [ints, rows, Nat.reduceBEq, Int.add_zero, envOK, maA, maT, upd_apply, Nat.reduceEqDiff, ↓reduceIte, and_true, true_or, or_true, List.map_cons, List.map_nil, Nat.zero_ne_one, and_self, true_and, Int.natCast_zero, Int.cast_ofNat_Int, Int.ofNat_zero, piOf, List.zip_cons_cons, List.zip_nil_right, List.lookup_cons, List.lookup_nil, beq_self_eq_true, rootsOK, mkRoots, mkEnv, rats, next64 (by omega : i < p.length) hp]
        · exact ⟨⟨_, rfl, .refl _⟩, rfl, ⟨_, rfl, .refl _⟩, rfl, trivial⟩
        · simp only []
          rw [mixSp_eq, ← hmB, ← hm]
          have e1 : isRat x = true := by simpa using h1
          rw [e1, decide_eq_true (p := 0 ≤ x.1) (by omega)]; simp
      · simp -implicitDefEqProofs only [go_sem, List.reduceReplicate, Nat.reduceEqDiff, Nat.reduceAdd, Nat.reduceLeDiff, Nat.reduceMul, Nat.reduceSub, Nat.reduceDiv, Int.reduceToNat, Nat.reduceLT, Int.reduceLT, Int.reduceLE, ↓reduceIte, reduceCtorEq, forall_apply_eq_imp_iff₂, ints, rows, rat, rats, toNat_cast]
        rw [← hm]
        have e1 : isRat x = false := by simpa using h1
        rw [e1]; simp
    · simp -implicitDefEqProofs only [go_sem, List.reduceReplicate, Nat.reduceEqDiff, Nat.reduceAdd, Nat.reduceLeDiff, Nat.reduceMul, Nat.reduceSub, Nat.reduceDiv, Int.reduceToNat, Nat.reduceLT, Int.reduceLT, Int.reduceLE, ↓reduceIte, reduceCtorEq, forall_apply_eq_imp_iff₂, ints, rows, rat, rats, toNat_cast]
      rw [List.drop_of_length_le (by omega), mixSp] at hm
      refine ⟨fun h1 => ?_, fun h1 => ?_⟩
      · refine CallV.pure (spec_l19Whole_ok 1) [] rfl Try.call96 (fun e R' hR => ?_) (by first | trivial | simp [T.noSh, T.noShL, rat]) (fun _ => rfl) ?_
        · simp -implicitDefEqProofs only [Int.natCast_zero, Int.cast_ofNat_Int, Int.natCast_one, Nat.le_refl, Nat.reduceLeDiff, Nat.sub_self, Nat.reduceSub, List.getElem?_cons_zero, List.getElem?_cons_succ, vt_self, vaL, vtL, va, vt, vb, maT, List.cons_append, List.nil_append, List.append_nil, true_or, or_true, go_sem, List.reduceReplicate, Nat.reduceEqDiff, Nat.reduceAdd, Nat.reduceLeDiff, Nat.reduceMul, Nat.reduceSub, Nat.reduceDiv, Int.reduceToNat, Nat.reduceLT, Int.reduceLT, Int.reduceLE, ↓reduceIte, reduceCtorEq, ints, rows, rat, rats, ratsO, toShL_ratC, List.mem_cons, List.mem_nil_iff, List.not_mem_nil, or_false, false_or, exists_eq_left, exists_eq_left', exists_eq_right', Root.live.injEq, eq_self_iff_true, exists_eq, and_true, T.toSh, toShL_ints, toShL_intsO, intsO, rowsO]
        simp -implicitDefEqProofs only [go_sem, List.reduceReplicate, Nat.reduceEqDiff, Nat.reduceAdd, Nat.reduceLeDiff, Nat.reduceMul, Nat.reduceSub, Nat.reduceDiv, Int.reduceToNat, Nat.reduceLT, Int.reduceLT, Int.reduceLE, ↓reduceIte, reduceCtorEq, forall_apply_eq_imp_iff₂, ints, rows, rat, rats, toNat_cast]
        rw [← hm, decide_eq_true (p := c = 0) (by simpa using h1)]
        by_cases h : (s1, s2) = (1, 1) <;> simp_all
      · rw [← hm, decide_eq_false (p := c = 0) (by simpa using h1)]; simp
end Go.Ab

/- Contracts: lists of ratios in the laws; the law FnExactIsMix. -/
set_option linter.unusedSimpArgs false
set_option linter.unusedVariables false
namespace Go.Ab
open Go.Proofs

theorem laws_szRatioS_ok (l : List (Int × Int)) (left : Int) (hl : (l.length : Int) ≤ 9223372036854775807) (h0 : -1 ≤ left) (h1 : left ≤ 9223372036854775807) : Pure Try.prog 16 [rats l, .i left] (.i (budget l.length left)) := by
  refine fun_laws_szRatioS (by simp) ?_
  simp -implicitDefEqProofs only [go_sem, List.reduceReplicate, Nat.reduceEqDiff, Nat.reduceAdd, Nat.reduceLeDiff, Nat.reduceMul, Nat.reduceSub, Nat.reduceDiv, Int.reduceToNat, Nat.reduceLT, Int.reduceLT, Int.reduceLE, ↓reduceIte, reduceCtorEq, forall_apply_eq_imp_iff₂, ints, rows, rat, rats, toNat_cast, c_laws_szRatioS]
  rw [wrap64 (by omega) (by omega)]
  refine ⟨fun h => ?_, fun h => ?_⟩ <;> simp [budget, h]

theorem laws_toRatio_ok (r : Int × Int) : Pure Try.prog 84 [rat r] (rat r) := by
  refine fun_laws_toRatio (by simp) ?_
  simp -implicitDefEqProofs only [go_sem, List.reduceReplicate, Nat.reduceEqDiff, Nat.reduceAdd, Nat.reduceLeDiff, Nat.reduceMul, Nat.reduceSub, Nat.reduceDiv, Int.reduceToNat, Nat.reduceLT, Int.reduceLT, Int.reduceLE, ↓reduceIte, reduceCtorEq, forall_apply_eq_imp_iff₂, ints, rows, rat, rats, toNat_cast, c_laws_toRatio]

theorem laws_eqRatio_ok (a b : Int × Int) : Pure Try.prog 25 [rat a, rat b] (.b (decide (a = b))) := by
  obtain ⟨an, ad⟩ := a
  obtain ⟨bn, bd⟩ := b
  refine fun_laws_eqRatio (by simp) ?_
  simp -implicitDefEqProofs only [go_sem, List.reduceReplicate, Nat.reduceEqDiff, Nat.reduceAdd, Nat.reduceLeDiff, Nat.reduceMul, Nat.reduceSub, Nat.reduceDiv, Int.reduceToNat, Nat.reduceLT, Int.reduceLT, Int.reduceLE, ↓reduceIte, reduceCtorEq, forall_apply_eq_imp_iff₂, ints, rows, rat, rats, toNat_cast, c_laws_eqRatio]
  refine ⟨fun h => ?_, fun h => ⟨fun h' => ?_, fun h' => ?_⟩⟩
  · have : an ≠ bn := by simpa using h
    simp [this]
  · have : ad ≠ bd := by simpa using h'
    simp [this]
  · have e1 : an = bn := by simpa using h
    have e2 : ad = bd := by simpa using h'
    simp [e1, e2]

/-- A list of ratios that is half written. -/
def rfilled (l : List (Int × Int)) (i : Nat) : List (Int × Int) := l.take i ++ List.replicate (l.length - i) (0, 0)
theorem rfilled_length (l : List (Int × Int)) (i : Nat) (h : i ≤ l.length) : (rfilled l i).length = l.length := by simp [rfilled]; omega
theorem rfilled_all (l : List (Int × Int)) : rfilled l l.length = l := by simp [rfilled]
theorem ratC_replicate : ∀ (n : Nat), made [T.v (.int .i64 0), T.v (.int .i64 0)] n = ratC (List.replicate n (0, 0)) := by
  intro n
  refine List.ext_getElem? fun i => ?_
  have e : made [T.v (.int .i64 0), T.v (.int .i64 0)] n = (List.range (n * 2)).map fun i => [T.v (.int .i64 0), T.v (.int .i64 0)].getD (i % 2) .any := rfl
  rw [e]
  by_cases hi : i < n * 2
  · rw [List.getElem?_map, List.getElem?_range hi]
    have h2 : i / 2 < n := by omega
    have hx : (List.replicate n ((0 : Int), (0 : Int)))[i / 2]? = some (0, 0) := by rw [List.getElem?_replicate, if_pos h2]
    rcases Nat.mod_two_eq_zero_or_one i with h | h
    · have := ratC_get1 hx
      rw [show i / 2 * 2 = i by omega] at this
      rw [this, Option.map_some, h]; rfl
    · have := ratC_get2 hx
      rw [show i / 2 * 2 + 1 = i by omega] at this
      rw [this, Option.map_some, h]; rfl
  · rw [List.getElem?_eq_none (by simpa using hi), List.getElem?_eq_none (by rw [ratC_length]; simpa using hi)]
theorem ratC_set {l : List (Int × Int)} {i : Nat} (r : Int × Int) (h : i < l.length) : (ratC l).take (i * 2) ++ [T.i r.1, T.i r.2] ++ (ratC l).drop (i * 2 + 2) = ratC (l.set i r) := by
  rw [show i * 2 + 2 = (i + 1) * 2 by omega, ratC_take, ratC_drop, ← show ratC [r] = [T.i r.1, T.i r.2] from rfl, ← ratC_append, ← ratC_append]
  congr 1
  rw [List.set_eq_take_append_cons_drop, if_pos h]; simp
theorem rfilled_set {l : List (Int × Int)} {i : Nat} {x : Int × Int} (h : l[i]? = some x) : (rfilled l i).set i x = rfilled l (i + 1) := by
  obtain ⟨hi, rfl⟩ := List.getElem?_eq_some_iff.1 h
  rw [rfilled, rfilled, List.set_append_right _ _ (by simp; omega), List.take_succ_eq_append_getElem hi]
  have e : i - (l.take i).length = 0 := by simp; omega
  have e2 : l.length - i = (l.length - (i + 1)) + 1 := by omega
  rw [e, e2, List.replicate_succ, List.set_cons_zero]
  simp only [List.append_assoc, List.cons_append, List.nil_append]

theorem laws_toRatioS_ok (l : List (Int × Int)) (hl : (l.length : Int) ≤ 1000000000000) : Fun Try.prog 19 [] [.t (rats l)] fun o r => o = [] ∧ r = ratsO l := by
  refine fun_laws_toRatioS (by simp) ?_
  simp -implicitDefEqProofs only [go_sem, List.reduceReplicate, Nat.reduceEqDiff, Nat.reduceAdd, Nat.reduceLeDiff, Nat.reduceMul, Nat.reduceSub, Nat.reduceDiv, Int.reduceToNat, Nat.reduceLT, Int.reduceLT, Int.reduceLE, ↓reduceIte, reduceCtorEq, forall_apply_eq_imp_iff₂, ints, rows, rat, rats, toNat_cast, c_laws_toRatioS]
  refine ⟨by omega, by omega, ?_⟩
  refine SemC.loopR (σ := Nat) (fun i => St.of [(0, .t (rats l)), (3, .own 7), (4, .t (.i i))] [(7, .arr 2 (ratC (rfilled l i)))]) (fun i => i ≤ l.length) (fun i => l.length - i) 0 (Weak.of _ _ [some 7] (by simp) (by simp) ?_ ?_) (by simp) fun i hI R hn hr he => ?_
  · simp -implicitDefEqProofs only [ints, rows, Nat.reduceBEq, Int.add_zero, envOK, maA, maT, upd_apply, Nat.reduceEqDiff, ↓reduceIte, and_true, true_or, or_true, List.map_cons, List.map_nil, Nat.zero_ne_one, and_self, true_and, Int.natCast_zero, Int.cast_ofNat_Int, Int.ofNat_zero, piOf, List.zip_cons_cons, List.zip_nil_right, List.lookup_cons, List.lookup_nil, beq_self_eq_true, rootsOK, mkRoots, mkEnv, rats]
  · exact ⟨⟨_, rfl, by rw [ratC_replicate]; simp only [rfilled, List.take_zero, List.nil_append, Nat.sub_zero]; exact .refl _⟩, rfl, trivial⟩
  · have hlen := rfilled_length l i hI
    simp -implicitDefEqProofs only [go_sem, List.reduceReplicate, Nat.reduceEqDiff, Nat.reduceAdd, Nat.reduceLeDiff, Nat.reduceMul, Nat.reduceSub, Nat.reduceDiv, Int.reduceToNat, Nat.reduceLT, Int.reduceLT, Int.reduceLE, ↓reduceIte, reduceCtorEq, forall_apply_eq_imp_iff₂, ints, rows, rat, rats, toNat_cast]
    refine ⟨fun h => ⟨by omega, by rw [ratC_length]; omega, by rw [ratC_length]; omega, ?_⟩, fun h => he _ _ ?_⟩
    · obtain ⟨x, hx⟩ : ∃ x, l[i]? = some x := ⟨_, List.getElem?_eq_getElem (by omega)⟩
      rw [ratC_at hx]
      refine CallW.pure (laws_toRatio_ok x) [] rfl Try.call84 ?_ (by first | trivial | simp [T.noSh, T.noShL, rat]) rfl ?_
      · simp -implicitDefEqProofs only [Int.natCast_zero, Int.cast_ofNat_Int, Int.natCast_one, Nat.le_refl, Nat.reduceLeDiff, Nat.sub_self, Nat.reduceSub, List.getElem?_cons_zero, List.getElem?_cons_succ, vt_self, vaL, vtL, va, vt, vb, maT, List.cons_append, List.nil_append, List.append_nil, true_or, or_true, go_sem, List.reduceReplicate, Nat.reduceEqDiff, Nat.reduceAdd, Nat.reduceLeDiff, Nat.reduceMul, Nat.reduceSub, Nat.reduceDiv, Int.reduceToNat, Nat.reduceLT, Int.reduceLT, Int.reduceLE, ↓reduceIte, reduceCtorEq, ints, rows, rat, rats, ratsO, toShL_ratC, List.mem_cons, List.mem_nil_iff, List.not_mem_nil, or_false, false_or, exists_eq_left, exists_eq_left', exists_eq_right', Root.live.injEq, eq_self_iff_true, exists_eq, and_true, T.toSh, toShL_ints, toShL_intsO, intsO, rowsO]
      simp -implicitDefEqProofs only [go_sem, List.reduceReplicate, Nat.reduceEqDiff, Nat.reduceAdd, Nat.reduceLeDiff, Nat.reduceMul, Nat.reduceSub, Nat.reduceDiv, Int.reduceToNat, Nat.reduceLT, Int.reduceLT, Int.reduceLE, ↓reduceIte, reduceCtorEq, forall_apply_eq_imp_iff₂, ints, rows, rat, rats, toNat_cast]
      refine ⟨by omega, by rw [ratC_length]; omega, by rw [ratC_length]; omega, hn _ (i + 1) (Weak.of _ _ [some 7] (by simp) (by simp) ?_ ?_) (by omega) (by omega)⟩
      · simp -implicitDefEqProofs only [ints, rows, Nat.reduceBEq, Int.add_zero, envOK, maA, maT, upd_apply, Nat.reduceEqDiff, ↓reduceIte, and_true, true_or, or_true, List.map_cons, List.map_nil, Nat.zero_ne_one, and_self, true_and, Int.natCast_zero, Int.cast_ofNat_Int, Int.ofNat_zero, piOf, List.zip_cons_cons, List.zip_nil_right, List.lookup_cons, List.lookup_nil, beq_self_eq_true, rootsOK, mkRoots, mkEnv, rats, next64 (by omega : i < l.length) (by omega)]
      · refine ⟨⟨_, rfl, ?_⟩, rfl, trivial⟩
        (try simp only [List.cons_append, List.nil_append, List.append_assoc])
        have := ratC_set (l := rfilled l i) (i := i) x (by omega)
        simp only [List.append_assoc, List.cons_append, List.nil_append] at this
        rw [this, rfilled_set hx]; exact .refl _
    · simp -implicitDefEqProofs only [go_sem, List.reduceReplicate, Nat.reduceEqDiff, Nat.reduceAdd, Nat.reduceLeDiff, Nat.reduceMul, Nat.reduceSub, Nat.reduceDiv, Int.reduceToNat, Nat.reduceLT, Int.reduceLT, Int.reduceLE, ↓reduceIte, reduceCtorEq, forall_apply_eq_imp_iff₂, ints, rows, rat, rats, toNat_cast]
      have : i = l.length := by omega
      rw [this, rfilled_all]; rfl

theorem laws_eqRatioS_ok (a b : List (Int × Int)) (ha : a.length ≤ 1000000000000) (hb : b.length ≤ 1000000000000) : Pure Try.prog 22 [rats a, rats b] (.b (decide (a = b))) := by
  refine fun_laws_eqRatioS (by simp) ?_
  simp -implicitDefEqProofs only [go_sem, List.reduceReplicate, Nat.reduceEqDiff, Nat.reduceAdd, Nat.reduceLeDiff, Nat.reduceMul, Nat.reduceSub, Nat.reduceDiv, Int.reduceToNat, Nat.reduceLT, Int.reduceLT, Int.reduceLE, ↓reduceIte, reduceCtorEq, forall_apply_eq_imp_iff₂, ints, rows, rat, rats, toNat_cast, c_laws_eqRatioS]
  refine ⟨fun h => ?_, fun h => ?_⟩
  · have : a ≠ b := by rintro rfl; simp at h
    simp [this]
  · have hab : a.length = b.length := by simp at h; omega
    refine SemC.loopR (σ := Nat) (fun i => St.of [(0, .t (rats a)), (1, .t (rats b)), (5, .t (.i i))] []) (fun i => i ≤ a.length ∧ ∀ j, j < i → a[j]? = b[j]?) (fun i => a.length - i) 0 (Weak.of _ [] [] (by simp) (by simp) ?_ trivial) ⟨by simp, fun j hj => by omega⟩ fun i hI R hn hr he => ?_
    · simp -implicitDefEqProofs only [ints, rows, Int.add_zero, envOK, maA, maT, upd_apply, Nat.reduceEqDiff, ↓reduceIte, and_true, true_or, or_true, List.map_cons, List.map_nil, Nat.zero_ne_one, and_self, true_and, Int.natCast_zero, Int.cast_ofNat_Int, Int.ofNat_zero, rats]
    · simp -implicitDefEqProofs only [go_sem, List.reduceReplicate, Nat.reduceEqDiff, Nat.reduceAdd, Nat.reduceLeDiff, Nat.reduceMul, Nat.reduceSub, Nat.reduceDiv, Int.reduceToNat, Nat.reduceLT, Int.reduceLT, Int.reduceLE, ↓reduceIte, reduceCtorEq, forall_apply_eq_imp_iff₂, ints, rows, rat, rats, toNat_cast]
      refine ⟨fun h => ⟨by omega, by rw [ratC_length]; omega, by rw [ratC_length]; omega, by omega, by rw [ratC_length]; omega, by rw [ratC_length]; omega, ?_⟩, fun h => he _ _ ?_⟩
      · obtain ⟨x, hx⟩ : ∃ x, a[i]? = some x := ⟨_, List.getElem?_eq_getElem (by omega)⟩
        obtain ⟨y, hy⟩ : ∃ y, b[i]? = some y := ⟨_, List.getElem?_eq_getElem (by omega)⟩
        rw [ratC_at hx, ratC_at hy]
        refine CallV.pure (laws_eqRatio_ok x y) [] rfl Try.call25 (fun e R' hR => ?_) (by first | trivial | simp [T.noSh, T.noShL, rat]) (fun _ => rfl) ?_
        · simp -implicitDefEqProofs only [Int.natCast_zero, Int.cast_ofNat_Int, Int.natCast_one, Nat.le_refl, Nat.reduceLeDiff, Nat.sub_self, Nat.reduceSub, List.getElem?_cons_zero, List.getElem?_cons_succ, vt_self, vaL, vtL, va, vt, vb, maT, List.cons_append, List.nil_append, List.append_nil, true_or, or_true, go_sem, List.reduceReplicate, Nat.reduceEqDiff, Nat.reduceAdd, Nat.reduceLeDiff, Nat.reduceMul, Nat.reduceSub, Nat.reduceDiv, Int.reduceToNat, Nat.reduceLT, Int.reduceLT, Int.reduceLE, ↓reduceIte, reduceCtorEq, ints, rows, rat, rats, ratsO, toShL_ratC, List.mem_cons, List.mem_nil_iff, List.not_mem_nil, or_false, false_or, exists_eq_left, exists_eq_left', exists_eq_right', Root.live.injEq, eq_self_iff_true, exists_eq, and_true, T.toSh, toShL_ints, toShL_intsO, intsO, rowsO]
        simp -implicitDefEqProofs only [go_sem, List.reduceReplicate, Nat.reduceEqDiff, Nat.reduceAdd, Nat.reduceLeDiff, Nat.reduceMul, Nat.reduceSub, Nat.reduceDiv, Int.reduceToNat, Nat.reduceLT, Int.reduceLT, Int.reduceLE, ↓reduceIte, reduceCtorEq, forall_apply_eq_imp_iff₂, ints, rows, rat, rats, toNat_cast]
        refine ⟨fun h1 => hr _ ?_, fun h1 => hn _ (i + 1) (Weak.of _ [] [] (by simp) (by simp) ?_ trivial) ⟨by omega, fun j hj => ?_⟩ (by omega)⟩
        · simp -implicitDefEqProofs only [go_sem, List.reduceReplicate, Nat.reduceEqDiff, Nat.reduceAdd, Nat.reduceLeDiff, Nat.reduceMul, Nat.reduceSub, Nat.reduceDiv, Int.reduceToNat, Nat.reduceLT, Int.reduceLT, Int.reduceLE, ↓reduceIte, reduceCtorEq, forall_apply_eq_imp_iff₂, ints, rows, rat, rats, toNat_cast]
          have : a ≠ b := by rintro rfl; rw [hx] at hy; cases hy; simp at h1
          simp [this]
        · simp -implicitDefEqProofs only [ints, rows, Int.add_zero, envOK, maA, maT, upd_apply, Nat.reduceEqDiff, ↓reduceIte, and_true, true_or, or_true, List.map_cons, List.map_nil, Nat.zero_ne_one, and_self, true_and, Int.natCast_zero, Int.cast_ofNat_Int, Int.ofNat_zero, rats, next64 (by omega : i < a.length) ha]
        · rcases Nat.lt_or_ge j i with h | h
          · exact hI.2 j h
          · have : j = i := by omega
            subst this
            rw [hx, hy]; simpa using h1
      · simp -implicitDefEqProofs only [go_sem, List.reduceReplicate, Nat.reduceEqDiff, Nat.reduceAdd, Nat.reduceLeDiff, Nat.reduceMul, Nat.reduceSub, Nat.reduceDiv, Int.reduceToNat, Nat.reduceLT, Int.reduceLT, Int.reduceLE, ↓reduceIte, reduceCtorEq, forall_apply_eq_imp_iff₂, ints, rows, rat, rats, toNat_cast]
        have : a = b := by
          refine List.ext_getElem? fun j => ?_
          rcases Nat.lt_or_ge j i with h | h
          · exact hI.2 j h
          · rw [List.getElem?_eq_none (by omega), List.getElem?_eq_none (by omega)]
        simp [this]

end Go.Ab

/- Contracts: the turned matrix. -/
set_option linter.unusedSimpArgs false
set_option linter.unusedVariables false
namespace Go.Ab
open Go.Proofs

/-- All rows have c numbers. -/
def rect (m : List (List Int)) (c : Nat) : Prop := ∀ r ∈ m, r.length = c
end Go.Ab

/- Contracts: saddle points. -/
set_option linter.unusedSimpArgs false
set_option linter.unusedVariables false
namespace Go.Ab
open Go.Proofs

theorem isMat_spec {m : List (List Int)} (h : isMat m = true) : 1 ≤ m.length ∧ m.length ≤ 4 ∧ 1 ≤ (m.headD []).length ∧ (m.headD []).length ≤ 4 ∧ rect m (m.headD []).length ∧ ∀ r ∈ m, ∀ x ∈ r, -20 ≤ x ∧ x ≤ 20 := by
  simp only [isMat, Bool.and_eq_true, decide_eq_true_eq, List.all_eq_true, rowOK] at h
  exact ⟨h.1.1.1, h.1.1.2, h.1.2.1, h.1.2.2, fun r hr => (h.2 r hr).1, fun r hr x hx => (h.2 r hr).2 x hx⟩
end Go.Ab

/- The law FnExactSaddlePoint, as a contract. -/
set_option linter.unusedSimpArgs false
set_option linter.unusedVariables false
namespace Go.Ab
open Go.Proofs

end Go.Ab

/- Contracts: marks of lists of rows. -/
set_option linter.unusedSimpArgs false
set_option linter.unusedVariables false
namespace Go.Ab
open Go.Proofs

/-- How many numbers. -/
def tot : List (List Int) → Nat
  | [] => 0
  | r :: m => r.length + tot m
end Go.Ab

/- The law FnExactDominatedRows, as a contract. -/
set_option linter.unusedSimpArgs false
set_option linter.unusedVariables false
namespace Go.Ab
open Go.Proofs

theorem budgetRows_tot : ∀ {m : List (List Int)} {left : Int}, 0 ≤ left → 0 ≤ budgetRows m left → (tot m : Int) ≤ left
  | [], left, _, _ => by simp [tot]; assumption
  | x :: m, left, h0, h => by
    simp only [budgetRows] at h
    split at h
    · omega
    · have := budgetRows_tot (by omega) h
      simp only [tot]; omega
theorem budgetMat_tot {m : List (List Int)} {left : Int} (h0 : 0 ≤ left) (h : 0 ≤ budgetMat m left) : (tot m : Int) ≤ left := by
  simp only [budgetMat] at h
  split at h
  · omega
  · have := budgetRows_tot (by omega) h; omega
end Go.Ab

/- Contracts: the flipped matrix, the reference. -/
set_option linter.unusedSimpArgs false
set_option linter.unusedVariables false
namespace Go.Ab
open Go.Proofs

def neg (l : List Int) : List Int := l.map fun x => -x
end Go.Ab

/- Contracts: a matrix without a row and a column. -/
set_option linter.unusedSimpArgs false
set_option linter.unusedVariables false
namespace Go.Ab
open Go.Proofs

def without (m : List (List Int)) (r c : Nat) : List (List Int) := (m.eraseIdx r).map fun l => l.eraseIdx c
end Go.Ab

/- Contracts: adjugates. -/
set_option linter.unusedSimpArgs false
set_option linter.unusedVariables false
namespace Go.Ab
open Go.Proofs

/-- Rows that are filled one after the other: the first i are full, the next one holds cur. -/
def parts (full : Nat → List Int) (cur : List Int) (n i : Nat) : List (List Int) := (List.range n).map fun j => if j < i then full j else if j = i then cur else []
end Go.Ab

/- Contracts: Determinant and Adjugate; the law FnExactDeterminant. -/
set_option linter.unusedSimpArgs false
set_option linter.unusedVariables false
namespace Go.Ab
open Go.Proofs

theorem headD_get {m : List (List Int)} {r : List Int} (h : m[0]? = some r) : m.headD [] = r := by
  cases m with
  | nil => simp at h
  | cons a m => simpa using h
end Go.Ab

/- Contracts: sums of products of ratios, gains; the program's. -/
set_option linter.unusedSimpArgs false
set_option linter.unusedVariables false
namespace Go.Ab
open Go.Proofs

theorem impl_MultiplyRatios_p (a b : Int × Int) : Pure Try.prog 131 [rat a, rat b] (redT (mulR a b)) := impl_MultiplyRatios_ok a b
theorem impl_AddRatios_p (a b : Int × Int) : Pure Try.prog 37 [rat a, rat b] (redT (addR a b)) := impl_AddRatios_ok a b

/-- The sum of products, formed in order, or the first error. -/
def spGo : Int × Int → List ((Int × Int) × (Int × Int)) → (Int × Int) × Int
  | s, [] => (s, 0)
  | s, x :: l => if (mulR x.1 x.2).2 ≠ 0 then ((0, 0), (mulR x.1 x.2).2) else if (addR s (mulR x.1 x.2).1).2 ≠ 0 then ((0, 0), (addR s (mulR x.1 x.2).1).2) else spGo (addR s (mulR x.1 x.2).1).1 l
def spR (a b : List (Int × Int)) : (Int × Int) × Int := spGo (0, 1) (a.zip b)
theorem zip_get {α β : Type} {a : List α} {b : List β} {i : Nat} {x : α} {y : β} (hx : a[i]? = some x) (hy : b[i]? = some y) : (a.zip b)[i]? = some (x, y) := by
  rw [List.getElem?_zip_eq_some]; exact ⟨hx, hy⟩

theorem impl_sumOfProducts_ok (a b : List (Int × Int)) (hab : a.length ≤ b.length) (ha : a.length ≤ 1000000000000) : Pure Try.prog 105 [rats a, rats b] (redT (spR a b)) := by
  refine fun_impl_sumOfProducts (by simp) ?_
  simp -implicitDefEqProofs only [go_sem, List.reduceReplicate, Nat.reduceEqDiff, Nat.reduceAdd, Nat.reduceLeDiff, Nat.reduceMul, Nat.reduceSub, Nat.reduceDiv, Int.reduceToNat, Nat.reduceLT, Int.reduceLT, Int.reduceLE, ↓reduceIte, reduceCtorEq, forall_apply_eq_imp_iff₂, ints, rows, rat, rats, toNat_cast, c_impl_sumOfProducts]
  refine SemC.loopR (σ := Nat × (Int × Int)) (fun s => St.of [(0, .t (rats a)), (1, .t (rats b)), (4, .own 4), (6, .own 6), (12, .t (.i a.length)), (13, .t (.i s.1))] [(4, .box [.i 0, .i 0]), (6, .box [.i s.2.1, .i s.2.2])]) (fun s => s.1 ≤ a.length ∧ spGo s.2 ((a.zip b).drop s.1) = spR a b) (fun s => a.length - s.1) (0, (0, 1)) (Weak.of _ _ [some 4, some 6] (by simp) (by simp) ?_ ?_) ⟨by simp, rfl⟩ fun s hI R hn hr he => ?_
  · simp -implicitDefEqProofs only [ints, rows, Nat.reduceBEq, Int.add_zero, envOK, maA, maT, upd_apply, Nat.reduceEqDiff, ↓reduceIte, and_true, true_or, or_true, List.map_cons, List.map_nil, Nat.zero_ne_one, and_self, true_and, Int.natCast_zero, Int.cast_ofNat_Int, Int.ofNat_zero, piOf, List.zip_cons_cons, List.zip_nil_right, List.lookup_cons, List.lookup_nil, beq_self_eq_true, rootsOK, mkRoots, mkEnv, rats]
  · exact ⟨⟨_, rfl, .refl _⟩, rfl, ⟨_, rfl, .refl _⟩, rfl, trivial⟩
  · obtain ⟨i, s1, s2⟩ := s
    obtain ⟨hi, hm⟩ := hI
    (try simp only [] at hi hm)
    simp -implicitDefEqProofs only [go_sem, List.reduceReplicate, Nat.reduceEqDiff, Nat.reduceAdd, Nat.reduceLeDiff, Nat.reduceMul, Nat.reduceSub, Nat.reduceDiv, Int.reduceToNat, Nat.reduceLT, Int.reduceLT, Int.reduceLE, ↓reduceIte, reduceCtorEq, forall_apply_eq_imp_iff₂, ints, rows, rat, rats, toNat_cast]
    refine ⟨fun h => ?_, fun h => he _ _ ?_⟩
    · obtain ⟨x, hx⟩ : ∃ x, a[i]? = some x := ⟨_, List.getElem?_eq_getElem (by omega)⟩
      obtain ⟨y, hy⟩ : ∃ y, b[i]? = some y := ⟨_, List.getElem?_eq_getElem (by omega)⟩
      refine ⟨by omega, by rw [ratC_length]; omega, by rw [ratC_length]; omega, by omega, by rw [ratC_length]; omega, by rw [ratC_length]; omega, ?_⟩
      rw [ratC_at hx, ratC_at hy]
      rw [drop_of_get (zip_get hx hy), spGo] at hm
      refine CallV.pure (impl_MultiplyRatios_p x y) [] rfl Try.call131 (fun e R' hR => ?_) (by first | trivial | simp [T.noSh, T.noShL, rat]) (fun _ => rfl) ?_
      · simp -implicitDefEqProofs only [Int.natCast_zero, Int.cast_ofNat_Int, Int.natCast_one, Nat.le_refl, Nat.reduceLeDiff, Nat.sub_self, Nat.reduceSub, List.getElem?_cons_zero, List.getElem?_cons_succ, vt_self, vaL, vtL, va, vt, vb, maT, List.cons_append, List.nil_append, List.append_nil, true_or, or_true, go_sem, List.reduceReplicate, Nat.reduceEqDiff, Nat.reduceAdd, Nat.reduceLeDiff, Nat.reduceMul, Nat.reduceSub, Nat.reduceDiv, Int.reduceToNat, Nat.reduceLT, Int.reduceLT, Int.reduceLE, ↓reduceIte, reduceCtorEq, ints, rows, rat, rats, ratsO, toShL_ratC, List.mem_cons, List.mem_nil_iff, List.not_mem_nil, or_false, false_or, exists_eq_left, exists_eq_left', exists_eq_right', Root.live.injEq, eq_self_iff_true, exists_eq, and_true, T.toSh, toShL_ints, toShL_intsO, intsO, rowsO]
      simp -implicitDefEqProofs only [go_sem, List.reduceReplicate, Nat.reduceEqDiff, Nat.reduceAdd, Nat.reduceLeDiff, Nat.reduceMul, Nat.reduceSub, Nat.reduceDiv, Int.reduceToNat, Nat.reduceLT, Int.reduceLT, Int.reduceLE, ↓reduceIte, reduceCtorEq, forall_apply_eq_imp_iff₂, ints, rows, rat, rats, toNat_cast, redT, rat]
      refine ⟨fun h1 => hr _ ?_, fun h1 => ?_⟩
      · have h1 : (mulR x y).2 ≠ 0 := by simpa using h1
        simp -implicitDefEqProofs only [go_sem, List.reduceReplicate, Nat.reduceEqDiff, Nat.reduceAdd, Nat.reduceLeDiff, Nat.reduceMul, Nat.reduceSub, Nat.reduceDiv, Int.reduceToNat, Nat.reduceLT, Int.reduceLT, Int.reduceLE, ↓reduceIte, reduceCtorEq, forall_apply_eq_imp_iff₂, ints, rows, rat, rats, toNat_cast]
        rw [← hm, if_pos h1]; rfl
      · have h1 : (mulR x y).2 = 0 := by simpa using h1
        rw [if_neg (by simp [h1])] at hm
        refine CallW.pure (impl_AddRatios_p (s1, s2) (mulR x y).1) [] rfl Try.call37 ?_ (by first | trivial | simp [T.noSh, T.noShL, rat]) rfl ?_
        · simp -implicitDefEqProofs only [Int.natCast_zero, Int.cast_ofNat_Int, Int.natCast_one, Nat.le_refl, Nat.reduceLeDiff, Nat.sub_self, Nat.reduceSub, List.getElem?_cons_zero, List.getElem?_cons_succ, vt_self, vaL, vtL, va, vt, vb, maT, List.cons_append, List.nil_append, List.append_nil, true_or, or_true, go_sem, List.reduceReplicate, Nat.reduceEqDiff, Nat.reduceAdd, Nat.reduceLeDiff, Nat.reduceMul, Nat.reduceSub, Nat.reduceDiv, Int.reduceToNat, Nat.reduceLT, Int.reduceLT, Int.reduceLE, ↓reduceIte, reduceCtorEq, ints, rows, rat, rats, ratsO, toShL_ratC, List.mem_cons, List.mem_nil_iff, List.not_mem_nil, or_false, false_or, exists_eq_left, exists_eq_left', exists_eq_right', Root.live.injEq, eq_self_iff_true, exists_eq, and_true, T.toSh, toShL_ints, toShL_intsO, intsO, rowsO]
        simp -implicitDefEqProofs only [go_sem, List.reduceReplicate, Nat.reduceEqDiff, Nat.reduceAdd, Nat.reduceLeDiff, Nat.reduceMul, Nat.reduceSub, Nat.reduceDiv, Int.reduceToNat, Nat.reduceLT, Int.reduceLT, Int.reduceLE, ↓reduceIte, reduceCtorEq, forall_apply_eq_imp_iff₂, ints, rows, rat, rats, toNat_cast, redT, rat]
        refine ⟨fun h2 => hr _ ?_, fun h2 => ?_⟩
        · have h2 : (addR (s1, s2) (mulR x y).1).2 ≠ 0 := by simpa using h2
          simp -implicitDefEqProofs only [go_sem, List.reduceReplicate, Nat.reduceEqDiff, Nat.reduceAdd, Nat.reduceLeDiff, Nat.reduceMul, Nat.reduceSub, Nat.reduceDiv, Int.reduceToNat, Nat.reduceLT, Int.reduceLT, Int.reduceLE, ↓reduceIte, reduceCtorEq, forall_apply_eq_imp_iff₂, ints, rows, rat, rats, toNat_cast]
          rw [← hm, if_pos h2]; rfl
        · have h2 : (addR (s1, s2) (mulR x y).1).2 = 0 := by simpa using h2
          rw [if_neg (by simp [h2])] at hm
          refine hn _ (i + 1, (addR (s1, s2) (mulR x y).1).1) (Weak.of _ _ [some 4, some 6] (by simp) (by simp) ?_ ?_) ⟨by simp only []; omega, hm⟩ (by simp only []; omega)
          · simp -implicitDefEqProofs only [ints, rows, Nat.reduceBEq, Int.add_zero, envOK, maA, maT, upd_apply, Nat.reduceEqDiff, ↓reduceIte, and_true, true_or, or_true, List.map_cons, List.map_nil, Nat.zero_ne_one, and_self, true_and, Int.natCast_zero, Int.cast_ofNat_Int, Int.ofNat_zero, piOf, List.zip_cons_cons, List.zip_nil_right, List.lookup_cons, List.lookup_nil, beq_self_eq_true, rootsOK, mkRoots, mkEnv, rats, next64 (by omega : i < a.length) ha]
          · exact ⟨⟨_, rfl, .refl _⟩, rfl, ⟨_, rfl, .refl _⟩, rfl, trivial⟩
    · simp -implicitDefEqProofs only [go_sem, List.reduceReplicate, Nat.reduceEqDiff, Nat.reduceAdd, Nat.reduceLeDiff, Nat.reduceMul, Nat.reduceSub, Nat.reduceDiv, Int.reduceToNat, Nat.reduceLT, Int.reduceLT, Int.reduceLE, ↓reduceIte, reduceCtorEq, forall_apply_eq_imp_iff₂, ints, rows, rat, rats, toNat_cast]
      rw [List.drop_of_length_le (by rw [List.length_zip]; omega), spGo] at hm
      rw [← hm]; rfl
end Go.Ab

/- Contracts: sums of products of ratios, gains; the reference's. -/
set_option linter.unusedSimpArgs false
set_option linter.unusedVariables false
namespace Go.Ab
open Go.Proofs

/-- The same with a code that stops all. -/
def gainGo : Int → Int × Int → List ((Int × Int) × (Int × Int)) → (Int × Int) × Int
  | c, s, [] => (s, c)
  | c, s, x :: l => gainGo (stepA (stepM c x.1 x.2).2 s (stepM c x.1 x.2).1).2 (stepA (stepM c x.1 x.2).2 s (stepM c x.1 x.2).1).1 l
theorem stepA_err {c : Int} (h : c ≠ 0) (a b : Int × Int) : stepA c a b = ((0, 1), c) := if_pos h
theorem stepM_err {c : Int} (h : c ≠ 0) (a b : Int × Int) : stepM c a b = ((0, 1), c) := if_pos h
theorem stepA_zero (a b : Int × Int) : stepA 0 a b = addR a b := if_neg (by simp)
theorem stepM_zero (a b : Int × Int) : stepM 0 a b = mulR a b := if_neg (by simp)
theorem gainGo_err : ∀ (l : List ((Int × Int) × (Int × Int))) (c : Int) (s : Int × Int), c ≠ 0 → (gainGo c s l).2 = c
  | [], c, s, h => rfl
  | x :: l, c, s, h => by rw [gainGo, stepM_err h, stepA_err h]; exact gainGo_err l c _ h
theorem gainGo_spec : ∀ (l : List ((Int × Int) × (Int × Int))) (s : Int × Int), (gainGo 0 s l).2 = (spGo s l).2 ∧ ((spGo s l).2 = 0 → (gainGo 0 s l).1 = (spGo s l).1)
  | [], s => ⟨rfl, fun _ => rfl⟩
  | x :: l, s => by
    rw [gainGo, spGo, stepM_zero]
    by_cases h1 : (mulR x.1 x.2).2 = 0
    · rw [h1, stepA_zero, if_neg (by simp)]
      by_cases h2 : (addR s (mulR x.1 x.2).1).2 = 0
      · rw [h2, if_neg (by simp)]; exact gainGo_spec l _
      · rw [if_pos h2]; exact ⟨gainGo_err l _ _ h2, fun h => absurd h h2⟩
    · rw [if_pos h1, stepA_err h1]; exact ⟨gainGo_err l _ _ h1, fun h => absurd h h1⟩

def ones (r : List Int) : List (Int × Int) := r.map fun x => (x, 1)
theorem ones_length (r : List Int) : (ones r).length = r.length := by simp [ones]
theorem ones_get {r : List Int} {i : Nat} {x : Int} (h : r[i]? = some x) : (ones r)[i]? = some (x, 1) := by simp [ones, h]
def gainC (c : Int) (q : List (Int × Int)) (r : List Int) : (Int × Int) × Int := gainGo c (0, 1) (q.zip (ones r))

theorem spec_l26Gain_ok (c : Int) (q : List (Int × Int)) (r : List Int) (hqr : q.length ≤ r.length) (hq : q.length ≤ 1000000000000) : Fun Try.prog 130 [.box [.i c]] [.own 1000000000, .t (rats q), .t (ints r)] fun o res => o = [.box [.i (gainC c q r).2]] ∧ res = rat (gainC c q r).1 := by
  refine fun_spec_l26Gain (by simp) ?_
  simp -implicitDefEqProofs only [go_sem, List.reduceReplicate, Nat.reduceEqDiff, Nat.reduceAdd, Nat.reduceLeDiff, Nat.reduceMul, Nat.reduceSub, Nat.reduceDiv, Int.reduceToNat, Nat.reduceLT, Int.reduceLT, Int.reduceLE, ↓reduceIte, reduceCtorEq, forall_apply_eq_imp_iff₂, ints, rows, rat, rats, toNat_cast, c_spec_l26Gain]
  refine CallW.pure (spec_l19Whole_ok 0) [] rfl Try.call96 ?_ (by first | trivial | simp [T.noSh, T.noShL, rat]) rfl ?_
  · simp -implicitDefEqProofs only [Int.natCast_zero, Int.cast_ofNat_Int, Int.natCast_one, Nat.le_refl, Nat.reduceLeDiff, Nat.sub_self, Nat.reduceSub, List.getElem?_cons_zero, List.getElem?_cons_succ, vt_self, vaL, vtL, va, vt, vb, maT, List.cons_append, List.nil_append, List.append_nil, true_or, or_true, go_sem, List.reduceReplicate, Nat.reduceEqDiff, Nat.reduceAdd, Nat.reduceLeDiff, Nat.reduceMul, Nat.reduceSub, Nat.reduceDiv, Int.reduceToNat, Nat.reduceLT, Int.reduceLT, Int.reduceLE, ↓reduceIte, reduceCtorEq, ints, rows, rat, rats, ratsO, toShL_ratC, List.mem_cons, List.mem_nil_iff, List.not_mem_nil, or_false, false_or, exists_eq_left, exists_eq_left', exists_eq_right', Root.live.injEq, eq_self_iff_true, exists_eq, and_true, T.toSh, toShL_ints, toShL_intsO, intsO, rowsO]
  simp -implicitDefEqProofs only [go_sem, List.reduceReplicate, Nat.reduceEqDiff, Nat.reduceAdd, Nat.reduceLeDiff, Nat.reduceMul, Nat.reduceSub, Nat.reduceDiv, Int.reduceToNat, Nat.reduceLT, Int.reduceLT, Int.reduceLE, ↓reduceIte, reduceCtorEq, forall_apply_eq_imp_iff₂, ints, rows, rat, rats, toNat_cast]
  refine SemC.loopR (σ := Nat × Int × (Int × Int)) (fun s => St.of [(0, .own 1000000000), (1, .t (rats q)), (2, .t (ints r)), (6, .own 6), (7, .own 7), (8, .t (.i s.1))] [(6, .box [.i 0, .i 0]), (7, .box [.i s.2.2.1, .i s.2.2.2]), (1000000000, .box [.i s.2.1])]) (fun s => s.1 ≤ q.length ∧ gainGo s.2.1 s.2.2 ((q.zip (ones r)).drop s.1) = gainC c q r) (fun s => q.length - s.1) (0, c, (0, 1)) (Weak.of _ _ [some 6, some 7, some 1000000000] (by simp) (by simp) ?_ ?_) ⟨by simp, rfl⟩ fun s hI R hn' hr he => ?_
  · simp -implicitDefEqProofs only [ints, rows, Nat.reduceBEq, Int.add_zero, envOK, maA, maT, upd_apply, Nat.reduceEqDiff, ↓reduceIte, and_true, true_or, or_true, List.map_cons, List.map_nil, Nat.zero_ne_one, and_self, true_and, Int.natCast_zero, Int.cast_ofNat_Int, Int.ofNat_zero, piOf, List.zip_cons_cons, List.zip_nil_right, List.lookup_cons, List.lookup_nil, beq_self_eq_true, rootsOK, mkRoots, mkEnv, rats]
  · exact ⟨⟨_, rfl, .refl _⟩, rfl, ⟨_, rfl, .refl _⟩, rfl, ⟨_, rfl, .refl _⟩, rfl, trivial⟩
  · obtain ⟨i, c', s1, s2⟩ := s
    obtain ⟨hi, hm⟩ := hI
    (try simp only [] at hi hm)
    simp -implicitDefEqProofs only [go_sem, List.reduceReplicate, Nat.reduceEqDiff, Nat.reduceAdd, Nat.reduceLeDiff, Nat.reduceMul, Nat.reduceSub, Nat.reduceDiv, Int.reduceToNat, Nat.reduceLT, Int.reduceLT, Int.reduceLE, ↓reduceIte, reduceCtorEq, forall_apply_eq_imp_iff₂, ints, rows, rat, rats, toNat_cast]
    refine ⟨fun h => ?_, fun h => he _ _ ?_⟩
    · obtain ⟨x, hx⟩ : ∃ x, q[i]? = some x := ⟨_, List.getElem?_eq_getElem (by omega)⟩
      obtain ⟨y, hy⟩ : ∃ y, r[i]? = some y := ⟨_, List.getElem?_eq_getElem (by omega)⟩
      rw [drop_of_get (zip_get hx (ones_get hy)), gainGo] at hm
      refine ⟨by omega, by rw [ratC_length]; omega, by rw [ratC_length]; omega, by omega, by omega, by omega, fun y' hy' => ?_⟩
      rw [hy] at hy'; cases hy'
      rw [ratC_at hx]
      refine CallV.pure (spec_l19Whole_ok y) [] rfl Try.call96 (fun e R' hR => ?_) (by first | trivial | simp [T.noSh, T.noShL, rat]) (fun _ => rfl) ?_
      · simp -implicitDefEqProofs only [Int.natCast_zero, Int.cast_ofNat_Int, Int.natCast_one, Nat.le_refl, Nat.reduceLeDiff, Nat.sub_self, Nat.reduceSub, List.getElem?_cons_zero, List.getElem?_cons_succ, vt_self, vaL, vtL, va, vt, vb, maT, List.cons_append, List.nil_append, List.append_nil, true_or, or_true, go_sem, List.reduceReplicate, Nat.reduceEqDiff, Nat.reduceAdd, Nat.reduceLeDiff, Nat.reduceMul, Nat.reduceSub, Nat.reduceDiv, Int.reduceToNat, Nat.reduceLT, Int.reduceLT, Int.reduceLE, ↓reduceIte, reduceCtorEq, ints, rows, rat, rats, ratsO, toShL_ratC, List.mem_cons, List.mem_nil_iff, List.not_mem_nil, or_false, false_or, exists_eq_left, exists_eq_left', exists_eq_right', Root.live.injEq, eq_self_iff_true, exists_eq, and_true, T.toSh, toShL_ints, toShL_intsO, intsO, rowsO]
      simp -implicitDefEqProofs only [go_sem, List.reduceReplicate, Nat.reduceEqDiff, Nat.reduceAdd, Nat.reduceLeDiff, Nat.reduceMul, Nat.reduceSub, Nat.reduceDiv, Int.reduceToNat, Nat.reduceLT, Int.reduceLT, Int.reduceLE, ↓reduceIte, reduceCtorEq, forall_apply_eq_imp_iff₂, ints, rows, rat, rats, toNat_cast]
      refine CallH.ref (spec_l19Times_ok c' x (y, 1)) [1000000000] [] rfl Try.call132 (by simp) ?_ (by simp) (fun e R' hR => ?_) (.inl rfl) ?_
      · simp -implicitDefEqProofs only [rootOf_arr, rootOf_box, rootOf_any, srcsOK, updL, updS, upd_apply, Nat.reduceEqDiff, ↓reduceIte, mkRoots, and_true, ints, rows, intsO, rowsO]
      · simp -implicitDefEqProofs only [Int.natCast_zero, Int.cast_ofNat_Int, Int.natCast_one, Nat.le_refl, Nat.reduceLeDiff, Nat.sub_self, Nat.reduceSub, List.getElem?_cons_zero, List.getElem?_cons_succ, vt_self, vaL, vtL, va, vt, vb, maT, List.cons_append, List.nil_append, List.append_nil, true_or, or_true, go_sem, List.reduceReplicate, Nat.reduceEqDiff, Nat.reduceAdd, Nat.reduceLeDiff, Nat.reduceMul, Nat.reduceSub, Nat.reduceDiv, Int.reduceToNat, Nat.reduceLT, Int.reduceLT, Int.reduceLE, ↓reduceIte, reduceCtorEq, ints, rows, rat, rats, ratsO, toShL_ratC, List.mem_cons, List.mem_nil_iff, List.not_mem_nil, or_false, false_or, exists_eq_left, exists_eq_left', exists_eq_right', Root.live.injEq, eq_self_iff_true, exists_eq, and_true, T.toSh, toShL_ints, toShL_intsO, intsO, rowsO]
      simp -implicitDefEqProofs only [List.append_nil, List.cons_append, Nat.reduceLeDiff, afterCall, absT_rowsO, absT_intsO, absT, absL, updL, updS, freeAll, rid, T.noSh, T.noShL, Nat.zero_le, go_sem, List.reduceReplicate, Nat.reduceEqDiff, Nat.reduceAdd, Nat.reduceLeDiff, Nat.reduceMul, Nat.reduceSub, Nat.reduceDiv, Int.reduceToNat, Nat.reduceLT, Int.reduceLT, Int.reduceLE, ↓reduceIte, reduceCtorEq, rat, forall_apply_eq_imp_iff₂, toNat_cast]
      refine ⟨?_, (frameOK.refl _ _ _).upd _ (.inl (by simp))⟩
      refine CallH.ref (spec_l19Add_ok (stepM c' x (y, 1)).2 (s1, s2) (stepM c' x (y, 1)).1) [1000000000] [] rfl Try.call98 (by simp) ?_ (by simp) (fun e R' hR => ?_) (.inl rfl) ?_
      · simp -implicitDefEqProofs only [rootOf_arr, rootOf_box, rootOf_any, srcsOK, updL, updS, upd_apply, Nat.reduceEqDiff, ↓reduceIte, mkRoots, and_true, ints, rows, intsO, rowsO]
      · simp -implicitDefEqProofs only [Int.natCast_zero, Int.cast_ofNat_Int, Int.natCast_one, Nat.le_refl, Nat.reduceLeDiff, Nat.sub_self, Nat.reduceSub, List.getElem?_cons_zero, List.getElem?_cons_succ, vt_self, vaL, vtL, va, vt, vb, maT, List.cons_append, List.nil_append, List.append_nil, true_or, or_true, go_sem, List.reduceReplicate, Nat.reduceEqDiff, Nat.reduceAdd, Nat.reduceLeDiff, Nat.reduceMul, Nat.reduceSub, Nat.reduceDiv, Int.reduceToNat, Nat.reduceLT, Int.reduceLT, Int.reduceLE, ↓reduceIte, reduceCtorEq, ints, rows, rat, rats, ratsO, toShL_ratC, List.mem_cons, List.mem_nil_iff, List.not_mem_nil, or_false, false_or, exists_eq_left, exists_eq_left', exists_eq_right', Root.live.injEq, eq_self_iff_true, exists_eq, and_true, T.toSh, toShL_ints, toShL_intsO, intsO, rowsO]
      simp -implicitDefEqProofs only [List.append_nil, List.cons_append, Nat.reduceLeDiff, afterCall, absT_rowsO, absT_intsO, absT, absL, updL, updS, freeAll, rid, T.noSh, T.noShL, Nat.zero_le, go_sem, List.reduceReplicate, Nat.reduceEqDiff, Nat.reduceAdd, Nat.reduceLeDiff, Nat.reduceMul, Nat.reduceSub, Nat.reduceDiv, Int.reduceToNat, Nat.reduceLT, Int.reduceLT, Int.reduceLE, ↓reduceIte, reduceCtorEq, rat, forall_apply_eq_imp_iff₂, toNat_cast]
      refine hn' _ (i + 1, (stepA (stepM c' x (y, 1)).2 (s1, s2) (stepM c' x (y, 1)).1).2, (stepA (stepM c' x (y, 1)).2 (s1, s2) (stepM c' x (y, 1)).1).1) (Weak.of _ _ [some 6, some 7, some 1000000000] (by simp) (by simp) ?_ ?_) ⟨by simp only []; omega, hm⟩ (by simp only []; omega)
      · simp -implicitDefEqProofs only [ints, rows, Nat.reduceBEq, Int.add_zero, envOK, maA, maT, upd_apply, Nat.reduceEqDiff, ↓reduceIte, and_true, true_or, or_true, List.map_cons, List.map_nil, Nat.zero_ne_one, and_self, true_and, Int.natCast_zero, Int.cast_ofNat_Int, Int.ofNat_zero, piOf, List.zip_cons_cons, List.zip_nil_right, List.lookup_cons, List.lookup_nil, beq_self_eq_true, rootsOK, mkRoots, mkEnv, rats, next64 (by omega : i < q.length) hq]
      · exact ⟨⟨_, rfl, .refl _⟩, rfl, ⟨_, rfl, .refl _⟩, rfl, ⟨_, rfl, .refl _⟩, rfl, trivial⟩
    · simp -implicitDefEqProofs only [go_sem, List.reduceReplicate, Nat.reduceEqDiff, Nat.reduceAdd, Nat.reduceLeDiff, Nat.reduceMul, Nat.reduceSub, Nat.reduceDiv, Int.reduceToNat, Nat.reduceLT, Int.reduceLT, Int.reduceLE, ↓reduceIte, reduceCtorEq, forall_apply_eq_imp_iff₂, ints, rows, rat, rats, toNat_cast]
      rw [List.drop_of_length_le (by rw [List.length_zip, ones_length]; omega), gainGo] at hm
      rw [← hm]; exact ⟨rfl, rfl⟩
end Go.Ab

/- Contracts: gains of all rows; the program's. -/
set_option linter.unusedSimpArgs false
set_option linter.unusedVariables false
namespace Go.Ab
open Go.Proofs

def gainsGo (q : List (Int × Int)) : List (List Int) → List (Int × Int) × Int
  | [] => ([], 0)
  | r :: m => if (spR q (ones r)).2 ≠ 0 then ([], (spR q (ones r)).2) else if (gainsGo q m).2 ≠ 0 then ([], (gainsGo q m).2) else ((spR q (ones r)).1 :: (gainsGo q m).1, 0)
def gjoin (g : List (Int × Int)) (x : List (Int × Int) × Int) : List (Int × Int) × Int := if x.2 ≠ 0 then ([], x.2) else (g ++ x.1, 0)
theorem gainsGo_err (q : List (Int × Int)) : ∀ (m : List (List Int)), (gainsGo q m).2 ≠ 0 → (gainsGo q m).1 = []
  | [], h => absurd rfl h
  | r :: m, h => by
    rw [gainsGo] at h ⊢
    split
    · rfl
    · rename_i h1
      rw [if_neg h1] at h
      split
      · rfl
      · rename_i h2; rw [if_neg h2] at h; exact absurd rfl h
theorem gjoin_nil (q : List (Int × Int)) (m : List (List Int)) : gjoin [] (gainsGo q m) = gainsGo q m := by
  rw [gjoin]; split
  · rename_i h; rw [← gainsGo_err q m h]
  · rename_i h
    have : (gainsGo q m).2 = 0 := by omega
    rw [List.nil_append, ← this]
theorem gainsGo_length (q : List (Int × Int)) : ∀ (m : List (List Int)), (gainsGo q m).2 = 0 → (gainsGo q m).1.length = m.length
  | [], h => rfl
  | r :: m, h => by
    rw [gainsGo] at h ⊢
    split at h
    · rename_i h1; exact absurd h h1
    · rename_i h1
      rw [if_neg h1]
      split at h
      · rename_i h2; exact absurd h h2
      · rename_i h2
        rw [if_neg h2, List.length_cons, List.length_cons, gainsGo_length q m (by omega)]
def gT (x : List (Int × Int) × Int) : T := .tup [ratsO x.1, .i x.2]
theorem Fun.gT_nil {P : Program} {f : FuncId} {rin : List T} {args : List A} {x : List (Int × Int) × Int} {o0 : List T} (h : Fun P f rin args fun o r => o = o0 ∧ (r = gT x ∨ (x.1 = [] ∧ r = .tup [.v (.slice none 0 0), .i x.2]))) : Fun P f rin args fun o r => o = o0 ∧ r = gT x := by
  refine Fun.le h ?_
  rintro o r ⟨rfl, rfl | ⟨h, rfl⟩⟩
  · exact ⟨_, .refl _, rfl, rfl⟩
  · refine ⟨_, ?_, rfl, rfl⟩
    rw [gT, h]
    exact .tup2 (.nilArr 2) (.refl _)

theorem impl_gainsOf_ok (m : List (List Int)) (q : List (Int × Int)) (hq : q.length ≤ 1000000) (hm : m.length ≤ 1000000) (hr : ∀ r ∈ m, q.length ≤ r.length ∧ r.length ≤ 1000000) : Fun Try.prog 100 [] [.t (rows m), .t (rats q)] fun o r => o = [] ∧ r = gT (gainsGo q m) := by
  refine Fun.gT_nil ?_
  refine fun_impl_gainsOf (by simp) ?_
  simp -implicitDefEqProofs only [go_sem, List.reduceReplicate, Nat.reduceEqDiff, Nat.reduceAdd, Nat.reduceLeDiff, Nat.reduceMul, Nat.reduceSub, Nat.reduceDiv, Int.reduceToNat, Nat.reduceLT, Int.reduceLT, Int.reduceLE, ↓reduceIte, reduceCtorEq, forall_apply_eq_imp_iff₂, ints, rows, rat, rats, toNat_cast, c_impl_gainsOf]
  refine SemC.loopR (σ := Nat × List (Int × Int)) (fun s => St.of [(0, .t (rows m)), (1, .t (rats q)), (6, .own 77), (14, .t (rows m)), (15, .t (.i m.length)), (16, .t (.i s.1))] [(77, .arr 2 (ratC s.2))]) (fun s => s.1 ≤ m.length ∧ s.2.length = s.1 ∧ gjoin s.2 (gainsGo q (m.drop s.1)) = gainsGo q m) (fun s => m.length - s.1) (0, []) (Weak.of _ _ [none] (by simp) (by simp) ?_ ?_) ⟨by simp, rfl, gjoin_nil q m⟩ fun s hI R hn hr0 he => ?_
  · simp -implicitDefEqProofs only [ints, rows, Nat.reduceBEq, Int.add_zero, envOK, maA, maT, upd_apply, Nat.reduceEqDiff, ↓reduceIte, and_true, true_or, or_true, List.map_cons, List.map_nil, Nat.zero_ne_one, and_self, true_and, Int.natCast_zero, Int.cast_ofNat_Int, Int.ofNat_zero, piOf, List.zip_cons_cons, List.zip_nil_right, List.lookup_cons, List.lookup_nil, beq_self_eq_true, rootsOK, mkRoots, mkEnv, rats]
  · exact ⟨⟨2, rfl⟩, trivial⟩
  · obtain ⟨i, g⟩ := s
    obtain ⟨hi, hgl, hg⟩ := hI
    (try simp only [] at hi hgl hg)
    simp -implicitDefEqProofs only [go_sem, List.reduceReplicate, Nat.reduceEqDiff, Nat.reduceAdd, Nat.reduceLeDiff, Nat.reduceMul, Nat.reduceSub, Nat.reduceDiv, Int.reduceToNat, Nat.reduceLT, Int.reduceLT, Int.reduceLE, ↓reduceIte, reduceCtorEq, forall_apply_eq_imp_iff₂, ints, rows, rat, rats, toNat_cast]
    refine ⟨fun h => ⟨by omega, by omega, by omega, fun r hrow => ?_⟩, fun h => he _ _ ?_⟩
    · obtain ⟨hrl, hrl2⟩ := hr r (List.mem_of_getElem? hrow)
      rw [drop_of_get hrow, gainsGo] at hg
      refine ⟨by omega, by omega, ?_⟩
      have hol := ones_length r
      refine SemC.loopR (σ := Nat) (fun j => St.of [(0, .t (rows m)), (1, .t (rats q)), (6, .own 77), (8, .t (ints r)), (9, .own 22), (14, .t (rows m)), (15, .t (.i m.length)), (16, .t (.i i)), (23, .t (ints r)), (24, .t (.i r.length)), (25, .t (.i j))] [(77, .arr 2 (ratC g)), (22, .arr 2 (ratC (rfilled (ones r) j)))]) (fun j => j ≤ r.length) (fun j => r.length - j) 0 (Weak.of _ _ [some 77, some 22] (by simp) (by simp) ?_ ?_) (by simp) fun j hj R2 hn2 hr2 he2 => ?_
      · simp -implicitDefEqProofs only [ints, rows, Nat.reduceBEq, Int.add_zero, envOK, maA, maT, upd_apply, Nat.reduceEqDiff, ↓reduceIte, and_true, true_or, or_true, List.map_cons, List.map_nil, Nat.zero_ne_one, and_self, true_and, Int.natCast_zero, Int.cast_ofNat_Int, Int.ofNat_zero, piOf, List.zip_cons_cons, List.zip_nil_right, List.lookup_cons, List.lookup_nil, beq_self_eq_true, rootsOK, mkRoots, mkEnv, rats]
      · exact ⟨⟨_, rfl, .refl _⟩, rfl, ⟨_, rfl, by rw [ratC_replicate]; simp only [rfilled, List.take_zero, List.nil_append, Nat.sub_zero, hol]; exact .refl _⟩, rfl, trivial⟩
      · have hlen := rfilled_length (ones r) j (by omega)
        simp -implicitDefEqProofs only [go_sem, List.reduceReplicate, Nat.reduceEqDiff, Nat.reduceAdd, Nat.reduceLeDiff, Nat.reduceMul, Nat.reduceSub, Nat.reduceDiv, Int.reduceToNat, Nat.reduceLT, Int.reduceLT, Int.reduceLE, ↓reduceIte, reduceCtorEq, forall_apply_eq_imp_iff₂, ints, rows, rat, rats, toNat_cast]
        refine ⟨fun h1 => ⟨by omega, by omega, by omega, fun x hx => ⟨by omega, by rw [ratC_length]; omega, by rw [ratC_length]; omega, hn2 _ (j + 1) (Weak.of _ _ [some 77, some 22] (by simp) (by simp) ?_ ?_) (by omega) (by omega)⟩⟩, fun h1 => he2 _ _ ?_⟩
        · simp -implicitDefEqProofs only [ints, rows, Nat.reduceBEq, Int.add_zero, envOK, maA, maT, upd_apply, Nat.reduceEqDiff, ↓reduceIte, and_true, true_or, or_true, List.map_cons, List.map_nil, Nat.zero_ne_one, and_self, true_and, Int.natCast_zero, Int.cast_ofNat_Int, Int.ofNat_zero, piOf, List.zip_cons_cons, List.zip_nil_right, List.lookup_cons, List.lookup_nil, beq_self_eq_true, rootsOK, mkRoots, mkEnv, rats, next64 (by omega : j < r.length) (by omega)]
        · refine ⟨⟨_, rfl, .refl _⟩, rfl, ⟨_, rfl, ?_⟩, rfl, trivial⟩
          (try simp only [List.cons_append, List.nil_append, List.append_assoc])
          have := ratC_set (l := rfilled (ones r) j) (i := j) (x, 1) (by omega)
          simp only [List.append_assoc, List.cons_append, List.nil_append] at this
          rw [this, rfilled_set (ones_get hx)]; exact .refl _
        · have hje : j = (ones r).length := by omega
          rw [hje, rfilled_all]
          simp -implicitDefEqProofs only [go_sem, List.reduceReplicate, Nat.reduceEqDiff, Nat.reduceAdd, Nat.reduceLeDiff, Nat.reduceMul, Nat.reduceSub, Nat.reduceDiv, Int.reduceToNat, Nat.reduceLT, Int.reduceLT, Int.reduceLE, ↓reduceIte, reduceCtorEq, forall_apply_eq_imp_iff₂, ints, rows, rat, rats, toNat_cast]
          refine CallW.pure (impl_sumOfProducts_ok q (ones r) (by omega) (by omega)) [22] rfl Try.call105 ?_ (by first | trivial | simp [T.noSh, T.noShL, rat]) rfl ?_
          · simp -implicitDefEqProofs only [Int.natCast_zero, Int.cast_ofNat_Int, Int.natCast_one, Nat.le_refl, Nat.reduceLeDiff, Nat.sub_self, Nat.reduceSub, List.getElem?_cons_zero, List.getElem?_cons_succ, vt_self, vaL, vtL, va, vt, vb, maT, List.cons_append, List.nil_append, List.append_nil, true_or, or_true, go_sem, List.reduceReplicate, Nat.reduceEqDiff, Nat.reduceAdd, Nat.reduceLeDiff, Nat.reduceMul, Nat.reduceSub, Nat.reduceDiv, Int.reduceToNat, Nat.reduceLT, Int.reduceLT, Int.reduceLE, ↓reduceIte, reduceCtorEq, ints, rows, rat, rats, ratsO, toShL_ratC, List.mem_cons, List.mem_nil_iff, List.not_mem_nil, or_false, false_or, exists_eq_left, exists_eq_left', exists_eq_right', Root.live.injEq, eq_self_iff_true, exists_eq, and_true, T.toSh, toShL_ints, toShL_intsO, intsO, rowsO]
          simp -implicitDefEqProofs only [go_sem, List.reduceReplicate, Nat.reduceEqDiff, Nat.reduceAdd, Nat.reduceLeDiff, Nat.reduceMul, Nat.reduceSub, Nat.reduceDiv, Int.reduceToNat, Nat.reduceLT, Int.reduceLT, Int.reduceLE, ↓reduceIte, reduceCtorEq, forall_apply_eq_imp_iff₂, ints, rows, rat, rats, toNat_cast, redT, rat]
          refine ⟨fun h2 => hr0 _ ?_, fun h2 => ?_⟩
          · have h2 : (spR q (ones r)).2 ≠ 0 := by simpa using h2
            rw [if_pos h2, gjoin, if_pos h2] at hg
            simp -implicitDefEqProofs only [go_sem, List.reduceReplicate, Nat.reduceEqDiff, Nat.reduceAdd, Nat.reduceLeDiff, Nat.reduceMul, Nat.reduceSub, Nat.reduceDiv, Int.reduceToNat, Nat.reduceLT, Int.reduceLT, Int.reduceLE, ↓reduceIte, reduceCtorEq, forall_apply_eq_imp_iff₂, ints, rows, rat, rats, toNat_cast]
            exact .inr ⟨by rw [← hg], by rw [← hg]⟩
          · have h2 : (spR q (ones r)).2 = 0 := by simpa using h2
            rw [if_neg (by simp [h2])] at hg
            refine ⟨by rw [ratC_length]; omega, hn _ (i + 1, g ++ [(spR q (ones r)).1]) (Weak.of _ _ [some 48] (by simp) (by simp) ?_ ?_) ⟨by simp only []; omega, by simp; omega, ?_⟩ (by simp only []; omega)⟩
            · simp -implicitDefEqProofs only [ints, rows, Nat.reduceBEq, Int.add_zero, envOK, maA, maT, upd_apply, Nat.reduceEqDiff, ↓reduceIte, and_true, true_or, or_true, List.map_cons, List.map_nil, Nat.zero_ne_one, and_self, true_and, Int.natCast_zero, Int.cast_ofNat_Int, Int.ofNat_zero, piOf, List.zip_cons_cons, List.zip_nil_right, List.lookup_cons, List.lookup_nil, beq_self_eq_true, rootsOK, mkRoots, mkEnv, rats, next64 (by omega : i < m.length) (by omega)]
            · refine ⟨⟨_, rfl, ?_⟩, rfl, trivial⟩
              rw [ratC_append]; exact .refl _
            · simp only []
              rw [← hg]
              by_cases h3 : (gainsGo q (m.drop (i + 1))).2 = 0
              · rw [if_neg (by simp [h3]), gjoin, gjoin, if_neg (by simp [h3]), if_neg (by simp)]; simp
              · rw [if_pos h3, gjoin, gjoin, if_pos h3, if_pos h3]
    · simp -implicitDefEqProofs only [go_sem, List.reduceReplicate, Nat.reduceEqDiff, Nat.reduceAdd, Nat.reduceLeDiff, Nat.reduceMul, Nat.reduceSub, Nat.reduceDiv, Int.reduceToNat, Nat.reduceLT, Int.reduceLT, Int.reduceLE, ↓reduceIte, reduceCtorEq, forall_apply_eq_imp_iff₂, ints, rows, rat, rats, toNat_cast]
      have : i = m.length := by omega
      rw [List.drop_of_length_le (by omega), gainsGo, gjoin] at hg
      left
      rw [← hg]; simp [gT, ratsO]
end Go.Ab

/- Contracts: gains of all rows and of all columns; the reference's. -/
set_option linter.unusedSimpArgs false
set_option linter.unusedVariables false
namespace Go.Ab
open Go.Proofs

def rowsGo (q : List (Int × Int)) : Int → List (List Int) → List (Int × Int) × Int
  | c, [] => ([], c)
  | c, r :: m => ((gainC c q r).1 :: (rowsGo q (gainC c q r).2 m).1, (rowsGo q (gainC c q r).2 m).2)
def rjoin (g : List (Int × Int)) (x : List (Int × Int) × Int) : List (Int × Int) × Int := (g ++ x.1, x.2)
theorem rjoin_cons (q : List (Int × Int)) (g : List (Int × Int)) (c : Int) (r : List Int) (m : List (List Int)) : rjoin g (rowsGo q c (r :: m)) = rjoin (g ++ [(gainC c q r).1]) (rowsGo q (gainC c q r).2 m) := by
  simp [rjoin, rowsGo]
theorem rowsGo_err (q : List (Int × Int)) : ∀ (m : List (List Int)) (c : Int), c ≠ 0 → (rowsGo q c m).2 = c
  | [], c, h => rfl
  | r :: m, c, h => by
    have : (gainC c q r).2 = c := gainGo_err _ _ _ h
    rw [rowsGo]; simp only []
    rw [this]; exact rowsGo_err q m c h
/-- Both ways of gathering gains. -/
theorem rowsGo_spec (q : List (Int × Int)) : ∀ (m : List (List Int)), (rowsGo q 0 m).2 = (gainsGo q m).2 ∧ ((gainsGo q m).2 = 0 → (rowsGo q 0 m).1 = (gainsGo q m).1)
  | [] => ⟨rfl, fun _ => rfl⟩
  | r :: m => by
    have hg : (gainC 0 q r).2 = (spR q (ones r)).2 ∧ ((spR q (ones r)).2 = 0 → (gainC 0 q r).1 = (spR q (ones r)).1) := gainGo_spec _ _
    rw [rowsGo, gainsGo]
    simp only []
    by_cases h1 : (spR q (ones r)).2 = 0
    · rw [hg.1, h1, if_neg (by simp)]
      obtain ⟨h2, h3⟩ := rowsGo_spec q m
      by_cases h4 : (gainsGo q m).2 = 0
      · rw [h4, if_neg (by simp)]
        exact ⟨by rw [h2, h4], fun _ => by rw [h3 h4, hg.2 h1]⟩
      · rw [if_pos h4]
        exact ⟨h2, fun h => absurd h h4⟩
    · rw [hg.1, if_pos h1]
      exact ⟨rowsGo_err q m _ h1, fun h => absurd h h1⟩

theorem spec_l26Rows_ok (c : Int) (m : List (List Int)) (q : List (Int × Int)) (hq : q.length ≤ 1000000) (hm : m.length ≤ 1000000) (hr : ∀ r ∈ m, q.length ≤ r.length) : Fun Try.prog 102 [.box [.i c]] [.own 1000000000, .t (rows m), .t (rats q)] fun o r => o = [.box [.i (rowsGo q c m).2]] ∧ r = ratsO (rowsGo q c m).1 := by
  refine fun_spec_l26Rows (by simp) ?_
  simp -implicitDefEqProofs only [go_sem, List.reduceReplicate, Nat.reduceEqDiff, Nat.reduceAdd, Nat.reduceLeDiff, Nat.reduceMul, Nat.reduceSub, Nat.reduceDiv, Int.reduceToNat, Nat.reduceLT, Int.reduceLT, Int.reduceLE, ↓reduceIte, reduceCtorEq, forall_apply_eq_imp_iff₂, ints, rows, rat, rats, toNat_cast, c_spec_l26Rows]
  refine SemC.loopR (σ := Nat × Int × List (Int × Int)) (fun s => St.of [(0, .own 1000000000), (1, .t (rows m)), (2, .t (rats q)), (7, .own 77), (8, .t (.i s.1))] [(77, .arr 2 (ratC s.2.2)), (1000000000, .box [.i s.2.1])]) (fun s => s.1 ≤ m.length ∧ s.2.2.length = s.1 ∧ rjoin s.2.2 (rowsGo q s.2.1 (m.drop s.1)) = rowsGo q c m) (fun s => m.length - s.1) (0, c, []) (Weak.of _ _ [some 9, some 1000000000] (by simp) (by simp) ?_ ?_) ⟨by simp, rfl, rfl⟩ fun s hI R hn hr0 he => ?_
  · simp -implicitDefEqProofs only [ints, rows, Nat.reduceBEq, Int.add_zero, envOK, maA, maT, upd_apply, Nat.reduceEqDiff, ↓reduceIte, and_true, true_or, or_true, List.map_cons, List.map_nil, Nat.zero_ne_one, and_self, true_and, Int.natCast_zero, Int.cast_ofNat_Int, Int.ofNat_zero, piOf, List.zip_cons_cons, List.zip_nil_right, List.lookup_cons, List.lookup_nil, beq_self_eq_true, rootsOK, mkRoots, mkEnv, rats]
  · exact ⟨⟨_, rfl, .refl _⟩, rfl, ⟨_, rfl, .refl _⟩, rfl, trivial⟩
  · obtain ⟨i, c', g⟩ := s
    obtain ⟨hi, hgl, hg⟩ := hI
    (try simp only [] at hi hgl hg)
    simp -implicitDefEqProofs only [go_sem, List.reduceReplicate, Nat.reduceEqDiff, Nat.reduceAdd, Nat.reduceLeDiff, Nat.reduceMul, Nat.reduceSub, Nat.reduceDiv, Int.reduceToNat, Nat.reduceLT, Int.reduceLT, Int.reduceLE, ↓reduceIte, reduceCtorEq, forall_apply_eq_imp_iff₂, ints, rows, rat, rats, toNat_cast]
    refine ⟨fun h => ⟨by omega, by omega, by omega, fun r hrow => ?_⟩, fun h => he _ _ ?_⟩
    · rw [drop_of_get hrow, rjoin_cons] at hg
      refine CallW.ref (spec_l26Gain_ok c' q r (hr r (List.mem_of_getElem? hrow)) (by omega)) [1000000000] [] rfl Try.call130 (by simp) ?_ (by simp) ?_ (.inl rfl) ?_
      · simp -implicitDefEqProofs only [rootOf_arr, rootOf_box, rootOf_any, srcsOK, updL, updS, upd_apply, Nat.reduceEqDiff, ↓reduceIte, mkRoots, and_true, ints, rows, intsO, rowsO]
      · simp -implicitDefEqProofs only [Int.natCast_zero, Int.cast_ofNat_Int, Int.natCast_one, Nat.le_refl, Nat.reduceLeDiff, Nat.sub_self, Nat.reduceSub, List.getElem?_cons_zero, List.getElem?_cons_succ, vt_self, vaL, vtL, va, vt, vb, maT, List.cons_append, List.nil_append, List.append_nil, true_or, or_true, go_sem, List.reduceReplicate, Nat.reduceEqDiff, Nat.reduceAdd, Nat.reduceLeDiff, Nat.reduceMul, Nat.reduceSub, Nat.reduceDiv, Int.reduceToNat, Nat.reduceLT, Int.reduceLT, Int.reduceLE, ↓reduceIte, reduceCtorEq, ints, rows, rat, rats, ratsO, toShL_ratC, List.mem_cons, List.mem_nil_iff, List.not_mem_nil, or_false, false_or, exists_eq_left, exists_eq_left', exists_eq_right', Root.live.injEq, eq_self_iff_true, exists_eq, and_true, T.toSh, toShL_ints, toShL_intsO, intsO, rowsO]
      simp -implicitDefEqProofs only [List.append_nil, List.cons_append, Nat.reduceLeDiff, afterCall, absT_rowsO, absT_intsO, absT, absL, updL, updS, freeAll, rid, T.noSh, T.noShL, Nat.zero_le, go_sem, List.reduceReplicate, Nat.reduceEqDiff, Nat.reduceAdd, Nat.reduceLeDiff, Nat.reduceMul, Nat.reduceSub, Nat.reduceDiv, Int.reduceToNat, Nat.reduceLT, Int.reduceLT, Int.reduceLE, ↓reduceIte, reduceCtorEq, rat, forall_apply_eq_imp_iff₂, toNat_cast, rat]
      refine ⟨by rw [ratC_length]; omega, hn _ (i + 1, (gainC c' q r).2, g ++ [(gainC c' q r).1]) (Weak.of _ _ [some 25, some 1000000000] (by simp) (by simp) ?_ ?_) ⟨by simp only []; omega, by simp; omega, hg⟩ (by simp only []; omega)⟩
      · simp -implicitDefEqProofs only [ints, rows, Nat.reduceBEq, Int.add_zero, envOK, maA, maT, upd_apply, Nat.reduceEqDiff, ↓reduceIte, and_true, true_or, or_true, List.map_cons, List.map_nil, Nat.zero_ne_one, and_self, true_and, Int.natCast_zero, Int.cast_ofNat_Int, Int.ofNat_zero, piOf, List.zip_cons_cons, List.zip_nil_right, List.lookup_cons, List.lookup_nil, beq_self_eq_true, rootsOK, mkRoots, mkEnv, rats, next64 (by omega : i < m.length) (by omega)]
      · refine ⟨⟨_, rfl, ?_⟩, rfl, ⟨_, rfl, .refl _⟩, rfl, trivial⟩
        rw [ratC_append]; exact .refl _
    · simp -implicitDefEqProofs only [go_sem, List.reduceReplicate, Nat.reduceEqDiff, Nat.reduceAdd, Nat.reduceLeDiff, Nat.reduceMul, Nat.reduceSub, Nat.reduceDiv, Int.reduceToNat, Nat.reduceLT, Int.reduceLT, Int.reduceLE, ↓reduceIte, reduceCtorEq, forall_apply_eq_imp_iff₂, ints, rows, rat, rats, toNat_cast]
      have : i = m.length := by omega
      rw [List.drop_of_length_le (by omega), rowsGo, rjoin, List.append_nil] at hg
      rw [← hg]; exact ⟨rfl, rfl⟩
end Go.Ab

/- Contracts: RowGains and ColumnGains. -/
set_option linter.unusedSimpArgs false
set_option linter.unusedVariables false
namespace Go.Ab
open Go.Proofs

theorem spec_l26List_ok (g : List (Int × Int)) : Fun Try.prog 101 [.box [.i 0], ratsO g] [.own 1000000000, .own 1000000001] fun o r => o = [.box [.i 0], .any] ∧ r = .tup [ratsO g, .i 0] := by
  refine fun_spec_l26List (by simp) ?_
  simp -implicitDefEqProofs only [go_sem, List.reduceReplicate, Nat.reduceEqDiff, Nat.reduceAdd, Nat.reduceLeDiff, Nat.reduceMul, Nat.reduceSub, Nat.reduceDiv, Int.reduceToNat, Nat.reduceLT, Int.reduceLT, Int.reduceLE, ↓reduceIte, reduceCtorEq, forall_apply_eq_imp_iff₂, ints, rows, rat, rats, toNat_cast, c_spec_l26List, ratsO]
theorem spec_l26List_err (c : Int) (hc : c ≠ 0) (g : List (Int × Int)) : Fun Try.prog 101 [.box [.i c], ratsO g] [.own 1000000000, .own 1000000001] fun o r => o = [.box [.i c], ratsO g] ∧ r = .tup [.v (.slice none 0 0), .i c] := by
  refine fun_spec_l26List (by simp) ?_
  simp -implicitDefEqProofs only [go_sem, List.reduceReplicate, Nat.reduceEqDiff, Nat.reduceAdd, Nat.reduceLeDiff, Nat.reduceMul, Nat.reduceSub, Nat.reduceDiv, Int.reduceToNat, Nat.reduceLT, Int.reduceLT, Int.reduceLE, ↓reduceIte, reduceCtorEq, forall_apply_eq_imp_iff₂, ints, rows, rat, rats, toNat_cast, c_spec_l26List, ratsO]
  exact ⟨fun _ => trivial, fun h => absurd (by simpa using h) hc⟩
/-- The results of RowGains, ColumnGains. -/
def rgRes (m : List (List Int)) (q : List (Int × Int)) : List (Int × Int) × Int := if isMat m then (if isMixB q (m.headD []).length then gainsGo q m else ([], 2)) else ([], 1)
theorem isMixB_length {p : List (Int × Int)} {n : Int} (h : isMixB p n = true) : (p.length : Int) = n := by
  simp only [isMixB, Bool.and_eq_true, decide_eq_true_eq] at h; exact h.1.2

theorem impl_RowGains_ok (m : List (List Int)) (q : List (Int × Int)) (hml : m.length ≤ 1000000000000) (hmr : ∀ r ∈ m, r.length ≤ 1000000000000) (hq : q.length ≤ 1000000000000) : Fun Try.prog 38 [] [.t (rows m), .t (rats q)] fun o r => o = [] ∧ r = gT (rgRes m q) := by
  refine Fun.gT_nil ?_
  refine fun_impl_RowGains (by simp) ?_
  simp -implicitDefEqProofs only [go_sem, List.reduceReplicate, Nat.reduceEqDiff, Nat.reduceAdd, Nat.reduceLeDiff, Nat.reduceMul, Nat.reduceSub, Nat.reduceDiv, Int.reduceToNat, Nat.reduceLT, Int.reduceLT, Int.reduceLE, ↓reduceIte, reduceCtorEq, forall_apply_eq_imp_iff₂, ints, rows, rat, rats, toNat_cast, c_impl_RowGains]
  refine CallW.pure (impl_IsMatrix_ok m (by omega) hmr) [] rfl Try.call56 ?_ (by first | trivial | simp [T.noSh, T.noShL, rat]) rfl ?_
  · simp -implicitDefEqProofs only [Int.natCast_zero, Int.cast_ofNat_Int, Int.natCast_one, Nat.le_refl, Nat.reduceLeDiff, Nat.sub_self, Nat.reduceSub, List.getElem?_cons_zero, List.getElem?_cons_succ, vt_self, vaL, vtL, va, vt, vb, maT, List.cons_append, List.nil_append, List.append_nil, true_or, or_true, go_sem, List.reduceReplicate, Nat.reduceEqDiff, Nat.reduceAdd, Nat.reduceLeDiff, Nat.reduceMul, Nat.reduceSub, Nat.reduceDiv, Int.reduceToNat, Nat.reduceLT, Int.reduceLT, Int.reduceLE, ↓reduceIte, reduceCtorEq, ints, rows, rat, rats, ratsO, toShL_ratC, List.mem_cons, List.mem_nil_iff, List.not_mem_nil, or_false, false_or, exists_eq_left, exists_eq_left', exists_eq_right', Root.live.injEq, eq_self_iff_true, exists_eq, and_true, T.toSh, toShL_ints, toShL_intsO, intsO, rowsO]
  simp -implicitDefEqProofs only [go_sem, List.reduceReplicate, Nat.reduceEqDiff, Nat.reduceAdd, Nat.reduceLeDiff, Nat.reduceMul, Nat.reduceSub, Nat.reduceDiv, Int.reduceToNat, Nat.reduceLT, Int.reduceLT, Int.reduceLE, ↓reduceIte, reduceCtorEq, forall_apply_eq_imp_iff₂, ints, rows, rat, rats, toNat_cast]
  refine ⟨fun h => ?_, fun h => ?_⟩
  · have h' : isMat m = false := by simpa using h
    right; rw [rgRes, h']; exact ⟨rfl, rfl⟩
  · have hmat : isMat m = true := by simpa using h
    obtain ⟨h1, h2, h3, h4, h5, h6⟩ := isMat_spec hmat
    refine ⟨by omega, by omega, fun r0 h0 => ?_⟩
    have hh := headD_get h0
    refine CallW.pure (impl_IsMix_ok q r0.length hq) [] rfl Try.call33 ?_ (by first | trivial | simp [T.noSh, T.noShL, rat]) rfl ?_
    · simp -implicitDefEqProofs only [Int.natCast_zero, Int.cast_ofNat_Int, Int.natCast_one, Nat.le_refl, Nat.reduceLeDiff, Nat.sub_self, Nat.reduceSub, List.getElem?_cons_zero, List.getElem?_cons_succ, vt_self, vaL, vtL, va, vt, vb, maT, List.cons_append, List.nil_append, List.append_nil, true_or, or_true, go_sem, List.reduceReplicate, Nat.reduceEqDiff, Nat.reduceAdd, Nat.reduceLeDiff, Nat.reduceMul, Nat.reduceSub, Nat.reduceDiv, Int.reduceToNat, Nat.reduceLT, Int.reduceLT, Int.reduceLE, ↓reduceIte, reduceCtorEq, ints, rows, rat, rats, ratsO, toShL_ratC, List.mem_cons, List.mem_nil_iff, List.not_mem_nil, or_false, false_or, exists_eq_left, exists_eq_left', exists_eq_right', Root.live.injEq, eq_self_iff_true, exists_eq, and_true, T.toSh, toShL_ints, toShL_intsO, intsO, rowsO]
    simp -implicitDefEqProofs only [go_sem, List.reduceReplicate, Nat.reduceEqDiff, Nat.reduceAdd, Nat.reduceLeDiff, Nat.reduceMul, Nat.reduceSub, Nat.reduceDiv, Int.reduceToNat, Nat.reduceLT, Int.reduceLT, Int.reduceLE, ↓reduceIte, reduceCtorEq, forall_apply_eq_imp_iff₂, ints, rows, rat, rats, toNat_cast]
    refine ⟨fun h => ?_, fun h => ?_⟩
    · have h' : isMixB q r0.length = false := by simpa using h
      right; rw [rgRes, hmat, hh, h']; exact ⟨rfl, rfl⟩
    · have hmix : isMixB q r0.length = true := by simpa using h
      have hql := isMixB_length hmix
      rw [hh] at h3 h4 h5
      refine CallW.res (impl_gainsOf_ok m q (by omega) (by omega) (fun r hr => by have := h5 r hr; omega)) [] rfl Try.call100 ?_ (.inl rfl) ?_
      · simp -implicitDefEqProofs only [Int.natCast_zero, Int.cast_ofNat_Int, Int.natCast_one, Nat.le_refl, Nat.reduceLeDiff, Nat.sub_self, Nat.reduceSub, List.getElem?_cons_zero, List.getElem?_cons_succ, vt_self, vaL, vtL, va, vt, vb, maT, List.cons_append, List.nil_append, List.append_nil, true_or, or_true, go_sem, List.reduceReplicate, Nat.reduceEqDiff, Nat.reduceAdd, Nat.reduceLeDiff, Nat.reduceMul, Nat.reduceSub, Nat.reduceDiv, Int.reduceToNat, Nat.reduceLT, Int.reduceLT, Int.reduceLE, ↓reduceIte, reduceCtorEq, ints, rows, rat, rats, ratsO, toShL_ratC, List.mem_cons, List.mem_nil_iff, List.not_mem_nil, or_false, false_or, exists_eq_left, exists_eq_left', exists_eq_right', Root.live.injEq, eq_self_iff_true, exists_eq, and_true, T.toSh, toShL_ints, toShL_intsO, intsO, rowsO]
      simp -implicitDefEqProofs only [List.append_nil, List.cons_append, Nat.reduceLeDiff, afterCall, absT_rowsO, absT_intsO, absT, absL, updL, updS, freeAll, rid, T.noSh, T.noShL, Nat.zero_le, go_sem, List.reduceReplicate, Nat.reduceEqDiff, Nat.reduceAdd, Nat.reduceLeDiff, Nat.reduceMul, Nat.reduceSub, Nat.reduceDiv, Int.reduceToNat, Nat.reduceLT, Int.reduceLT, Int.reduceLE, ↓reduceIte, reduceCtorEq, rat, forall_apply_eq_imp_iff₂, toNat_cast, gT]
      left; rw [rgRes, if_pos hmat, hh, if_pos hmix]
theorem spec_RowGains_ok (m : List (List Int)) (q : List (Int × Int)) (hq : q.length ≤ 1000000000000) : Fun Try.prog 39 [] [.t (rows m), .t (rats q)] fun o r => o = [] ∧ r = gT (rgRes m q) := by
  refine Fun.gT_nil ?_
  refine fun_spec_RowGains (by simp) ?_
  simp -implicitDefEqProofs only [go_sem, List.reduceReplicate, Nat.reduceEqDiff, Nat.reduceAdd, Nat.reduceLeDiff, Nat.reduceMul, Nat.reduceSub, Nat.reduceDiv, Int.reduceToNat, Nat.reduceLT, Int.reduceLT, Int.reduceLE, ↓reduceIte, reduceCtorEq, forall_apply_eq_imp_iff₂, ints, rows, rat, rats, toNat_cast, c_spec_RowGains]
  refine CallW.pure (spec_IsMatrix_ok m) [] rfl Try.call57 ?_ (by first | trivial | simp [T.noSh, T.noShL, rat]) rfl ?_
  · simp -implicitDefEqProofs only [Int.natCast_zero, Int.cast_ofNat_Int, Int.natCast_one, Nat.le_refl, Nat.reduceLeDiff, Nat.sub_self, Nat.reduceSub, List.getElem?_cons_zero, List.getElem?_cons_succ, vt_self, vaL, vtL, va, vt, vb, maT, List.cons_append, List.nil_append, List.append_nil, true_or, or_true, go_sem, List.reduceReplicate, Nat.reduceEqDiff, Nat.reduceAdd, Nat.reduceLeDiff, Nat.reduceMul, Nat.reduceSub, Nat.reduceDiv, Int.reduceToNat, Nat.reduceLT, Int.reduceLT, Int.reduceLE, ↓reduceIte, reduceCtorEq, ints, rows, rat, rats, ratsO, toShL_ratC, List.mem_cons, List.mem_nil_iff, List.not_mem_nil, or_false, false_or, exists_eq_left, exists_eq_left', exists_eq_right', Root.live.injEq, eq_self_iff_true, exists_eq, and_true, T.toSh, toShL_ints, toShL_intsO, intsO, rowsO]
  simp -implicitDefEqProofs only [go_sem, List.reduceReplicate, Nat.reduceEqDiff, Nat.reduceAdd, Nat.reduceLeDiff, Nat.reduceMul, Nat.reduceSub, Nat.reduceDiv, Int.reduceToNat, Nat.reduceLT, Int.reduceLT, Int.reduceLE, ↓reduceIte, reduceCtorEq, forall_apply_eq_imp_iff₂, ints, rows, rat, rats, toNat_cast]
  refine ⟨fun h => ?_, fun h => ?_⟩
  · have h' : isMat m = false := by simpa using h
    right; rw [rgRes, h']; exact ⟨rfl, rfl⟩
  · have hmat : isMat m = true := by simpa using h
    obtain ⟨h1, h2, h3, h4, h5, h6⟩ := isMat_spec hmat
    refine ⟨by omega, by omega, fun r0 h0 => ?_⟩
    have hh := headD_get h0
    refine CallW.pure (spec_IsMix_ok q r0.length hq) [] rfl Try.call36 ?_ (by first | trivial | simp [T.noSh, T.noShL, rat]) rfl ?_
    · simp -implicitDefEqProofs only [Int.natCast_zero, Int.cast_ofNat_Int, Int.natCast_one, Nat.le_refl, Nat.reduceLeDiff, Nat.sub_self, Nat.reduceSub, List.getElem?_cons_zero, List.getElem?_cons_succ, vt_self, vaL, vtL, va, vt, vb, maT, List.cons_append, List.nil_append, List.append_nil, true_or, or_true, go_sem, List.reduceReplicate, Nat.reduceEqDiff, Nat.reduceAdd, Nat.reduceLeDiff, Nat.reduceMul, Nat.reduceSub, Nat.reduceDiv, Int.reduceToNat, Nat.reduceLT, Int.reduceLT, Int.reduceLE, ↓reduceIte, reduceCtorEq, ints, rows, rat, rats, ratsO, toShL_ratC, List.mem_cons, List.mem_nil_iff, List.not_mem_nil, or_false, false_or, exists_eq_left, exists_eq_left', exists_eq_right', Root.live.injEq, eq_self_iff_true, exists_eq, and_true, T.toSh, toShL_ints, toShL_intsO, intsO, rowsO]
    simp -implicitDefEqProofs only [go_sem, List.reduceReplicate, Nat.reduceEqDiff, Nat.reduceAdd, Nat.reduceLeDiff, Nat.reduceMul, Nat.reduceSub, Nat.reduceDiv, Int.reduceToNat, Nat.reduceLT, Int.reduceLT, Int.reduceLE, ↓reduceIte, reduceCtorEq, forall_apply_eq_imp_iff₂, ints, rows, rat, rats, toNat_cast]
    refine ⟨fun h => ?_, fun h => ?_⟩
    · have h' : isMixB q r0.length = false := by simpa using h
      right; rw [rgRes, hmat, hh, h']; exact ⟨rfl, rfl⟩
    · have hmix : isMixB q r0.length = true := by simpa using h
      have hql := isMixB_length hmix
      rw [hh] at h3 h4 h5
      refine CallW.ref (spec_l26Rows_ok 0 m q (by omega) (by omega) (fun r hr => by have := h5 r hr; omega)) [18] [] rfl Try.call102 (by simp) ?_ (by simp) ?_ (.inl rfl) ?_
      · simp -implicitDefEqProofs only [rootOf_arr, rootOf_box, rootOf_any, srcsOK, updL, updS, upd_apply, Nat.reduceEqDiff, ↓reduceIte, mkRoots, and_true, ints, rows, intsO, rowsO]
      · simp -implicitDefEqProofs only [Int.natCast_zero, Int.cast_ofNat_Int, Int.natCast_one, Nat.le_refl, Nat.reduceLeDiff, Nat.sub_self, Nat.reduceSub, List.getElem?_cons_zero, List.getElem?_cons_succ, vt_self, vaL, vtL, va, vt, vb, maT, List.cons_append, List.nil_append, List.append_nil, true_or, or_true, go_sem, List.reduceReplicate, Nat.reduceEqDiff, Nat.reduceAdd, Nat.reduceLeDiff, Nat.reduceMul, Nat.reduceSub, Nat.reduceDiv, Int.reduceToNat, Nat.reduceLT, Int.reduceLT, Int.reduceLE, ↓reduceIte, reduceCtorEq, ints, rows, rat, rats, ratsO, toShL_ratC, List.mem_cons, List.mem_nil_iff, List.not_mem_nil, or_false, false_or, exists_eq_left, exists_eq_left', exists_eq_right', Root.live.injEq, eq_self_iff_true, exists_eq, and_true, T.toSh, toShL_ints, toShL_intsO, intsO, rowsO]
      simp -implicitDefEqProofs only [List.append_nil, List.cons_append, Nat.reduceLeDiff, afterCall, absT_rowsO, absT_intsO, absT, absL, updL, updS, freeAll, rid, T.noSh, T.noShL, Nat.zero_le, go_sem, List.reduceReplicate, Nat.reduceEqDiff, Nat.reduceAdd, Nat.reduceLeDiff, Nat.reduceMul, Nat.reduceSub, Nat.reduceDiv, Int.reduceToNat, Nat.reduceLT, Int.reduceLT, Int.reduceLE, ↓reduceIte, reduceCtorEq, rat, forall_apply_eq_imp_iff₂, toNat_cast]
      have hrs := rowsGo_spec q m
      have hres : rgRes m q = gainsGo q m := by rw [rgRes, if_pos hmat, hh, if_pos hmix]
      by_cases hc : (gainsGo q m).2 = 0
      · rw [hrs.1, hc, hrs.2 hc]
        refine CallW.ref (spec_l26List_ok (gainsGo q m).1) [18, 23] [] rfl Try.call101 (by simp) ?_ (by simp) ?_ (.inl rfl) ?_
        · simp -implicitDefEqProofs only [rootOf_arr, rootOf_box, rootOf_any, srcsOK, updL, updS, upd_apply, Nat.reduceEqDiff, ↓reduceIte, mkRoots, and_true, ints, rows, intsO, rowsO]
        · simp -implicitDefEqProofs only [Int.natCast_zero, Int.cast_ofNat_Int, Int.natCast_one, Nat.le_refl, Nat.reduceLeDiff, Nat.sub_self, Nat.reduceSub, List.getElem?_cons_zero, List.getElem?_cons_succ, vt_self, vaL, vtL, va, vt, vb, maT, List.cons_append, List.nil_append, List.append_nil, true_or, or_true, go_sem, List.reduceReplicate, Nat.reduceEqDiff, Nat.reduceAdd, Nat.reduceLeDiff, Nat.reduceMul, Nat.reduceSub, Nat.reduceDiv, Int.reduceToNat, Nat.reduceLT, Int.reduceLT, Int.reduceLE, ↓reduceIte, reduceCtorEq, ints, rows, rat, rats, ratsO, toShL_ratC, List.mem_cons, List.mem_nil_iff, List.not_mem_nil, or_false, false_or, exists_eq_left, exists_eq_left', exists_eq_right', Root.live.injEq, eq_self_iff_true, exists_eq, and_true, T.toSh, toShL_ints, toShL_intsO, intsO, rowsO]
        simp -implicitDefEqProofs only [List.append_nil, List.cons_append, Nat.reduceLeDiff, afterCall, absT_rowsO, absT_intsO, absT, absL, updL, updS, freeAll, rid, T.noSh, T.noShL, Nat.zero_le, go_sem, List.reduceReplicate, Nat.reduceEqDiff, Nat.reduceAdd, Nat.reduceLeDiff, Nat.reduceMul, Nat.reduceSub, Nat.reduceDiv, Int.reduceToNat, Nat.reduceLT, Int.reduceLT, Int.reduceLE, ↓reduceIte, reduceCtorEq, rat, forall_apply_eq_imp_iff₂, toNat_cast, ratsO]
        left; rw [hres, gT, hc]; rfl
      · rw [hrs.1]
        refine CallW.ref (spec_l26List_err (gainsGo q m).2 hc (rowsGo q 0 m).1) [18, 23] [] rfl Try.call101 (by simp) ?_ (by simp) ?_ (.inl rfl) ?_
        · simp -implicitDefEqProofs only [rootOf_arr, rootOf_box, rootOf_any, srcsOK, updL, updS, upd_apply, Nat.reduceEqDiff, ↓reduceIte, mkRoots, and_true, ints, rows, intsO, rowsO]
        · simp -implicitDefEqProofs only [Int.natCast_zero, Int.cast_ofNat_Int, Int.natCast_one, Nat.le_refl, Nat.reduceLeDiff, Nat.sub_self, Nat.reduceSub, List.getElem?_cons_zero, List.getElem?_cons_succ, vt_self, vaL, vtL, va, vt, vb, maT, List.cons_append, List.nil_append, List.append_nil, true_or, or_true, go_sem, List.reduceReplicate, Nat.reduceEqDiff, Nat.reduceAdd, Nat.reduceLeDiff, Nat.reduceMul, Nat.reduceSub, Nat.reduceDiv, Int.reduceToNat, Nat.reduceLT, Int.reduceLT, Int.reduceLE, ↓reduceIte, reduceCtorEq, ints, rows, rat, rats, ratsO, toShL_ratC, List.mem_cons, List.mem_nil_iff, List.not_mem_nil, or_false, false_or, exists_eq_left, exists_eq_left', exists_eq_right', Root.live.injEq, eq_self_iff_true, exists_eq, and_true, T.toSh, toShL_ints, toShL_intsO, intsO, rowsO]
        simp -implicitDefEqProofs only [List.append_nil, List.cons_append, Nat.reduceLeDiff, afterCall, absT_rowsO, absT_intsO, absT, absL, updL, updS, freeAll, rid, T.noSh, T.noShL, Nat.zero_le, go_sem, List.reduceReplicate, Nat.reduceEqDiff, Nat.reduceAdd, Nat.reduceLeDiff, Nat.reduceMul, Nat.reduceSub, Nat.reduceDiv, Int.reduceToNat, Nat.reduceLT, Int.reduceLT, Int.reduceLE, ↓reduceIte, reduceCtorEq, rat, forall_apply_eq_imp_iff₂, toNat_cast, ratsO]
        right; rw [hres]; exact ⟨gainsGo_err q m hc, rfl⟩
end Go.Ab

/- Contracts: marks of lists of ratios. -/
set_option linter.unusedSimpArgs false
set_option linter.unusedVariables false
namespace Go.Ab
open Go.Proofs

theorem budget_ok {n : Nat} {left : Int} (h0 : 0 ≤ left) (h : 0 ≤ budget n left) : (n : Int) ≤ left ∧ budget n left ≤ left := by
  simp only [budget] at h ⊢
  split at h <;> split <;> omega
theorem budgetRows_le : ∀ (m : List (List Int)) {left : Int}, 0 ≤ left → budgetRows m left ≤ left
  | [], left, h => by simp [budgetRows]
  | r :: m, left, h => by
    rw [budgetRows]
    split
    · omega
    · have := budgetRows_le m (left := left - r.length) (by omega); omega
theorem budgetMat_le {m : List (List Int)} {left : Int} (h : 0 ≤ left) : budgetMat m left ≤ left := by
  rw [budgetMat]; split
  · omega
  · have := budgetRows_le m (left := left - m.length) (by omega); omega
theorem rgRes_length (m : List (List Int)) (q : List (Int × Int)) : (rgRes m q).1.length ≤ 4 := by
  rw [rgRes]
  by_cases h1 : isMat m = true
  · obtain ⟨_, h2, _⟩ := isMat_spec h1
    rw [if_pos h1]; split
    · by_cases h3 : (gainsGo q m).2 = 0
      · rw [gainsGo_length q m h3]; exact h2
      · rw [gainsGo_err q m h3]; simp
    · simp
  · rw [if_neg h1]; simp
end Go.Ab

/- The order of ratios; valid sums. -/
set_option linter.unusedSimpArgs false
set_option linter.unusedVariables false
namespace Go.Ab
open Go.Proofs

def cmpR (a b : Int × Int) : Int := if a.1 * b.2 < b.1 * a.2 then -1 else if b.1 * a.2 < a.1 * b.2 then 1 else 0
/-- a is at most b. -/
def leR (a b : Int × Int) : Prop := a.1 * b.2 ≤ b.1 * a.2
theorem cmpR_gt {a b : Int × Int} : 0 < cmpR a b ↔ ¬ leR a b := by
  unfold cmpR leR; split
  · omega
  · split <;> omega
theorem leR_refl (a : Int × Int) : leR a a := Int.le_refl _
theorem redR_valid {n d : Int} (h : (redR n d).2 = 0) : isRat (redR n d).1 = true := by
  unfold redR at h ⊢
  split
  · rename_i h1; exact h1
  · rename_i h1; rw [if_neg h1] at h; simp at h
theorem addR_valid {a b : Int × Int} (h : (addR a b).2 = 0) : isRat (addR a b).1 = true := by
  unfold addR at h ⊢
  split
  · rename_i h1; rw [if_pos h1] at h; exact redR_valid h
  · rename_i h1; rw [if_neg h1] at h; simp at h
theorem spGo_valid : ∀ (l : List ((Int × Int) × (Int × Int))) (s : Int × Int), isRat s = true → (spGo s l).2 = 0 → isRat (spGo s l).1 = true
  | [], s, hs, _ => hs
  | x :: l, s, hs, h => by
    rw [spGo] at h ⊢
    split
    · rename_i h1; rw [if_pos h1] at h; exact absurd h h1
    · rename_i h1
      rw [if_neg h1] at h
      split
      · rename_i h2; rw [if_pos h2] at h; exact absurd h h2
      · rename_i h2; rw [if_neg h2] at h; exact spGo_valid l _ (addR_valid (by omega)) h
theorem gainsGo_valid (q : List (Int × Int)) : ∀ (m : List (List Int)), ∀ x ∈ (gainsGo q m).1, isRat x = true
  | [], x, hx => by simp [gainsGo] at hx
  | r :: m, x, hx => by
    rw [gainsGo] at hx
    split at hx
    · simp at hx
    · rename_i h1
      split at hx
      · simp at hx
      · rcases List.mem_cons.1 hx with rfl | hx
        · exact spGo_valid _ _ (by decide) (by have h1 : (spR q (ones r)).2 = 0 := by simpa using h1
                                               exact h1)
        · exact gainsGo_valid q m x hx

/-- The index of the first greatest among the first k. -/
def bestI (l : List (Int × Int)) : Nat → Nat
  | 0 => 0
  | k + 1 => if 0 < cmpR (l.getD k (0, 0)) (l.getD (bestI l k) (0, 0)) then k else bestI l k
theorem bestI_lt (l : List (Int × Int)) : ∀ k, k ≤ l.length → 0 < l.length → bestI l k < l.length
  | 0, _, h => h
  | k + 1, hk, h => by
    have := bestI_lt l k (by omega) h
    rw [bestI]; split <;> omega
theorem bestI_one (l : List (Int × Int)) : bestI l 1 = 0 := by
  rw [bestI]
  have : ¬ 0 < cmpR (l.getD 0 (0, 0)) (l.getD (bestI l 0) (0, 0)) := by
    rw [show bestI l 0 = 0 from rfl, cmpR_gt]; exact fun h => h (leR_refl _)
  rw [if_neg this]; rfl
end Go.Ab

/- Contracts: comparison of ratios; the least and the greatest of ratios. -/
set_option linter.unusedSimpArgs false
set_option linter.unusedVariables false
namespace Go.Ab
open Go.Proofs

theorem cmp_isNaN_ok (x : Int) : Pure Try.prog 141 [.i x] (.b false) := by
  refine fun_cmp_isNaN_int64_ (by simp) ?_
  simp -implicitDefEqProofs only [go_sem, List.reduceReplicate, Nat.reduceEqDiff, Nat.reduceAdd, Nat.reduceLeDiff, Nat.reduceMul, Nat.reduceSub, Nat.reduceDiv, Int.reduceToNat, Nat.reduceLT, Int.reduceLT, Int.reduceLE, ↓reduceIte, reduceCtorEq, forall_apply_eq_imp_iff₂, ints, rows, rat, rats, toNat_cast, c_cmp_isNaN_int64_]
theorem cmp_Compare_ok (x y : Int) : Pure Try.prog 121 [.i x, .i y] (.i (if x < y then -1 else if y < x then 1 else 0)) := by
  refine fun_cmp_Compare_int64_ (by simp) ?_
  simp -implicitDefEqProofs only [go_sem, List.reduceReplicate, Nat.reduceEqDiff, Nat.reduceAdd, Nat.reduceLeDiff, Nat.reduceMul, Nat.reduceSub, Nat.reduceDiv, Int.reduceToNat, Nat.reduceLT, Int.reduceLT, Int.reduceLE, ↓reduceIte, reduceCtorEq, forall_apply_eq_imp_iff₂, ints, rows, rat, rats, toNat_cast, c_cmp_Compare_int64_]
  refine CallW.pure (cmp_isNaN_ok x) [] rfl Try.call141 ?_ (by first | trivial | simp [T.noSh, T.noShL, rat]) rfl ?_
  · simp -implicitDefEqProofs only [Int.natCast_zero, Int.cast_ofNat_Int, Int.natCast_one, Nat.le_refl, Nat.reduceLeDiff, Nat.sub_self, Nat.reduceSub, List.getElem?_cons_zero, List.getElem?_cons_succ, vt_self, vaL, vtL, va, vt, vb, maT, List.cons_append, List.nil_append, List.append_nil, true_or, or_true, go_sem, List.reduceReplicate, Nat.reduceEqDiff, Nat.reduceAdd, Nat.reduceLeDiff, Nat.reduceMul, Nat.reduceSub, Nat.reduceDiv, Int.reduceToNat, Nat.reduceLT, Int.reduceLT, Int.reduceLE, ↓reduceIte, reduceCtorEq, ints, rows, rat, rats, ratsO, toShL_ratC, List.mem_cons, List.mem_nil_iff, List.not_mem_nil, or_false, false_or, exists_eq_left, exists_eq_left', exists_eq_right', Root.live.injEq, eq_self_iff_true, exists_eq, and_true, T.toSh, toShL_ints, toShL_intsO, intsO, rowsO]
  simp -implicitDefEqProofs only [go_sem, List.reduceReplicate, Nat.reduceEqDiff, Nat.reduceAdd, Nat.reduceLeDiff, Nat.reduceMul, Nat.reduceSub, Nat.reduceDiv, Int.reduceToNat, Nat.reduceLT, Int.reduceLT, Int.reduceLE, ↓reduceIte, reduceCtorEq, forall_apply_eq_imp_iff₂, ints, rows, rat, rats, toNat_cast]
  refine CallW.pure (cmp_isNaN_ok y) [] rfl Try.call141 ?_ (by first | trivial | simp [T.noSh, T.noShL, rat]) rfl ?_
  · simp -implicitDefEqProofs only [Int.natCast_zero, Int.cast_ofNat_Int, Int.natCast_one, Nat.le_refl, Nat.reduceLeDiff, Nat.sub_self, Nat.reduceSub, List.getElem?_cons_zero, List.getElem?_cons_succ, vt_self, vaL, vtL, va, vt, vb, maT, List.cons_append, List.nil_append, List.append_nil, true_or, or_true, go_sem, List.reduceReplicate, Nat.reduceEqDiff, Nat.reduceAdd, Nat.reduceLeDiff, Nat.reduceMul, Nat.reduceSub, Nat.reduceDiv, Int.reduceToNat, Nat.reduceLT, Int.reduceLT, Int.reduceLE, ↓reduceIte, reduceCtorEq, ints, rows, rat, rats, ratsO, toShL_ratC, List.mem_cons, List.mem_nil_iff, List.not_mem_nil, or_false, false_or, exists_eq_left, exists_eq_left', exists_eq_right', Root.live.injEq, eq_self_iff_true, exists_eq, and_true, T.toSh, toShL_ints, toShL_intsO, intsO, rowsO]
  simp -implicitDefEqProofs only [go_sem, List.reduceReplicate, Nat.reduceEqDiff, Nat.reduceAdd, Nat.reduceLeDiff, Nat.reduceMul, Nat.reduceSub, Nat.reduceDiv, Int.reduceToNat, Nat.reduceLT, Int.reduceLT, Int.reduceLE, ↓reduceIte, reduceCtorEq, forall_apply_eq_imp_iff₂, ints, rows, rat, rats, toNat_cast]
  refine ⟨fun h => by rw [if_pos h], fun h => ⟨fun h' => by rw [if_neg h, if_pos (by omega)], fun h' => by rw [if_neg h, if_neg (by omega)]⟩⟩
theorem impl_compareRatios_ok (a b : Int × Int) (ha : isRat a = true) (hb : isRat b = true) : Pure Try.prog 85 [rat a, rat b] (.i (cmpR a b)) := by
  refine fun_impl_compareRatios (by simp) ?_
  simp -implicitDefEqProofs only [go_sem, List.reduceReplicate, Nat.reduceEqDiff, Nat.reduceAdd, Nat.reduceLeDiff, Nat.reduceMul, Nat.reduceSub, Nat.reduceDiv, Int.reduceToNat, Nat.reduceLT, Int.reduceLT, Int.reduceLE, ↓reduceIte, reduceCtorEq, forall_apply_eq_imp_iff₂, ints, rows, rat, rats, toNat_cast, c_impl_compareRatios]
  obtain ⟨a1, a2, a3, a4⟩ := isRat_spec ha
  obtain ⟨b1, b2, b3, b4⟩ := isRat_spec hb
  have p1 := mul_bound a1 a2 b3 b4
  have p2 := mul_bound b1 b2 a3 a4
  rw [wrap64 (n := a.1 * b.2) (by omega) (by omega), wrap64 (n := b.1 * a.2) (by omega) (by omega)]
  refine CallW.pure (cmp_Compare_ok (a.1 * b.2) (b.1 * a.2)) [] rfl Try.call121 ?_ (by first | trivial | simp [T.noSh, T.noShL, rat]) rfl ?_
  · simp -implicitDefEqProofs only [Int.natCast_zero, Int.cast_ofNat_Int, Int.natCast_one, Nat.le_refl, Nat.reduceLeDiff, Nat.sub_self, Nat.reduceSub, List.getElem?_cons_zero, List.getElem?_cons_succ, vt_self, vaL, vtL, va, vt, vb, maT, List.cons_append, List.nil_append, List.append_nil, true_or, or_true, go_sem, List.reduceReplicate, Nat.reduceEqDiff, Nat.reduceAdd, Nat.reduceLeDiff, Nat.reduceMul, Nat.reduceSub, Nat.reduceDiv, Int.reduceToNat, Nat.reduceLT, Int.reduceLT, Int.reduceLE, ↓reduceIte, reduceCtorEq, ints, rows, rat, rats, ratsO, toShL_ratC, List.mem_cons, List.mem_nil_iff, List.not_mem_nil, or_false, false_or, exists_eq_left, exists_eq_left', exists_eq_right', Root.live.injEq, eq_self_iff_true, exists_eq, and_true, T.toSh, toShL_ints, toShL_intsO, intsO, rowsO]
  simp -implicitDefEqProofs only [go_sem, List.reduceReplicate, Nat.reduceEqDiff, Nat.reduceAdd, Nat.reduceLeDiff, Nat.reduceMul, Nat.reduceSub, Nat.reduceDiv, Int.reduceToNat, Nat.reduceLT, Int.reduceLT, Int.reduceLE, ↓reduceIte, reduceCtorEq, forall_apply_eq_imp_iff₂, ints, rows, rat, rats, toNat_cast]
  rfl
theorem spec_l01Compare_ok (a b : Int × Int) (ha : isRat a = true) (hb : isRat b = true) : Pure Try.prog 82 [rat a, rat b] (.i (cmpR a b)) := by
  refine fun_spec_l01Compare (by simp) ?_
  simp -implicitDefEqProofs only [go_sem, List.reduceReplicate, Nat.reduceEqDiff, Nat.reduceAdd, Nat.reduceLeDiff, Nat.reduceMul, Nat.reduceSub, Nat.reduceDiv, Int.reduceToNat, Nat.reduceLT, Int.reduceLT, Int.reduceLE, ↓reduceIte, reduceCtorEq, forall_apply_eq_imp_iff₂, ints, rows, rat, rats, toNat_cast, c_spec_l01Compare]
  obtain ⟨a1, a2, a3, a4⟩ := isRat_spec ha
  obtain ⟨b1, b2, b3, b4⟩ := isRat_spec hb
  have p1 := mul_bound a1 a2 b3 b4
  have p2 := mul_bound b1 b2 a3 a4
  rw [wrap64 (n := a.1 * b.2) (by omega) (by omega), wrap64 (n := b.1 * a.2) (by omega) (by omega)]
  unfold cmpR
  refine ⟨fun h => by rw [if_pos h], fun h => ⟨fun h' => by rw [if_neg h, if_pos (by omega)], fun h' => by rw [if_neg h, if_neg (by omega)]⟩⟩
end Go.Ab

/- Contracts: BestRow, SecurityOf. -/
set_option linter.unusedSimpArgs false
set_option linter.unusedVariables false
namespace Go.Ab
open Go.Proofs

def brT (x : Int × Int) : T := .tup [.i x.1, .i x.2]
theorem brT_noSh (x : Int × Int) : (brT x).noSh := ⟨trivial, trivial, trivial⟩
def brRes (m : List (List Int)) (q : List (Int × Int)) : Int × Int := if (rgRes m q).2 ≠ 0 then (0, (rgRes m q).2) else ((bestI (rgRes m q).1 (rgRes m q).1.length : Nat), 0)
theorem rgRes_valid (m : List (List Int)) (q : List (Int × Int)) : ∀ x ∈ (rgRes m q).1, isRat x = true := by
  unfold rgRes
  split
  · split
    · exact gainsGo_valid q m
    · intro x hx; simp at hx
  · intro x hx; simp at hx
theorem impl_BestRow_ok (m : List (List Int)) (q : List (Int × Int)) (hml : m.length ≤ 1000000000000) (hmr : ∀ r ∈ m, r.length ≤ 1000000000000) (hq : q.length ≤ 1000000000000) : Fun Try.prog 20 [] [.t (rows m), .t (rats q)] fun o r => o = [] ∧ r = brT (brRes m q) := by
  refine fun_impl_BestRow (by simp) ?_
  simp -implicitDefEqProofs only [go_sem, List.reduceReplicate, Nat.reduceEqDiff, Nat.reduceAdd, Nat.reduceLeDiff, Nat.reduceMul, Nat.reduceSub, Nat.reduceDiv, Int.reduceToNat, Nat.reduceLT, Int.reduceLT, Int.reduceLE, ↓reduceIte, reduceCtorEq, forall_apply_eq_imp_iff₂, ints, rows, rat, rats, toNat_cast, c_impl_BestRow]
  refine CallW.res (impl_RowGains_ok m q hml hmr hq) [] rfl Try.call38 ?_ (.inl rfl) ?_
  · simp -implicitDefEqProofs only [Int.natCast_zero, Int.cast_ofNat_Int, Int.natCast_one, Nat.le_refl, Nat.reduceLeDiff, Nat.sub_self, Nat.reduceSub, List.getElem?_cons_zero, List.getElem?_cons_succ, vt_self, vaL, vtL, va, vt, vb, maT, List.cons_append, List.nil_append, List.append_nil, true_or, or_true, go_sem, List.reduceReplicate, Nat.reduceEqDiff, Nat.reduceAdd, Nat.reduceLeDiff, Nat.reduceMul, Nat.reduceSub, Nat.reduceDiv, Int.reduceToNat, Nat.reduceLT, Int.reduceLT, Int.reduceLE, ↓reduceIte, reduceCtorEq, ints, rows, rat, rats, ratsO, toShL_ratC, List.mem_cons, List.mem_nil_iff, List.not_mem_nil, or_false, false_or, exists_eq_left, exists_eq_left', exists_eq_right', Root.live.injEq, eq_self_iff_true, exists_eq, and_true, T.toSh, toShL_ints, toShL_intsO, intsO, rowsO]
  simp -implicitDefEqProofs only [List.append_nil, List.cons_append, Nat.reduceLeDiff, afterCall, absT_rowsO, absT_intsO, absT, absL, updL, updS, freeAll, rid, T.noSh, T.noShL, Nat.zero_le, go_sem, List.reduceReplicate, Nat.reduceEqDiff, Nat.reduceAdd, Nat.reduceLeDiff, Nat.reduceMul, Nat.reduceSub, Nat.reduceDiv, Int.reduceToNat, Nat.reduceLT, Int.reduceLT, Int.reduceLE, ↓reduceIte, reduceCtorEq, rat, forall_apply_eq_imp_iff₂, toNat_cast, gT, ratsO]
  refine ⟨fun h => ?_, fun h => ?_⟩
  · have h : (rgRes m q).2 ≠ 0 := by simpa using h
    rw [brRes, if_pos h]; rfl
  · have h0 : (rgRes m q).2 = 0 := by simpa using h
    rw [brRes, if_neg (by rw [h0]; simp)]
    have hlen := rgRes_length m q
    have hval := rgRes_valid m q
    generalize (rgRes m q).1 = l at hlen hval ⊢
    refine SemC.loopR (σ := Nat) (fun i => St.of [(6, .own 14), (8, .t (.i (bestI l i : Nat))), (20, .own 14), (21, .t (.i l.length)), (22, .t (.i i))] [(14, .arr 2 (ratC l))]) (fun i => i ≤ l.length) (fun i => l.length - i) 0 (Weak.of _ _ [some 14] (by simp) (by simp) ?_ ?_) (by omega) fun i hi R hn hr he => ?_
    · simp -implicitDefEqProofs only [ints, rows, Nat.reduceBEq, Int.add_zero, envOK, maA, maT, upd_apply, Nat.reduceEqDiff, ↓reduceIte, and_true, true_or, or_true, List.map_cons, List.map_nil, Nat.zero_ne_one, and_self, true_and, Int.natCast_zero, Int.cast_ofNat_Int, Int.ofNat_zero, piOf, List.zip_cons_cons, List.zip_nil_right, List.lookup_cons, List.lookup_nil, beq_self_eq_true, rootsOK, mkRoots, mkEnv, bestI]
    · exact ⟨⟨_, rfl, .refl _⟩, rfl, trivial⟩
    · simp -implicitDefEqProofs only [go_sem, List.reduceReplicate, Nat.reduceEqDiff, Nat.reduceAdd, Nat.reduceLeDiff, Nat.reduceMul, Nat.reduceSub, Nat.reduceDiv, Int.reduceToNat, Nat.reduceLT, Int.reduceLT, Int.reduceLE, ↓reduceIte, reduceCtorEq, forall_apply_eq_imp_iff₂, ints, rows, rat, rats, toNat_cast]
      refine ⟨fun h => ?_, fun h => he _ _ ?_⟩
      · have hil : i < l.length := by omega
        obtain ⟨x, hx⟩ : ∃ x, l[i]? = some x := ⟨_, List.getElem?_eq_getElem hil⟩
        have hb := bestI_lt l i hi (by omega)
        obtain ⟨y, hy⟩ : ∃ y, l[bestI l i]? = some y := ⟨_, List.getElem?_eq_getElem hb⟩
        have hxv := hval x (List.mem_of_getElem? hx)
        have hyv := hval y (List.mem_of_getElem? hy)
        have hbs : bestI l (i + 1) = if 0 < cmpR x y then i else bestI l i := by
          rw [bestI, List.getD_eq_getElem?_getD, List.getD_eq_getElem?_getD, hx, hy]; rfl
        refine ⟨by omega, by rw [ratC_length]; omega, by rw [ratC_length]; omega, by rw [ratC_at hx]; rfl, ?_⟩
        rw [ratC_at hx]
        simp -implicitDefEqProofs only [go_sem, List.reduceReplicate, Nat.reduceEqDiff, Nat.reduceAdd, Nat.reduceLeDiff, Nat.reduceMul, Nat.reduceSub, Nat.reduceDiv, Int.reduceToNat, Nat.reduceLT, Int.reduceLT, Int.reduceLE, ↓reduceIte, reduceCtorEq, forall_apply_eq_imp_iff₂, ints, rows, rat, rats, toNat_cast]
        refine ⟨by omega, by rw [ratC_length]; omega, by rw [ratC_length]; omega, by rw [ratC_at hy]; rfl, ?_⟩
        rw [ratC_at hy]
        refine CallV.pure (impl_compareRatios_ok x y hxv hyv) [] rfl Try.call85 (fun e R' hR => ?_) (by first | trivial | simp [T.noSh, T.noShL, rat]) (fun _ => rfl) ?_
        · simp -implicitDefEqProofs only [Int.natCast_zero, Int.cast_ofNat_Int, Int.natCast_one, Nat.le_refl, Nat.reduceLeDiff, Nat.sub_self, Nat.reduceSub, List.getElem?_cons_zero, List.getElem?_cons_succ, vt_self, vaL, vtL, va, vt, vb, maT, List.cons_append, List.nil_append, List.append_nil, true_or, or_true, go_sem, List.reduceReplicate, Nat.reduceEqDiff, Nat.reduceAdd, Nat.reduceLeDiff, Nat.reduceMul, Nat.reduceSub, Nat.reduceDiv, Int.reduceToNat, Nat.reduceLT, Int.reduceLT, Int.reduceLE, ↓reduceIte, reduceCtorEq, ints, rows, rat, rats, ratsO, toShL_ratC, List.mem_cons, List.mem_nil_iff, List.not_mem_nil, or_false, false_or, exists_eq_left, exists_eq_left', exists_eq_right', Root.live.injEq, eq_self_iff_true, exists_eq, and_true, T.toSh, toShL_ints, toShL_intsO, intsO, rowsO]
        simp -implicitDefEqProofs only [go_sem, List.reduceReplicate, Nat.reduceEqDiff, Nat.reduceAdd, Nat.reduceLeDiff, Nat.reduceMul, Nat.reduceSub, Nat.reduceDiv, Int.reduceToNat, Nat.reduceLT, Int.reduceLT, Int.reduceLE, ↓reduceIte, reduceCtorEq, forall_apply_eq_imp_iff₂, ints, rows, rat, rats, toNat_cast]
        refine ⟨fun hc => ?_, fun hc => ?_⟩
        · rw [if_pos (by omega)] at hbs
          refine hn _ (i + 1) (Weak.of _ _ [some 14] (by simp) (by simp) ?_ ?_) (by omega) (by omega)
          · simp -implicitDefEqProofs only [ints, rows, Nat.reduceBEq, Int.add_zero, envOK, maA, maT, upd_apply, Nat.reduceEqDiff, ↓reduceIte, and_true, true_or, or_true, List.map_cons, List.map_nil, Nat.zero_ne_one, and_self, true_and, Int.natCast_zero, Int.cast_ofNat_Int, Int.ofNat_zero, piOf, List.zip_cons_cons, List.zip_nil_right, List.lookup_cons, List.lookup_nil, beq_self_eq_true, rootsOK, mkRoots, mkEnv, next64 hil (by omega), hbs]
          · exact ⟨⟨_, rfl, .refl _⟩, rfl, trivial⟩
        · rw [if_neg (by omega)] at hbs
          refine hn _ (i + 1) (Weak.of _ _ [some 14] (by simp) (by simp) ?_ ?_) (by omega) (by omega)
          · simp -implicitDefEqProofs only [ints, rows, Nat.reduceBEq, Int.add_zero, envOK, maA, maT, upd_apply, Nat.reduceEqDiff, ↓reduceIte, and_true, true_or, or_true, List.map_cons, List.map_nil, Nat.zero_ne_one, and_self, true_and, Int.natCast_zero, Int.cast_ofNat_Int, Int.ofNat_zero, piOf, List.zip_cons_cons, List.zip_nil_right, List.lookup_cons, List.lookup_nil, beq_self_eq_true, rootsOK, mkRoots, mkEnv, next64 hil (by omega), hbs]
          · exact ⟨⟨_, rfl, .refl _⟩, rfl, trivial⟩
      · simp -implicitDefEqProofs only [go_sem, List.reduceReplicate, Nat.reduceEqDiff, Nat.reduceAdd, Nat.reduceLeDiff, Nat.reduceMul, Nat.reduceSub, Nat.reduceDiv, Int.reduceToNat, Nat.reduceLT, Int.reduceLT, Int.reduceLE, ↓reduceIte, reduceCtorEq, forall_apply_eq_imp_iff₂, ints, rows, rat, rats, toNat_cast, brT]
        rw [show i = l.length by omega]
theorem spec_BestRow_ok (m : List (List Int)) (q : List (Int × Int)) (hq : q.length ≤ 1000000000000) : Fun Try.prog 17 [] [.t (rows m), .t (rats q)] fun o r => o = [] ∧ r = brT (brRes m q) := by
  refine fun_spec_BestRow (by simp) ?_
  simp -implicitDefEqProofs only [go_sem, List.reduceReplicate, Nat.reduceEqDiff, Nat.reduceAdd, Nat.reduceLeDiff, Nat.reduceMul, Nat.reduceSub, Nat.reduceDiv, Int.reduceToNat, Nat.reduceLT, Int.reduceLT, Int.reduceLE, ↓reduceIte, reduceCtorEq, forall_apply_eq_imp_iff₂, ints, rows, rat, rats, toNat_cast, c_spec_BestRow]
  refine CallW.res (spec_RowGains_ok m q hq) [] rfl Try.call39 ?_ (.inl rfl) ?_
  · simp -implicitDefEqProofs only [Int.natCast_zero, Int.cast_ofNat_Int, Int.natCast_one, Nat.le_refl, Nat.reduceLeDiff, Nat.sub_self, Nat.reduceSub, List.getElem?_cons_zero, List.getElem?_cons_succ, vt_self, vaL, vtL, va, vt, vb, maT, List.cons_append, List.nil_append, List.append_nil, true_or, or_true, go_sem, List.reduceReplicate, Nat.reduceEqDiff, Nat.reduceAdd, Nat.reduceLeDiff, Nat.reduceMul, Nat.reduceSub, Nat.reduceDiv, Int.reduceToNat, Nat.reduceLT, Int.reduceLT, Int.reduceLE, ↓reduceIte, reduceCtorEq, ints, rows, rat, rats, ratsO, toShL_ratC, List.mem_cons, List.mem_nil_iff, List.not_mem_nil, or_false, false_or, exists_eq_left, exists_eq_left', exists_eq_right', Root.live.injEq, eq_self_iff_true, exists_eq, and_true, T.toSh, toShL_ints, toShL_intsO, intsO, rowsO]
  simp -implicitDefEqProofs only [List.append_nil, List.cons_append, Nat.reduceLeDiff, afterCall, absT_rowsO, absT_intsO, absT, absL, updL, updS, freeAll, rid, T.noSh, T.noShL, Nat.zero_le, go_sem, List.reduceReplicate, Nat.reduceEqDiff, Nat.reduceAdd, Nat.reduceLeDiff, Nat.reduceMul, Nat.reduceSub, Nat.reduceDiv, Int.reduceToNat, Nat.reduceLT, Int.reduceLT, Int.reduceLE, ↓reduceIte, reduceCtorEq, rat, forall_apply_eq_imp_iff₂, toNat_cast, gT, ratsO]
  refine ⟨fun h => ?_, fun h => ?_⟩
  · have h : (rgRes m q).2 ≠ 0 := by simpa using h
    rw [brRes, if_pos h]; rfl
  · have h0 : (rgRes m q).2 = 0 := by simpa using h
    rw [brRes, if_neg (by rw [h0]; simp)]
    have hlen := rgRes_length m q
    have hval := rgRes_valid m q
    generalize (rgRes m q).1 = l at hlen hval ⊢
    refine SemC.loopR (σ := Nat) (fun i => St.of [(6, .own 13), (8, .t (.i (bestI l i : Nat))), (9, .t (.i i))] [(13, .arr 2 (ratC l))]) (fun i => 1 ≤ i ∧ (i ≤ l.length ∨ i = 1)) (fun i => l.length - i) 1 (Weak.of _ _ [some 13] (by simp) (by simp) ?_ ?_) ⟨by omega, by omega⟩ fun i hi R hn hr he => ?_
    · simp -implicitDefEqProofs only [ints, rows, Nat.reduceBEq, Int.add_zero, envOK, maA, maT, upd_apply, Nat.reduceEqDiff, ↓reduceIte, and_true, true_or, or_true, List.map_cons, List.map_nil, Nat.zero_ne_one, and_self, true_and, Int.natCast_zero, Int.cast_ofNat_Int, Int.ofNat_zero, piOf, List.zip_cons_cons, List.zip_nil_right, List.lookup_cons, List.lookup_nil, beq_self_eq_true, rootsOK, mkRoots, mkEnv, bestI_one]
    · exact ⟨⟨_, rfl, .refl _⟩, rfl, trivial⟩
    · simp -implicitDefEqProofs only [go_sem, List.reduceReplicate, Nat.reduceEqDiff, Nat.reduceAdd, Nat.reduceLeDiff, Nat.reduceMul, Nat.reduceSub, Nat.reduceDiv, Int.reduceToNat, Nat.reduceLT, Int.reduceLT, Int.reduceLE, ↓reduceIte, reduceCtorEq, forall_apply_eq_imp_iff₂, ints, rows, rat, rats, toNat_cast, ratC_div]
      refine ⟨fun h => ?_, fun h => he _ _ ?_⟩
      · have hil : i < l.length := by omega
        obtain ⟨x, hx⟩ : ∃ x, l[i]? = some x := ⟨_, List.getElem?_eq_getElem hil⟩
        have hb := bestI_lt l i (by omega) (by omega)
        obtain ⟨y, hy⟩ : ∃ y, l[bestI l i]? = some y := ⟨_, List.getElem?_eq_getElem hb⟩
        have hxv := hval x (List.mem_of_getElem? hx)
        have hyv := hval y (List.mem_of_getElem? hy)
        have hbs : bestI l (i + 1) = if 0 < cmpR x y then i else bestI l i := by
          rw [bestI, List.getD_eq_getElem?_getD, List.getD_eq_getElem?_getD, hx, hy]; rfl
        refine ⟨by omega, by rw [ratC_length]; omega, by rw [ratC_length]; omega, by rw [ratC_at hx]; rfl, by omega, by rw [ratC_length]; omega, by rw [ratC_length]; omega, by rw [ratC_at hy]; rfl, ?_⟩
        rw [ratC_at hx, ratC_at hy]
        refine CallV.pure (spec_l01Compare_ok x y hxv hyv) [] rfl Try.call82 (fun e R' hR => ?_) (by first | trivial | simp [T.noSh, T.noShL, rat]) (fun _ => rfl) ?_
        · simp -implicitDefEqProofs only [Int.natCast_zero, Int.cast_ofNat_Int, Int.natCast_one, Nat.le_refl, Nat.reduceLeDiff, Nat.sub_self, Nat.reduceSub, List.getElem?_cons_zero, List.getElem?_cons_succ, vt_self, vaL, vtL, va, vt, vb, maT, List.cons_append, List.nil_append, List.append_nil, true_or, or_true, go_sem, List.reduceReplicate, Nat.reduceEqDiff, Nat.reduceAdd, Nat.reduceLeDiff, Nat.reduceMul, Nat.reduceSub, Nat.reduceDiv, Int.reduceToNat, Nat.reduceLT, Int.reduceLT, Int.reduceLE, ↓reduceIte, reduceCtorEq, ints, rows, rat, rats, ratsO, toShL_ratC, List.mem_cons, List.mem_nil_iff, List.not_mem_nil, or_false, false_or, exists_eq_left, exists_eq_left', exists_eq_right', Root.live.injEq, eq_self_iff_true, exists_eq, and_true, T.toSh, toShL_ints, toShL_intsO, intsO, rowsO]
        simp -implicitDefEqProofs only [go_sem, List.reduceReplicate, Nat.reduceEqDiff, Nat.reduceAdd, Nat.reduceLeDiff, Nat.reduceMul, Nat.reduceSub, Nat.reduceDiv, Int.reduceToNat, Nat.reduceLT, Int.reduceLT, Int.reduceLE, ↓reduceIte, reduceCtorEq, forall_apply_eq_imp_iff₂, ints, rows, rat, rats, toNat_cast]
        refine ⟨fun hc => ?_, fun hc => ?_⟩
        · rw [if_pos (by omega)] at hbs
          refine hn _ (i + 1) (Weak.of _ _ [some 13] (by simp) (by simp) ?_ ?_) ⟨by omega, by omega⟩ (by omega)
          · simp -implicitDefEqProofs only [ints, rows, Nat.reduceBEq, Int.add_zero, envOK, maA, maT, upd_apply, Nat.reduceEqDiff, ↓reduceIte, and_true, true_or, or_true, List.map_cons, List.map_nil, Nat.zero_ne_one, and_self, true_and, Int.natCast_zero, Int.cast_ofNat_Int, Int.ofNat_zero, piOf, List.zip_cons_cons, List.zip_nil_right, List.lookup_cons, List.lookup_nil, beq_self_eq_true, rootsOK, mkRoots, mkEnv, next64 hil (by omega), hbs]
          · exact ⟨⟨_, rfl, .refl _⟩, rfl, trivial⟩
        · rw [if_neg (by omega)] at hbs
          refine hn _ (i + 1) (Weak.of _ _ [some 13] (by simp) (by simp) ?_ ?_) ⟨by omega, by omega⟩ (by omega)
          · simp -implicitDefEqProofs only [ints, rows, Nat.reduceBEq, Int.add_zero, envOK, maA, maT, upd_apply, Nat.reduceEqDiff, ↓reduceIte, and_true, true_or, or_true, List.map_cons, List.map_nil, Nat.zero_ne_one, and_self, true_and, Int.natCast_zero, Int.cast_ofNat_Int, Int.ofNat_zero, piOf, List.zip_cons_cons, List.zip_nil_right, List.lookup_cons, List.lookup_nil, beq_self_eq_true, rootsOK, mkRoots, mkEnv, next64 hil (by omega), hbs]
          · exact ⟨⟨_, rfl, .refl _⟩, rfl, trivial⟩
      · simp -implicitDefEqProofs only [go_sem, List.reduceReplicate, Nat.reduceEqDiff, Nat.reduceAdd, Nat.reduceLeDiff, Nat.reduceMul, Nat.reduceSub, Nat.reduceDiv, Int.reduceToNat, Nat.reduceLT, Int.reduceLT, Int.reduceLE, ↓reduceIte, reduceCtorEq, forall_apply_eq_imp_iff₂, ints, rows, rat, rats, toNat_cast, brT]
        have : bestI l i = bestI l l.length := by
          by_cases e : i = l.length
          · rw [e]
          · have h0 : l.length = 0 := by omega
            rw [h0, show i = 1 by omega, bestI_one]; rfl
        rw [this]
end Go.Ab

/- The law FnExactBestRow, as a contract. -/
set_option linter.unusedSimpArgs false
set_option linter.unusedVariables false
namespace Go.Ab
open Go.Proofs



theorem laws_FnExactBestRow_ok (m : List (List Int)) (hm : (m.length : Int) ≤ 9223372036854775807) (hmr : ∀ r ∈ m, (r.length : Int) ≤ 9223372036854775807) (q : List (Int × Int)) (hq : (q.length : Int) ≤ 9223372036854775807) : Pure Try.prog 3 [rows m, rats q] (.b true) := by
  refine fun_laws_FnExactBestRow (by simp) ?_
  simp -implicitDefEqProofs only [go_sem, List.reduceReplicate, Nat.reduceEqDiff, Nat.reduceAdd, Nat.reduceLeDiff, Nat.reduceMul, Nat.reduceSub, Nat.reduceDiv, Int.reduceToNat, Nat.reduceLT, Int.reduceLT, Int.reduceLE, ↓reduceIte, reduceCtorEq, forall_apply_eq_imp_iff₂, ints, rows, rat, rats, toNat_cast, c_laws_FnExactBestRow]
  refine CallW.pure (laws_szInt64SS_ok m 1048576 hm hmr (by omega) (by omega)) [] rfl Try.call15 ?_ (by first | trivial | simp [T.noSh, T.noShL, rat]) rfl ?_
  · simp -implicitDefEqProofs only [Int.natCast_zero, Int.cast_ofNat_Int, Int.natCast_one, Nat.le_refl, Nat.reduceLeDiff, Nat.sub_self, Nat.reduceSub, List.getElem?_cons_zero, List.getElem?_cons_succ, vt_self, vaL, vtL, va, vt, vb, maT, List.cons_append, List.nil_append, List.append_nil, true_or, or_true, go_sem, List.reduceReplicate, Nat.reduceEqDiff, Nat.reduceAdd, Nat.reduceLeDiff, Nat.reduceMul, Nat.reduceSub, Nat.reduceDiv, Int.reduceToNat, Nat.reduceLT, Int.reduceLT, Int.reduceLE, ↓reduceIte, reduceCtorEq, ints, rows, rat, rats, ratsO, toShL_ratC, List.mem_cons, List.mem_nil_iff, List.not_mem_nil, or_false, false_or, exists_eq_left, exists_eq_left', exists_eq_right', Root.live.injEq, eq_self_iff_true, exists_eq, and_true, T.toSh, toShL_ints, toShL_intsO, intsO, rowsO]
  simp -implicitDefEqProofs only [go_sem, List.reduceReplicate, Nat.reduceEqDiff, Nat.reduceAdd, Nat.reduceLeDiff, Nat.reduceMul, Nat.reduceSub, Nat.reduceDiv, Int.reduceToNat, Nat.reduceLT, Int.reduceLT, Int.reduceLE, ↓reduceIte, reduceCtorEq, forall_apply_eq_imp_iff₂, ints, rows, rat, rats, toNat_cast]
  refine ⟨fun _ => trivial, fun hb0 => ?_⟩
  obtain ⟨hm1, hmr1⟩ := budgetMat_ok (m := m) (left := 1048576) (by omega) (by omega)
  have hmt := budgetMat_tot (m := m) (left := 1048576) (by omega) (by omega)
  have hmb := budgetMat_le (m := m) (left := 1048576) (by omega)
  have hm2 : (m.length : Int) ≤ 1000000000000 := by omega
  have hmr2 : ∀ r ∈ m, (r.length : Int) ≤ 1000000000000 := fun r h => by have := hmr1 r h; omega
  have hmr3 : ∀ r ∈ m, r.length ≤ 1000000000000 := fun r h => by have := hmr1 r h; omega
  refine CallW.pure (laws_szRatioS_ok q (budgetMat m 1048576) hq (by omega) (by omega)) [] rfl Try.call16 ?_ (by first | trivial | simp [T.noSh, T.noShL, rat]) rfl ?_
  · simp -implicitDefEqProofs only [Int.natCast_zero, Int.cast_ofNat_Int, Int.natCast_one, Nat.le_refl, Nat.reduceLeDiff, Nat.sub_self, Nat.reduceSub, List.getElem?_cons_zero, List.getElem?_cons_succ, vt_self, vaL, vtL, va, vt, vb, maT, List.cons_append, List.nil_append, List.append_nil, true_or, or_true, go_sem, List.reduceReplicate, Nat.reduceEqDiff, Nat.reduceAdd, Nat.reduceLeDiff, Nat.reduceMul, Nat.reduceSub, Nat.reduceDiv, Int.reduceToNat, Nat.reduceLT, Int.reduceLT, Int.reduceLE, ↓reduceIte, reduceCtorEq, ints, rows, rat, rats, ratsO, toShL_ratC, List.mem_cons, List.mem_nil_iff, List.not_mem_nil, or_false, false_or, exists_eq_left, exists_eq_left', exists_eq_right', Root.live.injEq, eq_self_iff_true, exists_eq, and_true, T.toSh, toShL_ints, toShL_intsO, intsO, rowsO]
  simp -implicitDefEqProofs only [go_sem, List.reduceReplicate, Nat.reduceEqDiff, Nat.reduceAdd, Nat.reduceLeDiff, Nat.reduceMul, Nat.reduceSub, Nat.reduceDiv, Int.reduceToNat, Nat.reduceLT, Int.reduceLT, Int.reduceLE, ↓reduceIte, reduceCtorEq, forall_apply_eq_imp_iff₂, ints, rows, rat, rats, toNat_cast]
  refine ⟨fun _ => trivial, fun hb1 => ?_⟩
  obtain ⟨hq1, hqb⟩ := budget_ok (n := q.length) (left := (budgetMat m 1048576)) (by omega) (by omega)
  have hq2 : q.length ≤ 1000000000000 := by omega
  refine CallW.res (laws_toInt64SS_ok m hm2 hmr2) [] rfl Try.call18 ?_ (.inl rfl) ?_
  · simp -implicitDefEqProofs only [Int.natCast_zero, Int.cast_ofNat_Int, Int.natCast_one, Nat.le_refl, Nat.reduceLeDiff, Nat.sub_self, Nat.reduceSub, List.getElem?_cons_zero, List.getElem?_cons_succ, vt_self, vaL, vtL, va, vt, vb, maT, List.cons_append, List.nil_append, List.append_nil, true_or, or_true, go_sem, List.reduceReplicate, Nat.reduceEqDiff, Nat.reduceAdd, Nat.reduceLeDiff, Nat.reduceMul, Nat.reduceSub, Nat.reduceDiv, Int.reduceToNat, Nat.reduceLT, Int.reduceLT, Int.reduceLE, ↓reduceIte, reduceCtorEq, ints, rows, rat, rats, ratsO, toShL_ratC, List.mem_cons, List.mem_nil_iff, List.not_mem_nil, or_false, false_or, exists_eq_left, exists_eq_left', exists_eq_right', Root.live.injEq, eq_self_iff_true, exists_eq, and_true, T.toSh, toShL_ints, toShL_intsO, intsO, rowsO]
  simp -implicitDefEqProofs only [List.append_nil, List.cons_append, Nat.reduceLeDiff, afterCall, absT_rowsO, absT_intsO, absT, absL, updL, updS, freeAll, rid, T.noSh, T.noShL, Nat.zero_le, go_sem, List.reduceReplicate, Nat.reduceEqDiff, Nat.reduceAdd, Nat.reduceLeDiff, Nat.reduceMul, Nat.reduceSub, Nat.reduceDiv, Int.reduceToNat, Nat.reduceLT, Int.reduceLT, Int.reduceLE, ↓reduceIte, reduceCtorEq, rat, forall_apply_eq_imp_iff₂, toNat_cast]
  refine CallW.res (laws_toRatioS_ok q (by omega)) [] rfl Try.call19 ?_ (.inl rfl) ?_
  · simp -implicitDefEqProofs only [Int.natCast_zero, Int.cast_ofNat_Int, Int.natCast_one, Nat.le_refl, Nat.reduceLeDiff, Nat.sub_self, Nat.reduceSub, List.getElem?_cons_zero, List.getElem?_cons_succ, vt_self, vaL, vtL, va, vt, vb, maT, List.cons_append, List.nil_append, List.append_nil, true_or, or_true, go_sem, List.reduceReplicate, Nat.reduceEqDiff, Nat.reduceAdd, Nat.reduceLeDiff, Nat.reduceMul, Nat.reduceSub, Nat.reduceDiv, Int.reduceToNat, Nat.reduceLT, Int.reduceLT, Int.reduceLE, ↓reduceIte, reduceCtorEq, ints, rows, rat, rats, ratsO, toShL_ratC, List.mem_cons, List.mem_nil_iff, List.not_mem_nil, or_false, false_or, exists_eq_left, exists_eq_left', exists_eq_right', Root.live.injEq, eq_self_iff_true, exists_eq, and_true, T.toSh, toShL_ints, toShL_intsO, intsO, rowsO]
  simp -implicitDefEqProofs only [List.append_nil, List.cons_append, Nat.reduceLeDiff, afterCall, absT_rowsO, absT_intsO, absT, absL, updL, updS, freeAll, rid, T.noSh, T.noShL, Nat.zero_le, go_sem, List.reduceReplicate, Nat.reduceEqDiff, Nat.reduceAdd, Nat.reduceLeDiff, Nat.reduceMul, Nat.reduceSub, Nat.reduceDiv, Int.reduceToNat, Nat.reduceLT, Int.reduceLT, Int.reduceLE, ↓reduceIte, reduceCtorEq, rat, forall_apply_eq_imp_iff₂, toNat_cast]
  refine CallW.res (spec_BestRow_ok m q (by omega)) [24, 26] rfl Try.call17 ?_ (.inr (brT_noSh _)) ?_
  · simp -implicitDefEqProofs only [Int.natCast_zero, Int.cast_ofNat_Int, Int.natCast_one, Nat.le_refl, Nat.reduceLeDiff, Nat.sub_self, Nat.reduceSub, List.getElem?_cons_zero, List.getElem?_cons_succ, vt_self, vaL, vtL, va, vt, vb, maT, List.cons_append, List.nil_append, List.append_nil, true_or, or_true, go_sem, List.reduceReplicate, Nat.reduceEqDiff, Nat.reduceAdd, Nat.reduceLeDiff, Nat.reduceMul, Nat.reduceSub, Nat.reduceDiv, Int.reduceToNat, Nat.reduceLT, Int.reduceLT, Int.reduceLE, ↓reduceIte, reduceCtorEq, ints, rows, rat, rats, ratsO, toShL_ratC, List.mem_cons, List.mem_nil_iff, List.not_mem_nil, or_false, false_or, exists_eq_left, exists_eq_left', exists_eq_right', Root.live.injEq, eq_self_iff_true, exists_eq, and_true, T.toSh, toShL_ints, toShL_intsO, intsO, rowsO]
  simp -implicitDefEqProofs only [List.append_nil, List.cons_append, Nat.reduceLeDiff, afterCall, absT_rowsO, absT_intsO, absT, absL, updL, updS, freeAll, rid, T.noSh, T.noShL, Nat.zero_le, go_sem, List.reduceReplicate, Nat.reduceEqDiff, Nat.reduceAdd, Nat.reduceLeDiff, Nat.reduceMul, Nat.reduceSub, Nat.reduceDiv, Int.reduceToNat, Nat.reduceLT, Int.reduceLT, Int.reduceLE, ↓reduceIte, reduceCtorEq, rat, forall_apply_eq_imp_iff₂, toNat_cast, brT, not_true_eq_false, decide_false]
  refine CallW.res (laws_toInt64SS_ok m hm2 hmr2) [] rfl Try.call18 ?_ (.inl rfl) ?_
  · simp -implicitDefEqProofs only [Int.natCast_zero, Int.cast_ofNat_Int, Int.natCast_one, Nat.le_refl, Nat.reduceLeDiff, Nat.sub_self, Nat.reduceSub, List.getElem?_cons_zero, List.getElem?_cons_succ, vt_self, vaL, vtL, va, vt, vb, maT, List.cons_append, List.nil_append, List.append_nil, true_or, or_true, go_sem, List.reduceReplicate, Nat.reduceEqDiff, Nat.reduceAdd, Nat.reduceLeDiff, Nat.reduceMul, Nat.reduceSub, Nat.reduceDiv, Int.reduceToNat, Nat.reduceLT, Int.reduceLT, Int.reduceLE, ↓reduceIte, reduceCtorEq, ints, rows, rat, rats, ratsO, toShL_ratC, List.mem_cons, List.mem_nil_iff, List.not_mem_nil, or_false, false_or, exists_eq_left, exists_eq_left', exists_eq_right', Root.live.injEq, eq_self_iff_true, exists_eq, and_true, T.toSh, toShL_ints, toShL_intsO, intsO, rowsO]
  simp -implicitDefEqProofs only [List.append_nil, List.cons_append, Nat.reduceLeDiff, afterCall, absT_rowsO, absT_intsO, absT, absL, updL, updS, freeAll, rid, T.noSh, T.noShL, Nat.zero_le, go_sem, List.reduceReplicate, Nat.reduceEqDiff, Nat.reduceAdd, Nat.reduceLeDiff, Nat.reduceMul, Nat.reduceSub, Nat.reduceDiv, Int.reduceToNat, Nat.reduceLT, Int.reduceLT, Int.reduceLE, ↓reduceIte, reduceCtorEq, rat, forall_apply_eq_imp_iff₂, toNat_cast]
  refine CallW.res (laws_toRatioS_ok q (by omega)) [] rfl Try.call19 ?_ (.inl rfl) ?_
  · simp -implicitDefEqProofs only [Int.natCast_zero, Int.cast_ofNat_Int, Int.natCast_one, Nat.le_refl, Nat.reduceLeDiff, Nat.sub_self, Nat.reduceSub, List.getElem?_cons_zero, List.getElem?_cons_succ, vt_self, vaL, vtL, va, vt, vb, maT, List.cons_append, List.nil_append, List.append_nil, true_or, or_true, go_sem, List.reduceReplicate, Nat.reduceEqDiff, Nat.reduceAdd, Nat.reduceLeDiff, Nat.reduceMul, Nat.reduceSub, Nat.reduceDiv, Int.reduceToNat, Nat.reduceLT, Int.reduceLT, Int.reduceLE, ↓reduceIte, reduceCtorEq, ints, rows, rat, rats, ratsO, toShL_ratC, List.mem_cons, List.mem_nil_iff, List.not_mem_nil, or_false, false_or, exists_eq_left, exists_eq_left', exists_eq_right', Root.live.injEq, eq_self_iff_true, exists_eq, and_true, T.toSh, toShL_ints, toShL_intsO, intsO, rowsO]
  simp -implicitDefEqProofs only [List.append_nil, List.cons_append, Nat.reduceLeDiff, afterCall, absT_rowsO, absT_intsO, absT, absL, updL, updS, freeAll, rid, T.noSh, T.noShL, Nat.zero_le, go_sem, List.reduceReplicate, Nat.reduceEqDiff, Nat.reduceAdd, Nat.reduceLeDiff, Nat.reduceMul, Nat.reduceSub, Nat.reduceDiv, Int.reduceToNat, Nat.reduceLT, Int.reduceLT, Int.reduceLE, ↓reduceIte, reduceCtorEq, rat, forall_apply_eq_imp_iff₂, toNat_cast]
  refine CallW.res (impl_BestRow_ok m q (by omega) hmr3 (by omega)) [31, 33] rfl Try.call20 ?_ (.inr (brT_noSh _)) ?_
  · simp -implicitDefEqProofs only [Int.natCast_zero, Int.cast_ofNat_Int, Int.natCast_one, Nat.le_refl, Nat.reduceLeDiff, Nat.sub_self, Nat.reduceSub, List.getElem?_cons_zero, List.getElem?_cons_succ, vt_self, vaL, vtL, va, vt, vb, maT, List.cons_append, List.nil_append, List.append_nil, true_or, or_true, go_sem, List.reduceReplicate, Nat.reduceEqDiff, Nat.reduceAdd, Nat.reduceLeDiff, Nat.reduceMul, Nat.reduceSub, Nat.reduceDiv, Int.reduceToNat, Nat.reduceLT, Int.reduceLT, Int.reduceLE, ↓reduceIte, reduceCtorEq, ints, rows, rat, rats, ratsO, toShL_ratC, List.mem_cons, List.mem_nil_iff, List.not_mem_nil, or_false, false_or, exists_eq_left, exists_eq_left', exists_eq_right', Root.live.injEq, eq_self_iff_true, exists_eq, and_true, T.toSh, toShL_ints, toShL_intsO, intsO, rowsO]
  simp -implicitDefEqProofs only [List.append_nil, List.cons_append, Nat.reduceLeDiff, afterCall, absT_rowsO, absT_intsO, absT, absL, updL, updS, freeAll, rid, T.noSh, T.noShL, Nat.zero_le, go_sem, List.reduceReplicate, Nat.reduceEqDiff, Nat.reduceAdd, Nat.reduceLeDiff, Nat.reduceMul, Nat.reduceSub, Nat.reduceDiv, Int.reduceToNat, Nat.reduceLT, Int.reduceLT, Int.reduceLE, ↓reduceIte, reduceCtorEq, rat, forall_apply_eq_imp_iff₂, toNat_cast, brT, not_true_eq_false, decide_false]
  refine CallW.res (laws_toInt64SS_ok m hm2 hmr2) [] rfl Try.call18 ?_ (.inl rfl) ?_
  · simp -implicitDefEqProofs only [Int.natCast_zero, Int.cast_ofNat_Int, Int.natCast_one, Nat.le_refl, Nat.reduceLeDiff, Nat.sub_self, Nat.reduceSub, List.getElem?_cons_zero, List.getElem?_cons_succ, vt_self, vaL, vtL, va, vt, vb, maT, List.cons_append, List.nil_append, List.append_nil, true_or, or_true, go_sem, List.reduceReplicate, Nat.reduceEqDiff, Nat.reduceAdd, Nat.reduceLeDiff, Nat.reduceMul, Nat.reduceSub, Nat.reduceDiv, Int.reduceToNat, Nat.reduceLT, Int.reduceLT, Int.reduceLE, ↓reduceIte, reduceCtorEq, ints, rows, rat, rats, ratsO, toShL_ratC, List.mem_cons, List.mem_nil_iff, List.not_mem_nil, or_false, false_or, exists_eq_left, exists_eq_left', exists_eq_right', Root.live.injEq, eq_self_iff_true, exists_eq, and_true, T.toSh, toShL_ints, toShL_intsO, intsO, rowsO]
  simp -implicitDefEqProofs only [List.append_nil, List.cons_append, Nat.reduceLeDiff, afterCall, absT_rowsO, absT_intsO, absT, absL, updL, updS, freeAll, rid, T.noSh, T.noShL, Nat.zero_le, go_sem, List.reduceReplicate, Nat.reduceEqDiff, Nat.reduceAdd, Nat.reduceLeDiff, Nat.reduceMul, Nat.reduceSub, Nat.reduceDiv, Int.reduceToNat, Nat.reduceLT, Int.reduceLT, Int.reduceLE, ↓reduceIte, reduceCtorEq, rat, forall_apply_eq_imp_iff₂, toNat_cast]
  refine CallW.pure (laws_eqInt64SS_ok m m (by omega) (by omega) hmr3 hmr3) [31, 50] rfl Try.call21 ?_ (by first | trivial | simp [T.noSh, T.noShL, rat]) rfl ?_
  · simp -implicitDefEqProofs only [Int.natCast_zero, Int.cast_ofNat_Int, Int.natCast_one, Nat.le_refl, Nat.reduceLeDiff, Nat.sub_self, Nat.reduceSub, List.getElem?_cons_zero, List.getElem?_cons_succ, vt_self, vaL, vtL, va, vt, vb, maT, List.cons_append, List.nil_append, List.append_nil, true_or, or_true, go_sem, List.reduceReplicate, Nat.reduceEqDiff, Nat.reduceAdd, Nat.reduceLeDiff, Nat.reduceMul, Nat.reduceSub, Nat.reduceDiv, Int.reduceToNat, Nat.reduceLT, Int.reduceLT, Int.reduceLE, ↓reduceIte, reduceCtorEq, ints, rows, rat, rats, ratsO, toShL_ratC, List.mem_cons, List.mem_nil_iff, List.not_mem_nil, or_false, false_or, exists_eq_left, exists_eq_left', exists_eq_right', Root.live.injEq, eq_self_iff_true, exists_eq, and_true, T.toSh, toShL_ints, toShL_intsO, intsO, rowsO]
  simp -implicitDefEqProofs only [go_sem, List.reduceReplicate, Nat.reduceEqDiff, Nat.reduceAdd, Nat.reduceLeDiff, Nat.reduceMul, Nat.reduceSub, Nat.reduceDiv, Int.reduceToNat, Nat.reduceLT, Int.reduceLT, Int.reduceLE, ↓reduceIte, reduceCtorEq, forall_apply_eq_imp_iff₂, ints, rows, rat, rats, toNat_cast]
  refine CallW.res (laws_toRatioS_ok q (by omega)) [] rfl Try.call19 ?_ (.inl rfl) ?_
  · simp -implicitDefEqProofs only [Int.natCast_zero, Int.cast_ofNat_Int, Int.natCast_one, Nat.le_refl, Nat.reduceLeDiff, Nat.sub_self, Nat.reduceSub, List.getElem?_cons_zero, List.getElem?_cons_succ, vt_self, vaL, vtL, va, vt, vb, maT, List.cons_append, List.nil_append, List.append_nil, true_or, or_true, go_sem, List.reduceReplicate, Nat.reduceEqDiff, Nat.reduceAdd, Nat.reduceLeDiff, Nat.reduceMul, Nat.reduceSub, Nat.reduceDiv, Int.reduceToNat, Nat.reduceLT, Int.reduceLT, Int.reduceLE, ↓reduceIte, reduceCtorEq, ints, rows, rat, rats, ratsO, toShL_ratC, List.mem_cons, List.mem_nil_iff, List.not_mem_nil, or_false, false_or, exists_eq_left, exists_eq_left', exists_eq_right', Root.live.injEq, eq_self_iff_true, exists_eq, and_true, T.toSh, toShL_ints, toShL_intsO, intsO, rowsO]
  simp -implicitDefEqProofs only [List.append_nil, List.cons_append, Nat.reduceLeDiff, afterCall, absT_rowsO, absT_intsO, absT, absL, updL, updS, freeAll, rid, T.noSh, T.noShL, Nat.zero_le, go_sem, List.reduceReplicate, Nat.reduceEqDiff, Nat.reduceAdd, Nat.reduceLeDiff, Nat.reduceMul, Nat.reduceSub, Nat.reduceDiv, Int.reduceToNat, Nat.reduceLT, Int.reduceLT, Int.reduceLE, ↓reduceIte, reduceCtorEq, rat, forall_apply_eq_imp_iff₂, toNat_cast]
  refine CallW.pure (laws_eqRatioS_ok q q (by omega) (by omega)) [33, 55] rfl Try.call22 ?_ (by first | trivial | simp [T.noSh, T.noShL, rat]) rfl ?_
  · simp -implicitDefEqProofs only [Int.natCast_zero, Int.cast_ofNat_Int, Int.natCast_one, Nat.le_refl, Nat.reduceLeDiff, Nat.sub_self, Nat.reduceSub, List.getElem?_cons_zero, List.getElem?_cons_succ, vt_self, vaL, vtL, va, vt, vb, maT, List.cons_append, List.nil_append, List.append_nil, true_or, or_true, go_sem, List.reduceReplicate, Nat.reduceEqDiff, Nat.reduceAdd, Nat.reduceLeDiff, Nat.reduceMul, Nat.reduceSub, Nat.reduceDiv, Int.reduceToNat, Nat.reduceLT, Int.reduceLT, Int.reduceLE, ↓reduceIte, reduceCtorEq, ints, rows, rat, rats, ratsO, toShL_ratC, List.mem_cons, List.mem_nil_iff, List.not_mem_nil, or_false, false_or, exists_eq_left, exists_eq_left', exists_eq_right', Root.live.injEq, eq_self_iff_true, exists_eq, and_true, T.toSh, toShL_ints, toShL_intsO, intsO, rowsO]
  simp -implicitDefEqProofs only [go_sem, List.reduceReplicate, Nat.reduceEqDiff, Nat.reduceAdd, Nat.reduceLeDiff, Nat.reduceMul, Nat.reduceSub, Nat.reduceDiv, Int.reduceToNat, Nat.reduceLT, Int.reduceLT, Int.reduceLE, ↓reduceIte, reduceCtorEq, forall_apply_eq_imp_iff₂, ints, rows, rat, rats, toNat_cast]
end Go.Ab

set_option linter.unusedSimpArgs false
set_option linter.unusedVariables false
namespace Go.Proofs.Ytocaiefddkjiiaa
open Go.ChangeShapes Go.WideShapes Go.ChangeAt Go.RowKit Go.Ab

namespace fnExactBestRow
theorem said : ∀ xs, wtL [tyRows, tyRats] xs → Pure Try.prog 3 xs (.b true)
  | [x0, x1], h => by
    obtain ⟨m, rfl, hm, hmr⟩ := wt_rows h.1
    obtain ⟨q, rfl, hq⟩ := wt_rats h.2.1
    exact laws_FnExactBestRow_ok m (by omega) (fun r h => by have := (hmr r h).1; omega) q (by omega)
  | [], h => h.elim
  | [_], h => h.2.elim
  | _ :: _ :: _ :: _, h => h.2.2.elim

set_option maxRecDepth 100000 in
theorem lifted (os : Os) (started : os.Started) (H : Type) (enc : TypeId × Value → H) :
    ReturnsInHanded {} Try.checked os 3 .any (Rows.fnExactBestRowSpec.pre6 enc Try.prog Try.f3 Rows.fnExactBestRowRow.domain false) (Rows.fnExactBestRowSpec.post enc Try.prog Try.f3 false true false false) := by
  refine returnsInHanded_of_change (C := Try.checked) (by kernel_rfl) started (by kernel_rfl) Try.func3
    (ChangeSpec.witness6 (enc := enc) (C := Try.checked) false ⟨#[], #[.slice none 0 0, .slice none 0 0], []⟩ 8 (by kernel_rfl) (by kernel_rfl) (by kernel_rfl) (by kernel_rfl)) ?_
  intro W base args ds gs before hval hW _ _
  refine law_contract (tys := [tyRows, tyRats]) (by kernel_rfl) (by kernel_rfl) rfl (by kernel_rfl) rfl (fun ds h => ?_) said W base args ds gs before hval hW
  match ds, h with
  | [d0, d1], _ => rfl

theorem over : Rows.fnExactBestRowRow.holds Try.pinned (OpenSpec.ofChange Rows.fnExactBestRowSpec) :=
  OpenClaim.holds_of_wide 3 Try.f3 rfl rfl rfl rfl rfl rfl rfl ⟨rfl, rfl, rfl, rfl, rfl⟩ rfl rfl rfl rfl rfl (by kernel_rfl) Try.func3 (by kernel_rfl)
    (of_decide_eq_true (by kernel_rfl)) (by unfold Func.isWrapper; first | (rw [if_pos (by decide +kernel)]; kernel_rfl) | (rw [if_neg (by decide +kernel)]; exact ⟨rfl, rfl⟩))
    (fun os started H enc _ => lifted os started H enc)
end fnExactBestRow

theorem fnExactBestRow_holds : Rows.FnExactBestRowSaid := fnExactBestRow.over
#print axioms fnExactBestRow_holds
end Go.Proofs.Ytocaiefddkjiiaa
