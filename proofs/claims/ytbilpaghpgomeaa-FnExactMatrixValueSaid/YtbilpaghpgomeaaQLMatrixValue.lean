/- The program's MatrixValue returns what the reference's returns, for all arguments, and keeps its arguments (and its earlier result): the law FnExactMatrixValue returns true for every input. No conditions. -/
import Derived.Test.YtbilpaghpgomeaaRows
import Derived.Test.YtbilpaghpgomeaaQ3
/- Contracts: mixes. -/
set_option linter.unusedSimpArgs false
set_option linter.unusedVariables false
namespace Go.Ab
open Go.Proofs

def mixGo : Int × Int → List (Int × Int) → Bool
  | s, [] => decide (s = (1, 1))
  | s, x :: l => isRat x && decide (0 ≤ x.1) && decide ((addR s x).2 = 0) && mixGo (addR s x).1 l
def mixSp : Int → Int × Int → List (Int × Int) → Bool
  | c, s, [] => decide (c = 0) && decide (s = (1, 1))
  | c, s, x :: l => isRat x && decide (0 ≤ x.1) && mixSp (stepA c s x).2 (stepA c s x).1 l
theorem mixSp_err : ∀ (l : List (Int × Int)) (c : Int) (s : Int × Int), c ≠ 0 → mixSp c s l = false
  | [], c, s, h => by simp [mixSp, h]
  | x :: l, c, s, h => by
    rw [mixSp, stepA, if_pos h]
    simp only []
    rw [mixSp_err l c _ h]; simp
theorem mixSp_eq : ∀ (l : List (Int × Int)) (s : Int × Int), mixSp 0 s l = mixGo s l
  | [], s => by simp [mixSp, mixGo]
  | x :: l, s => by
    rw [mixSp, mixGo, stepA, if_neg (by simp)]
    by_cases h : (addR s x).2 = 0
    · rw [h, mixSp_eq l]; simp
    · rw [mixSp_err l _ _ h]; simp [h]
/-- Is p a mix of n? -/
def isMixB (p : List (Int × Int)) (n : Int) : Bool := decide (1 ≤ n ∧ n ≤ 4) && decide ((p.length : Int) = n) && mixGo (0, 1) p

theorem impl_IsMix_ok (p : List (Int × Int)) (n : Int) (hp : p.length ≤ 1000000000000) : Pure Try.prog 29 [rats p, .i n] (.b (isMixB p n)) := by
  refine fun_impl_IsMix (by simp) ?_
  simp -implicitDefEqProofs only [go_sem, List.reduceReplicate, Nat.reduceEqDiff, Nat.reduceAdd, Nat.reduceLeDiff, Nat.reduceMul, Nat.reduceSub, Nat.reduceDiv, Int.reduceToNat, Nat.reduceLT, Int.reduceLT, Int.reduceLE, ↓reduceIte, reduceCtorEq, forall_apply_eq_imp_iff₂, ints, rows, rat, rats, toNat_cast, c_impl_IsMix]
  refine CallW.pure (impl_within_ok n 1 4) [] rfl Try.call58 ?_ (by first | trivial | simp [T.noSh, T.noShL, rat]) rfl ?_
  · simp -implicitDefEqProofs only [Int.natCast_zero, Int.cast_ofNat_Int, Int.natCast_one, Nat.le_refl, Nat.reduceLeDiff, Nat.sub_self, Nat.reduceSub, List.getElem?_cons_zero, List.getElem?_cons_succ, vt_self, vaL, vtL, va, vt, vb, maT, List.cons_append, List.nil_append, List.append_nil, true_or, or_true, go_sem, List.reduceReplicate, Nat.reduceEqDiff, Nat.reduceAdd, Nat.reduceLeDiff, Nat.reduceMul, Nat.reduceSub, Nat.reduceDiv, Int.reduceToNat, Nat.reduceLT, Int.reduceLT, Int.reduceLE, ↓reduceIte, reduceCtorEq, ints, rows, rat, rats, ratsO, toShL_ratC, List.mem_cons, List.mem_nil_iff, List.not_mem_nil, or_false, false_or, exists_eq_left, exists_eq_left', exists_eq_right', Root.live.injEq, eq_self_iff_true, exists_eq, and_true, T.toSh, toShL_ints, toShL_intsO, intsO, rowsO]
  simp -implicitDefEqProofs only [go_sem, List.reduceReplicate, Nat.reduceEqDiff, Nat.reduceAdd, Nat.reduceLeDiff, Nat.reduceMul, Nat.reduceSub, Nat.reduceDiv, Int.reduceToNat, Nat.reduceLT, Int.reduceLT, Int.reduceLE, ↓reduceIte, reduceCtorEq, forall_apply_eq_imp_iff₂, ints, rows, rat, rats, toNat_cast]
  refine ⟨fun h => ⟨fun h1 => ?_, fun h1 => ?_⟩, fun h => ?_⟩
  · rw [isMixB, decide_eq_false (p := (p.length : Int) = n) (by simpa using h1)]; simp
  · have hn : 1 ≤ n ∧ n ≤ 4 := by simpa using h
    have hl : (p.length : Int) = n := by simpa using h1
    refine SemC.loopR (σ := Nat × (Int × Int)) (fun s => St.of [(5, .own 5), (20, .t (rats p)), (21, .t (.i p.length)), (22, .t (.i s.1))] [(5, .box [.i s.2.1, .i s.2.2])]) (fun s => s.1 ≤ p.length ∧ mixGo s.2 (p.drop s.1) = mixGo (0, 1) p) (fun s => p.length - s.1) (0, (0, 1)) (Weak.of _ _ [some 5] (by simp) (by simp) ?_ ?_) ⟨by simp, rfl⟩ fun s hI R hn' hr he => ?_
    · simp -implicitDefEqProofs only [ints, rows, Nat.reduceBEq, Int.add_zero, envOK, maA, maT, upd_apply, Nat.reduceEqDiff, ↓reduceIte, and_true, true_or, or_true, List.map_cons, List.map_nil, Nat.zero_ne_one, and_self, true_and, Int.natCast_zero, Int.cast_ofNat_Int, Int.ofNat_zero, piOf, List.zip_cons_cons, List.zip_nil_right, List.lookup_cons, List.lookup_nil, beq_self_eq_true, rootsOK, mkRoots, mkEnv, rats]
    · exact ⟨⟨_, rfl, .refl _⟩, rfl, trivial⟩
    · obtain ⟨i, s1, s2⟩ := s
      obtain ⟨hi, hm⟩ := hI
      (try simp only [] at hi hm)
      simp -implicitDefEqProofs only [go_sem, List.reduceReplicate, Nat.reduceEqDiff, Nat.reduceAdd, Nat.reduceLeDiff, Nat.reduceMul, Nat.reduceSub, Nat.reduceDiv, Int.reduceToNat, Nat.reduceLT, Int.reduceLT, Int.reduceLE, ↓reduceIte, reduceCtorEq, forall_apply_eq_imp_iff₂, ints, rows, rat, rats, toNat_cast]
      refine ⟨fun h => ⟨by omega, by rw [ratC_length]; omega, by rw [ratC_length]; omega, ?_⟩, fun h => he _ _ ?_⟩
      · obtain ⟨x, hx⟩ : ∃ x, p[i]? = some x := ⟨_, List.getElem?_eq_getElem (by omega)⟩
        rw [ratC_at hx]
        simp -implicitDefEqProofs only [go_sem, List.reduceReplicate, Nat.reduceEqDiff, Nat.reduceAdd, Nat.reduceLeDiff, Nat.reduceMul, Nat.reduceSub, Nat.reduceDiv, Int.reduceToNat, Nat.reduceLT, Int.reduceLT, Int.reduceLE, ↓reduceIte, reduceCtorEq, forall_apply_eq_imp_iff₂, ints, rows, rat, rats, toNat_cast]
        rw [drop_of_get hx, mixGo] at hm
        have hmB : isMixB p n = mixGo (0, 1) p := by rw [isMixB, decide_eq_true hn, decide_eq_true hl]; simp
        refine CallW.pure (impl_IsRatio_ok x) [] rfl Try.call69 ?_ (by first | trivial | simp [T.noSh, T.noShL, rat]) rfl ?_
        · simp -implicitDefEqProofs only [Int.natCast_zero, Int.cast_ofNat_Int, Int.natCast_one, Nat.le_refl, Nat.reduceLeDiff, Nat.sub_self, Nat.reduceSub, List.getElem?_cons_zero, List.getElem?_cons_succ, vt_self, vaL, vtL, va, vt, vb, maT, List.cons_append, List.nil_append, List.append_nil, true_or, or_true, go_sem, List.reduceReplicate, Nat.reduceEqDiff, Nat.reduceAdd, Nat.reduceLeDiff, Nat.reduceMul, Nat.reduceSub, Nat.reduceDiv, Int.reduceToNat, Nat.reduceLT, Int.reduceLT, Int.reduceLE, ↓reduceIte, reduceCtorEq, ints, rows, rat, rats, ratsO, toShL_ratC, List.mem_cons, List.mem_nil_iff, List.not_mem_nil, or_false, false_or, exists_eq_left, exists_eq_left', exists_eq_right', Root.live.injEq, eq_self_iff_true, exists_eq, and_true, T.toSh, toShL_ints, toShL_intsO, intsO, rowsO]
        simp -implicitDefEqProofs only [go_sem, List.reduceReplicate, Nat.reduceEqDiff, Nat.reduceAdd, Nat.reduceLeDiff, Nat.reduceMul, Nat.reduceSub, Nat.reduceDiv, Int.reduceToNat, Nat.reduceLT, Int.reduceLT, Int.reduceLE, ↓reduceIte, reduceCtorEq, forall_apply_eq_imp_iff₂, ints, rows, rat, rats, toNat_cast]
        refine ⟨fun h1 => ⟨fun h2 => hr _ ?_, fun h2 => ?_⟩, fun h1 => hr _ ?_⟩
        · simp -implicitDefEqProofs only [go_sem, List.reduceReplicate, Nat.reduceEqDiff, Nat.reduceAdd, Nat.reduceLeDiff, Nat.reduceMul, Nat.reduceSub, Nat.reduceDiv, Int.reduceToNat, Nat.reduceLT, Int.reduceLT, Int.reduceLE, ↓reduceIte, reduceCtorEq, forall_apply_eq_imp_iff₂, ints, rows, rat, rats, toNat_cast]
          rw [hmB, ← hm, decide_eq_false (p := 0 ≤ x.1) (by omega)]; simp
        · refine CallW.res (impl_AddRatios_ok (s1, s2) x) [] rfl Try.call70 ?_ (.inl rfl) ?_
          · simp -implicitDefEqProofs only [Int.natCast_zero, Int.cast_ofNat_Int, Int.natCast_one, Nat.le_refl, Nat.reduceLeDiff, Nat.sub_self, Nat.reduceSub, List.getElem?_cons_zero, List.getElem?_cons_succ, vt_self, vaL, vtL, va, vt, vb, maT, List.cons_append, List.nil_append, List.append_nil, true_or, or_true, go_sem, List.reduceReplicate, Nat.reduceEqDiff, Nat.reduceAdd, Nat.reduceLeDiff, Nat.reduceMul, Nat.reduceSub, Nat.reduceDiv, Int.reduceToNat, Nat.reduceLT, Int.reduceLT, Int.reduceLE, ↓reduceIte, reduceCtorEq, ints, rows, rat, rats, ratsO, toShL_ratC, List.mem_cons, List.mem_nil_iff, List.not_mem_nil, or_false, false_or, exists_eq_left, exists_eq_left', exists_eq_right', Root.live.injEq, eq_self_iff_true, exists_eq, and_true, T.toSh, toShL_ints, toShL_intsO, intsO, rowsO]
          simp -implicitDefEqProofs only [List.append_nil, List.cons_append, Nat.reduceLeDiff, afterCall, absT_rowsO, absT_intsO, absT, absL, updL, updS, freeAll, rid, T.noSh, T.noShL, Nat.zero_le, go_sem, List.reduceReplicate, Nat.reduceEqDiff, Nat.reduceAdd, Nat.reduceLeDiff, Nat.reduceMul, Nat.reduceSub, Nat.reduceDiv, Int.reduceToNat, Nat.reduceLT, Int.reduceLT, Int.reduceLE, ↓reduceIte, reduceCtorEq, rat, forall_apply_eq_imp_iff₂, toNat_cast, redT, rat]
          refine ⟨fun h3 => hr _ ?_, fun h3 => ?_⟩
          · simp -implicitDefEqProofs only [go_sem, List.reduceReplicate, Nat.reduceEqDiff, Nat.reduceAdd, Nat.reduceLeDiff, Nat.reduceMul, Nat.reduceSub, Nat.reduceDiv, Int.reduceToNat, Nat.reduceLT, Int.reduceLT, Int.reduceLE, ↓reduceIte, reduceCtorEq, forall_apply_eq_imp_iff₂, ints, rows, rat, rats, toNat_cast]
            rw [hmB, ← hm, decide_eq_false (p := (addR (s1, s2) x).2 = 0) (by simpa using h3)]; simp
          · refine hn' _ (i + 1, (addR (s1, s2) x).1) (Weak.of _ _ [some 5] (by simp) (by simp) ?_ ?_) ⟨by simp only []; omega, ?_⟩ (by simp only []; omega)
            · simp -implicitDefEqProofs only [ints, rows, Nat.reduceBEq, Int.add_zero, envOK, maA, maT, upd_apply, Nat.reduceEqDiff, ↓reduceIte, and_true, true_or, or_true, List.map_cons, List.map_nil, Nat.zero_ne_one, and_self, true_and, Int.natCast_zero, Int.cast_ofNat_Int, Int.ofNat_zero, piOf, List.zip_cons_cons, List.zip_nil_right, List.lookup_cons, List.lookup_nil, beq_self_eq_true, rootsOK, mkRoots, mkEnv, rats, next64 (by omega : i < p.length) hp]
            · exact ⟨⟨_, rfl, .refl _⟩, rfl, trivial⟩
            · simp only []
              rw [← hm]
              have e1 : isRat x = true := by simpa using h1
              have e3 : (addR (s1, s2) x).2 = 0 := by simpa using h3
              rw [e1, e3, decide_eq_true (p := 0 ≤ x.1) (by omega)]; simp
        · simp -implicitDefEqProofs only [go_sem, List.reduceReplicate, Nat.reduceEqDiff, Nat.reduceAdd, Nat.reduceLeDiff, Nat.reduceMul, Nat.reduceSub, Nat.reduceDiv, Int.reduceToNat, Nat.reduceLT, Int.reduceLT, Int.reduceLE, ↓reduceIte, reduceCtorEq, forall_apply_eq_imp_iff₂, ints, rows, rat, rats, toNat_cast]
          rw [hmB, ← hm]
          have e1 : isRat x = false := by simpa using h1
          rw [e1]; simp
      · simp -implicitDefEqProofs only [go_sem, List.reduceReplicate, Nat.reduceEqDiff, Nat.reduceAdd, Nat.reduceLeDiff, Nat.reduceMul, Nat.reduceSub, Nat.reduceDiv, Int.reduceToNat, Nat.reduceLT, Int.reduceLT, Int.reduceLE, ↓reduceIte, reduceCtorEq, forall_apply_eq_imp_iff₂, ints, rows, rat, rats, toNat_cast]
        have hmB : isMixB p n = mixGo (0, 1) p := by rw [isMixB, decide_eq_true hn, decide_eq_true hl]; simp
        rw [hmB, ← hm, List.drop_of_length_le (by omega), mixGo]
        simp
  · rw [isMixB, decide_eq_false (p := 1 ≤ n ∧ n ≤ 4) (by simp at h; omega)]; simp

theorem spec_IsMix_ok (p : List (Int × Int)) (n : Int) (hp : p.length ≤ 1000000000000) : Pure Try.prog 27 [rats p, .i n] (.b (isMixB p n)) := by
  refine fun_spec_IsMix (by simp) ?_
  simp -implicitDefEqProofs only [go_sem, List.reduceReplicate, Nat.reduceEqDiff, Nat.reduceAdd, Nat.reduceLeDiff, Nat.reduceMul, Nat.reduceSub, Nat.reduceDiv, Int.reduceToNat, Nat.reduceLT, Int.reduceLT, Int.reduceLE, ↓reduceIte, reduceCtorEq, forall_apply_eq_imp_iff₂, ints, rows, rat, rats, toNat_cast, c_spec_IsMix]
  refine ⟨fun h => ?_, fun h => ?_⟩
  case refine_2 => rw [isMixB, decide_eq_false (p := (p.length : Int) = n) (by simpa using h)]; simp
  have hl : (p.length : Int) = n := by simpa using h
  refine CallW.pure (spec_l01In_ok n 1 4) [] rfl Try.call57 ?_ (by first | trivial | simp [T.noSh, T.noShL, rat]) rfl ?_
  · simp -implicitDefEqProofs only [Int.natCast_zero, Int.cast_ofNat_Int, Int.natCast_one, Nat.le_refl, Nat.reduceLeDiff, Nat.sub_self, Nat.reduceSub, List.getElem?_cons_zero, List.getElem?_cons_succ, vt_self, vaL, vtL, va, vt, vb, maT, List.cons_append, List.nil_append, List.append_nil, true_or, or_true, go_sem, List.reduceReplicate, Nat.reduceEqDiff, Nat.reduceAdd, Nat.reduceLeDiff, Nat.reduceMul, Nat.reduceSub, Nat.reduceDiv, Int.reduceToNat, Nat.reduceLT, Int.reduceLT, Int.reduceLE, ↓reduceIte, reduceCtorEq, ints, rows, rat, rats, ratsO, toShL_ratC, List.mem_cons, List.mem_nil_iff, List.not_mem_nil, or_false, false_or, exists_eq_left, exists_eq_left', exists_eq_right', Root.live.injEq, eq_self_iff_true, exists_eq, and_true, T.toSh, toShL_ints, toShL_intsO, intsO, rowsO]
  simp -implicitDefEqProofs only [go_sem, List.reduceReplicate, Nat.reduceEqDiff, Nat.reduceAdd, Nat.reduceLeDiff, Nat.reduceMul, Nat.reduceSub, Nat.reduceDiv, Int.reduceToNat, Nat.reduceLT, Int.reduceLT, Int.reduceLE, ↓reduceIte, reduceCtorEq, forall_apply_eq_imp_iff₂, ints, rows, rat, rats, toNat_cast]
  refine ⟨fun h => ?_, fun h => ?_⟩
  · rw [isMixB, decide_eq_false (p := 1 ≤ n ∧ n ≤ 4) (by simp at h; omega)]; simp
  have hn : 1 ≤ n ∧ n ≤ 4 := by simpa using h
  have hmB : isMixB p n = mixGo (0, 1) p := by rw [isMixB, decide_eq_true hn, decide_eq_true hl]; simp
  refine CallW.pure (spec_l19Whole_ok 0) [] rfl Try.call65 ?_ (by first | trivial | simp [T.noSh, T.noShL, rat]) rfl ?_
  · simp -implicitDefEqProofs only [Int.natCast_zero, Int.cast_ofNat_Int, Int.natCast_one, Nat.le_refl, Nat.reduceLeDiff, Nat.sub_self, Nat.reduceSub, List.getElem?_cons_zero, List.getElem?_cons_succ, vt_self, vaL, vtL, va, vt, vb, maT, List.cons_append, List.nil_append, List.append_nil, true_or, or_true, go_sem, List.reduceReplicate, Nat.reduceEqDiff, Nat.reduceAdd, Nat.reduceLeDiff, Nat.reduceMul, Nat.reduceSub, Nat.reduceDiv, Int.reduceToNat, Nat.reduceLT, Int.reduceLT, Int.reduceLE, ↓reduceIte, reduceCtorEq, ints, rows, rat, rats, ratsO, toShL_ratC, List.mem_cons, List.mem_nil_iff, List.not_mem_nil, or_false, false_or, exists_eq_left, exists_eq_left', exists_eq_right', Root.live.injEq, eq_self_iff_true, exists_eq, and_true, T.toSh, toShL_ints, toShL_intsO, intsO, rowsO]
  simp -implicitDefEqProofs only [go_sem, List.reduceReplicate, Nat.reduceEqDiff, Nat.reduceAdd, Nat.reduceLeDiff, Nat.reduceMul, Nat.reduceSub, Nat.reduceDiv, Int.reduceToNat, Nat.reduceLT, Int.reduceLT, Int.reduceLE, ↓reduceIte, reduceCtorEq, forall_apply_eq_imp_iff₂, ints, rows, rat, rats, toNat_cast]
  refine SemC.loopR (σ := Nat × Int × (Int × Int)) (fun s => St.of [(0, .t (rats p)), (5, .own 18), (6, .own 6), (7, .t (.i s.1))] [(6, .box [.i s.2.2.1, .i s.2.2.2]), (18, .box [.i s.2.1])]) (fun s => s.1 ≤ p.length ∧ mixSp s.2.1 s.2.2 (p.drop s.1) = mixSp 0 (0, 1) p) (fun s => p.length - s.1) (0, 0, (0, 1)) (Weak.of _ _ [some 6, some 18] (by simp) (by simp) ?_ ?_) ⟨by simp, rfl⟩ fun s hI R hn' hr he => ?_
  · simp -implicitDefEqProofs only [ints, rows, Nat.reduceBEq, Int.add_zero, envOK, maA, maT, upd_apply, Nat.reduceEqDiff, ↓reduceIte, and_true, true_or, or_true, List.map_cons, List.map_nil, Nat.zero_ne_one, and_self, true_and, Int.natCast_zero, Int.cast_ofNat_Int, Int.ofNat_zero, piOf, List.zip_cons_cons, List.zip_nil_right, List.lookup_cons, List.lookup_nil, beq_self_eq_true, rootsOK, mkRoots, mkEnv, rats]
  · exact ⟨⟨_, rfl, .refl _⟩, rfl, ⟨_, rfl, .refl _⟩, rfl, trivial⟩
  · obtain ⟨i, c, s1, s2⟩ := s
    obtain ⟨hi, hm⟩ := hI
    (try simp only [] at hi hm)
    rw [mixSp_eq, ← hmB] at hm
    simp -implicitDefEqProofs only [go_sem, List.reduceReplicate, Nat.reduceEqDiff, Nat.reduceAdd, Nat.reduceLeDiff, Nat.reduceMul, Nat.reduceSub, Nat.reduceDiv, Int.reduceToNat, Nat.reduceLT, Int.reduceLT, Int.reduceLE, ↓reduceIte, reduceCtorEq, forall_apply_eq_imp_iff₂, ints, rows, rat, rats, toNat_cast]
    refine ⟨fun h => ⟨by omega, by rw [ratC_length]; omega, by rw [ratC_length]; omega, ?_⟩, fun h => he _ _ ?_⟩
    · obtain ⟨x, hx⟩ : ∃ x, p[i]? = some x := ⟨_, List.getElem?_eq_getElem (by omega)⟩
      rw [ratC_at hx]
      rw [drop_of_get hx, mixSp] at hm
      refine CallW.pure (spec_IsRatio_ok x) [] rfl Try.call66 ?_ (by first | trivial | simp [T.noSh, T.noShL, rat]) rfl ?_
      · simp -implicitDefEqProofs only [Int.natCast_zero, Int.cast_ofNat_Int, Int.natCast_one, Nat.le_refl, Nat.reduceLeDiff, Nat.sub_self, Nat.reduceSub, List.getElem?_cons_zero, List.getElem?_cons_succ, vt_self, vaL, vtL, va, vt, vb, maT, List.cons_append, List.nil_append, List.append_nil, true_or, or_true, go_sem, List.reduceReplicate, Nat.reduceEqDiff, Nat.reduceAdd, Nat.reduceLeDiff, Nat.reduceMul, Nat.reduceSub, Nat.reduceDiv, Int.reduceToNat, Nat.reduceLT, Int.reduceLT, Int.reduceLE, ↓reduceIte, reduceCtorEq, ints, rows, rat, rats, ratsO, toShL_ratC, List.mem_cons, List.mem_nil_iff, List.not_mem_nil, or_false, false_or, exists_eq_left, exists_eq_left', exists_eq_right', Root.live.injEq, eq_self_iff_true, exists_eq, and_true, T.toSh, toShL_ints, toShL_intsO, intsO, rowsO]
      simp -implicitDefEqProofs only [go_sem, List.reduceReplicate, Nat.reduceEqDiff, Nat.reduceAdd, Nat.reduceLeDiff, Nat.reduceMul, Nat.reduceSub, Nat.reduceDiv, Int.reduceToNat, Nat.reduceLT, Int.reduceLT, Int.reduceLE, ↓reduceIte, reduceCtorEq, forall_apply_eq_imp_iff₂, ints, rows, rat, rats, toNat_cast, ratC_get1 hx]
      refine ⟨fun h1 => ⟨by omega, by rw [ratC_length]; omega, by rw [ratC_length]; omega, fun h2 => hr _ ?_, fun h2 => ?_⟩, fun h1 => hr _ ?_⟩
      · simp -implicitDefEqProofs only [go_sem, List.reduceReplicate, Nat.reduceEqDiff, Nat.reduceAdd, Nat.reduceLeDiff, Nat.reduceMul, Nat.reduceSub, Nat.reduceDiv, Int.reduceToNat, Nat.reduceLT, Int.reduceLT, Int.reduceLE, ↓reduceIte, reduceCtorEq, forall_apply_eq_imp_iff₂, ints, rows, rat, rats, toNat_cast]
        rw [← hm, decide_eq_false (p := 0 ≤ x.1) (by omega)]; simp
      · refine ⟨by omega, by rw [ratC_length]; omega, by rw [ratC_length]; omega, ?_⟩
        (try rw [ratC_at hx])
        refine CallH.ref (spec_l19Add_ok c (s1, s2) x) [18] [] rfl Try.call67 (by simp) ?_ (by simp) (fun e R' hR => ?_) (.inl rfl) ?_
        · simp -implicitDefEqProofs only [rootOf_arr, rootOf_box, rootOf_any, srcsOK, updL, updS, upd_apply, Nat.reduceEqDiff, ↓reduceIte, mkRoots, and_true, ints, rows, intsO, rowsO]
        · simp -implicitDefEqProofs only [Int.natCast_zero, Int.cast_ofNat_Int, Int.natCast_one, Nat.le_refl, Nat.reduceLeDiff, Nat.sub_self, Nat.reduceSub, List.getElem?_cons_zero, List.getElem?_cons_succ, vt_self, vaL, vtL, va, vt, vb, maT, List.cons_append, List.nil_append, List.append_nil, true_or, or_true, go_sem, List.reduceReplicate, Nat.reduceEqDiff, Nat.reduceAdd, Nat.reduceLeDiff, Nat.reduceMul, Nat.reduceSub, Nat.reduceDiv, Int.reduceToNat, Nat.reduceLT, Int.reduceLT, Int.reduceLE, ↓reduceIte, reduceCtorEq, ints, rows, rat, rats, ratsO, toShL_ratC, List.mem_cons, List.mem_nil_iff, List.not_mem_nil, or_false, false_or, exists_eq_left, exists_eq_left', exists_eq_right', Root.live.injEq, eq_self_iff_true, exists_eq, and_true, T.toSh, toShL_ints, toShL_intsO, intsO, rowsO]
        simp -implicitDefEqProofs only [List.append_nil, List.cons_append, Nat.reduceLeDiff, afterCall, absT_rowsO, absT_intsO, absT, absL, updL, updS, freeAll, rid, T.noSh, T.noShL, Nat.zero_le, go_sem, List.reduceReplicate, Nat.reduceEqDiff, Nat.reduceAdd, Nat.reduceLeDiff, Nat.reduceMul, Nat.reduceSub, Nat.reduceDiv, Int.reduceToNat, Nat.reduceLT, Int.reduceLT, Int.reduceLE, ↓reduceIte, reduceCtorEq, rat, forall_apply_eq_imp_iff₂, toNat_cast]
        refine hn' _ (i + 1, (stepA c (s1, s2) x).2, (stepA c (s1, s2) x).1) (Weak.of _ _ [some 6, some 18] (by simp) (by simp) ?_ ?_) ⟨by simp only []; omega, ?_⟩ (by simp only []; omega)
        · simp -implicitDefEqProofs only [ints, rows, Nat.reduceBEq, Int.add_zero, envOK, maA, maT, upd_apply, Nat.reduceEqDiff, ↓reduceIte, and_true, true_or, or_true, List.map_cons, List.map_nil, Nat.zero_ne_one, and_self, true_and, Int.natCast_zero, Int.cast_ofNat_Int, Int.ofNat_zero, piOf, List.zip_cons_cons, List.zip_nil_right, List.lookup_cons, List.lookup_nil, beq_self_eq_true, rootsOK, mkRoots, mkEnv, rats, next64 (by omega : i < p.length) hp]
        · exact ⟨⟨_, rfl, .refl _⟩, rfl, ⟨_, rfl, .refl _⟩, rfl, trivial⟩
        · simp only []
          rw [mixSp_eq, ← hmB, ← hm]
          have e1 : isRat x = true := by simpa using h1
          rw [e1, decide_eq_true (p := 0 ≤ x.1) (by omega)]; simp
      · simp -implicitDefEqProofs only [go_sem, List.reduceReplicate, Nat.reduceEqDiff, Nat.reduceAdd, Nat.reduceLeDiff, Nat.reduceMul, Nat.reduceSub, Nat.reduceDiv, Int.reduceToNat, Nat.reduceLT, Int.reduceLT, Int.reduceLE, ↓reduceIte, reduceCtorEq, forall_apply_eq_imp_iff₂, ints, rows, rat, rats, toNat_cast]
        rw [← hm]
        have e1 : isRat x = false := by simpa using h1
        rw [e1]; simp
    · simp -implicitDefEqProofs only [go_sem, List.reduceReplicate, Nat.reduceEqDiff, Nat.reduceAdd, Nat.reduceLeDiff, Nat.reduceMul, Nat.reduceSub, Nat.reduceDiv, Int.reduceToNat, Nat.reduceLT, Int.reduceLT, Int.reduceLE, ↓reduceIte, reduceCtorEq, forall_apply_eq_imp_iff₂, ints, rows, rat, rats, toNat_cast]
      rw [List.drop_of_length_le (by omega), mixSp] at hm
      refine ⟨fun h1 => ?_, fun h1 => ?_⟩
      · refine CallV.pure (spec_l19Whole_ok 1) [] rfl Try.call65 (fun e R' hR => ?_) (by first | trivial | simp [T.noSh, T.noShL, rat]) (fun _ => rfl) ?_
        · simp -implicitDefEqProofs only [Int.natCast_zero, Int.cast_ofNat_Int, Int.natCast_one, Nat.le_refl, Nat.reduceLeDiff, Nat.sub_self, Nat.reduceSub, List.getElem?_cons_zero, List.getElem?_cons_succ, vt_self, vaL, vtL, va, vt, vb, maT, List.cons_append, List.nil_append, List.append_nil, true_or, or_true, go_sem, List.reduceReplicate, Nat.reduceEqDiff, Nat.reduceAdd, Nat.reduceLeDiff, Nat.reduceMul, Nat.reduceSub, Nat.reduceDiv, Int.reduceToNat, Nat.reduceLT, Int.reduceLT, Int.reduceLE, ↓reduceIte, reduceCtorEq, ints, rows, rat, rats, ratsO, toShL_ratC, List.mem_cons, List.mem_nil_iff, List.not_mem_nil, or_false, false_or, exists_eq_left, exists_eq_left', exists_eq_right', Root.live.injEq, eq_self_iff_true, exists_eq, and_true, T.toSh, toShL_ints, toShL_intsO, intsO, rowsO]
        simp -implicitDefEqProofs only [go_sem, List.reduceReplicate, Nat.reduceEqDiff, Nat.reduceAdd, Nat.reduceLeDiff, Nat.reduceMul, Nat.reduceSub, Nat.reduceDiv, Int.reduceToNat, Nat.reduceLT, Int.reduceLT, Int.reduceLE, ↓reduceIte, reduceCtorEq, forall_apply_eq_imp_iff₂, ints, rows, rat, rats, toNat_cast]
        rw [← hm, decide_eq_true (p := c = 0) (by simpa using h1)]
        by_cases h : (s1, s2) = (1, 1) <;> simp_all
      · rw [← hm, decide_eq_false (p := c = 0) (by simpa using h1)]; simp
end Go.Ab

/- Contracts: lists of ratios in the laws; the law FnExactIsMix. -/
set_option linter.unusedSimpArgs false
set_option linter.unusedVariables false
namespace Go.Ab
open Go.Proofs

theorem laws_szRatioS_ok (l : List (Int × Int)) (left : Int) (hl : (l.length : Int) ≤ 9223372036854775807) (h0 : -1 ≤ left) (h1 : left ≤ 9223372036854775807) : Pure Try.prog 26 [rats l, .i left] (.i (budget l.length left)) := by
  refine fun_laws_szRatioS (by simp) ?_
  simp -implicitDefEqProofs only [go_sem, List.reduceReplicate, Nat.reduceEqDiff, Nat.reduceAdd, Nat.reduceLeDiff, Nat.reduceMul, Nat.reduceSub, Nat.reduceDiv, Int.reduceToNat, Nat.reduceLT, Int.reduceLT, Int.reduceLE, ↓reduceIte, reduceCtorEq, forall_apply_eq_imp_iff₂, ints, rows, rat, rats, toNat_cast, c_laws_szRatioS]
  rw [wrap64 (by omega) (by omega)]
  refine ⟨fun h => ?_, fun h => ?_⟩ <;> simp [budget, h]

theorem laws_toRatio_ok (r : Int × Int) : Pure Try.prog 68 [rat r] (rat r) := by
  refine fun_laws_toRatio (by simp) ?_
  simp -implicitDefEqProofs only [go_sem, List.reduceReplicate, Nat.reduceEqDiff, Nat.reduceAdd, Nat.reduceLeDiff, Nat.reduceMul, Nat.reduceSub, Nat.reduceDiv, Int.reduceToNat, Nat.reduceLT, Int.reduceLT, Int.reduceLE, ↓reduceIte, reduceCtorEq, forall_apply_eq_imp_iff₂, ints, rows, rat, rats, toNat_cast, c_laws_toRatio]

theorem laws_eqRatio_ok (a b : Int × Int) : Pure Try.prog 49 [rat a, rat b] (.b (decide (a = b))) := by
  obtain ⟨an, ad⟩ := a
  obtain ⟨bn, bd⟩ := b
  refine fun_laws_eqRatio (by simp) ?_
  simp -implicitDefEqProofs only [go_sem, List.reduceReplicate, Nat.reduceEqDiff, Nat.reduceAdd, Nat.reduceLeDiff, Nat.reduceMul, Nat.reduceSub, Nat.reduceDiv, Int.reduceToNat, Nat.reduceLT, Int.reduceLT, Int.reduceLE, ↓reduceIte, reduceCtorEq, forall_apply_eq_imp_iff₂, ints, rows, rat, rats, toNat_cast, c_laws_eqRatio]
  refine ⟨fun h => ?_, fun h => ⟨fun h' => ?_, fun h' => ?_⟩⟩
  · have : an ≠ bn := by simpa using h
    simp [this]
  · have : ad ≠ bd := by simpa using h'
    simp [this]
  · have e1 : an = bn := by simpa using h
    have e2 : ad = bd := by simpa using h'
    simp [e1, e2]

/-- A list of ratios that is half written. -/
def rfilled (l : List (Int × Int)) (i : Nat) : List (Int × Int) := l.take i ++ List.replicate (l.length - i) (0, 0)
theorem rfilled_length (l : List (Int × Int)) (i : Nat) (h : i ≤ l.length) : (rfilled l i).length = l.length := by simp [rfilled]; omega
theorem rfilled_all (l : List (Int × Int)) : rfilled l l.length = l := by simp [rfilled]
theorem ratC_replicate : ∀ (n : Nat), made [T.v (.int .i64 0), T.v (.int .i64 0)] n = ratC (List.replicate n (0, 0)) := by
  intro n
  refine List.ext_getElem? fun i => ?_
  have e : made [T.v (.int .i64 0), T.v (.int .i64 0)] n = (List.range (n * 2)).map fun i => [T.v (.int .i64 0), T.v (.int .i64 0)].getD (i % 2) .any := rfl
  rw [e]
  by_cases hi : i < n * 2
  · rw [List.getElem?_map, List.getElem?_range hi]
    have h2 : i / 2 < n := by omega
    have hx : (List.replicate n ((0 : Int), (0 : Int)))[i / 2]? = some (0, 0) := by rw [List.getElem?_replicate, if_pos h2]
    rcases Nat.mod_two_eq_zero_or_one i with h | h
    · have := ratC_get1 hx
      rw [show i / 2 * 2 = i by omega] at this
      rw [this, Option.map_some, h]; rfl
    · have := ratC_get2 hx
      rw [show i / 2 * 2 + 1 = i by omega] at this
      rw [this, Option.map_some, h]; rfl
  · rw [List.getElem?_eq_none (by simpa using hi), List.getElem?_eq_none (by rw [ratC_length]; simpa using hi)]
theorem ratC_set {l : List (Int × Int)} {i : Nat} (r : Int × Int) (h : i < l.length) : (ratC l).take (i * 2) ++ [T.i r.1, T.i r.2] ++ (ratC l).drop (i * 2 + 2) = ratC (l.set i r) := by
  rw [show i * 2 + 2 = (i + 1) * 2 by omega, ratC_take, ratC_drop, ← show ratC [r] = [T.i r.1, T.i r.2] from rfl, ← ratC_append, ← ratC_append]
  congr 1
  rw [List.set_eq_take_append_cons_drop, if_pos h]; simp
theorem rfilled_set {l : List (Int × Int)} {i : Nat} {x : Int × Int} (h : l[i]? = some x) : (rfilled l i).set i x = rfilled l (i + 1) := by
  obtain ⟨hi, rfl⟩ := List.getElem?_eq_some_iff.1 h
  rw [rfilled, rfilled, List.set_append_right _ _ (by simp; omega), List.take_succ_eq_append_getElem hi]
  have e : i - (l.take i).length = 0 := by simp; omega
  have e2 : l.length - i = (l.length - (i + 1)) + 1 := by omega
  rw [e, e2, List.replicate_succ, List.set_cons_zero]
  simp only [List.append_assoc, List.cons_append, List.nil_append]

theorem laws_toRatioS_ok (l : List (Int × Int)) (hl : (l.length : Int) ≤ 1000000000000) : Fun Try.prog 28 [] [.t (rats l)] fun o r => o = [] ∧ r = ratsO l := by
  refine fun_laws_toRatioS (by simp) ?_
  simp -implicitDefEqProofs only [go_sem, List.reduceReplicate, Nat.reduceEqDiff, Nat.reduceAdd, Nat.reduceLeDiff, Nat.reduceMul, Nat.reduceSub, Nat.reduceDiv, Int.reduceToNat, Nat.reduceLT, Int.reduceLT, Int.reduceLE, ↓reduceIte, reduceCtorEq, forall_apply_eq_imp_iff₂, ints, rows, rat, rats, toNat_cast, c_laws_toRatioS]
  refine ⟨by omega, by omega, ?_⟩
  refine SemC.loopR (σ := Nat) (fun i => St.of [(0, .t (rats l)), (3, .own 7), (4, .t (.i i))] [(7, .arr 2 (ratC (rfilled l i)))]) (fun i => i ≤ l.length) (fun i => l.length - i) 0 (Weak.of _ _ [some 7] (by simp) (by simp) ?_ ?_) (by simp) fun i hI R hn hr he => ?_
  · simp -implicitDefEqProofs only [ints, rows, Nat.reduceBEq, Int.add_zero, envOK, maA, maT, upd_apply, Nat.reduceEqDiff, ↓reduceIte, and_true, true_or, or_true, List.map_cons, List.map_nil, Nat.zero_ne_one, and_self, true_and, Int.natCast_zero, Int.cast_ofNat_Int, Int.ofNat_zero, piOf, List.zip_cons_cons, List.zip_nil_right, List.lookup_cons, List.lookup_nil, beq_self_eq_true, rootsOK, mkRoots, mkEnv, rats]
  · exact ⟨⟨_, rfl, by rw [ratC_replicate]; simp only [rfilled, List.take_zero, List.nil_append, Nat.sub_zero]; exact .refl _⟩, rfl, trivial⟩
  · have hlen := rfilled_length l i hI
    simp -implicitDefEqProofs only [go_sem, List.reduceReplicate, Nat.reduceEqDiff, Nat.reduceAdd, Nat.reduceLeDiff, Nat.reduceMul, Nat.reduceSub, Nat.reduceDiv, Int.reduceToNat, Nat.reduceLT, Int.reduceLT, Int.reduceLE, ↓reduceIte, reduceCtorEq, forall_apply_eq_imp_iff₂, ints, rows, rat, rats, toNat_cast]
    refine ⟨fun h => ⟨by omega, by rw [ratC_length]; omega, by rw [ratC_length]; omega, ?_⟩, fun h => he _ _ ?_⟩
    · obtain ⟨x, hx⟩ : ∃ x, l[i]? = some x := ⟨_, List.getElem?_eq_getElem (by omega)⟩
      rw [ratC_at hx]
      refine CallW.pure (laws_toRatio_ok x) [] rfl Try.call68 ?_ (by first | trivial | simp [T.noSh, T.noShL, rat]) rfl ?_
      · simp -implicitDefEqProofs only [Int.natCast_zero, Int.cast_ofNat_Int, Int.natCast_one, Nat.le_refl, Nat.reduceLeDiff, Nat.sub_self, Nat.reduceSub, List.getElem?_cons_zero, List.getElem?_cons_succ, vt_self, vaL, vtL, va, vt, vb, maT, List.cons_append, List.nil_append, List.append_nil, true_or, or_true, go_sem, List.reduceReplicate, Nat.reduceEqDiff, Nat.reduceAdd, Nat.reduceLeDiff, Nat.reduceMul, Nat.reduceSub, Nat.reduceDiv, Int.reduceToNat, Nat.reduceLT, Int.reduceLT, Int.reduceLE, ↓reduceIte, reduceCtorEq, ints, rows, rat, rats, ratsO, toShL_ratC, List.mem_cons, List.mem_nil_iff, List.not_mem_nil, or_false, false_or, exists_eq_left, exists_eq_left', exists_eq_right', Root.live.injEq, eq_self_iff_true, exists_eq, and_true, T.toSh, toShL_ints, toShL_intsO, intsO, rowsO]
      simp -implicitDefEqProofs only [go_sem, List.reduceReplicate, Nat.reduceEqDiff, Nat.reduceAdd, Nat.reduceLeDiff, Nat.reduceMul, Nat.reduceSub, Nat.reduceDiv, Int.reduceToNat, Nat.reduceLT, Int.reduceLT, Int.reduceLE, ↓reduceIte, reduceCtorEq, forall_apply_eq_imp_iff₂, ints, rows, rat, rats, toNat_cast]
      refine ⟨by omega, by rw [ratC_length]; omega, by rw [ratC_length]; omega, hn _ (i + 1) (Weak.of _ _ [some 7] (by simp) (by simp) ?_ ?_) (by omega) (by omega)⟩
      · simp -implicitDefEqProofs only [ints, rows, Nat.reduceBEq, Int.add_zero, envOK, maA, maT, upd_apply, Nat.reduceEqDiff, ↓reduceIte, and_true, true_or, or_true, List.map_cons, List.map_nil, Nat.zero_ne_one, and_self, true_and, Int.natCast_zero, Int.cast_ofNat_Int, Int.ofNat_zero, piOf, List.zip_cons_cons, List.zip_nil_right, List.lookup_cons, List.lookup_nil, beq_self_eq_true, rootsOK, mkRoots, mkEnv, rats, next64 (by omega : i < l.length) (by omega)]
      · refine ⟨⟨_, rfl, ?_⟩, rfl, trivial⟩
        (try simp only [List.cons_append, List.nil_append, List.append_assoc])
        have := ratC_set (l := rfilled l i) (i := i) x (by omega)
        simp only [List.append_assoc, List.cons_append, List.nil_append] at this
        rw [this, rfilled_set hx]; exact .refl _
    · simp -implicitDefEqProofs only [go_sem, List.reduceReplicate, Nat.reduceEqDiff, Nat.reduceAdd, Nat.reduceLeDiff, Nat.reduceMul, Nat.reduceSub, Nat.reduceDiv, Int.reduceToNat, Nat.reduceLT, Int.reduceLT, Int.reduceLE, ↓reduceIte, reduceCtorEq, forall_apply_eq_imp_iff₂, ints, rows, rat, rats, toNat_cast]
      have : i = l.length := by omega
      rw [this, rfilled_all]; rfl

theorem laws_eqRatioS_ok (a b : List (Int × Int)) (ha : a.length ≤ 1000000000000) (hb : b.length ≤ 1000000000000) : Pure Try.prog 30 [rats a, rats b] (.b (decide (a = b))) := by
  refine fun_laws_eqRatioS (by simp) ?_
  simp -implicitDefEqProofs only [go_sem, List.reduceReplicate, Nat.reduceEqDiff, Nat.reduceAdd, Nat.reduceLeDiff, Nat.reduceMul, Nat.reduceSub, Nat.reduceDiv, Int.reduceToNat, Nat.reduceLT, Int.reduceLT, Int.reduceLE, ↓reduceIte, reduceCtorEq, forall_apply_eq_imp_iff₂, ints, rows, rat, rats, toNat_cast, c_laws_eqRatioS]
  refine ⟨fun h => ?_, fun h => ?_⟩
  · have : a ≠ b := by rintro rfl; simp at h
    simp [this]
  · have hab : a.length = b.length := by simp at h; omega
    refine SemC.loopR (σ := Nat) (fun i => St.of [(0, .t (rats a)), (1, .t (rats b)), (5, .t (.i i))] []) (fun i => i ≤ a.length ∧ ∀ j, j < i → a[j]? = b[j]?) (fun i => a.length - i) 0 (Weak.of _ [] [] (by simp) (by simp) ?_ trivial) ⟨by simp, fun j hj => by omega⟩ fun i hI R hn hr he => ?_
    · simp -implicitDefEqProofs only [ints, rows, Int.add_zero, envOK, maA, maT, upd_apply, Nat.reduceEqDiff, ↓reduceIte, and_true, true_or, or_true, List.map_cons, List.map_nil, Nat.zero_ne_one, and_self, true_and, Int.natCast_zero, Int.cast_ofNat_Int, Int.ofNat_zero, rats]
    · simp -implicitDefEqProofs only [go_sem, List.reduceReplicate, Nat.reduceEqDiff, Nat.reduceAdd, Nat.reduceLeDiff, Nat.reduceMul, Nat.reduceSub, Nat.reduceDiv, Int.reduceToNat, Nat.reduceLT, Int.reduceLT, Int.reduceLE, ↓reduceIte, reduceCtorEq, forall_apply_eq_imp_iff₂, ints, rows, rat, rats, toNat_cast]
      refine ⟨fun h => ⟨by omega, by rw [ratC_length]; omega, by rw [ratC_length]; omega, by omega, by rw [ratC_length]; omega, by rw [ratC_length]; omega, ?_⟩, fun h => he _ _ ?_⟩
      · obtain ⟨x, hx⟩ : ∃ x, a[i]? = some x := ⟨_, List.getElem?_eq_getElem (by omega)⟩
        obtain ⟨y, hy⟩ : ∃ y, b[i]? = some y := ⟨_, List.getElem?_eq_getElem (by omega)⟩
        rw [ratC_at hx, ratC_at hy]
        refine CallV.pure (laws_eqRatio_ok x y) [] rfl Try.call49 (fun e R' hR => ?_) (by first | trivial | simp [T.noSh, T.noShL, rat]) (fun _ => rfl) ?_
        · simp -implicitDefEqProofs only [Int.natCast_zero, Int.cast_ofNat_Int, Int.natCast_one, Nat.le_refl, Nat.reduceLeDiff, Nat.sub_self, Nat.reduceSub, List.getElem?_cons_zero, List.getElem?_cons_succ, vt_self, vaL, vtL, va, vt, vb, maT, List.cons_append, List.nil_append, List.append_nil, true_or, or_true, go_sem, List.reduceReplicate, Nat.reduceEqDiff, Nat.reduceAdd, Nat.reduceLeDiff, Nat.reduceMul, Nat.reduceSub, Nat.reduceDiv, Int.reduceToNat, Nat.reduceLT, Int.reduceLT, Int.reduceLE, ↓reduceIte, reduceCtorEq, ints, rows, rat, rats, ratsO, toShL_ratC, List.mem_cons, List.mem_nil_iff, List.not_mem_nil, or_false, false_or, exists_eq_left, exists_eq_left', exists_eq_right', Root.live.injEq, eq_self_iff_true, exists_eq, and_true, T.toSh, toShL_ints, toShL_intsO, intsO, rowsO]
        simp -implicitDefEqProofs only [go_sem, List.reduceReplicate, Nat.reduceEqDiff, Nat.reduceAdd, Nat.reduceLeDiff, Nat.reduceMul, Nat.reduceSub, Nat.reduceDiv, Int.reduceToNat, Nat.reduceLT, Int.reduceLT, Int.reduceLE, ↓reduceIte, reduceCtorEq, forall_apply_eq_imp_iff₂, ints, rows, rat, rats, toNat_cast]
        refine ⟨fun h1 => hr _ ?_, fun h1 => hn _ (i + 1) (Weak.of _ [] [] (by simp) (by simp) ?_ trivial) ⟨by omega, fun j hj => ?_⟩ (by omega)⟩
        · simp -implicitDefEqProofs only [go_sem, List.reduceReplicate, Nat.reduceEqDiff, Nat.reduceAdd, Nat.reduceLeDiff, Nat.reduceMul, Nat.reduceSub, Nat.reduceDiv, Int.reduceToNat, Nat.reduceLT, Int.reduceLT, Int.reduceLE, ↓reduceIte, reduceCtorEq, forall_apply_eq_imp_iff₂, ints, rows, rat, rats, toNat_cast]
          have : a ≠ b := by rintro rfl; rw [hx] at hy; cases hy; simp at h1
          simp [this]
        · simp -implicitDefEqProofs only [ints, rows, Int.add_zero, envOK, maA, maT, upd_apply, Nat.reduceEqDiff, ↓reduceIte, and_true, true_or, or_true, List.map_cons, List.map_nil, Nat.zero_ne_one, and_self, true_and, Int.natCast_zero, Int.cast_ofNat_Int, Int.ofNat_zero, rats, next64 (by omega : i < a.length) ha]
        · rcases Nat.lt_or_ge j i with h | h
          · exact hI.2 j h
          · have : j = i := by omega
            subst this
            rw [hx, hy]; simpa using h1
      · simp -implicitDefEqProofs only [go_sem, List.reduceReplicate, Nat.reduceEqDiff, Nat.reduceAdd, Nat.reduceLeDiff, Nat.reduceMul, Nat.reduceSub, Nat.reduceDiv, Int.reduceToNat, Nat.reduceLT, Int.reduceLT, Int.reduceLE, ↓reduceIte, reduceCtorEq, forall_apply_eq_imp_iff₂, ints, rows, rat, rats, toNat_cast]
        have : a = b := by
          refine List.ext_getElem? fun j => ?_
          rcases Nat.lt_or_ge j i with h | h
          · exact hI.2 j h
          · rw [List.getElem?_eq_none (by omega), List.getElem?_eq_none (by omega)]
        simp [this]

end Go.Ab

/- Contracts: the turned matrix. -/
set_option linter.unusedSimpArgs false
set_option linter.unusedVariables false
namespace Go.Ab
open Go.Proofs

/-- All rows have c numbers. -/
def rect (m : List (List Int)) (c : Nat) : Prop := ∀ r ∈ m, r.length = c
end Go.Ab

/- Contracts: saddle points. -/
set_option linter.unusedSimpArgs false
set_option linter.unusedVariables false
namespace Go.Ab
open Go.Proofs

theorem isMat_spec {m : List (List Int)} (h : isMat m = true) : 1 ≤ m.length ∧ m.length ≤ 4 ∧ 1 ≤ (m.headD []).length ∧ (m.headD []).length ≤ 4 ∧ rect m (m.headD []).length ∧ ∀ r ∈ m, ∀ x ∈ r, -20 ≤ x ∧ x ≤ 20 := by
  simp only [isMat, Bool.and_eq_true, decide_eq_true_eq, List.all_eq_true, rowOK] at h
  exact ⟨h.1.1.1, h.1.1.2, h.1.2.1, h.1.2.2, fun r hr => (h.2 r hr).1, fun r hr x hx => (h.2 r hr).2 x hx⟩
end Go.Ab

/- Contracts: marks of lists of rows. -/
set_option linter.unusedSimpArgs false
set_option linter.unusedVariables false
namespace Go.Ab
open Go.Proofs

/-- How many numbers. -/
def tot : List (List Int) → Nat
  | [] => 0
  | r :: m => r.length + tot m
end Go.Ab

/- The law FnExactDominatedRows, as a contract. -/
set_option linter.unusedSimpArgs false
set_option linter.unusedVariables false
namespace Go.Ab
open Go.Proofs

theorem budgetRows_tot : ∀ {m : List (List Int)} {left : Int}, 0 ≤ left → 0 ≤ budgetRows m left → (tot m : Int) ≤ left
  | [], left, _, _ => by simp [tot]; assumption
  | x :: m, left, h0, h => by
    simp only [budgetRows] at h
    split at h
    · omega
    · have := budgetRows_tot (by omega) h
      simp only [tot]; omega
theorem budgetMat_tot {m : List (List Int)} {left : Int} (h0 : 0 ≤ left) (h : 0 ≤ budgetMat m left) : (tot m : Int) ≤ left := by
  simp only [budgetMat] at h
  split at h
  · omega
  · have := budgetRows_tot (by omega) h; omega
end Go.Ab

/- Contracts: the flipped matrix, the reference. -/
set_option linter.unusedSimpArgs false
set_option linter.unusedVariables false
namespace Go.Ab
open Go.Proofs

def neg (l : List Int) : List Int := l.map fun x => -x
end Go.Ab

/- Contracts: a matrix without a row and a column. -/
set_option linter.unusedSimpArgs false
set_option linter.unusedVariables false
namespace Go.Ab
open Go.Proofs

def without (m : List (List Int)) (r c : Nat) : List (List Int) := (m.eraseIdx r).map fun l => l.eraseIdx c
end Go.Ab

/- Contracts: adjugates. -/
set_option linter.unusedSimpArgs false
set_option linter.unusedVariables false
namespace Go.Ab
open Go.Proofs

/-- Rows that are filled one after the other: the first i are full, the next one holds cur. -/
def parts (full : Nat → List Int) (cur : List Int) (n i : Nat) : List (List Int) := (List.range n).map fun j => if j < i then full j else if j = i then cur else []
end Go.Ab

/- Contracts: Determinant and Adjugate; the law FnExactDeterminant. -/
set_option linter.unusedSimpArgs false
set_option linter.unusedVariables false
namespace Go.Ab
open Go.Proofs

theorem headD_get {m : List (List Int)} {r : List Int} (h : m[0]? = some r) : m.headD [] = r := by
  cases m with
  | nil => simp at h
  | cons a m => simpa using h
end Go.Ab

/- Contracts: sums of products of ratios, gains; the program's. -/
set_option linter.unusedSimpArgs false
set_option linter.unusedVariables false
namespace Go.Ab
open Go.Proofs

theorem impl_MultiplyRatios_p (a b : Int × Int) : Pure Try.prog 106 [rat a, rat b] (redT (mulR a b)) := impl_MultiplyRatios_ok a b
theorem impl_AddRatios_p (a b : Int × Int) : Pure Try.prog 70 [rat a, rat b] (redT (addR a b)) := impl_AddRatios_ok a b

/-- The sum of products, formed in order, or the first error. -/
def spGo : Int × Int → List ((Int × Int) × (Int × Int)) → (Int × Int) × Int
  | s, [] => (s, 0)
  | s, x :: l => if (mulR x.1 x.2).2 ≠ 0 then ((0, 0), (mulR x.1 x.2).2) else if (addR s (mulR x.1 x.2).1).2 ≠ 0 then ((0, 0), (addR s (mulR x.1 x.2).1).2) else spGo (addR s (mulR x.1 x.2).1).1 l
def spR (a b : List (Int × Int)) : (Int × Int) × Int := spGo (0, 1) (a.zip b)
theorem zip_get {α β : Type} {a : List α} {b : List β} {i : Nat} {x : α} {y : β} (hx : a[i]? = some x) (hy : b[i]? = some y) : (a.zip b)[i]? = some (x, y) := by
  rw [List.getElem?_zip_eq_some]; exact ⟨hx, hy⟩

theorem impl_sumOfProducts_ok (a b : List (Int × Int)) (hab : a.length ≤ b.length) (ha : a.length ≤ 1000000000000) : Pure Try.prog 85 [rats a, rats b] (redT (spR a b)) := by
  refine fun_impl_sumOfProducts (by simp) ?_
  simp -implicitDefEqProofs only [go_sem, List.reduceReplicate, Nat.reduceEqDiff, Nat.reduceAdd, Nat.reduceLeDiff, Nat.reduceMul, Nat.reduceSub, Nat.reduceDiv, Int.reduceToNat, Nat.reduceLT, Int.reduceLT, Int.reduceLE, ↓reduceIte, reduceCtorEq, forall_apply_eq_imp_iff₂, ints, rows, rat, rats, toNat_cast, c_impl_sumOfProducts]
  refine SemC.loopR (σ := Nat × (Int × Int)) (fun s => St.of [(0, .t (rats a)), (1, .t (rats b)), (4, .own 4), (6, .own 6), (12, .t (.i a.length)), (13, .t (.i s.1))] [(4, .box [.i 0, .i 0]), (6, .box [.i s.2.1, .i s.2.2])]) (fun s => s.1 ≤ a.length ∧ spGo s.2 ((a.zip b).drop s.1) = spR a b) (fun s => a.length - s.1) (0, (0, 1)) (Weak.of _ _ [some 4, some 6] (by simp) (by simp) ?_ ?_) ⟨by simp, rfl⟩ fun s hI R hn hr he => ?_
  · simp -implicitDefEqProofs only [ints, rows, Nat.reduceBEq, Int.add_zero, envOK, maA, maT, upd_apply, Nat.reduceEqDiff, ↓reduceIte, and_true, true_or, or_true, List.map_cons, List.map_nil, Nat.zero_ne_one, and_self, true_and, Int.natCast_zero, Int.cast_ofNat_Int, Int.ofNat_zero, piOf, List.zip_cons_cons, List.zip_nil_right, List.lookup_cons, List.lookup_nil, beq_self_eq_true, rootsOK, mkRoots, mkEnv, rats]
  · exact ⟨⟨_, rfl, .refl _⟩, rfl, ⟨_, rfl, .refl _⟩, rfl, trivial⟩
  · obtain ⟨i, s1, s2⟩ := s
    obtain ⟨hi, hm⟩ := hI
    (try simp only [] at hi hm)
    simp -implicitDefEqProofs only [go_sem, List.reduceReplicate, Nat.reduceEqDiff, Nat.reduceAdd, Nat.reduceLeDiff, Nat.reduceMul, Nat.reduceSub, Nat.reduceDiv, Int.reduceToNat, Nat.reduceLT, Int.reduceLT, Int.reduceLE, ↓reduceIte, reduceCtorEq, forall_apply_eq_imp_iff₂, ints, rows, rat, rats, toNat_cast]
    refine ⟨fun h => ?_, fun h => he _ _ ?_⟩
    · obtain ⟨x, hx⟩ : ∃ x, a[i]? = some x := ⟨_, List.getElem?_eq_getElem (by omega)⟩
      obtain ⟨y, hy⟩ : ∃ y, b[i]? = some y := ⟨_, List.getElem?_eq_getElem (by omega)⟩
      refine ⟨by omega, by rw [ratC_length]; omega, by rw [ratC_length]; omega, by omega, by rw [ratC_length]; omega, by rw [ratC_length]; omega, ?_⟩
      rw [ratC_at hx, ratC_at hy]
      rw [drop_of_get (zip_get hx hy), spGo] at hm
      refine CallV.pure (impl_MultiplyRatios_p x y) [] rfl Try.call106 (fun e R' hR => ?_) (by first | trivial | simp [T.noSh, T.noShL, rat]) (fun _ => rfl) ?_
      · simp -implicitDefEqProofs only [Int.natCast_zero, Int.cast_ofNat_Int, Int.natCast_one, Nat.le_refl, Nat.reduceLeDiff, Nat.sub_self, Nat.reduceSub, List.getElem?_cons_zero, List.getElem?_cons_succ, vt_self, vaL, vtL, va, vt, vb, maT, List.cons_append, List.nil_append, List.append_nil, true_or, or_true, go_sem, List.reduceReplicate, Nat.reduceEqDiff, Nat.reduceAdd, Nat.reduceLeDiff, Nat.reduceMul, Nat.reduceSub, Nat.reduceDiv, Int.reduceToNat, Nat.reduceLT, Int.reduceLT, Int.reduceLE, ↓reduceIte, reduceCtorEq, ints, rows, rat, rats, ratsO, toShL_ratC, List.mem_cons, List.mem_nil_iff, List.not_mem_nil, or_false, false_or, exists_eq_left, exists_eq_left', exists_eq_right', Root.live.injEq, eq_self_iff_true, exists_eq, and_true, T.toSh, toShL_ints, toShL_intsO, intsO, rowsO]
      simp -implicitDefEqProofs only [go_sem, List.reduceReplicate, Nat.reduceEqDiff, Nat.reduceAdd, Nat.reduceLeDiff, Nat.reduceMul, Nat.reduceSub, Nat.reduceDiv, Int.reduceToNat, Nat.reduceLT, Int.reduceLT, Int.reduceLE, ↓reduceIte, reduceCtorEq, forall_apply_eq_imp_iff₂, ints, rows, rat, rats, toNat_cast, redT, rat]
      refine ⟨fun h1 => hr _ ?_, fun h1 => ?_⟩
      · have h1 : (mulR x y).2 ≠ 0 := by simpa using h1
        simp -implicitDefEqProofs only [go_sem, List.reduceReplicate, Nat.reduceEqDiff, Nat.reduceAdd, Nat.reduceLeDiff, Nat.reduceMul, Nat.reduceSub, Nat.reduceDiv, Int.reduceToNat, Nat.reduceLT, Int.reduceLT, Int.reduceLE, ↓reduceIte, reduceCtorEq, forall_apply_eq_imp_iff₂, ints, rows, rat, rats, toNat_cast]
        rw [← hm, if_pos h1]; rfl
      · have h1 : (mulR x y).2 = 0 := by simpa using h1
        rw [if_neg (by simp [h1])] at hm
        refine CallW.pure (impl_AddRatios_p (s1, s2) (mulR x y).1) [] rfl Try.call70 ?_ (by first | trivial | simp [T.noSh, T.noShL, rat]) rfl ?_
        · simp -implicitDefEqProofs only [Int.natCast_zero, Int.cast_ofNat_Int, Int.natCast_one, Nat.le_refl, Nat.reduceLeDiff, Nat.sub_self, Nat.reduceSub, List.getElem?_cons_zero, List.getElem?_cons_succ, vt_self, vaL, vtL, va, vt, vb, maT, List.cons_append, List.nil_append, List.append_nil, true_or, or_true, go_sem, List.reduceReplicate, Nat.reduceEqDiff, Nat.reduceAdd, Nat.reduceLeDiff, Nat.reduceMul, Nat.reduceSub, Nat.reduceDiv, Int.reduceToNat, Nat.reduceLT, Int.reduceLT, Int.reduceLE, ↓reduceIte, reduceCtorEq, ints, rows, rat, rats, ratsO, toShL_ratC, List.mem_cons, List.mem_nil_iff, List.not_mem_nil, or_false, false_or, exists_eq_left, exists_eq_left', exists_eq_right', Root.live.injEq, eq_self_iff_true, exists_eq, and_true, T.toSh, toShL_ints, toShL_intsO, intsO, rowsO]
        simp -implicitDefEqProofs only [go_sem, List.reduceReplicate, Nat.reduceEqDiff, Nat.reduceAdd, Nat.reduceLeDiff, Nat.reduceMul, Nat.reduceSub, Nat.reduceDiv, Int.reduceToNat, Nat.reduceLT, Int.reduceLT, Int.reduceLE, ↓reduceIte, reduceCtorEq, forall_apply_eq_imp_iff₂, ints, rows, rat, rats, toNat_cast, redT, rat]
        refine ⟨fun h2 => hr _ ?_, fun h2 => ?_⟩
        · have h2 : (addR (s1, s2) (mulR x y).1).2 ≠ 0 := by simpa using h2
          simp -implicitDefEqProofs only [go_sem, List.reduceReplicate, Nat.reduceEqDiff, Nat.reduceAdd, Nat.reduceLeDiff, Nat.reduceMul, Nat.reduceSub, Nat.reduceDiv, Int.reduceToNat, Nat.reduceLT, Int.reduceLT, Int.reduceLE, ↓reduceIte, reduceCtorEq, forall_apply_eq_imp_iff₂, ints, rows, rat, rats, toNat_cast]
          rw [← hm, if_pos h2]; rfl
        · have h2 : (addR (s1, s2) (mulR x y).1).2 = 0 := by simpa using h2
          rw [if_neg (by simp [h2])] at hm
          refine hn _ (i + 1, (addR (s1, s2) (mulR x y).1).1) (Weak.of _ _ [some 4, some 6] (by simp) (by simp) ?_ ?_) ⟨by simp only []; omega, hm⟩ (by simp only []; omega)
          · simp -implicitDefEqProofs only [ints, rows, Nat.reduceBEq, Int.add_zero, envOK, maA, maT, upd_apply, Nat.reduceEqDiff, ↓reduceIte, and_true, true_or, or_true, List.map_cons, List.map_nil, Nat.zero_ne_one, and_self, true_and, Int.natCast_zero, Int.cast_ofNat_Int, Int.ofNat_zero, piOf, List.zip_cons_cons, List.zip_nil_right, List.lookup_cons, List.lookup_nil, beq_self_eq_true, rootsOK, mkRoots, mkEnv, rats, next64 (by omega : i < a.length) ha]
          · exact ⟨⟨_, rfl, .refl _⟩, rfl, ⟨_, rfl, .refl _⟩, rfl, trivial⟩
    · simp -implicitDefEqProofs only [go_sem, List.reduceReplicate, Nat.reduceEqDiff, Nat.reduceAdd, Nat.reduceLeDiff, Nat.reduceMul, Nat.reduceSub, Nat.reduceDiv, Int.reduceToNat, Nat.reduceLT, Int.reduceLT, Int.reduceLE, ↓reduceIte, reduceCtorEq, forall_apply_eq_imp_iff₂, ints, rows, rat, rats, toNat_cast]
      rw [List.drop_of_length_le (by rw [List.length_zip]; omega), spGo] at hm
      rw [← hm]; rfl
end Go.Ab

/- Contracts: sums of products of ratios, gains; the reference's. -/
set_option linter.unusedSimpArgs false
set_option linter.unusedVariables false
namespace Go.Ab
open Go.Proofs

/-- The same with a code that stops all. -/
def gainGo : Int → Int × Int → List ((Int × Int) × (Int × Int)) → (Int × Int) × Int
  | c, s, [] => (s, c)
  | c, s, x :: l => gainGo (stepA (stepM c x.1 x.2).2 s (stepM c x.1 x.2).1).2 (stepA (stepM c x.1 x.2).2 s (stepM c x.1 x.2).1).1 l
theorem stepA_err {c : Int} (h : c ≠ 0) (a b : Int × Int) : stepA c a b = ((0, 1), c) := if_pos h
theorem stepM_err {c : Int} (h : c ≠ 0) (a b : Int × Int) : stepM c a b = ((0, 1), c) := if_pos h
theorem stepA_zero (a b : Int × Int) : stepA 0 a b = addR a b := if_neg (by simp)
theorem stepM_zero (a b : Int × Int) : stepM 0 a b = mulR a b := if_neg (by simp)
theorem gainGo_err : ∀ (l : List ((Int × Int) × (Int × Int))) (c : Int) (s : Int × Int), c ≠ 0 → (gainGo c s l).2 = c
  | [], c, s, h => rfl
  | x :: l, c, s, h => by rw [gainGo, stepM_err h, stepA_err h]; exact gainGo_err l c _ h
theorem gainGo_spec : ∀ (l : List ((Int × Int) × (Int × Int))) (s : Int × Int), (gainGo 0 s l).2 = (spGo s l).2 ∧ ((spGo s l).2 = 0 → (gainGo 0 s l).1 = (spGo s l).1)
  | [], s => ⟨rfl, fun _ => rfl⟩
  | x :: l, s => by
    rw [gainGo, spGo, stepM_zero]
    by_cases h1 : (mulR x.1 x.2).2 = 0
    · rw [h1, stepA_zero, if_neg (by simp)]
      by_cases h2 : (addR s (mulR x.1 x.2).1).2 = 0
      · rw [h2, if_neg (by simp)]; exact gainGo_spec l _
      · rw [if_pos h2]; exact ⟨gainGo_err l _ _ h2, fun h => absurd h h2⟩
    · rw [if_pos h1, stepA_err h1]; exact ⟨gainGo_err l _ _ h1, fun h => absurd h h1⟩

def ones (r : List Int) : List (Int × Int) := r.map fun x => (x, 1)
theorem ones_length (r : List Int) : (ones r).length = r.length := by simp [ones]
theorem ones_get {r : List Int} {i : Nat} {x : Int} (h : r[i]? = some x) : (ones r)[i]? = some (x, 1) := by simp [ones, h]
def gainC (c : Int) (q : List (Int × Int)) (r : List Int) : (Int × Int) × Int := gainGo c (0, 1) (q.zip (ones r))

theorem spec_l26Gain_ok (c : Int) (q : List (Int × Int)) (r : List Int) (hqr : q.length ≤ r.length) (hq : q.length ≤ 1000000000000) : Fun Try.prog 107 [.box [.i c]] [.own 1000000000, .t (rats q), .t (ints r)] fun o res => o = [.box [.i (gainC c q r).2]] ∧ res = rat (gainC c q r).1 := by
  refine fun_spec_l26Gain (by simp) ?_
  simp -implicitDefEqProofs only [go_sem, List.reduceReplicate, Nat.reduceEqDiff, Nat.reduceAdd, Nat.reduceLeDiff, Nat.reduceMul, Nat.reduceSub, Nat.reduceDiv, Int.reduceToNat, Nat.reduceLT, Int.reduceLT, Int.reduceLE, ↓reduceIte, reduceCtorEq, forall_apply_eq_imp_iff₂, ints, rows, rat, rats, toNat_cast, c_spec_l26Gain]
  refine CallW.pure (spec_l19Whole_ok 0) [] rfl Try.call65 ?_ (by first | trivial | simp [T.noSh, T.noShL, rat]) rfl ?_
  · simp -implicitDefEqProofs only [Int.natCast_zero, Int.cast_ofNat_Int, Int.natCast_one, Nat.le_refl, Nat.reduceLeDiff, Nat.sub_self, Nat.reduceSub, List.getElem?_cons_zero, List.getElem?_cons_succ, vt_self, vaL, vtL, va, vt, vb, maT, List.cons_append, List.nil_append, List.append_nil, true_or, or_true, go_sem, List.reduceReplicate, Nat.reduceEqDiff, Nat.reduceAdd, Nat.reduceLeDiff, Nat.reduceMul, Nat.reduceSub, Nat.reduceDiv, Int.reduceToNat, Nat.reduceLT, Int.reduceLT, Int.reduceLE, ↓reduceIte, reduceCtorEq, ints, rows, rat, rats, ratsO, toShL_ratC, List.mem_cons, List.mem_nil_iff, List.not_mem_nil, or_false, false_or, exists_eq_left, exists_eq_left', exists_eq_right', Root.live.injEq, eq_self_iff_true, exists_eq, and_true, T.toSh, toShL_ints, toShL_intsO, intsO, rowsO]
  simp -implicitDefEqProofs only [go_sem, List.reduceReplicate, Nat.reduceEqDiff, Nat.reduceAdd, Nat.reduceLeDiff, Nat.reduceMul, Nat.reduceSub, Nat.reduceDiv, Int.reduceToNat, Nat.reduceLT, Int.reduceLT, Int.reduceLE, ↓reduceIte, reduceCtorEq, forall_apply_eq_imp_iff₂, ints, rows, rat, rats, toNat_cast]
  refine SemC.loopR (σ := Nat × Int × (Int × Int)) (fun s => St.of [(0, .own 1000000000), (1, .t (rats q)), (2, .t (ints r)), (6, .own 6), (7, .own 7), (8, .t (.i s.1))] [(6, .box [.i 0, .i 0]), (7, .box [.i s.2.2.1, .i s.2.2.2]), (1000000000, .box [.i s.2.1])]) (fun s => s.1 ≤ q.length ∧ gainGo s.2.1 s.2.2 ((q.zip (ones r)).drop s.1) = gainC c q r) (fun s => q.length - s.1) (0, c, (0, 1)) (Weak.of _ _ [some 6, some 7, some 1000000000] (by simp) (by simp) ?_ ?_) ⟨by simp, rfl⟩ fun s hI R hn' hr he => ?_
  · simp -implicitDefEqProofs only [ints, rows, Nat.reduceBEq, Int.add_zero, envOK, maA, maT, upd_apply, Nat.reduceEqDiff, ↓reduceIte, and_true, true_or, or_true, List.map_cons, List.map_nil, Nat.zero_ne_one, and_self, true_and, Int.natCast_zero, Int.cast_ofNat_Int, Int.ofNat_zero, piOf, List.zip_cons_cons, List.zip_nil_right, List.lookup_cons, List.lookup_nil, beq_self_eq_true, rootsOK, mkRoots, mkEnv, rats]
  · exact ⟨⟨_, rfl, .refl _⟩, rfl, ⟨_, rfl, .refl _⟩, rfl, ⟨_, rfl, .refl _⟩, rfl, trivial⟩
  · obtain ⟨i, c', s1, s2⟩ := s
    obtain ⟨hi, hm⟩ := hI
    (try simp only [] at hi hm)
    simp -implicitDefEqProofs only [go_sem, List.reduceReplicate, Nat.reduceEqDiff, Nat.reduceAdd, Nat.reduceLeDiff, Nat.reduceMul, Nat.reduceSub, Nat.reduceDiv, Int.reduceToNat, Nat.reduceLT, Int.reduceLT, Int.reduceLE, ↓reduceIte, reduceCtorEq, forall_apply_eq_imp_iff₂, ints, rows, rat, rats, toNat_cast]
    refine ⟨fun h => ?_, fun h => he _ _ ?_⟩
    · obtain ⟨x, hx⟩ : ∃ x, q[i]? = some x := ⟨_, List.getElem?_eq_getElem (by omega)⟩
      obtain ⟨y, hy⟩ : ∃ y, r[i]? = some y := ⟨_, List.getElem?_eq_getElem (by omega)⟩
      rw [drop_of_get (zip_get hx (ones_get hy)), gainGo] at hm
      refine ⟨by omega, by rw [ratC_length]; omega, by rw [ratC_length]; omega, by omega, by omega, by omega, fun y' hy' => ?_⟩
      rw [hy] at hy'; cases hy'
      rw [ratC_at hx]
      refine CallV.pure (spec_l19Whole_ok y) [] rfl Try.call65 (fun e R' hR => ?_) (by first | trivial | simp [T.noSh, T.noShL, rat]) (fun _ => rfl) ?_
      · simp -implicitDefEqProofs only [Int.natCast_zero, Int.cast_ofNat_Int, Int.natCast_one, Nat.le_refl, Nat.reduceLeDiff, Nat.sub_self, Nat.reduceSub, List.getElem?_cons_zero, List.getElem?_cons_succ, vt_self, vaL, vtL, va, vt, vb, maT, List.cons_append, List.nil_append, List.append_nil, true_or, or_true, go_sem, List.reduceReplicate, Nat.reduceEqDiff, Nat.reduceAdd, Nat.reduceLeDiff, Nat.reduceMul, Nat.reduceSub, Nat.reduceDiv, Int.reduceToNat, Nat.reduceLT, Int.reduceLT, Int.reduceLE, ↓reduceIte, reduceCtorEq, ints, rows, rat, rats, ratsO, toShL_ratC, List.mem_cons, List.mem_nil_iff, List.not_mem_nil, or_false, false_or, exists_eq_left, exists_eq_left', exists_eq_right', Root.live.injEq, eq_self_iff_true, exists_eq, and_true, T.toSh, toShL_ints, toShL_intsO, intsO, rowsO]
      simp -implicitDefEqProofs only [go_sem, List.reduceReplicate, Nat.reduceEqDiff, Nat.reduceAdd, Nat.reduceLeDiff, Nat.reduceMul, Nat.reduceSub, Nat.reduceDiv, Int.reduceToNat, Nat.reduceLT, Int.reduceLT, Int.reduceLE, ↓reduceIte, reduceCtorEq, forall_apply_eq_imp_iff₂, ints, rows, rat, rats, toNat_cast]
      refine CallH.ref (spec_l19Times_ok c' x (y, 1)) [1000000000] [] rfl Try.call105 (by simp) ?_ (by simp) (fun e R' hR => ?_) (.inl rfl) ?_
      · simp -implicitDefEqProofs only [rootOf_arr, rootOf_box, rootOf_any, srcsOK, updL, updS, upd_apply, Nat.reduceEqDiff, ↓reduceIte, mkRoots, and_true, ints, rows, intsO, rowsO]
      · simp -implicitDefEqProofs only [Int.natCast_zero, Int.cast_ofNat_Int, Int.natCast_one, Nat.le_refl, Nat.reduceLeDiff, Nat.sub_self, Nat.reduceSub, List.getElem?_cons_zero, List.getElem?_cons_succ, vt_self, vaL, vtL, va, vt, vb, maT, List.cons_append, List.nil_append, List.append_nil, true_or, or_true, go_sem, List.reduceReplicate, Nat.reduceEqDiff, Nat.reduceAdd, Nat.reduceLeDiff, Nat.reduceMul, Nat.reduceSub, Nat.reduceDiv, Int.reduceToNat, Nat.reduceLT, Int.reduceLT, Int.reduceLE, ↓reduceIte, reduceCtorEq, ints, rows, rat, rats, ratsO, toShL_ratC, List.mem_cons, List.mem_nil_iff, List.not_mem_nil, or_false, false_or, exists_eq_left, exists_eq_left', exists_eq_right', Root.live.injEq, eq_self_iff_true, exists_eq, and_true, T.toSh, toShL_ints, toShL_intsO, intsO, rowsO]
      simp -implicitDefEqProofs only [List.append_nil, List.cons_append, Nat.reduceLeDiff, afterCall, absT_rowsO, absT_intsO, absT, absL, updL, updS, freeAll, rid, T.noSh, T.noShL, Nat.zero_le, go_sem, List.reduceReplicate, Nat.reduceEqDiff, Nat.reduceAdd, Nat.reduceLeDiff, Nat.reduceMul, Nat.reduceSub, Nat.reduceDiv, Int.reduceToNat, Nat.reduceLT, Int.reduceLT, Int.reduceLE, ↓reduceIte, reduceCtorEq, rat, forall_apply_eq_imp_iff₂, toNat_cast]
      refine ⟨?_, (frameOK.refl _ _ _).upd _ (.inl (by simp))⟩
      refine CallH.ref (spec_l19Add_ok (stepM c' x (y, 1)).2 (s1, s2) (stepM c' x (y, 1)).1) [1000000000] [] rfl Try.call67 (by simp) ?_ (by simp) (fun e R' hR => ?_) (.inl rfl) ?_
      · simp -implicitDefEqProofs only [rootOf_arr, rootOf_box, rootOf_any, srcsOK, updL, updS, upd_apply, Nat.reduceEqDiff, ↓reduceIte, mkRoots, and_true, ints, rows, intsO, rowsO]
      · simp -implicitDefEqProofs only [Int.natCast_zero, Int.cast_ofNat_Int, Int.natCast_one, Nat.le_refl, Nat.reduceLeDiff, Nat.sub_self, Nat.reduceSub, List.getElem?_cons_zero, List.getElem?_cons_succ, vt_self, vaL, vtL, va, vt, vb, maT, List.cons_append, List.nil_append, List.append_nil, true_or, or_true, go_sem, List.reduceReplicate, Nat.reduceEqDiff, Nat.reduceAdd, Nat.reduceLeDiff, Nat.reduceMul, Nat.reduceSub, Nat.reduceDiv, Int.reduceToNat, Nat.reduceLT, Int.reduceLT, Int.reduceLE, ↓reduceIte, reduceCtorEq, ints, rows, rat, rats, ratsO, toShL_ratC, List.mem_cons, List.mem_nil_iff, List.not_mem_nil, or_false, false_or, exists_eq_left, exists_eq_left', exists_eq_right', Root.live.injEq, eq_self_iff_true, exists_eq, and_true, T.toSh, toShL_ints, toShL_intsO, intsO, rowsO]
      simp -implicitDefEqProofs only [List.append_nil, List.cons_append, Nat.reduceLeDiff, afterCall, absT_rowsO, absT_intsO, absT, absL, updL, updS, freeAll, rid, T.noSh, T.noShL, Nat.zero_le, go_sem, List.reduceReplicate, Nat.reduceEqDiff, Nat.reduceAdd, Nat.reduceLeDiff, Nat.reduceMul, Nat.reduceSub, Nat.reduceDiv, Int.reduceToNat, Nat.reduceLT, Int.reduceLT, Int.reduceLE, ↓reduceIte, reduceCtorEq, rat, forall_apply_eq_imp_iff₂, toNat_cast]
      refine hn' _ (i + 1, (stepA (stepM c' x (y, 1)).2 (s1, s2) (stepM c' x (y, 1)).1).2, (stepA (stepM c' x (y, 1)).2 (s1, s2) (stepM c' x (y, 1)).1).1) (Weak.of _ _ [some 6, some 7, some 1000000000] (by simp) (by simp) ?_ ?_) ⟨by simp only []; omega, hm⟩ (by simp only []; omega)
      · simp -implicitDefEqProofs only [ints, rows, Nat.reduceBEq, Int.add_zero, envOK, maA, maT, upd_apply, Nat.reduceEqDiff, ↓reduceIte, and_true, true_or, or_true, List.map_cons, List.map_nil, Nat.zero_ne_one, and_self, true_and, Int.natCast_zero, Int.cast_ofNat_Int, Int.ofNat_zero, piOf, List.zip_cons_cons, List.zip_nil_right, List.lookup_cons, List.lookup_nil, beq_self_eq_true, rootsOK, mkRoots, mkEnv, rats, next64 (by omega : i < q.length) hq]
      · exact ⟨⟨_, rfl, .refl _⟩, rfl, ⟨_, rfl, .refl _⟩, rfl, ⟨_, rfl, .refl _⟩, rfl, trivial⟩
    · simp -implicitDefEqProofs only [go_sem, List.reduceReplicate, Nat.reduceEqDiff, Nat.reduceAdd, Nat.reduceLeDiff, Nat.reduceMul, Nat.reduceSub, Nat.reduceDiv, Int.reduceToNat, Nat.reduceLT, Int.reduceLT, Int.reduceLE, ↓reduceIte, reduceCtorEq, forall_apply_eq_imp_iff₂, ints, rows, rat, rats, toNat_cast]
      rw [List.drop_of_length_le (by rw [List.length_zip, ones_length]; omega), gainGo] at hm
      rw [← hm]; exact ⟨rfl, rfl⟩
end Go.Ab

/- Contracts: gains of all rows; the program's. -/
set_option linter.unusedSimpArgs false
set_option linter.unusedVariables false
namespace Go.Ab
open Go.Proofs

def gainsGo (q : List (Int × Int)) : List (List Int) → List (Int × Int) × Int
  | [] => ([], 0)
  | r :: m => if (spR q (ones r)).2 ≠ 0 then ([], (spR q (ones r)).2) else if (gainsGo q m).2 ≠ 0 then ([], (gainsGo q m).2) else ((spR q (ones r)).1 :: (gainsGo q m).1, 0)
def gjoin (g : List (Int × Int)) (x : List (Int × Int) × Int) : List (Int × Int) × Int := if x.2 ≠ 0 then ([], x.2) else (g ++ x.1, 0)
theorem gainsGo_err (q : List (Int × Int)) : ∀ (m : List (List Int)), (gainsGo q m).2 ≠ 0 → (gainsGo q m).1 = []
  | [], h => absurd rfl h
  | r :: m, h => by
    rw [gainsGo] at h ⊢
    split
    · rfl
    · rename_i h1
      rw [if_neg h1] at h
      split
      · rfl
      · rename_i h2; rw [if_neg h2] at h; exact absurd rfl h
theorem gjoin_nil (q : List (Int × Int)) (m : List (List Int)) : gjoin [] (gainsGo q m) = gainsGo q m := by
  rw [gjoin]; split
  · rename_i h; rw [← gainsGo_err q m h]
  · rename_i h
    have : (gainsGo q m).2 = 0 := by omega
    rw [List.nil_append, ← this]
theorem gainsGo_length (q : List (Int × Int)) : ∀ (m : List (List Int)), (gainsGo q m).2 = 0 → (gainsGo q m).1.length = m.length
  | [], h => rfl
  | r :: m, h => by
    rw [gainsGo] at h ⊢
    split at h
    · rename_i h1; exact absurd h h1
    · rename_i h1
      rw [if_neg h1]
      split at h
      · rename_i h2; exact absurd h h2
      · rename_i h2
        rw [if_neg h2, List.length_cons, List.length_cons, gainsGo_length q m (by omega)]
def gT (x : List (Int × Int) × Int) : T := .tup [ratsO x.1, .i x.2]
theorem Fun.gT_nil {P : Program} {f : FuncId} {rin : List T} {args : List A} {x : List (Int × Int) × Int} {o0 : List T} (h : Fun P f rin args fun o r => o = o0 ∧ (r = gT x ∨ (x.1 = [] ∧ r = .tup [.v (.slice none 0 0), .i x.2]))) : Fun P f rin args fun o r => o = o0 ∧ r = gT x := by
  refine Fun.le h ?_
  rintro o r ⟨rfl, rfl | ⟨h, rfl⟩⟩
  · exact ⟨_, .refl _, rfl, rfl⟩
  · refine ⟨_, ?_, rfl, rfl⟩
    rw [gT, h]
    exact .tup2 (.nilArr 2) (.refl _)

theorem impl_gainsOf_ok (m : List (List Int)) (q : List (Int × Int)) (hq : q.length ≤ 1000000) (hm : m.length ≤ 1000000) (hr : ∀ r ∈ m, q.length ≤ r.length ∧ r.length ≤ 1000000) : Fun Try.prog 84 [] [.t (rows m), .t (rats q)] fun o r => o = [] ∧ r = gT (gainsGo q m) := by
  refine Fun.gT_nil ?_
  refine fun_impl_gainsOf (by simp) ?_
  simp -implicitDefEqProofs only [go_sem, List.reduceReplicate, Nat.reduceEqDiff, Nat.reduceAdd, Nat.reduceLeDiff, Nat.reduceMul, Nat.reduceSub, Nat.reduceDiv, Int.reduceToNat, Nat.reduceLT, Int.reduceLT, Int.reduceLE, ↓reduceIte, reduceCtorEq, forall_apply_eq_imp_iff₂, ints, rows, rat, rats, toNat_cast, c_impl_gainsOf]
  refine SemC.loopR (σ := Nat × List (Int × Int)) (fun s => St.of [(0, .t (rows m)), (1, .t (rats q)), (6, .own 77), (14, .t (rows m)), (15, .t (.i m.length)), (16, .t (.i s.1))] [(77, .arr 2 (ratC s.2))]) (fun s => s.1 ≤ m.length ∧ s.2.length = s.1 ∧ gjoin s.2 (gainsGo q (m.drop s.1)) = gainsGo q m) (fun s => m.length - s.1) (0, []) (Weak.of _ _ [none] (by simp) (by simp) ?_ ?_) ⟨by simp, rfl, gjoin_nil q m⟩ fun s hI R hn hr0 he => ?_
  · simp -implicitDefEqProofs only [ints, rows, Nat.reduceBEq, Int.add_zero, envOK, maA, maT, upd_apply, Nat.reduceEqDiff, ↓reduceIte, and_true, true_or, or_true, List.map_cons, List.map_nil, Nat.zero_ne_one, and_self, true_and, Int.natCast_zero, Int.cast_ofNat_Int, Int.ofNat_zero, piOf, List.zip_cons_cons, List.zip_nil_right, List.lookup_cons, List.lookup_nil, beq_self_eq_true, rootsOK, mkRoots, mkEnv, rats]
  · exact ⟨⟨2, rfl⟩, trivial⟩
  · obtain ⟨i, g⟩ := s
    obtain ⟨hi, hgl, hg⟩ := hI
    (try simp only [] at hi hgl hg)
    simp -implicitDefEqProofs only [go_sem, List.reduceReplicate, Nat.reduceEqDiff, Nat.reduceAdd, Nat.reduceLeDiff, Nat.reduceMul, Nat.reduceSub, Nat.reduceDiv, Int.reduceToNat, Nat.reduceLT, Int.reduceLT, Int.reduceLE, ↓reduceIte, reduceCtorEq, forall_apply_eq_imp_iff₂, ints, rows, rat, rats, toNat_cast]
    refine ⟨fun h => ⟨by omega, by omega, by omega, fun r hrow => ?_⟩, fun h => he _ _ ?_⟩
    · obtain ⟨hrl, hrl2⟩ := hr r (List.mem_of_getElem? hrow)
      rw [drop_of_get hrow, gainsGo] at hg
      refine ⟨by omega, by omega, ?_⟩
      have hol := ones_length r
      refine SemC.loopR (σ := Nat) (fun j => St.of [(0, .t (rows m)), (1, .t (rats q)), (6, .own 77), (8, .t (ints r)), (9, .own 22), (14, .t (rows m)), (15, .t (.i m.length)), (16, .t (.i i)), (23, .t (ints r)), (24, .t (.i r.length)), (25, .t (.i j))] [(77, .arr 2 (ratC g)), (22, .arr 2 (ratC (rfilled (ones r) j)))]) (fun j => j ≤ r.length) (fun j => r.length - j) 0 (Weak.of _ _ [some 77, some 22] (by simp) (by simp) ?_ ?_) (by simp) fun j hj R2 hn2 hr2 he2 => ?_
      · simp -implicitDefEqProofs only [ints, rows, Nat.reduceBEq, Int.add_zero, envOK, maA, maT, upd_apply, Nat.reduceEqDiff, ↓reduceIte, and_true, true_or, or_true, List.map_cons, List.map_nil, Nat.zero_ne_one, and_self, true_and, Int.natCast_zero, Int.cast_ofNat_Int, Int.ofNat_zero, piOf, List.zip_cons_cons, List.zip_nil_right, List.lookup_cons, List.lookup_nil, beq_self_eq_true, rootsOK, mkRoots, mkEnv, rats]
      · exact ⟨⟨_, rfl, .refl _⟩, rfl, ⟨_, rfl, by rw [ratC_replicate]; simp only [rfilled, List.take_zero, List.nil_append, Nat.sub_zero, hol]; exact .refl _⟩, rfl, trivial⟩
      · have hlen := rfilled_length (ones r) j (by omega)
        simp -implicitDefEqProofs only [go_sem, List.reduceReplicate, Nat.reduceEqDiff, Nat.reduceAdd, Nat.reduceLeDiff, Nat.reduceMul, Nat.reduceSub, Nat.reduceDiv, Int.reduceToNat, Nat.reduceLT, Int.reduceLT, Int.reduceLE, ↓reduceIte, reduceCtorEq, forall_apply_eq_imp_iff₂, ints, rows, rat, rats, toNat_cast]
        refine ⟨fun h1 => ⟨by omega, by omega, by omega, fun x hx => ⟨by omega, by rw [ratC_length]; omega, by rw [ratC_length]; omega, hn2 _ (j + 1) (Weak.of _ _ [some 77, some 22] (by simp) (by simp) ?_ ?_) (by omega) (by omega)⟩⟩, fun h1 => he2 _ _ ?_⟩
        · simp -implicitDefEqProofs only [ints, rows, Nat.reduceBEq, Int.add_zero, envOK, maA, maT, upd_apply, Nat.reduceEqDiff, ↓reduceIte, and_true, true_or, or_true, List.map_cons, List.map_nil, Nat.zero_ne_one, and_self, true_and, Int.natCast_zero, Int.cast_ofNat_Int, Int.ofNat_zero, piOf, List.zip_cons_cons, List.zip_nil_right, List.lookup_cons, List.lookup_nil, beq_self_eq_true, rootsOK, mkRoots, mkEnv, rats, next64 (by omega : j < r.length) (by omega)]
        · refine ⟨⟨_, rfl, .refl _⟩, rfl, ⟨_, rfl, ?_⟩, rfl, trivial⟩
          (try simp only [List.cons_append, List.nil_append, List.append_assoc])
          have := ratC_set (l := rfilled (ones r) j) (i := j) (x, 1) (by omega)
          simp only [List.append_assoc, List.cons_append, List.nil_append] at this
          rw [this, rfilled_set (ones_get hx)]; exact .refl _
        · have hje : j = (ones r).length := by omega
          rw [hje, rfilled_all]
          simp -implicitDefEqProofs only [go_sem, List.reduceReplicate, Nat.reduceEqDiff, Nat.reduceAdd, Nat.reduceLeDiff, Nat.reduceMul, Nat.reduceSub, Nat.reduceDiv, Int.reduceToNat, Nat.reduceLT, Int.reduceLT, Int.reduceLE, ↓reduceIte, reduceCtorEq, forall_apply_eq_imp_iff₂, ints, rows, rat, rats, toNat_cast]
          refine CallW.pure (impl_sumOfProducts_ok q (ones r) (by omega) (by omega)) [22] rfl Try.call85 ?_ (by first | trivial | simp [T.noSh, T.noShL, rat]) rfl ?_
          · simp -implicitDefEqProofs only [Int.natCast_zero, Int.cast_ofNat_Int, Int.natCast_one, Nat.le_refl, Nat.reduceLeDiff, Nat.sub_self, Nat.reduceSub, List.getElem?_cons_zero, List.getElem?_cons_succ, vt_self, vaL, vtL, va, vt, vb, maT, List.cons_append, List.nil_append, List.append_nil, true_or, or_true, go_sem, List.reduceReplicate, Nat.reduceEqDiff, Nat.reduceAdd, Nat.reduceLeDiff, Nat.reduceMul, Nat.reduceSub, Nat.reduceDiv, Int.reduceToNat, Nat.reduceLT, Int.reduceLT, Int.reduceLE, ↓reduceIte, reduceCtorEq, ints, rows, rat, rats, ratsO, toShL_ratC, List.mem_cons, List.mem_nil_iff, List.not_mem_nil, or_false, false_or, exists_eq_left, exists_eq_left', exists_eq_right', Root.live.injEq, eq_self_iff_true, exists_eq, and_true, T.toSh, toShL_ints, toShL_intsO, intsO, rowsO]
          simp -implicitDefEqProofs only [go_sem, List.reduceReplicate, Nat.reduceEqDiff, Nat.reduceAdd, Nat.reduceLeDiff, Nat.reduceMul, Nat.reduceSub, Nat.reduceDiv, Int.reduceToNat, Nat.reduceLT, Int.reduceLT, Int.reduceLE, ↓reduceIte, reduceCtorEq, forall_apply_eq_imp_iff₂, ints, rows, rat, rats, toNat_cast, redT, rat]
          refine ⟨fun h2 => hr0 _ ?_, fun h2 => ?_⟩
          · have h2 : (spR q (ones r)).2 ≠ 0 := by simpa using h2
            rw [if_pos h2, gjoin, if_pos h2] at hg
            simp -implicitDefEqProofs only [go_sem, List.reduceReplicate, Nat.reduceEqDiff, Nat.reduceAdd, Nat.reduceLeDiff, Nat.reduceMul, Nat.reduceSub, Nat.reduceDiv, Int.reduceToNat, Nat.reduceLT, Int.reduceLT, Int.reduceLE, ↓reduceIte, reduceCtorEq, forall_apply_eq_imp_iff₂, ints, rows, rat, rats, toNat_cast]
            exact .inr ⟨by rw [← hg], by rw [← hg]⟩
          · have h2 : (spR q (ones r)).2 = 0 := by simpa using h2
            rw [if_neg (by simp [h2])] at hg
            refine ⟨by rw [ratC_length]; omega, hn _ (i + 1, g ++ [(spR q (ones r)).1]) (Weak.of _ _ [some 48] (by simp) (by simp) ?_ ?_) ⟨by simp only []; omega, by simp; omega, ?_⟩ (by simp only []; omega)⟩
            · simp -implicitDefEqProofs only [ints, rows, Nat.reduceBEq, Int.add_zero, envOK, maA, maT, upd_apply, Nat.reduceEqDiff, ↓reduceIte, and_true, true_or, or_true, List.map_cons, List.map_nil, Nat.zero_ne_one, and_self, true_and, Int.natCast_zero, Int.cast_ofNat_Int, Int.ofNat_zero, piOf, List.zip_cons_cons, List.zip_nil_right, List.lookup_cons, List.lookup_nil, beq_self_eq_true, rootsOK, mkRoots, mkEnv, rats, next64 (by omega : i < m.length) (by omega)]
            · refine ⟨⟨_, rfl, ?_⟩, rfl, trivial⟩
              rw [ratC_append]; exact .refl _
            · simp only []
              rw [← hg]
              by_cases h3 : (gainsGo q (m.drop (i + 1))).2 = 0
              · rw [if_neg (by simp [h3]), gjoin, gjoin, if_neg (by simp [h3]), if_neg (by simp)]; simp
              · rw [if_pos h3, gjoin, gjoin, if_pos h3, if_pos h3]
    · simp -implicitDefEqProofs only [go_sem, List.reduceReplicate, Nat.reduceEqDiff, Nat.reduceAdd, Nat.reduceLeDiff, Nat.reduceMul, Nat.reduceSub, Nat.reduceDiv, Int.reduceToNat, Nat.reduceLT, Int.reduceLT, Int.reduceLE, ↓reduceIte, reduceCtorEq, forall_apply_eq_imp_iff₂, ints, rows, rat, rats, toNat_cast]
      have : i = m.length := by omega
      rw [List.drop_of_length_le (by omega), gainsGo, gjoin] at hg
      left
      rw [← hg]; simp [gT, ratsO]
end Go.Ab

/- Contracts: gains of all rows and of all columns; the reference's. -/
set_option linter.unusedSimpArgs false
set_option linter.unusedVariables false
namespace Go.Ab
open Go.Proofs

def rowsGo (q : List (Int × Int)) : Int → List (List Int) → List (Int × Int) × Int
  | c, [] => ([], c)
  | c, r :: m => ((gainC c q r).1 :: (rowsGo q (gainC c q r).2 m).1, (rowsGo q (gainC c q r).2 m).2)
def rjoin (g : List (Int × Int)) (x : List (Int × Int) × Int) : List (Int × Int) × Int := (g ++ x.1, x.2)
theorem rjoin_cons (q : List (Int × Int)) (g : List (Int × Int)) (c : Int) (r : List Int) (m : List (List Int)) : rjoin g (rowsGo q c (r :: m)) = rjoin (g ++ [(gainC c q r).1]) (rowsGo q (gainC c q r).2 m) := by
  simp [rjoin, rowsGo]
theorem rowsGo_length (q : List (Int × Int)) : ∀ (m : List (List Int)) (c : Int), (rowsGo q c m).1.length = m.length
  | [], c => rfl
  | r :: m, c => by rw [rowsGo, List.length_cons, List.length_cons, rowsGo_length q m]
theorem rowsGo_err (q : List (Int × Int)) : ∀ (m : List (List Int)) (c : Int), c ≠ 0 → (rowsGo q c m).2 = c
  | [], c, h => rfl
  | r :: m, c, h => by
    have : (gainC c q r).2 = c := gainGo_err _ _ _ h
    rw [rowsGo]; simp only []
    rw [this]; exact rowsGo_err q m c h
/-- Both ways of gathering gains. -/
theorem rowsGo_spec (q : List (Int × Int)) : ∀ (m : List (List Int)), (rowsGo q 0 m).2 = (gainsGo q m).2 ∧ ((gainsGo q m).2 = 0 → (rowsGo q 0 m).1 = (gainsGo q m).1)
  | [] => ⟨rfl, fun _ => rfl⟩
  | r :: m => by
    have hg : (gainC 0 q r).2 = (spR q (ones r)).2 ∧ ((spR q (ones r)).2 = 0 → (gainC 0 q r).1 = (spR q (ones r)).1) := gainGo_spec _ _
    rw [rowsGo, gainsGo]
    simp only []
    by_cases h1 : (spR q (ones r)).2 = 0
    · rw [hg.1, h1, if_neg (by simp)]
      obtain ⟨h2, h3⟩ := rowsGo_spec q m
      by_cases h4 : (gainsGo q m).2 = 0
      · rw [h4, if_neg (by simp)]
        exact ⟨by rw [h2, h4], fun _ => by rw [h3 h4, hg.2 h1]⟩
      · rw [if_pos h4]
        exact ⟨h2, fun h => absurd h h4⟩
    · rw [hg.1, if_pos h1]
      exact ⟨rowsGo_err q m _ h1, fun h => absurd h h1⟩

theorem spec_l26Rows_ok (c : Int) (m : List (List Int)) (q : List (Int × Int)) (hq : q.length ≤ 1000000) (hm : m.length ≤ 1000000) (hr : ∀ r ∈ m, q.length ≤ r.length) : Fun Try.prog 87 [.box [.i c]] [.own 1000000000, .t (rows m), .t (rats q)] fun o r => o = [.box [.i (rowsGo q c m).2]] ∧ r = ratsO (rowsGo q c m).1 := by
  refine fun_spec_l26Rows (by simp) ?_
  simp -implicitDefEqProofs only [go_sem, List.reduceReplicate, Nat.reduceEqDiff, Nat.reduceAdd, Nat.reduceLeDiff, Nat.reduceMul, Nat.reduceSub, Nat.reduceDiv, Int.reduceToNat, Nat.reduceLT, Int.reduceLT, Int.reduceLE, ↓reduceIte, reduceCtorEq, forall_apply_eq_imp_iff₂, ints, rows, rat, rats, toNat_cast, c_spec_l26Rows]
  refine SemC.loopR (σ := Nat × Int × List (Int × Int)) (fun s => St.of [(0, .own 1000000000), (1, .t (rows m)), (2, .t (rats q)), (7, .own 77), (8, .t (.i s.1))] [(77, .arr 2 (ratC s.2.2)), (1000000000, .box [.i s.2.1])]) (fun s => s.1 ≤ m.length ∧ s.2.2.length = s.1 ∧ rjoin s.2.2 (rowsGo q s.2.1 (m.drop s.1)) = rowsGo q c m) (fun s => m.length - s.1) (0, c, []) (Weak.of _ _ [some 9, some 1000000000] (by simp) (by simp) ?_ ?_) ⟨by simp, rfl, rfl⟩ fun s hI R hn hr0 he => ?_
  · simp -implicitDefEqProofs only [ints, rows, Nat.reduceBEq, Int.add_zero, envOK, maA, maT, upd_apply, Nat.reduceEqDiff, ↓reduceIte, and_true, true_or, or_true, List.map_cons, List.map_nil, Nat.zero_ne_one, and_self, true_and, Int.natCast_zero, Int.cast_ofNat_Int, Int.ofNat_zero, piOf, List.zip_cons_cons, List.zip_nil_right, List.lookup_cons, List.lookup_nil, beq_self_eq_true, rootsOK, mkRoots, mkEnv, rats]
  · exact ⟨⟨_, rfl, .refl _⟩, rfl, ⟨_, rfl, .refl _⟩, rfl, trivial⟩
  · obtain ⟨i, c', g⟩ := s
    obtain ⟨hi, hgl, hg⟩ := hI
    (try simp only [] at hi hgl hg)
    simp -implicitDefEqProofs only [go_sem, List.reduceReplicate, Nat.reduceEqDiff, Nat.reduceAdd, Nat.reduceLeDiff, Nat.reduceMul, Nat.reduceSub, Nat.reduceDiv, Int.reduceToNat, Nat.reduceLT, Int.reduceLT, Int.reduceLE, ↓reduceIte, reduceCtorEq, forall_apply_eq_imp_iff₂, ints, rows, rat, rats, toNat_cast]
    refine ⟨fun h => ⟨by omega, by omega, by omega, fun r hrow => ?_⟩, fun h => he _ _ ?_⟩
    · rw [drop_of_get hrow, rjoin_cons] at hg
      refine CallW.ref (spec_l26Gain_ok c' q r (hr r (List.mem_of_getElem? hrow)) (by omega)) [1000000000] [] rfl Try.call107 (by simp) ?_ (by simp) ?_ (.inl rfl) ?_
      · simp -implicitDefEqProofs only [rootOf_arr, rootOf_box, rootOf_any, srcsOK, updL, updS, upd_apply, Nat.reduceEqDiff, ↓reduceIte, mkRoots, and_true, ints, rows, intsO, rowsO]
      · simp -implicitDefEqProofs only [Int.natCast_zero, Int.cast_ofNat_Int, Int.natCast_one, Nat.le_refl, Nat.reduceLeDiff, Nat.sub_self, Nat.reduceSub, List.getElem?_cons_zero, List.getElem?_cons_succ, vt_self, vaL, vtL, va, vt, vb, maT, List.cons_append, List.nil_append, List.append_nil, true_or, or_true, go_sem, List.reduceReplicate, Nat.reduceEqDiff, Nat.reduceAdd, Nat.reduceLeDiff, Nat.reduceMul, Nat.reduceSub, Nat.reduceDiv, Int.reduceToNat, Nat.reduceLT, Int.reduceLT, Int.reduceLE, ↓reduceIte, reduceCtorEq, ints, rows, rat, rats, ratsO, toShL_ratC, List.mem_cons, List.mem_nil_iff, List.not_mem_nil, or_false, false_or, exists_eq_left, exists_eq_left', exists_eq_right', Root.live.injEq, eq_self_iff_true, exists_eq, and_true, T.toSh, toShL_ints, toShL_intsO, intsO, rowsO]
      simp -implicitDefEqProofs only [List.append_nil, List.cons_append, Nat.reduceLeDiff, afterCall, absT_rowsO, absT_intsO, absT, absL, updL, updS, freeAll, rid, T.noSh, T.noShL, Nat.zero_le, go_sem, List.reduceReplicate, Nat.reduceEqDiff, Nat.reduceAdd, Nat.reduceLeDiff, Nat.reduceMul, Nat.reduceSub, Nat.reduceDiv, Int.reduceToNat, Nat.reduceLT, Int.reduceLT, Int.reduceLE, ↓reduceIte, reduceCtorEq, rat, forall_apply_eq_imp_iff₂, toNat_cast, rat]
      refine ⟨by rw [ratC_length]; omega, hn _ (i + 1, (gainC c' q r).2, g ++ [(gainC c' q r).1]) (Weak.of _ _ [some 25, some 1000000000] (by simp) (by simp) ?_ ?_) ⟨by simp only []; omega, by simp; omega, hg⟩ (by simp only []; omega)⟩
      · simp -implicitDefEqProofs only [ints, rows, Nat.reduceBEq, Int.add_zero, envOK, maA, maT, upd_apply, Nat.reduceEqDiff, ↓reduceIte, and_true, true_or, or_true, List.map_cons, List.map_nil, Nat.zero_ne_one, and_self, true_and, Int.natCast_zero, Int.cast_ofNat_Int, Int.ofNat_zero, piOf, List.zip_cons_cons, List.zip_nil_right, List.lookup_cons, List.lookup_nil, beq_self_eq_true, rootsOK, mkRoots, mkEnv, rats, next64 (by omega : i < m.length) (by omega)]
      · refine ⟨⟨_, rfl, ?_⟩, rfl, ⟨_, rfl, .refl _⟩, rfl, trivial⟩
        rw [ratC_append]; exact .refl _
    · simp -implicitDefEqProofs only [go_sem, List.reduceReplicate, Nat.reduceEqDiff, Nat.reduceAdd, Nat.reduceLeDiff, Nat.reduceMul, Nat.reduceSub, Nat.reduceDiv, Int.reduceToNat, Nat.reduceLT, Int.reduceLT, Int.reduceLE, ↓reduceIte, reduceCtorEq, forall_apply_eq_imp_iff₂, ints, rows, rat, rats, toNat_cast]
      have : i = m.length := by omega
      rw [List.drop_of_length_le (by omega), rowsGo, rjoin, List.append_nil] at hg
      rw [← hg]; exact ⟨rfl, rfl⟩
end Go.Ab

/- Contracts: RowGains and ColumnGains. -/
set_option linter.unusedSimpArgs false
set_option linter.unusedVariables false
namespace Go.Ab
open Go.Proofs

theorem spec_l19Result_ok (c : Int) (x : Int × Int) : Fun Try.prog 82 [.box [.i c]] [.own 1000000000, .t (rat x)] fun o r => o = [.box [.i c]] ∧ r = redT (if c = 0 then (x, 0) else ((0, 0), c)) := by
  obtain ⟨xn, xd⟩ := x
  refine fun_spec_l19Result (by simp) ?_
  simp -implicitDefEqProofs only [go_sem, List.reduceReplicate, Nat.reduceEqDiff, Nat.reduceAdd, Nat.reduceLeDiff, Nat.reduceMul, Nat.reduceSub, Nat.reduceDiv, Int.reduceToNat, Nat.reduceLT, Int.reduceLT, Int.reduceLE, ↓reduceIte, reduceCtorEq, forall_apply_eq_imp_iff₂, ints, rows, rat, rats, toNat_cast, c_spec_l19Result]
  refine ⟨fun h => ⟨?_, (frameOK.refl _ _ _).upd _ (.inl (by simp))⟩, fun h => ?_⟩
  · have h' : c ≠ 0 := by simpa using h
    rw [if_neg h']; rfl
  · have h' : c = 0 := by simpa using h
    rw [if_pos h']; rfl

theorem isMixB_length {p : List (Int × Int)} {n : Int} (h : isMixB p n = true) : (p.length : Int) = n := by
  simp only [isMixB, Bool.and_eq_true, decide_eq_true_eq] at h; exact h.1.2

end Go.Ab

/- Contracts: marks of lists of ratios. -/
set_option linter.unusedSimpArgs false
set_option linter.unusedVariables false
namespace Go.Ab
open Go.Proofs

theorem budget_ok {n : Nat} {left : Int} (h0 : 0 ≤ left) (h : 0 ≤ budget n left) : (n : Int) ≤ left ∧ budget n left ≤ left := by
  simp only [budget] at h ⊢
  split at h <;> split <;> omega
theorem budgetRows_le : ∀ (m : List (List Int)) {left : Int}, 0 ≤ left → budgetRows m left ≤ left
  | [], left, h => by simp [budgetRows]
  | r :: m, left, h => by
    rw [budgetRows]
    split
    · omega
    · have := budgetRows_le m (left := left - r.length) (by omega); omega
theorem budgetMat_le {m : List (List Int)} {left : Int} (h : 0 ≤ left) : budgetMat m left ≤ left := by
  rw [budgetMat]; split
  · omega
  · have := budgetRows_le m (left := left - m.length) (by omega); omega
end Go.Ab

/- Contracts: MatrixValue. -/
set_option linter.unusedSimpArgs false
set_option linter.unusedVariables false
namespace Go.Ab
open Go.Proofs

def valC (c : Int) (p g : List (Int × Int)) : (Int × Int) × Int := gainGo c (0, 1) (p.zip g)
theorem spec_l26Value_ok (c : Int) (m : List (List Int)) (p q : List (Int × Int)) (hq : q.length ≤ 1000000) (hm : m.length ≤ 1000000) (hr : ∀ r ∈ m, q.length ≤ r.length) (hp : p.length = m.length) : Fun Try.prog 83 [.box [.i c]] [.own 1000000000, .t (rows m), .t (rats p), .t (rats q)] fun o r => o = [.box [.i (valC (rowsGo q c m).2 p (rowsGo q c m).1).2]] ∧ r = rat (valC (rowsGo q c m).2 p (rowsGo q c m).1).1 := by
  refine fun_spec_l26Value (by simp) ?_
  simp -implicitDefEqProofs only [go_sem, List.reduceReplicate, Nat.reduceEqDiff, Nat.reduceAdd, Nat.reduceLeDiff, Nat.reduceMul, Nat.reduceSub, Nat.reduceDiv, Int.reduceToNat, Nat.reduceLT, Int.reduceLT, Int.reduceLE, ↓reduceIte, reduceCtorEq, forall_apply_eq_imp_iff₂, ints, rows, rat, rats, toNat_cast, c_spec_l26Value]
  refine CallW.ref (spec_l26Rows_ok c m q hq hm hr) [1000000000] [] rfl Try.call87 (by simp) ?_ (by simp) ?_ (.inl rfl) ?_
  · simp -implicitDefEqProofs only [rootOf_arr, rootOf_box, rootOf_any, srcsOK, updL, updS, upd_apply, Nat.reduceEqDiff, ↓reduceIte, mkRoots, and_true, ints, rows, intsO, rowsO]
  · simp -implicitDefEqProofs only [Int.natCast_zero, Int.cast_ofNat_Int, Int.natCast_one, Nat.le_refl, Nat.reduceLeDiff, Nat.sub_self, Nat.reduceSub, List.getElem?_cons_zero, List.getElem?_cons_succ, vt_self, vaL, vtL, va, vt, vb, maT, List.cons_append, List.nil_append, List.append_nil, true_or, or_true, go_sem, List.reduceReplicate, Nat.reduceEqDiff, Nat.reduceAdd, Nat.reduceLeDiff, Nat.reduceMul, Nat.reduceSub, Nat.reduceDiv, Int.reduceToNat, Nat.reduceLT, Int.reduceLT, Int.reduceLE, ↓reduceIte, reduceCtorEq, ints, rows, rat, rats, ratsO, toShL_ratC, List.mem_cons, List.mem_nil_iff, List.not_mem_nil, or_false, false_or, exists_eq_left, exists_eq_left', exists_eq_right', Root.live.injEq, eq_self_iff_true, exists_eq, and_true, T.toSh, toShL_ints, toShL_intsO, intsO, rowsO]
  simp -implicitDefEqProofs only [List.append_nil, List.cons_append, Nat.reduceLeDiff, afterCall, absT_rowsO, absT_intsO, absT, absL, updL, updS, freeAll, rid, T.noSh, T.noShL, Nat.zero_le, go_sem, List.reduceReplicate, Nat.reduceEqDiff, Nat.reduceAdd, Nat.reduceLeDiff, Nat.reduceMul, Nat.reduceSub, Nat.reduceDiv, Int.reduceToNat, Nat.reduceLT, Int.reduceLT, Int.reduceLE, ↓reduceIte, reduceCtorEq, rat, forall_apply_eq_imp_iff₂, toNat_cast, ratsO]
  have hgl := rowsGo_length q m c
  generalize rowsGo q c m = gc at hgl ⊢
  obtain ⟨g, c1⟩ := gc
  simp only [] at hgl ⊢
  refine CallW.pure (spec_l19Whole_ok 0) [] rfl Try.call65 ?_ (by first | trivial | simp [T.noSh, T.noShL, rat]) rfl ?_
  · simp -implicitDefEqProofs only [Int.natCast_zero, Int.cast_ofNat_Int, Int.natCast_one, Nat.le_refl, Nat.reduceLeDiff, Nat.sub_self, Nat.reduceSub, List.getElem?_cons_zero, List.getElem?_cons_succ, vt_self, vaL, vtL, va, vt, vb, maT, List.cons_append, List.nil_append, List.append_nil, true_or, or_true, go_sem, List.reduceReplicate, Nat.reduceEqDiff, Nat.reduceAdd, Nat.reduceLeDiff, Nat.reduceMul, Nat.reduceSub, Nat.reduceDiv, Int.reduceToNat, Nat.reduceLT, Int.reduceLT, Int.reduceLE, ↓reduceIte, reduceCtorEq, ints, rows, rat, rats, ratsO, toShL_ratC, List.mem_cons, List.mem_nil_iff, List.not_mem_nil, or_false, false_or, exists_eq_left, exists_eq_left', exists_eq_right', Root.live.injEq, eq_self_iff_true, exists_eq, and_true, T.toSh, toShL_ints, toShL_intsO, intsO, rowsO]
  simp -implicitDefEqProofs only [go_sem, List.reduceReplicate, Nat.reduceEqDiff, Nat.reduceAdd, Nat.reduceLeDiff, Nat.reduceMul, Nat.reduceSub, Nat.reduceDiv, Int.reduceToNat, Nat.reduceLT, Int.reduceLT, Int.reduceLE, ↓reduceIte, reduceCtorEq, forall_apply_eq_imp_iff₂, ints, rows, rat, rats, toNat_cast]
  refine SemC.loopR (σ := Nat × Int × (Int × Int)) (fun s => St.of [(0, .own 1000000000), (2, .t (rats p)), (8, .own 8), (9, .own 15), (10, .own 10), (11, .t (.i s.1))] [(8, .box [.i 0, .i 0]), (10, .box [.i s.2.2.1, .i s.2.2.2]), (15, .arr 2 (ratC g)), (1000000000, .box [.i s.2.1])]) (fun s => s.1 ≤ g.length ∧ gainGo s.2.1 s.2.2 ((p.zip g).drop s.1) = valC c1 p g) (fun s => g.length - s.1) (0, c1, (0, 1)) (Weak.of _ _ [some 8, some 10, some 15, some 1000000000] (by simp) (by simp) ?_ ?_) ⟨by simp, rfl⟩ fun s hI R hn' hr' he => ?_
  · simp -implicitDefEqProofs only [ints, rows, Nat.reduceBEq, Int.add_zero, envOK, maA, maT, upd_apply, Nat.reduceEqDiff, ↓reduceIte, and_true, true_or, or_true, List.map_cons, List.map_nil, Nat.zero_ne_one, and_self, true_and, Int.natCast_zero, Int.cast_ofNat_Int, Int.ofNat_zero, piOf, List.zip_cons_cons, List.zip_nil_right, List.lookup_cons, List.lookup_nil, beq_self_eq_true, rootsOK, mkRoots, mkEnv, rats]
  · exact ⟨⟨_, rfl, .refl _⟩, rfl, ⟨_, rfl, .refl _⟩, rfl, ⟨_, rfl, .refl _⟩, rfl, ⟨_, rfl, .refl _⟩, rfl, trivial⟩
  · obtain ⟨i, c', s1, s2⟩ := s
    obtain ⟨hi, hm'⟩ := hI
    (try simp only [] at hi hm')
    simp -implicitDefEqProofs only [go_sem, List.reduceReplicate, Nat.reduceEqDiff, Nat.reduceAdd, Nat.reduceLeDiff, Nat.reduceMul, Nat.reduceSub, Nat.reduceDiv, Int.reduceToNat, Nat.reduceLT, Int.reduceLT, Int.reduceLE, ↓reduceIte, reduceCtorEq, forall_apply_eq_imp_iff₂, ints, rows, rat, rats, toNat_cast]
    refine ⟨fun h => ?_, fun h => he _ _ ?_⟩
    · obtain ⟨x, hx⟩ : ∃ x, p[i]? = some x := ⟨_, List.getElem?_eq_getElem (by omega)⟩
      obtain ⟨y, hy⟩ : ∃ y, g[i]? = some y := ⟨_, List.getElem?_eq_getElem (by omega)⟩
      rw [drop_of_get (zip_get hx hy), gainGo] at hm'
      refine ⟨by omega, by rw [ratC_length]; omega, by rw [ratC_length]; omega, by omega, by rw [ratC_length]; omega, by rw [ratC_length]; omega, by rw [ratC_at hy]; rfl, ?_⟩
      rw [ratC_at hx, ratC_at hy]
      refine CallH.ref (spec_l19Times_ok c' x y) [1000000000] [] rfl Try.call105 (by simp) ?_ (by simp) (fun e R' hR => ?_) (.inl rfl) ?_
      · simp -implicitDefEqProofs only [rootOf_arr, rootOf_box, rootOf_any, srcsOK, updL, updS, upd_apply, Nat.reduceEqDiff, ↓reduceIte, mkRoots, and_true, ints, rows, intsO, rowsO]
      · simp -implicitDefEqProofs only [Int.natCast_zero, Int.cast_ofNat_Int, Int.natCast_one, Nat.le_refl, Nat.reduceLeDiff, Nat.sub_self, Nat.reduceSub, List.getElem?_cons_zero, List.getElem?_cons_succ, vt_self, vaL, vtL, va, vt, vb, maT, List.cons_append, List.nil_append, List.append_nil, true_or, or_true, go_sem, List.reduceReplicate, Nat.reduceEqDiff, Nat.reduceAdd, Nat.reduceLeDiff, Nat.reduceMul, Nat.reduceSub, Nat.reduceDiv, Int.reduceToNat, Nat.reduceLT, Int.reduceLT, Int.reduceLE, ↓reduceIte, reduceCtorEq, ints, rows, rat, rats, ratsO, toShL_ratC, List.mem_cons, List.mem_nil_iff, List.not_mem_nil, or_false, false_or, exists_eq_left, exists_eq_left', exists_eq_right', Root.live.injEq, eq_self_iff_true, exists_eq, and_true, T.toSh, toShL_ints, toShL_intsO, intsO, rowsO]
      simp -implicitDefEqProofs only [List.append_nil, List.cons_append, Nat.reduceLeDiff, afterCall, absT_rowsO, absT_intsO, absT, absL, updL, updS, freeAll, rid, T.noSh, T.noShL, Nat.zero_le, go_sem, List.reduceReplicate, Nat.reduceEqDiff, Nat.reduceAdd, Nat.reduceLeDiff, Nat.reduceMul, Nat.reduceSub, Nat.reduceDiv, Int.reduceToNat, Nat.reduceLT, Int.reduceLT, Int.reduceLE, ↓reduceIte, reduceCtorEq, rat, forall_apply_eq_imp_iff₂, toNat_cast]
      refine ⟨?_, (frameOK.refl _ _ _).upd _ (.inl (by simp))⟩
      refine CallH.ref (spec_l19Add_ok (stepM c' x y).2 (s1, s2) (stepM c' x y).1) [1000000000] [] rfl Try.call67 (by simp) ?_ (by simp) (fun e R' hR => ?_) (.inl rfl) ?_
      · simp -implicitDefEqProofs only [rootOf_arr, rootOf_box, rootOf_any, srcsOK, updL, updS, upd_apply, Nat.reduceEqDiff, ↓reduceIte, mkRoots, and_true, ints, rows, intsO, rowsO]
      · simp -implicitDefEqProofs only [Int.natCast_zero, Int.cast_ofNat_Int, Int.natCast_one, Nat.le_refl, Nat.reduceLeDiff, Nat.sub_self, Nat.reduceSub, List.getElem?_cons_zero, List.getElem?_cons_succ, vt_self, vaL, vtL, va, vt, vb, maT, List.cons_append, List.nil_append, List.append_nil, true_or, or_true, go_sem, List.reduceReplicate, Nat.reduceEqDiff, Nat.reduceAdd, Nat.reduceLeDiff, Nat.reduceMul, Nat.reduceSub, Nat.reduceDiv, Int.reduceToNat, Nat.reduceLT, Int.reduceLT, Int.reduceLE, ↓reduceIte, reduceCtorEq, ints, rows, rat, rats, ratsO, toShL_ratC, List.mem_cons, List.mem_nil_iff, List.not_mem_nil, or_false, false_or, exists_eq_left, exists_eq_left', exists_eq_right', Root.live.injEq, eq_self_iff_true, exists_eq, and_true, T.toSh, toShL_ints, toShL_intsO, intsO, rowsO]
      simp -implicitDefEqProofs only [List.append_nil, List.cons_append, Nat.reduceLeDiff, afterCall, absT_rowsO, absT_intsO, absT, absL, updL, updS, freeAll, rid, T.noSh, T.noShL, Nat.zero_le, go_sem, List.reduceReplicate, Nat.reduceEqDiff, Nat.reduceAdd, Nat.reduceLeDiff, Nat.reduceMul, Nat.reduceSub, Nat.reduceDiv, Int.reduceToNat, Nat.reduceLT, Int.reduceLT, Int.reduceLE, ↓reduceIte, reduceCtorEq, rat, forall_apply_eq_imp_iff₂, toNat_cast]
      refine hn' _ (i + 1, (stepA (stepM c' x y).2 (s1, s2) (stepM c' x y).1).2, (stepA (stepM c' x y).2 (s1, s2) (stepM c' x y).1).1) (Weak.of _ _ [some 8, some 10, some 15, some 1000000000] (by simp) (by simp) ?_ ?_) ⟨by simp only []; omega, hm'⟩ (by simp only []; omega)
      · simp -implicitDefEqProofs only [ints, rows, Nat.reduceBEq, Int.add_zero, envOK, maA, maT, upd_apply, Nat.reduceEqDiff, ↓reduceIte, and_true, true_or, or_true, List.map_cons, List.map_nil, Nat.zero_ne_one, and_self, true_and, Int.natCast_zero, Int.cast_ofNat_Int, Int.ofNat_zero, piOf, List.zip_cons_cons, List.zip_nil_right, List.lookup_cons, List.lookup_nil, beq_self_eq_true, rootsOK, mkRoots, mkEnv, rats, next64 (by omega : i < g.length) (by omega)]
      · exact ⟨⟨_, rfl, .refl _⟩, rfl, ⟨_, rfl, .refl _⟩, rfl, ⟨_, rfl, .refl _⟩, rfl, ⟨_, rfl, .refl _⟩, rfl, trivial⟩
    · simp -implicitDefEqProofs only [go_sem, List.reduceReplicate, Nat.reduceEqDiff, Nat.reduceAdd, Nat.reduceLeDiff, Nat.reduceMul, Nat.reduceSub, Nat.reduceDiv, Int.reduceToNat, Nat.reduceLT, Int.reduceLT, Int.reduceLE, ↓reduceIte, reduceCtorEq, forall_apply_eq_imp_iff₂, ints, rows, rat, rats, toNat_cast]
      rw [List.drop_of_length_le (by rw [List.length_zip]; omega), gainGo] at hm'
      rw [← hm']; exact ⟨rfl, rfl⟩

/-- The result of MatrixValue. -/
def mvRes (m : List (List Int)) (p q : List (Int × Int)) : (Int × Int) × Int :=
  if isMat m then (if isMixB p m.length && isMixB q (m.headD []).length then (if (gainsGo q m).2 ≠ 0 then ((0, 0), (gainsGo q m).2) else spR p (gainsGo q m).1) else ((0, 0), 2)) else ((0, 0), 1)
theorem redT_noSh (x : (Int × Int) × Int) : (redT x).noSh := ⟨⟨trivial, trivial, trivial⟩, trivial, trivial⟩
theorem spGo_err : ∀ (l : List ((Int × Int) × (Int × Int))) (s : Int × Int), (spGo s l).2 ≠ 0 → (spGo s l).1 = (0, 0)
  | [], s, h => absurd rfl h
  | x :: l, s, h => by
    rw [spGo] at h ⊢
    split
    · rfl
    · rename_i h1
      rw [if_neg h1] at h
      split
      · rfl
      · rename_i h2; rw [if_neg h2] at h; exact spGo_err l _ h

theorem impl_MatrixValue_ok (m : List (List Int)) (p q : List (Int × Int)) (hml : m.length ≤ 1000000000000) (hmr : ∀ r ∈ m, r.length ≤ 1000000000000) (hp : p.length ≤ 1000000000000) (hq : q.length ≤ 1000000000000) : Fun Try.prog 48 [] [.t (rows m), .t (rats p), .t (rats q)] fun o r => o = [] ∧ r = redT (mvRes m p q) := by
  refine fun_impl_MatrixValue (by simp) ?_
  simp -implicitDefEqProofs only [go_sem, List.reduceReplicate, Nat.reduceEqDiff, Nat.reduceAdd, Nat.reduceLeDiff, Nat.reduceMul, Nat.reduceSub, Nat.reduceDiv, Int.reduceToNat, Nat.reduceLT, Int.reduceLT, Int.reduceLE, ↓reduceIte, reduceCtorEq, forall_apply_eq_imp_iff₂, ints, rows, rat, rats, toNat_cast, c_impl_MatrixValue]
  refine CallW.pure (impl_IsMatrix_ok m (by omega) hmr) [] rfl Try.call18 ?_ (by first | trivial | simp [T.noSh, T.noShL, rat]) rfl ?_
  · simp -implicitDefEqProofs only [Int.natCast_zero, Int.cast_ofNat_Int, Int.natCast_one, Nat.le_refl, Nat.reduceLeDiff, Nat.sub_self, Nat.reduceSub, List.getElem?_cons_zero, List.getElem?_cons_succ, vt_self, vaL, vtL, va, vt, vb, maT, List.cons_append, List.nil_append, List.append_nil, true_or, or_true, go_sem, List.reduceReplicate, Nat.reduceEqDiff, Nat.reduceAdd, Nat.reduceLeDiff, Nat.reduceMul, Nat.reduceSub, Nat.reduceDiv, Int.reduceToNat, Nat.reduceLT, Int.reduceLT, Int.reduceLE, ↓reduceIte, reduceCtorEq, ints, rows, rat, rats, ratsO, toShL_ratC, List.mem_cons, List.mem_nil_iff, List.not_mem_nil, or_false, false_or, exists_eq_left, exists_eq_left', exists_eq_right', Root.live.injEq, eq_self_iff_true, exists_eq, and_true, T.toSh, toShL_ints, toShL_intsO, intsO, rowsO]
  simp -implicitDefEqProofs only [go_sem, List.reduceReplicate, Nat.reduceEqDiff, Nat.reduceAdd, Nat.reduceLeDiff, Nat.reduceMul, Nat.reduceSub, Nat.reduceDiv, Int.reduceToNat, Nat.reduceLT, Int.reduceLT, Int.reduceLE, ↓reduceIte, reduceCtorEq, forall_apply_eq_imp_iff₂, ints, rows, rat, rats, toNat_cast]
  refine ⟨fun h => ?_, fun h => ?_⟩
  · have h' : isMat m = false := by simpa using h
    rw [mvRes, h']; rfl
  · have hmat : isMat m = true := by simpa using h
    obtain ⟨h1, h2, h3, h4, h5, h6⟩ := isMat_spec hmat
    refine CallW.pure (impl_IsMix_ok p m.length hp) [] rfl Try.call29 ?_ (by first | trivial | simp [T.noSh, T.noShL, rat]) rfl ?_
    · simp -implicitDefEqProofs only [Int.natCast_zero, Int.cast_ofNat_Int, Int.natCast_one, Nat.le_refl, Nat.reduceLeDiff, Nat.sub_self, Nat.reduceSub, List.getElem?_cons_zero, List.getElem?_cons_succ, vt_self, vaL, vtL, va, vt, vb, maT, List.cons_append, List.nil_append, List.append_nil, true_or, or_true, go_sem, List.reduceReplicate, Nat.reduceEqDiff, Nat.reduceAdd, Nat.reduceLeDiff, Nat.reduceMul, Nat.reduceSub, Nat.reduceDiv, Int.reduceToNat, Nat.reduceLT, Int.reduceLT, Int.reduceLE, ↓reduceIte, reduceCtorEq, ints, rows, rat, rats, ratsO, toShL_ratC, List.mem_cons, List.mem_nil_iff, List.not_mem_nil, or_false, false_or, exists_eq_left, exists_eq_left', exists_eq_right', Root.live.injEq, eq_self_iff_true, exists_eq, and_true, T.toSh, toShL_ints, toShL_intsO, intsO, rowsO]
    simp -implicitDefEqProofs only [go_sem, List.reduceReplicate, Nat.reduceEqDiff, Nat.reduceAdd, Nat.reduceLeDiff, Nat.reduceMul, Nat.reduceSub, Nat.reduceDiv, Int.reduceToNat, Nat.reduceLT, Int.reduceLT, Int.reduceLE, ↓reduceIte, reduceCtorEq, forall_apply_eq_imp_iff₂, ints, rows, rat, rats, toNat_cast]
    refine ⟨fun h => ⟨by omega, by omega, fun r0 h0 => ?_⟩, fun h => ?_⟩
    · have hp1 : isMixB p m.length = true := by simpa using h
      have hh := headD_get h0
      refine CallW.pure (impl_IsMix_ok q r0.length hq) [] rfl Try.call29 ?_ (by first | trivial | simp [T.noSh, T.noShL, rat]) rfl ?_
      · simp -implicitDefEqProofs only [Int.natCast_zero, Int.cast_ofNat_Int, Int.natCast_one, Nat.le_refl, Nat.reduceLeDiff, Nat.sub_self, Nat.reduceSub, List.getElem?_cons_zero, List.getElem?_cons_succ, vt_self, vaL, vtL, va, vt, vb, maT, List.cons_append, List.nil_append, List.append_nil, true_or, or_true, go_sem, List.reduceReplicate, Nat.reduceEqDiff, Nat.reduceAdd, Nat.reduceLeDiff, Nat.reduceMul, Nat.reduceSub, Nat.reduceDiv, Int.reduceToNat, Nat.reduceLT, Int.reduceLT, Int.reduceLE, ↓reduceIte, reduceCtorEq, ints, rows, rat, rats, ratsO, toShL_ratC, List.mem_cons, List.mem_nil_iff, List.not_mem_nil, or_false, false_or, exists_eq_left, exists_eq_left', exists_eq_right', Root.live.injEq, eq_self_iff_true, exists_eq, and_true, T.toSh, toShL_ints, toShL_intsO, intsO, rowsO]
      simp -implicitDefEqProofs only [go_sem, List.reduceReplicate, Nat.reduceEqDiff, Nat.reduceAdd, Nat.reduceLeDiff, Nat.reduceMul, Nat.reduceSub, Nat.reduceDiv, Int.reduceToNat, Nat.reduceLT, Int.reduceLT, Int.reduceLE, ↓reduceIte, reduceCtorEq, forall_apply_eq_imp_iff₂, ints, rows, rat, rats, toNat_cast]
      refine ⟨fun h => ?_, fun h => ?_⟩
      · have h' : isMixB q r0.length = false := by simpa using h
        rw [mvRes, if_pos hmat, hh, h', if_neg (by simp)]; rfl
      · have hq1 : isMixB q r0.length = true := by simpa using h
        have hpl := isMixB_length hp1
        have hql := isMixB_length hq1
        rw [hh] at h3 h4 h5
        have hres : mvRes m p q = if (gainsGo q m).2 ≠ 0 then ((0, 0), (gainsGo q m).2) else spR p (gainsGo q m).1 := by rw [mvRes, if_pos hmat, hh, hp1, hq1]; rfl
        rw [hres]
        refine CallW.res (impl_gainsOf_ok m q (by omega) (by omega) (fun r hr => by have := h5 r hr; omega)) [] rfl Try.call84 ?_ (.inl rfl) ?_
        · simp -implicitDefEqProofs only [Int.natCast_zero, Int.cast_ofNat_Int, Int.natCast_one, Nat.le_refl, Nat.reduceLeDiff, Nat.sub_self, Nat.reduceSub, List.getElem?_cons_zero, List.getElem?_cons_succ, vt_self, vaL, vtL, va, vt, vb, maT, List.cons_append, List.nil_append, List.append_nil, true_or, or_true, go_sem, List.reduceReplicate, Nat.reduceEqDiff, Nat.reduceAdd, Nat.reduceLeDiff, Nat.reduceMul, Nat.reduceSub, Nat.reduceDiv, Int.reduceToNat, Nat.reduceLT, Int.reduceLT, Int.reduceLE, ↓reduceIte, reduceCtorEq, ints, rows, rat, rats, ratsO, toShL_ratC, List.mem_cons, List.mem_nil_iff, List.not_mem_nil, or_false, false_or, exists_eq_left, exists_eq_left', exists_eq_right', Root.live.injEq, eq_self_iff_true, exists_eq, and_true, T.toSh, toShL_ints, toShL_intsO, intsO, rowsO]
        simp -implicitDefEqProofs only [List.append_nil, List.cons_append, Nat.reduceLeDiff, afterCall, absT_rowsO, absT_intsO, absT, absL, updL, updS, freeAll, rid, T.noSh, T.noShL, Nat.zero_le, go_sem, List.reduceReplicate, Nat.reduceEqDiff, Nat.reduceAdd, Nat.reduceLeDiff, Nat.reduceMul, Nat.reduceSub, Nat.reduceDiv, Int.reduceToNat, Nat.reduceLT, Int.reduceLT, Int.reduceLE, ↓reduceIte, reduceCtorEq, rat, forall_apply_eq_imp_iff₂, toNat_cast, gT]
        refine ⟨fun h => ?_, fun h => ?_⟩
        · rw [if_pos (by simpa using h)]; rfl
        · have hg0 : (gainsGo q m).2 = 0 := by simpa using h
          rw [if_neg (by simp [hg0])]
          refine CallW.pure (impl_sumOfProducts_ok p (gainsGo q m).1 (by rw [gainsGo_length q m hg0]; omega) (by omega)) [32] rfl Try.call85 ?_ (by first | trivial | simp [T.noSh, T.noShL, rat]) rfl ?_
          · simp -implicitDefEqProofs only [Int.natCast_zero, Int.cast_ofNat_Int, Int.natCast_one, Nat.le_refl, Nat.reduceLeDiff, Nat.sub_self, Nat.reduceSub, List.getElem?_cons_zero, List.getElem?_cons_succ, vt_self, vaL, vtL, va, vt, vb, maT, List.cons_append, List.nil_append, List.append_nil, true_or, or_true, go_sem, List.reduceReplicate, Nat.reduceEqDiff, Nat.reduceAdd, Nat.reduceLeDiff, Nat.reduceMul, Nat.reduceSub, Nat.reduceDiv, Int.reduceToNat, Nat.reduceLT, Int.reduceLT, Int.reduceLE, ↓reduceIte, reduceCtorEq, ints, rows, rat, rats, ratsO, toShL_ratC, List.mem_cons, List.mem_nil_iff, List.not_mem_nil, or_false, false_or, exists_eq_left, exists_eq_left', exists_eq_right', Root.live.injEq, eq_self_iff_true, exists_eq, and_true, T.toSh, toShL_ints, toShL_intsO, intsO, rowsO]
          simp -implicitDefEqProofs only [go_sem, List.reduceReplicate, Nat.reduceEqDiff, Nat.reduceAdd, Nat.reduceLeDiff, Nat.reduceMul, Nat.reduceSub, Nat.reduceDiv, Int.reduceToNat, Nat.reduceLT, Int.reduceLT, Int.reduceLE, ↓reduceIte, reduceCtorEq, forall_apply_eq_imp_iff₂, ints, rows, rat, rats, toNat_cast, redT, rat]
    · have h' : isMixB p m.length = false := by simpa using h
      rw [mvRes, if_pos hmat, h', if_neg (by simp)]; rfl

theorem spec_MatrixValue_ok (m : List (List Int)) (p q : List (Int × Int)) (hp : p.length ≤ 1000000000000) (hq : q.length ≤ 1000000000000) : Fun Try.prog 47 [] [.t (rows m), .t (rats p), .t (rats q)] fun o r => o = [] ∧ r = redT (mvRes m p q) := by
  refine fun_spec_MatrixValue (by simp) ?_
  simp -implicitDefEqProofs only [go_sem, List.reduceReplicate, Nat.reduceEqDiff, Nat.reduceAdd, Nat.reduceLeDiff, Nat.reduceMul, Nat.reduceSub, Nat.reduceDiv, Int.reduceToNat, Nat.reduceLT, Int.reduceLT, Int.reduceLE, ↓reduceIte, reduceCtorEq, forall_apply_eq_imp_iff₂, ints, rows, rat, rats, toNat_cast, c_spec_MatrixValue]
  refine CallW.pure (spec_IsMatrix_ok m) [] rfl Try.call16 ?_ (by first | trivial | simp [T.noSh, T.noShL, rat]) rfl ?_
  · simp -implicitDefEqProofs only [Int.natCast_zero, Int.cast_ofNat_Int, Int.natCast_one, Nat.le_refl, Nat.reduceLeDiff, Nat.sub_self, Nat.reduceSub, List.getElem?_cons_zero, List.getElem?_cons_succ, vt_self, vaL, vtL, va, vt, vb, maT, List.cons_append, List.nil_append, List.append_nil, true_or, or_true, go_sem, List.reduceReplicate, Nat.reduceEqDiff, Nat.reduceAdd, Nat.reduceLeDiff, Nat.reduceMul, Nat.reduceSub, Nat.reduceDiv, Int.reduceToNat, Nat.reduceLT, Int.reduceLT, Int.reduceLE, ↓reduceIte, reduceCtorEq, ints, rows, rat, rats, ratsO, toShL_ratC, List.mem_cons, List.mem_nil_iff, List.not_mem_nil, or_false, false_or, exists_eq_left, exists_eq_left', exists_eq_right', Root.live.injEq, eq_self_iff_true, exists_eq, and_true, T.toSh, toShL_ints, toShL_intsO, intsO, rowsO]
  simp -implicitDefEqProofs only [go_sem, List.reduceReplicate, Nat.reduceEqDiff, Nat.reduceAdd, Nat.reduceLeDiff, Nat.reduceMul, Nat.reduceSub, Nat.reduceDiv, Int.reduceToNat, Nat.reduceLT, Int.reduceLT, Int.reduceLE, ↓reduceIte, reduceCtorEq, forall_apply_eq_imp_iff₂, ints, rows, rat, rats, toNat_cast]
  refine ⟨fun h => ?_, fun h => ?_⟩
  · have h' : isMat m = false := by simpa using h
    rw [mvRes, h']; rfl
  · have hmat : isMat m = true := by simpa using h
    obtain ⟨h1, h2, h3, h4, h5, h6⟩ := isMat_spec hmat
    refine CallW.pure (spec_IsMix_ok p m.length hp) [] rfl Try.call27 ?_ (by first | trivial | simp [T.noSh, T.noShL, rat]) rfl ?_
    · simp -implicitDefEqProofs only [Int.natCast_zero, Int.cast_ofNat_Int, Int.natCast_one, Nat.le_refl, Nat.reduceLeDiff, Nat.sub_self, Nat.reduceSub, List.getElem?_cons_zero, List.getElem?_cons_succ, vt_self, vaL, vtL, va, vt, vb, maT, List.cons_append, List.nil_append, List.append_nil, true_or, or_true, go_sem, List.reduceReplicate, Nat.reduceEqDiff, Nat.reduceAdd, Nat.reduceLeDiff, Nat.reduceMul, Nat.reduceSub, Nat.reduceDiv, Int.reduceToNat, Nat.reduceLT, Int.reduceLT, Int.reduceLE, ↓reduceIte, reduceCtorEq, ints, rows, rat, rats, ratsO, toShL_ratC, List.mem_cons, List.mem_nil_iff, List.not_mem_nil, or_false, false_or, exists_eq_left, exists_eq_left', exists_eq_right', Root.live.injEq, eq_self_iff_true, exists_eq, and_true, T.toSh, toShL_ints, toShL_intsO, intsO, rowsO]
    simp -implicitDefEqProofs only [go_sem, List.reduceReplicate, Nat.reduceEqDiff, Nat.reduceAdd, Nat.reduceLeDiff, Nat.reduceMul, Nat.reduceSub, Nat.reduceDiv, Int.reduceToNat, Nat.reduceLT, Int.reduceLT, Int.reduceLE, ↓reduceIte, reduceCtorEq, forall_apply_eq_imp_iff₂, ints, rows, rat, rats, toNat_cast]
    refine ⟨fun h => ⟨by omega, by omega, fun r0 h0 => ?_⟩, fun h => ?_⟩
    · have hp1 : isMixB p m.length = true := by simpa using h
      have hh := headD_get h0
      refine CallW.pure (spec_IsMix_ok q r0.length hq) [] rfl Try.call27 ?_ (by first | trivial | simp [T.noSh, T.noShL, rat]) rfl ?_
      · simp -implicitDefEqProofs only [Int.natCast_zero, Int.cast_ofNat_Int, Int.natCast_one, Nat.le_refl, Nat.reduceLeDiff, Nat.sub_self, Nat.reduceSub, List.getElem?_cons_zero, List.getElem?_cons_succ, vt_self, vaL, vtL, va, vt, vb, maT, List.cons_append, List.nil_append, List.append_nil, true_or, or_true, go_sem, List.reduceReplicate, Nat.reduceEqDiff, Nat.reduceAdd, Nat.reduceLeDiff, Nat.reduceMul, Nat.reduceSub, Nat.reduceDiv, Int.reduceToNat, Nat.reduceLT, Int.reduceLT, Int.reduceLE, ↓reduceIte, reduceCtorEq, ints, rows, rat, rats, ratsO, toShL_ratC, List.mem_cons, List.mem_nil_iff, List.not_mem_nil, or_false, false_or, exists_eq_left, exists_eq_left', exists_eq_right', Root.live.injEq, eq_self_iff_true, exists_eq, and_true, T.toSh, toShL_ints, toShL_intsO, intsO, rowsO]
      simp -implicitDefEqProofs only [go_sem, List.reduceReplicate, Nat.reduceEqDiff, Nat.reduceAdd, Nat.reduceLeDiff, Nat.reduceMul, Nat.reduceSub, Nat.reduceDiv, Int.reduceToNat, Nat.reduceLT, Int.reduceLT, Int.reduceLE, ↓reduceIte, reduceCtorEq, forall_apply_eq_imp_iff₂, ints, rows, rat, rats, toNat_cast]
      refine ⟨fun h => ?_, fun h => ?_⟩
      · have h' : isMixB q r0.length = false := by simpa using h
        rw [mvRes, if_pos hmat, hh, h', if_neg (by simp)]; rfl
      · have hq1 : isMixB q r0.length = true := by simpa using h
        have hpl := isMixB_length hp1
        have hql := isMixB_length hq1
        rw [hh] at h3 h4 h5
        have hres : mvRes m p q = if (gainsGo q m).2 ≠ 0 then ((0, 0), (gainsGo q m).2) else spR p (gainsGo q m).1 := by rw [mvRes, if_pos hmat, hh, hp1, hq1]; rfl
        rw [hres]
        refine CallW.ref (spec_l26Value_ok 0 m p q (by omega) (by omega) (fun r hr => by have := h5 r hr; omega) (by omega)) [29] [] rfl Try.call83 (by simp) ?_ (by simp) ?_ (.inl rfl) ?_
        · simp -implicitDefEqProofs only [rootOf_arr, rootOf_box, rootOf_any, srcsOK, updL, updS, upd_apply, Nat.reduceEqDiff, ↓reduceIte, mkRoots, and_true, ints, rows, intsO, rowsO]
        · simp -implicitDefEqProofs only [Int.natCast_zero, Int.cast_ofNat_Int, Int.natCast_one, Nat.le_refl, Nat.reduceLeDiff, Nat.sub_self, Nat.reduceSub, List.getElem?_cons_zero, List.getElem?_cons_succ, vt_self, vaL, vtL, va, vt, vb, maT, List.cons_append, List.nil_append, List.append_nil, true_or, or_true, go_sem, List.reduceReplicate, Nat.reduceEqDiff, Nat.reduceAdd, Nat.reduceLeDiff, Nat.reduceMul, Nat.reduceSub, Nat.reduceDiv, Int.reduceToNat, Nat.reduceLT, Int.reduceLT, Int.reduceLE, ↓reduceIte, reduceCtorEq, ints, rows, rat, rats, ratsO, toShL_ratC, List.mem_cons, List.mem_nil_iff, List.not_mem_nil, or_false, false_or, exists_eq_left, exists_eq_left', exists_eq_right', Root.live.injEq, eq_self_iff_true, exists_eq, and_true, T.toSh, toShL_ints, toShL_intsO, intsO, rowsO]
        simp -implicitDefEqProofs only [List.append_nil, List.cons_append, Nat.reduceLeDiff, afterCall, absT_rowsO, absT_intsO, absT, absL, updL, updS, freeAll, rid, T.noSh, T.noShL, Nat.zero_le, go_sem, List.reduceReplicate, Nat.reduceEqDiff, Nat.reduceAdd, Nat.reduceLeDiff, Nat.reduceMul, Nat.reduceSub, Nat.reduceDiv, Int.reduceToNat, Nat.reduceLT, Int.reduceLT, Int.reduceLE, ↓reduceIte, reduceCtorEq, rat, forall_apply_eq_imp_iff₂, toNat_cast, rat]
        refine CallW.ref (spec_l19Result_ok (valC (rowsGo q 0 m).2 p (rowsGo q 0 m).1).2 (valC (rowsGo q 0 m).2 p (rowsGo q 0 m).1).1) [29] [] rfl Try.call82 (by simp) ?_ (by simp) ?_ (.inl rfl) ?_
        · simp -implicitDefEqProofs only [rootOf_arr, rootOf_box, rootOf_any, srcsOK, updL, updS, upd_apply, Nat.reduceEqDiff, ↓reduceIte, mkRoots, and_true, ints, rows, intsO, rowsO]
        · simp -implicitDefEqProofs only [Int.natCast_zero, Int.cast_ofNat_Int, Int.natCast_one, Nat.le_refl, Nat.reduceLeDiff, Nat.sub_self, Nat.reduceSub, List.getElem?_cons_zero, List.getElem?_cons_succ, vt_self, vaL, vtL, va, vt, vb, maT, List.cons_append, List.nil_append, List.append_nil, true_or, or_true, go_sem, List.reduceReplicate, Nat.reduceEqDiff, Nat.reduceAdd, Nat.reduceLeDiff, Nat.reduceMul, Nat.reduceSub, Nat.reduceDiv, Int.reduceToNat, Nat.reduceLT, Int.reduceLT, Int.reduceLE, ↓reduceIte, reduceCtorEq, ints, rows, rat, rats, ratsO, toShL_ratC, List.mem_cons, List.mem_nil_iff, List.not_mem_nil, or_false, false_or, exists_eq_left, exists_eq_left', exists_eq_right', Root.live.injEq, eq_self_iff_true, exists_eq, and_true, T.toSh, toShL_ints, toShL_intsO, intsO, rowsO]
        simp -implicitDefEqProofs only [List.append_nil, List.cons_append, Nat.reduceLeDiff, afterCall, absT_rowsO, absT_intsO, absT, absL, updL, updS, freeAll, rid, T.noSh, T.noShL, Nat.zero_le, go_sem, List.reduceReplicate, Nat.reduceEqDiff, Nat.reduceAdd, Nat.reduceLeDiff, Nat.reduceMul, Nat.reduceSub, Nat.reduceDiv, Int.reduceToNat, Nat.reduceLT, Int.reduceLT, Int.reduceLE, ↓reduceIte, reduceCtorEq, rat, forall_apply_eq_imp_iff₂, toNat_cast, redT, rat]
        have hrs := rowsGo_spec q m
        have key : (if (valC (rowsGo q 0 m).2 p (rowsGo q 0 m).1).2 = 0 then ((valC (rowsGo q 0 m).2 p (rowsGo q 0 m).1).1, 0) else ((0, 0), (valC (rowsGo q 0 m).2 p (rowsGo q 0 m).1).2)) = (if (gainsGo q m).2 ≠ 0 then ((0, 0), (gainsGo q m).2) else spR p (gainsGo q m).1) := by
          by_cases hc : (gainsGo q m).2 = 0
          · rw [hrs.1, hc, hrs.2 hc, if_neg (by simp : ¬ (0 : Int) ≠ 0)]
            have hv := gainGo_spec (p.zip (gainsGo q m).1) (0, 1)
            rw [valC, hv.1, spR]
            by_cases h0 : (spGo (0, 1) (p.zip (gainsGo q m).1)).2 = 0
            · rw [if_pos h0, hv.2 h0]; exact Prod.ext rfl h0.symm
            · rw [if_neg h0]; exact Prod.ext (spGo_err _ _ h0).symm rfl
          · rw [hrs.1, if_pos hc, valC, gainGo_err _ _ _ hc, if_neg hc]
        exact congrArg redT key
    · have h' : isMixB p m.length = false := by simpa using h
      rw [mvRes, if_pos hmat, h', if_neg (by simp)]; rfl
end Go.Ab

/- The law FnExactMatrixValue, as a contract. -/
set_option linter.unusedSimpArgs false
set_option linter.unusedVariables false
namespace Go.Ab
open Go.Proofs



theorem laws_FnExactMatrixValue_ok (m : List (List Int)) (hm : (m.length : Int) ≤ 9223372036854775807) (hmr : ∀ r ∈ m, (r.length : Int) ≤ 9223372036854775807) (p : List (Int × Int)) (hp : (p.length : Int) ≤ 9223372036854775807) (q : List (Int × Int)) (hq : (q.length : Int) ≤ 9223372036854775807) : Pure Try.prog 12 [rows m, rats p, rats q] (.b true) := by
  refine fun_laws_FnExactMatrixValue (by simp) ?_
  simp -implicitDefEqProofs only [go_sem, List.reduceReplicate, Nat.reduceEqDiff, Nat.reduceAdd, Nat.reduceLeDiff, Nat.reduceMul, Nat.reduceSub, Nat.reduceDiv, Int.reduceToNat, Nat.reduceLT, Int.reduceLT, Int.reduceLE, ↓reduceIte, reduceCtorEq, forall_apply_eq_imp_iff₂, ints, rows, rat, rats, toNat_cast, c_laws_FnExactMatrixValue]
  refine CallW.pure (laws_szInt64SS_ok m 1048576 hm hmr (by omega) (by omega)) [] rfl Try.call15 ?_ (by first | trivial | simp [T.noSh, T.noShL, rat]) rfl ?_
  · simp -implicitDefEqProofs only [Int.natCast_zero, Int.cast_ofNat_Int, Int.natCast_one, Nat.le_refl, Nat.reduceLeDiff, Nat.sub_self, Nat.reduceSub, List.getElem?_cons_zero, List.getElem?_cons_succ, vt_self, vaL, vtL, va, vt, vb, maT, List.cons_append, List.nil_append, List.append_nil, true_or, or_true, go_sem, List.reduceReplicate, Nat.reduceEqDiff, Nat.reduceAdd, Nat.reduceLeDiff, Nat.reduceMul, Nat.reduceSub, Nat.reduceDiv, Int.reduceToNat, Nat.reduceLT, Int.reduceLT, Int.reduceLE, ↓reduceIte, reduceCtorEq, ints, rows, rat, rats, ratsO, toShL_ratC, List.mem_cons, List.mem_nil_iff, List.not_mem_nil, or_false, false_or, exists_eq_left, exists_eq_left', exists_eq_right', Root.live.injEq, eq_self_iff_true, exists_eq, and_true, T.toSh, toShL_ints, toShL_intsO, intsO, rowsO]
  simp -implicitDefEqProofs only [go_sem, List.reduceReplicate, Nat.reduceEqDiff, Nat.reduceAdd, Nat.reduceLeDiff, Nat.reduceMul, Nat.reduceSub, Nat.reduceDiv, Int.reduceToNat, Nat.reduceLT, Int.reduceLT, Int.reduceLE, ↓reduceIte, reduceCtorEq, forall_apply_eq_imp_iff₂, ints, rows, rat, rats, toNat_cast]
  refine ⟨fun _ => trivial, fun hb0 => ?_⟩
  obtain ⟨hm1, hmr1⟩ := budgetMat_ok (m := m) (left := 1048576) (by omega) (by omega)
  have hmt := budgetMat_tot (m := m) (left := 1048576) (by omega) (by omega)
  have hmb := budgetMat_le (m := m) (left := 1048576) (by omega)
  have hm2 : (m.length : Int) ≤ 1000000000000 := by omega
  have hmr2 : ∀ r ∈ m, (r.length : Int) ≤ 1000000000000 := fun r h => by have := hmr1 r h; omega
  have hmr3 : ∀ r ∈ m, r.length ≤ 1000000000000 := fun r h => by have := hmr1 r h; omega
  refine CallW.pure (laws_szRatioS_ok p (budgetMat m 1048576) hp (by omega) (by omega)) [] rfl Try.call26 ?_ (by first | trivial | simp [T.noSh, T.noShL, rat]) rfl ?_
  · simp -implicitDefEqProofs only [Int.natCast_zero, Int.cast_ofNat_Int, Int.natCast_one, Nat.le_refl, Nat.reduceLeDiff, Nat.sub_self, Nat.reduceSub, List.getElem?_cons_zero, List.getElem?_cons_succ, vt_self, vaL, vtL, va, vt, vb, maT, List.cons_append, List.nil_append, List.append_nil, true_or, or_true, go_sem, List.reduceReplicate, Nat.reduceEqDiff, Nat.reduceAdd, Nat.reduceLeDiff, Nat.reduceMul, Nat.reduceSub, Nat.reduceDiv, Int.reduceToNat, Nat.reduceLT, Int.reduceLT, Int.reduceLE, ↓reduceIte, reduceCtorEq, ints, rows, rat, rats, ratsO, toShL_ratC, List.mem_cons, List.mem_nil_iff, List.not_mem_nil, or_false, false_or, exists_eq_left, exists_eq_left', exists_eq_right', Root.live.injEq, eq_self_iff_true, exists_eq, and_true, T.toSh, toShL_ints, toShL_intsO, intsO, rowsO]
  simp -implicitDefEqProofs only [go_sem, List.reduceReplicate, Nat.reduceEqDiff, Nat.reduceAdd, Nat.reduceLeDiff, Nat.reduceMul, Nat.reduceSub, Nat.reduceDiv, Int.reduceToNat, Nat.reduceLT, Int.reduceLT, Int.reduceLE, ↓reduceIte, reduceCtorEq, forall_apply_eq_imp_iff₂, ints, rows, rat, rats, toNat_cast]
  refine ⟨fun _ => trivial, fun hb1 => ?_⟩
  obtain ⟨hp1, hpb⟩ := budget_ok (n := p.length) (left := (budgetMat m 1048576)) (by omega) (by omega)
  have hp2 : p.length ≤ 1000000000000 := by omega
  refine CallW.pure (laws_szRatioS_ok q (budget p.length (budgetMat m 1048576)) hq (by omega) (by omega)) [] rfl Try.call26 ?_ (by first | trivial | simp [T.noSh, T.noShL, rat]) rfl ?_
  · simp -implicitDefEqProofs only [Int.natCast_zero, Int.cast_ofNat_Int, Int.natCast_one, Nat.le_refl, Nat.reduceLeDiff, Nat.sub_self, Nat.reduceSub, List.getElem?_cons_zero, List.getElem?_cons_succ, vt_self, vaL, vtL, va, vt, vb, maT, List.cons_append, List.nil_append, List.append_nil, true_or, or_true, go_sem, List.reduceReplicate, Nat.reduceEqDiff, Nat.reduceAdd, Nat.reduceLeDiff, Nat.reduceMul, Nat.reduceSub, Nat.reduceDiv, Int.reduceToNat, Nat.reduceLT, Int.reduceLT, Int.reduceLE, ↓reduceIte, reduceCtorEq, ints, rows, rat, rats, ratsO, toShL_ratC, List.mem_cons, List.mem_nil_iff, List.not_mem_nil, or_false, false_or, exists_eq_left, exists_eq_left', exists_eq_right', Root.live.injEq, eq_self_iff_true, exists_eq, and_true, T.toSh, toShL_ints, toShL_intsO, intsO, rowsO]
  simp -implicitDefEqProofs only [go_sem, List.reduceReplicate, Nat.reduceEqDiff, Nat.reduceAdd, Nat.reduceLeDiff, Nat.reduceMul, Nat.reduceSub, Nat.reduceDiv, Int.reduceToNat, Nat.reduceLT, Int.reduceLT, Int.reduceLE, ↓reduceIte, reduceCtorEq, forall_apply_eq_imp_iff₂, ints, rows, rat, rats, toNat_cast]
  refine ⟨fun _ => trivial, fun hb2 => ?_⟩
  obtain ⟨hq1, hqb⟩ := budget_ok (n := q.length) (left := (budget p.length (budgetMat m 1048576))) (by omega) (by omega)
  have hq2 : q.length ≤ 1000000000000 := by omega
  refine CallW.res (laws_toInt64SS_ok m hm2 hmr2) [] rfl Try.call17 ?_ (.inl rfl) ?_
  · simp -implicitDefEqProofs only [Int.natCast_zero, Int.cast_ofNat_Int, Int.natCast_one, Nat.le_refl, Nat.reduceLeDiff, Nat.sub_self, Nat.reduceSub, List.getElem?_cons_zero, List.getElem?_cons_succ, vt_self, vaL, vtL, va, vt, vb, maT, List.cons_append, List.nil_append, List.append_nil, true_or, or_true, go_sem, List.reduceReplicate, Nat.reduceEqDiff, Nat.reduceAdd, Nat.reduceLeDiff, Nat.reduceMul, Nat.reduceSub, Nat.reduceDiv, Int.reduceToNat, Nat.reduceLT, Int.reduceLT, Int.reduceLE, ↓reduceIte, reduceCtorEq, ints, rows, rat, rats, ratsO, toShL_ratC, List.mem_cons, List.mem_nil_iff, List.not_mem_nil, or_false, false_or, exists_eq_left, exists_eq_left', exists_eq_right', Root.live.injEq, eq_self_iff_true, exists_eq, and_true, T.toSh, toShL_ints, toShL_intsO, intsO, rowsO]
  simp -implicitDefEqProofs only [List.append_nil, List.cons_append, Nat.reduceLeDiff, afterCall, absT_rowsO, absT_intsO, absT, absL, updL, updS, freeAll, rid, T.noSh, T.noShL, Nat.zero_le, go_sem, List.reduceReplicate, Nat.reduceEqDiff, Nat.reduceAdd, Nat.reduceLeDiff, Nat.reduceMul, Nat.reduceSub, Nat.reduceDiv, Int.reduceToNat, Nat.reduceLT, Int.reduceLT, Int.reduceLE, ↓reduceIte, reduceCtorEq, rat, forall_apply_eq_imp_iff₂, toNat_cast]
  refine CallW.res (laws_toRatioS_ok p (by omega)) [] rfl Try.call28 ?_ (.inl rfl) ?_
  · simp -implicitDefEqProofs only [Int.natCast_zero, Int.cast_ofNat_Int, Int.natCast_one, Nat.le_refl, Nat.reduceLeDiff, Nat.sub_self, Nat.reduceSub, List.getElem?_cons_zero, List.getElem?_cons_succ, vt_self, vaL, vtL, va, vt, vb, maT, List.cons_append, List.nil_append, List.append_nil, true_or, or_true, go_sem, List.reduceReplicate, Nat.reduceEqDiff, Nat.reduceAdd, Nat.reduceLeDiff, Nat.reduceMul, Nat.reduceSub, Nat.reduceDiv, Int.reduceToNat, Nat.reduceLT, Int.reduceLT, Int.reduceLE, ↓reduceIte, reduceCtorEq, ints, rows, rat, rats, ratsO, toShL_ratC, List.mem_cons, List.mem_nil_iff, List.not_mem_nil, or_false, false_or, exists_eq_left, exists_eq_left', exists_eq_right', Root.live.injEq, eq_self_iff_true, exists_eq, and_true, T.toSh, toShL_ints, toShL_intsO, intsO, rowsO]
  simp -implicitDefEqProofs only [List.append_nil, List.cons_append, Nat.reduceLeDiff, afterCall, absT_rowsO, absT_intsO, absT, absL, updL, updS, freeAll, rid, T.noSh, T.noShL, Nat.zero_le, go_sem, List.reduceReplicate, Nat.reduceEqDiff, Nat.reduceAdd, Nat.reduceLeDiff, Nat.reduceMul, Nat.reduceSub, Nat.reduceDiv, Int.reduceToNat, Nat.reduceLT, Int.reduceLT, Int.reduceLE, ↓reduceIte, reduceCtorEq, rat, forall_apply_eq_imp_iff₂, toNat_cast]
  refine CallW.res (laws_toRatioS_ok q (by omega)) [] rfl Try.call28 ?_ (.inl rfl) ?_
  · simp -implicitDefEqProofs only [Int.natCast_zero, Int.cast_ofNat_Int, Int.natCast_one, Nat.le_refl, Nat.reduceLeDiff, Nat.sub_self, Nat.reduceSub, List.getElem?_cons_zero, List.getElem?_cons_succ, vt_self, vaL, vtL, va, vt, vb, maT, List.cons_append, List.nil_append, List.append_nil, true_or, or_true, go_sem, List.reduceReplicate, Nat.reduceEqDiff, Nat.reduceAdd, Nat.reduceLeDiff, Nat.reduceMul, Nat.reduceSub, Nat.reduceDiv, Int.reduceToNat, Nat.reduceLT, Int.reduceLT, Int.reduceLE, ↓reduceIte, reduceCtorEq, ints, rows, rat, rats, ratsO, toShL_ratC, List.mem_cons, List.mem_nil_iff, List.not_mem_nil, or_false, false_or, exists_eq_left, exists_eq_left', exists_eq_right', Root.live.injEq, eq_self_iff_true, exists_eq, and_true, T.toSh, toShL_ints, toShL_intsO, intsO, rowsO]
  simp -implicitDefEqProofs only [List.append_nil, List.cons_append, Nat.reduceLeDiff, afterCall, absT_rowsO, absT_intsO, absT, absL, updL, updS, freeAll, rid, T.noSh, T.noShL, Nat.zero_le, go_sem, List.reduceReplicate, Nat.reduceEqDiff, Nat.reduceAdd, Nat.reduceLeDiff, Nat.reduceMul, Nat.reduceSub, Nat.reduceDiv, Int.reduceToNat, Nat.reduceLT, Int.reduceLT, Int.reduceLE, ↓reduceIte, reduceCtorEq, rat, forall_apply_eq_imp_iff₂, toNat_cast]
  refine CallW.res (spec_MatrixValue_ok m p q (by omega) (by omega)) [32, 34, 36] rfl Try.call47 ?_ (.inr (redT_noSh _)) ?_
  · simp -implicitDefEqProofs only [Int.natCast_zero, Int.cast_ofNat_Int, Int.natCast_one, Nat.le_refl, Nat.reduceLeDiff, Nat.sub_self, Nat.reduceSub, List.getElem?_cons_zero, List.getElem?_cons_succ, vt_self, vaL, vtL, va, vt, vb, maT, List.cons_append, List.nil_append, List.append_nil, true_or, or_true, go_sem, List.reduceReplicate, Nat.reduceEqDiff, Nat.reduceAdd, Nat.reduceLeDiff, Nat.reduceMul, Nat.reduceSub, Nat.reduceDiv, Int.reduceToNat, Nat.reduceLT, Int.reduceLT, Int.reduceLE, ↓reduceIte, reduceCtorEq, ints, rows, rat, rats, ratsO, toShL_ratC, List.mem_cons, List.mem_nil_iff, List.not_mem_nil, or_false, false_or, exists_eq_left, exists_eq_left', exists_eq_right', Root.live.injEq, eq_self_iff_true, exists_eq, and_true, T.toSh, toShL_ints, toShL_intsO, intsO, rowsO]
  simp -implicitDefEqProofs only [List.append_nil, List.cons_append, Nat.reduceLeDiff, afterCall, absT_rowsO, absT_intsO, absT, absL, updL, updS, freeAll, rid, T.noSh, T.noShL, Nat.zero_le, go_sem, List.reduceReplicate, Nat.reduceEqDiff, Nat.reduceAdd, Nat.reduceLeDiff, Nat.reduceMul, Nat.reduceSub, Nat.reduceDiv, Int.reduceToNat, Nat.reduceLT, Int.reduceLT, Int.reduceLE, ↓reduceIte, reduceCtorEq, rat, forall_apply_eq_imp_iff₂, toNat_cast, redT, rat, not_true_eq_false, decide_false]
  refine CallW.res (laws_toInt64SS_ok m hm2 hmr2) [] rfl Try.call17 ?_ (.inl rfl) ?_
  · simp -implicitDefEqProofs only [Int.natCast_zero, Int.cast_ofNat_Int, Int.natCast_one, Nat.le_refl, Nat.reduceLeDiff, Nat.sub_self, Nat.reduceSub, List.getElem?_cons_zero, List.getElem?_cons_succ, vt_self, vaL, vtL, va, vt, vb, maT, List.cons_append, List.nil_append, List.append_nil, true_or, or_true, go_sem, List.reduceReplicate, Nat.reduceEqDiff, Nat.reduceAdd, Nat.reduceLeDiff, Nat.reduceMul, Nat.reduceSub, Nat.reduceDiv, Int.reduceToNat, Nat.reduceLT, Int.reduceLT, Int.reduceLE, ↓reduceIte, reduceCtorEq, ints, rows, rat, rats, ratsO, toShL_ratC, List.mem_cons, List.mem_nil_iff, List.not_mem_nil, or_false, false_or, exists_eq_left, exists_eq_left', exists_eq_right', Root.live.injEq, eq_self_iff_true, exists_eq, and_true, T.toSh, toShL_ints, toShL_intsO, intsO, rowsO]
  simp -implicitDefEqProofs only [List.append_nil, List.cons_append, Nat.reduceLeDiff, afterCall, absT_rowsO, absT_intsO, absT, absL, updL, updS, freeAll, rid, T.noSh, T.noShL, Nat.zero_le, go_sem, List.reduceReplicate, Nat.reduceEqDiff, Nat.reduceAdd, Nat.reduceLeDiff, Nat.reduceMul, Nat.reduceSub, Nat.reduceDiv, Int.reduceToNat, Nat.reduceLT, Int.reduceLT, Int.reduceLE, ↓reduceIte, reduceCtorEq, rat, forall_apply_eq_imp_iff₂, toNat_cast]
  refine CallW.res (laws_toRatioS_ok p (by omega)) [] rfl Try.call28 ?_ (.inl rfl) ?_
  · simp -implicitDefEqProofs only [Int.natCast_zero, Int.cast_ofNat_Int, Int.natCast_one, Nat.le_refl, Nat.reduceLeDiff, Nat.sub_self, Nat.reduceSub, List.getElem?_cons_zero, List.getElem?_cons_succ, vt_self, vaL, vtL, va, vt, vb, maT, List.cons_append, List.nil_append, List.append_nil, true_or, or_true, go_sem, List.reduceReplicate, Nat.reduceEqDiff, Nat.reduceAdd, Nat.reduceLeDiff, Nat.reduceMul, Nat.reduceSub, Nat.reduceDiv, Int.reduceToNat, Nat.reduceLT, Int.reduceLT, Int.reduceLE, ↓reduceIte, reduceCtorEq, ints, rows, rat, rats, ratsO, toShL_ratC, List.mem_cons, List.mem_nil_iff, List.not_mem_nil, or_false, false_or, exists_eq_left, exists_eq_left', exists_eq_right', Root.live.injEq, eq_self_iff_true, exists_eq, and_true, T.toSh, toShL_ints, toShL_intsO, intsO, rowsO]
  simp -implicitDefEqProofs only [List.append_nil, List.cons_append, Nat.reduceLeDiff, afterCall, absT_rowsO, absT_intsO, absT, absL, updL, updS, freeAll, rid, T.noSh, T.noShL, Nat.zero_le, go_sem, List.reduceReplicate, Nat.reduceEqDiff, Nat.reduceAdd, Nat.reduceLeDiff, Nat.reduceMul, Nat.reduceSub, Nat.reduceDiv, Int.reduceToNat, Nat.reduceLT, Int.reduceLT, Int.reduceLE, ↓reduceIte, reduceCtorEq, rat, forall_apply_eq_imp_iff₂, toNat_cast]
  refine CallW.res (laws_toRatioS_ok q (by omega)) [] rfl Try.call28 ?_ (.inl rfl) ?_
  · simp -implicitDefEqProofs only [Int.natCast_zero, Int.cast_ofNat_Int, Int.natCast_one, Nat.le_refl, Nat.reduceLeDiff, Nat.sub_self, Nat.reduceSub, List.getElem?_cons_zero, List.getElem?_cons_succ, vt_self, vaL, vtL, va, vt, vb, maT, List.cons_append, List.nil_append, List.append_nil, true_or, or_true, go_sem, List.reduceReplicate, Nat.reduceEqDiff, Nat.reduceAdd, Nat.reduceLeDiff, Nat.reduceMul, Nat.reduceSub, Nat.reduceDiv, Int.reduceToNat, Nat.reduceLT, Int.reduceLT, Int.reduceLE, ↓reduceIte, reduceCtorEq, ints, rows, rat, rats, ratsO, toShL_ratC, List.mem_cons, List.mem_nil_iff, List.not_mem_nil, or_false, false_or, exists_eq_left, exists_eq_left', exists_eq_right', Root.live.injEq, eq_self_iff_true, exists_eq, and_true, T.toSh, toShL_ints, toShL_intsO, intsO, rowsO]
  simp -implicitDefEqProofs only [List.append_nil, List.cons_append, Nat.reduceLeDiff, afterCall, absT_rowsO, absT_intsO, absT, absL, updL, updS, freeAll, rid, T.noSh, T.noShL, Nat.zero_le, go_sem, List.reduceReplicate, Nat.reduceEqDiff, Nat.reduceAdd, Nat.reduceLeDiff, Nat.reduceMul, Nat.reduceSub, Nat.reduceDiv, Int.reduceToNat, Nat.reduceLT, Int.reduceLT, Int.reduceLE, ↓reduceIte, reduceCtorEq, rat, forall_apply_eq_imp_iff₂, toNat_cast]
  refine CallW.res (impl_MatrixValue_ok m p q (by omega) hmr3 (by omega) (by omega)) [41, 43, 45] rfl Try.call48 ?_ (.inr (redT_noSh _)) ?_
  · simp -implicitDefEqProofs only [Int.natCast_zero, Int.cast_ofNat_Int, Int.natCast_one, Nat.le_refl, Nat.reduceLeDiff, Nat.sub_self, Nat.reduceSub, List.getElem?_cons_zero, List.getElem?_cons_succ, vt_self, vaL, vtL, va, vt, vb, maT, List.cons_append, List.nil_append, List.append_nil, true_or, or_true, go_sem, List.reduceReplicate, Nat.reduceEqDiff, Nat.reduceAdd, Nat.reduceLeDiff, Nat.reduceMul, Nat.reduceSub, Nat.reduceDiv, Int.reduceToNat, Nat.reduceLT, Int.reduceLT, Int.reduceLE, ↓reduceIte, reduceCtorEq, ints, rows, rat, rats, ratsO, toShL_ratC, List.mem_cons, List.mem_nil_iff, List.not_mem_nil, or_false, false_or, exists_eq_left, exists_eq_left', exists_eq_right', Root.live.injEq, eq_self_iff_true, exists_eq, and_true, T.toSh, toShL_ints, toShL_intsO, intsO, rowsO]
  simp -implicitDefEqProofs only [List.append_nil, List.cons_append, Nat.reduceLeDiff, afterCall, absT_rowsO, absT_intsO, absT, absL, updL, updS, freeAll, rid, T.noSh, T.noShL, Nat.zero_le, go_sem, List.reduceReplicate, Nat.reduceEqDiff, Nat.reduceAdd, Nat.reduceLeDiff, Nat.reduceMul, Nat.reduceSub, Nat.reduceDiv, Int.reduceToNat, Nat.reduceLT, Int.reduceLT, Int.reduceLE, ↓reduceIte, reduceCtorEq, rat, forall_apply_eq_imp_iff₂, toNat_cast, redT, rat, not_true_eq_false, decide_false]
  refine CallW.pure (laws_eqRatio_ok (mvRes m p q).1 (mvRes m p q).1) [] rfl Try.call49 ?_ (by first | trivial | simp [T.noSh, T.noShL, rat]) rfl ?_
  · simp -implicitDefEqProofs only [Int.natCast_zero, Int.cast_ofNat_Int, Int.natCast_one, Nat.le_refl, Nat.reduceLeDiff, Nat.sub_self, Nat.reduceSub, List.getElem?_cons_zero, List.getElem?_cons_succ, vt_self, vaL, vtL, va, vt, vb, maT, List.cons_append, List.nil_append, List.append_nil, true_or, or_true, go_sem, List.reduceReplicate, Nat.reduceEqDiff, Nat.reduceAdd, Nat.reduceLeDiff, Nat.reduceMul, Nat.reduceSub, Nat.reduceDiv, Int.reduceToNat, Nat.reduceLT, Int.reduceLT, Int.reduceLE, ↓reduceIte, reduceCtorEq, ints, rows, rat, rats, ratsO, toShL_ratC, List.mem_cons, List.mem_nil_iff, List.not_mem_nil, or_false, false_or, exists_eq_left, exists_eq_left', exists_eq_right', Root.live.injEq, eq_self_iff_true, exists_eq, and_true, T.toSh, toShL_ints, toShL_intsO, intsO, rowsO]
  simp -implicitDefEqProofs only [go_sem, List.reduceReplicate, Nat.reduceEqDiff, Nat.reduceAdd, Nat.reduceLeDiff, Nat.reduceMul, Nat.reduceSub, Nat.reduceDiv, Int.reduceToNat, Nat.reduceLT, Int.reduceLT, Int.reduceLE, ↓reduceIte, reduceCtorEq, forall_apply_eq_imp_iff₂, ints, rows, rat, rats, toNat_cast]
  refine CallW.res (laws_toInt64SS_ok m hm2 hmr2) [] rfl Try.call17 ?_ (.inl rfl) ?_
  · simp -implicitDefEqProofs only [Int.natCast_zero, Int.cast_ofNat_Int, Int.natCast_one, Nat.le_refl, Nat.reduceLeDiff, Nat.sub_self, Nat.reduceSub, List.getElem?_cons_zero, List.getElem?_cons_succ, vt_self, vaL, vtL, va, vt, vb, maT, List.cons_append, List.nil_append, List.append_nil, true_or, or_true, go_sem, List.reduceReplicate, Nat.reduceEqDiff, Nat.reduceAdd, Nat.reduceLeDiff, Nat.reduceMul, Nat.reduceSub, Nat.reduceDiv, Int.reduceToNat, Nat.reduceLT, Int.reduceLT, Int.reduceLE, ↓reduceIte, reduceCtorEq, ints, rows, rat, rats, ratsO, toShL_ratC, List.mem_cons, List.mem_nil_iff, List.not_mem_nil, or_false, false_or, exists_eq_left, exists_eq_left', exists_eq_right', Root.live.injEq, eq_self_iff_true, exists_eq, and_true, T.toSh, toShL_ints, toShL_intsO, intsO, rowsO]
  simp -implicitDefEqProofs only [List.append_nil, List.cons_append, Nat.reduceLeDiff, afterCall, absT_rowsO, absT_intsO, absT, absL, updL, updS, freeAll, rid, T.noSh, T.noShL, Nat.zero_le, go_sem, List.reduceReplicate, Nat.reduceEqDiff, Nat.reduceAdd, Nat.reduceLeDiff, Nat.reduceMul, Nat.reduceSub, Nat.reduceDiv, Int.reduceToNat, Nat.reduceLT, Int.reduceLT, Int.reduceLE, ↓reduceIte, reduceCtorEq, rat, forall_apply_eq_imp_iff₂, toNat_cast]
  refine CallW.pure (laws_eqInt64SS_ok m m (by omega) (by omega) hmr3 hmr3) [41, 64] rfl Try.call19 ?_ (by first | trivial | simp [T.noSh, T.noShL, rat]) rfl ?_
  · simp -implicitDefEqProofs only [Int.natCast_zero, Int.cast_ofNat_Int, Int.natCast_one, Nat.le_refl, Nat.reduceLeDiff, Nat.sub_self, Nat.reduceSub, List.getElem?_cons_zero, List.getElem?_cons_succ, vt_self, vaL, vtL, va, vt, vb, maT, List.cons_append, List.nil_append, List.append_nil, true_or, or_true, go_sem, List.reduceReplicate, Nat.reduceEqDiff, Nat.reduceAdd, Nat.reduceLeDiff, Nat.reduceMul, Nat.reduceSub, Nat.reduceDiv, Int.reduceToNat, Nat.reduceLT, Int.reduceLT, Int.reduceLE, ↓reduceIte, reduceCtorEq, ints, rows, rat, rats, ratsO, toShL_ratC, List.mem_cons, List.mem_nil_iff, List.not_mem_nil, or_false, false_or, exists_eq_left, exists_eq_left', exists_eq_right', Root.live.injEq, eq_self_iff_true, exists_eq, and_true, T.toSh, toShL_ints, toShL_intsO, intsO, rowsO]
  simp -implicitDefEqProofs only [go_sem, List.reduceReplicate, Nat.reduceEqDiff, Nat.reduceAdd, Nat.reduceLeDiff, Nat.reduceMul, Nat.reduceSub, Nat.reduceDiv, Int.reduceToNat, Nat.reduceLT, Int.reduceLT, Int.reduceLE, ↓reduceIte, reduceCtorEq, forall_apply_eq_imp_iff₂, ints, rows, rat, rats, toNat_cast]
  refine CallW.res (laws_toRatioS_ok p (by omega)) [] rfl Try.call28 ?_ (.inl rfl) ?_
  · simp -implicitDefEqProofs only [Int.natCast_zero, Int.cast_ofNat_Int, Int.natCast_one, Nat.le_refl, Nat.reduceLeDiff, Nat.sub_self, Nat.reduceSub, List.getElem?_cons_zero, List.getElem?_cons_succ, vt_self, vaL, vtL, va, vt, vb, maT, List.cons_append, List.nil_append, List.append_nil, true_or, or_true, go_sem, List.reduceReplicate, Nat.reduceEqDiff, Nat.reduceAdd, Nat.reduceLeDiff, Nat.reduceMul, Nat.reduceSub, Nat.reduceDiv, Int.reduceToNat, Nat.reduceLT, Int.reduceLT, Int.reduceLE, ↓reduceIte, reduceCtorEq, ints, rows, rat, rats, ratsO, toShL_ratC, List.mem_cons, List.mem_nil_iff, List.not_mem_nil, or_false, false_or, exists_eq_left, exists_eq_left', exists_eq_right', Root.live.injEq, eq_self_iff_true, exists_eq, and_true, T.toSh, toShL_ints, toShL_intsO, intsO, rowsO]
  simp -implicitDefEqProofs only [List.append_nil, List.cons_append, Nat.reduceLeDiff, afterCall, absT_rowsO, absT_intsO, absT, absL, updL, updS, freeAll, rid, T.noSh, T.noShL, Nat.zero_le, go_sem, List.reduceReplicate, Nat.reduceEqDiff, Nat.reduceAdd, Nat.reduceLeDiff, Nat.reduceMul, Nat.reduceSub, Nat.reduceDiv, Int.reduceToNat, Nat.reduceLT, Int.reduceLT, Int.reduceLE, ↓reduceIte, reduceCtorEq, rat, forall_apply_eq_imp_iff₂, toNat_cast]
  refine CallW.pure (laws_eqRatioS_ok p p (by omega) (by omega)) [43, 69] rfl Try.call30 ?_ (by first | trivial | simp [T.noSh, T.noShL, rat]) rfl ?_
  · simp -implicitDefEqProofs only [Int.natCast_zero, Int.cast_ofNat_Int, Int.natCast_one, Nat.le_refl, Nat.reduceLeDiff, Nat.sub_self, Nat.reduceSub, List.getElem?_cons_zero, List.getElem?_cons_succ, vt_self, vaL, vtL, va, vt, vb, maT, List.cons_append, List.nil_append, List.append_nil, true_or, or_true, go_sem, List.reduceReplicate, Nat.reduceEqDiff, Nat.reduceAdd, Nat.reduceLeDiff, Nat.reduceMul, Nat.reduceSub, Nat.reduceDiv, Int.reduceToNat, Nat.reduceLT, Int.reduceLT, Int.reduceLE, ↓reduceIte, reduceCtorEq, ints, rows, rat, rats, ratsO, toShL_ratC, List.mem_cons, List.mem_nil_iff, List.not_mem_nil, or_false, false_or, exists_eq_left, exists_eq_left', exists_eq_right', Root.live.injEq, eq_self_iff_true, exists_eq, and_true, T.toSh, toShL_ints, toShL_intsO, intsO, rowsO]
  simp -implicitDefEqProofs only [go_sem, List.reduceReplicate, Nat.reduceEqDiff, Nat.reduceAdd, Nat.reduceLeDiff, Nat.reduceMul, Nat.reduceSub, Nat.reduceDiv, Int.reduceToNat, Nat.reduceLT, Int.reduceLT, Int.reduceLE, ↓reduceIte, reduceCtorEq, forall_apply_eq_imp_iff₂, ints, rows, rat, rats, toNat_cast]
  refine CallW.res (laws_toRatioS_ok q (by omega)) [] rfl Try.call28 ?_ (.inl rfl) ?_
  · simp -implicitDefEqProofs only [Int.natCast_zero, Int.cast_ofNat_Int, Int.natCast_one, Nat.le_refl, Nat.reduceLeDiff, Nat.sub_self, Nat.reduceSub, List.getElem?_cons_zero, List.getElem?_cons_succ, vt_self, vaL, vtL, va, vt, vb, maT, List.cons_append, List.nil_append, List.append_nil, true_or, or_true, go_sem, List.reduceReplicate, Nat.reduceEqDiff, Nat.reduceAdd, Nat.reduceLeDiff, Nat.reduceMul, Nat.reduceSub, Nat.reduceDiv, Int.reduceToNat, Nat.reduceLT, Int.reduceLT, Int.reduceLE, ↓reduceIte, reduceCtorEq, ints, rows, rat, rats, ratsO, toShL_ratC, List.mem_cons, List.mem_nil_iff, List.not_mem_nil, or_false, false_or, exists_eq_left, exists_eq_left', exists_eq_right', Root.live.injEq, eq_self_iff_true, exists_eq, and_true, T.toSh, toShL_ints, toShL_intsO, intsO, rowsO]
  simp -implicitDefEqProofs only [List.append_nil, List.cons_append, Nat.reduceLeDiff, afterCall, absT_rowsO, absT_intsO, absT, absL, updL, updS, freeAll, rid, T.noSh, T.noShL, Nat.zero_le, go_sem, List.reduceReplicate, Nat.reduceEqDiff, Nat.reduceAdd, Nat.reduceLeDiff, Nat.reduceMul, Nat.reduceSub, Nat.reduceDiv, Int.reduceToNat, Nat.reduceLT, Int.reduceLT, Int.reduceLE, ↓reduceIte, reduceCtorEq, rat, forall_apply_eq_imp_iff₂, toNat_cast]
  refine CallW.pure (laws_eqRatioS_ok q q (by omega) (by omega)) [45, 74] rfl Try.call30 ?_ (by first | trivial | simp [T.noSh, T.noShL, rat]) rfl ?_
  · simp -implicitDefEqProofs only [Int.natCast_zero, Int.cast_ofNat_Int, Int.natCast_one, Nat.le_refl, Nat.reduceLeDiff, Nat.sub_self, Nat.reduceSub, List.getElem?_cons_zero, List.getElem?_cons_succ, vt_self, vaL, vtL, va, vt, vb, maT, List.cons_append, List.nil_append, List.append_nil, true_or, or_true, go_sem, List.reduceReplicate, Nat.reduceEqDiff, Nat.reduceAdd, Nat.reduceLeDiff, Nat.reduceMul, Nat.reduceSub, Nat.reduceDiv, Int.reduceToNat, Nat.reduceLT, Int.reduceLT, Int.reduceLE, ↓reduceIte, reduceCtorEq, ints, rows, rat, rats, ratsO, toShL_ratC, List.mem_cons, List.mem_nil_iff, List.not_mem_nil, or_false, false_or, exists_eq_left, exists_eq_left', exists_eq_right', Root.live.injEq, eq_self_iff_true, exists_eq, and_true, T.toSh, toShL_ints, toShL_intsO, intsO, rowsO]
  simp -implicitDefEqProofs only [go_sem, List.reduceReplicate, Nat.reduceEqDiff, Nat.reduceAdd, Nat.reduceLeDiff, Nat.reduceMul, Nat.reduceSub, Nat.reduceDiv, Int.reduceToNat, Nat.reduceLT, Int.reduceLT, Int.reduceLE, ↓reduceIte, reduceCtorEq, forall_apply_eq_imp_iff₂, ints, rows, rat, rats, toNat_cast]
end Go.Ab

set_option linter.unusedSimpArgs false
set_option linter.unusedVariables false
namespace Go.Proofs.Ytbilpaghpgomeaa
open Go.ChangeShapes Go.WideShapes Go.ChangeAt Go.RowKit Go.Ab

namespace fnExactMatrixValue
theorem said : ∀ xs, wtL [tyRows, tyRats, tyRats] xs → Pure Try.prog 12 xs (.b true)
  | [x0, x1, x2], h => by
    obtain ⟨m, rfl, hm, hmr⟩ := wt_rows h.1
    obtain ⟨p, rfl, hp⟩ := wt_rats h.2.1
    obtain ⟨q, rfl, hq⟩ := wt_rats h.2.2.1
    exact laws_FnExactMatrixValue_ok m (by omega) (fun r h => by have := (hmr r h).1; omega) p (by omega) q (by omega)
  | [], h => h.elim
  | [_], h => h.2.elim
  | [_, _], h => h.2.2.elim
  | _ :: _ :: _ :: _ :: _, h => h.2.2.2.elim

set_option maxRecDepth 100000 in
theorem lifted (os : Os) (started : os.Started) (H : Type) (enc : TypeId × Value → H) :
    ReturnsInHanded {} Try.checked os 12 .any (Rows.fnExactMatrixValueSpec.pre6 enc Try.prog Try.f12 Rows.fnExactMatrixValueRow.domain false) (Rows.fnExactMatrixValueSpec.post enc Try.prog Try.f12 false true false false) := by
  refine returnsInHanded_of_change (C := Try.checked) (by kernel_rfl) started (by kernel_rfl) Try.func12
    (ChangeSpec.witness6 (enc := enc) (C := Try.checked) false ⟨#[], #[.slice none 0 0, .slice none 0 0, .slice none 0 0], []⟩ 8 (by kernel_rfl) (by kernel_rfl) (by kernel_rfl) (by kernel_rfl)) ?_
  intro W base args ds gs before hval hW _ _
  refine law_contract (tys := [tyRows, tyRats, tyRats]) (by kernel_rfl) (by kernel_rfl) rfl (by kernel_rfl) rfl (fun ds h => ?_) said W base args ds gs before hval hW
  match ds, h with
  | [d0, d1, d2], _ => rfl

theorem over : Rows.fnExactMatrixValueRow.holds Try.pinned (OpenSpec.ofChange Rows.fnExactMatrixValueSpec) :=
  OpenClaim.holds_of_wide 12 Try.f12 rfl rfl rfl rfl rfl rfl rfl ⟨rfl, rfl, rfl, rfl, rfl⟩ rfl rfl rfl rfl rfl (by kernel_rfl) Try.func12 (by kernel_rfl)
    (of_decide_eq_true (by kernel_rfl)) (by unfold Func.isWrapper; first | (rw [if_pos (by decide +kernel)]; kernel_rfl) | (rw [if_neg (by decide +kernel)]; exact ⟨rfl, rfl⟩))
    (fun os started H enc _ => lifted os started H enc)
end fnExactMatrixValue

theorem fnExactMatrixValue_holds : Rows.FnExactMatrixValueSaid := fnExactMatrixValue.over
#print axioms fnExactMatrixValue_holds
end Go.Proofs.Ytbilpaghpgomeaa
