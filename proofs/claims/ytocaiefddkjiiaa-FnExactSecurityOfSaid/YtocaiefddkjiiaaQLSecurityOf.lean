/- The program's SecurityOf returns what the reference's returns, for all arguments, and keeps its arguments (and its earlier result): the law FnExactSecurityOf returns true for every input. No conditions. -/
import Derived.Test.YtocaiefddkjiiaaRows
import Derived.Test.YtocaiefddkjiiaaQ3
/- Contracts: mixes. -/
set_option linter.unusedSimpArgs false
set_option linter.unusedVariables false
namespace Go.Ab
open Go.Proofs

def mixGo : Int × Int → List (Int × Int) → Bool
  | s, [] => decide (s = (1, 1))
  | s, x :: l => isRat x && decide (0 ≤ x.1) && decide ((addR s x).2 = 0) && mixGo (addR s x).1 l
def mixSp : Int → Int × Int → List (Int × Int) → Bool
  | c, s, [] => decide (c = 0) && decide (s = (1, 1))
  | c, s, x :: l => isRat x && decide (0 ≤ x.1) && mixSp (stepA c s x).2 (stepA c s x).1 l
theorem mixSp_err : ∀ (l : List (Int × Int)) (c : Int) (s : Int × Int), c ≠ 0 → mixSp c s l = false
  | [], c, s, h => by simp [mixSp, h]
  | x :: l, c, s, h => by
    rw [mixSp, stepA, if_pos h]
    simp only []
    rw [mixSp_err l c _ h]; simp
theorem mixSp_eq : ∀ (l : List (Int × Int)) (s : Int × Int), mixSp 0 s l = mixGo s l
  | [], s => by simp [mixSp, mixGo]
  | x :: l, s => by
    rw [mixSp, mixGo, stepA, if_neg (by simp)]
    by_cases h : (addR s x).2 = 0
    · rw [h, mixSp_eq l]; simp
    · rw [mixSp_err l _ _ h]; simp [h]
/-- Is p a mix of n? -/
def isMixB (p : List (Int × Int)) (n : Int) : Bool := decide (1 ≤ n ∧ n ≤ 4) && decide ((p.length : Int) = n) && mixGo (0, 1) p

theorem impl_IsMix_ok (p : List (Int × Int)) (n : Int) (hp : p.length ≤ 1000000000000) : Pure Try.prog 33 [rats p, .i n] (.b (isMixB p n)) := by
  refine fun_impl_IsMix (by simp) ?_
  simp -implicitDefEqProofs only [go_sem, List.reduceReplicate, Nat.reduceEqDiff, Nat.reduceAdd, Nat.reduceLeDiff, Nat.reduceMul, Nat.reduceSub, Nat.reduceDiv, Int.reduceToNat, Nat.reduceLT, Int.reduceLT, Int.reduceLE, ↓reduceIte, reduceCtorEq, forall_apply_eq_imp_iff₂, ints, rows, rat, rats, toNat_cast, c_impl_IsMix]
  refine CallW.pure (impl_within_ok n 1 4) [] rfl Try.call93 ?_ (by first | trivial | simp [T.noSh, T.noShL, rat]) rfl ?_
  · simp -implicitDefEqProofs only [Int.natCast_zero, Int.cast_ofNat_Int, Int.natCast_one, Nat.le_refl, Nat.reduceLeDiff, Nat.sub_self, Nat.reduceSub, List.getElem?_cons_zero, List.getElem?_cons_succ, vt_self, vaL, vtL, va, vt, vb, maT, List.cons_append, List.nil_append, List.append_nil, true_or, or_true, go_sem, List.reduceReplicate, Nat.reduceEqDiff, Nat.reduceAdd, Nat.reduceLeDiff, Nat.reduceMul, Nat.reduceSub, Nat.reduceDiv, Int.reduceToNat, Nat.reduceLT, Int.reduceLT, Int.reduceLE, ↓reduceIte, reduceCtorEq, ints, rows, rat, rats, ratsO, toShL_ratC, List.mem_cons, List.mem_nil_iff, List.not_mem_nil, or_false, false_or, exists_eq_left, exists_eq_left', exists_eq_right', Root.live.injEq, eq_self_iff_true, exists_eq, and_true, T.toSh, toShL_ints, toShL_intsO, intsO, rowsO]
  simp -implicitDefEqProofs only [go_sem, List.reduceReplicate, Nat.reduceEqDiff, Nat.reduceAdd, Nat.reduceLeDiff, Nat.reduceMul, Nat.reduceSub, Nat.reduceDiv, Int.reduceToNat, Nat.reduceLT, Int.reduceLT, Int.reduceLE, ↓reduceIte, reduceCtorEq, forall_apply_eq_imp_iff₂, ints, rows, rat, rats, toNat_cast]
  refine ⟨fun h => ⟨fun h1 => ?_, fun h1 => ?_⟩, fun h => ?_⟩
  · rw [isMixB, decide_eq_false (p := (p.length : Int) = n) (by simpa using h1)]; simp
  · have hn : 1 ≤ n ∧ n ≤ 4 := by simpa using h
    have hl : (p.length : Int) = n := by simpa using h1
    refine SemC.loopR (σ := Nat × (Int × Int)) (fun s => St.of [(5, .own 5), (20, .t (rats p)), (21, .t (.i p.length)), (22, .t (.i s.1))] [(5, .box [.i s.2.1, .i s.2.2])]) (fun s => s.1 ≤ p.length ∧ mixGo s.2 (p.drop s.1) = mixGo (0, 1) p) (fun s => p.length - s.1) (0, (0, 1)) (Weak.of _ _ [some 5] (by simp) (by simp) ?_ ?_) ⟨by simp, rfl⟩ fun s hI R hn' hr he => ?_
    · simp -implicitDefEqProofs only [ints, rows, Nat.reduceBEq, Int.add_zero, envOK, maA, maT, upd_apply, Nat.reduceEqDiff, ↓reduceIte, and_true, true_or, or_true, List.map_cons, List.map_nil, Nat.zero_ne_one, and_self, true_and, Int.natCast_zero, Int.cast_ofNat_Int, Int.ofNat_zero, piOf, List.zip_cons_cons, List.zip_nil_right, List.lookup_cons, List.lookup_nil, beq_self_eq_true, rootsOK, mkRoots, mkEnv, rats]
    · exact ⟨⟨_, rfl, .refl _⟩, rfl, trivial⟩
    · obtain ⟨i, s1, s2⟩ := s
      obtain ⟨hi, hm⟩ := hI
      (try simp only [] at hi hm)
      simp -implicitDefEqProofs only [go_sem, List.reduceReplicate, Nat.reduceEqDiff, Nat.reduceAdd, Nat.reduceLeDiff, Nat.reduceMul, Nat.reduceSub, Nat.reduceDiv, Int.reduceToNat, Nat.reduceLT, Int.reduceLT, Int.reduceLE, ↓reduceIte, reduceCtorEq, forall_apply_eq_imp_iff₂, ints, rows, rat, rats, toNat_cast]
      refine ⟨fun h => ⟨by omega, by rw [ratC_length]; omega, by rw [ratC_length]; omega, ?_⟩, fun h => he _ _ ?_⟩
      · obtain ⟨x, hx⟩ : ∃ x, p[i]? = some x := ⟨_, List.getElem?_eq_getElem (by omega)⟩
        rw [ratC_at hx]
        simp -implicitDefEqProofs only [go_sem, List.reduceReplicate, Nat.reduceEqDiff, Nat.reduceAdd, Nat.reduceLeDiff, Nat.reduceMul, Nat.reduceSub, Nat.reduceDiv, Int.reduceToNat, Nat.reduceLT, Int.reduceLT, Int.reduceLE, ↓reduceIte, reduceCtorEq, forall_apply_eq_imp_iff₂, ints, rows, rat, rats, toNat_cast]
        rw [drop_of_get hx, mixGo] at hm
        have hmB : isMixB p n = mixGo (0, 1) p := by rw [isMixB, decide_eq_true hn, decide_eq_true hl]; simp
        refine CallW.pure (impl_IsRatio_ok x) [] rfl Try.call94 ?_ (by first | trivial | simp [T.noSh, T.noShL, rat]) rfl ?_
        · simp -implicitDefEqProofs only [Int.natCast_zero, Int.cast_ofNat_Int, Int.natCast_one, Nat.le_refl, Nat.reduceLeDiff, Nat.sub_self, Nat.reduceSub, List.getElem?_cons_zero, List.getElem?_cons_succ, vt_self, vaL, vtL, va, vt, vb, maT, List.cons_append, List.nil_append, List.append_nil, true_or, or_true, go_sem, List.reduceReplicate, Nat.reduceEqDiff, Nat.reduceAdd, Nat.reduceLeDiff, Nat.reduceMul, Nat.reduceSub, Nat.reduceDiv, Int.reduceToNat, Nat.reduceLT, Int.reduceLT, Int.reduceLE, ↓reduceIte, reduceCtorEq, ints, rows, rat, rats, ratsO, toShL_ratC, List.mem_cons, List.mem_nil_iff, List.not_mem_nil, or_false, false_or, exists_eq_left, exists_eq_left', exists_eq_right', Root.live.injEq, eq_self_iff_true, exists_eq, and_true, T.toSh, toShL_ints, toShL_intsO, intsO, rowsO]
        simp -implicitDefEqProofs only [go_sem, List.reduceReplicate, Nat.reduceEqDiff, Nat.reduceAdd, Nat.reduceLeDiff, Nat.reduceMul, Nat.reduceSub, Nat.reduceDiv, Int.reduceToNat, Nat.reduceLT, Int.reduceLT, Int.reduceLE, ↓reduceIte, reduceCtorEq, forall_apply_eq_imp_iff₂, ints, rows, rat, rats, toNat_cast]
        refine ⟨fun h1 => ⟨fun h2 => hr _ ?_, fun h2 => ?_⟩, fun h1 => hr _ ?_⟩
        · simp -implicitDefEqProofs only [go_sem, List.reduceReplicate, Nat.reduceEqDiff, Nat.reduceAdd, Nat.reduceLeDiff, Nat.reduceMul, Nat.reduceSub, Nat.reduceDiv, Int.reduceToNat, Nat.reduceLT, Int.reduceLT, Int.reduceLE, ↓reduceIte, reduceCtorEq, forall_apply_eq_imp_iff₂, ints, rows, rat, rats, toNat_cast]
          rw [hmB, ← hm, decide_eq_false (p := 0 ≤ x.1) (by omega)]; simp
        · refine CallW.res (impl_AddRatios_ok (s1, s2) x) [] rfl Try.call37 ?_ (.inl rfl) ?_
          · simp -implicitDefEqProofs only [Int.natCast_zero, Int.cast_ofNat_Int, Int.natCast_one, Nat.le_refl, Nat.reduceLeDiff, Nat.sub_self, Nat.reduceSub, List.getElem?_cons_zero, List.getElem?_cons_succ, vt_self, vaL, vtL, va, vt, vb, maT, List.cons_append, List.nil_append, List.append_nil, true_or, or_true, go_sem, List.reduceReplicate, Nat.reduceEqDiff, Nat.reduceAdd, Nat.reduceLeDiff, Nat.reduceMul, Nat.reduceSub, Nat.reduceDiv, Int.reduceToNat, Nat.reduceLT, Int.reduceLT, Int.reduceLE, ↓reduceIte, reduceCtorEq, ints, rows, rat, rats, ratsO, toShL_ratC, List.mem_cons, List.mem_nil_iff, List.not_mem_nil, or_false, false_or, exists_eq_left, exists_eq_left', exists_eq_right', Root.live.injEq, eq_self_iff_true, exists_eq, and_true, T.toSh, toShL_ints, toShL_intsO, intsO, rowsO]
          simp -implicitDefEqProofs only [List.append_nil, List.cons_append, Nat.reduceLeDiff, afterCall, absT_rowsO, absT_intsO, absT, absL, updL, updS, freeAll, rid, T.noSh, T.noShL, Nat.zero_le, go_sem, List.reduceReplicate, Nat.reduceEqDiff, Nat.reduceAdd, Nat.reduceLeDiff, Nat.reduceMul, Nat.reduceSub, Nat.reduceDiv, Int.reduceToNat, Nat.reduceLT, Int.reduceLT, Int.reduceLE, ↓reduceIte, reduceCtorEq, rat, forall_apply_eq_imp_iff₂, toNat_cast, redT, rat]
          refine ⟨fun h3 => hr _ ?_, fun h3 => ?_⟩
          · simp -implicitDefEqProofs only [go_sem, List.reduceReplicate, Nat.reduceEqDiff, Nat.reduceAdd, Nat.reduceLeDiff, Nat.reduceMul, Nat.reduceSub, Nat.reduceDiv, Int.reduceToNat, Nat.reduceLT, Int.reduceLT, Int.reduceLE, ↓reduceIte, reduceCtorEq, forall_apply_eq_imp_iff₂, ints, rows, rat, rats, toNat_cast]
            rw [hmB, ← hm, decide_eq_false (p := (addR (s1, s2) x).2 = 0) (by simpa using h3)]; simp
          · refine hn' _ (i + 1, (addR (s1, s2) x).1) (Weak.of _ _ [some 5] (by simp) (by simp) ?_ ?_) ⟨by simp only []; omega, ?_⟩ (by simp only []; omega)
            · simp -implicitDefEqProofs only [ints, rows, Nat.reduceBEq, Int.add_zero, envOK, maA, maT, upd_apply, Nat.reduceEqDiff, ↓reduceIte, and_true, true_or, or_true, List.map_cons, List.map_nil, Nat.zero_ne_one, and_self, true_and, Int.natCast_zero, Int.cast_ofNat_Int, Int.ofNat_zero, piOf, List.zip_cons_cons, List.zip_nil_right, List.lookup_cons, List.lookup_nil, beq_self_eq_true, rootsOK, mkRoots, mkEnv, rats, next64 (by omega : i < p.length) hp]
            · exact ⟨⟨_, rfl, .refl _⟩, rfl, trivial⟩
            · simp only []
              rw [← hm]
              have e1 : isRat x = true := by simpa using h1
              have e3 : (addR (s1, s2) x).2 = 0 := by simpa using h3
              rw [e1, e3, decide_eq_true (p := 0 ≤ x.1) (by omega)]; simp
        · simp -implicitDefEqProofs only [go_sem, List.reduceReplicate, Nat.reduceEqDiff, Nat.reduceAdd, Nat.reduceLeDiff, Nat.reduceMul, Nat.reduceSub, Nat.reduceDiv, Int.reduceToNat, Nat.reduceLT, Int.reduceLT, Int.reduceLE, ↓reduceIte, reduceCtorEq, forall_apply_eq_imp_iff₂, ints, rows, rat, rats, toNat_cast]
          rw [hmB, ← hm]
          have e1 : isRat x = false := by simpa using h1
          rw [e1]; simp
      · simp -implicitDefEqProofs only [go_sem, List.reduceReplicate, Nat.reduceEqDiff, Nat.reduceAdd, Nat.reduceLeDiff, Nat.reduceMul, Nat.reduceSub, Nat.reduceDiv, Int.reduceToNat, Nat.reduceLT, Int.reduceLT, Int.reduceLE, ↓reduceIte, reduceCtorEq, forall_apply_eq_imp_iff₂, ints, rows, rat, rats, toNat_cast]
        have hmB : isMixB p n = mixGo (0, 1) p := by rw [isMixB, decide_eq_true hn, decide_eq_true hl]; simp
        rw [hmB, ← hm, List.drop_of_length_le (by omega), mixGo]
        simp
  · rw [isMixB, decide_eq_false (p := 1 ≤ n ∧ n ≤ 4) (by simp at h; omega)]; simp

theorem spec_IsMix_ok (p : List (Int × Int)) (n : Int) (hp : p.length ≤ 1000000000000) : Pure Try.prog 36 [rats p, .i n] (.b (isMixB p n)) := by
  refine fun_spec_IsMix (by simp) ?_
  simp -implicitDefEqProofs only [go_sem, List.reduceReplicate, Nat.reduceEqDiff, Nat.reduceAdd, Nat.reduceLeDiff, Nat.reduceMul, Nat.reduceSub, Nat.reduceDiv, Int.reduceToNat, Nat.reduceLT, Int.reduceLT, Int.reduceLE, ↓reduceIte, reduceCtorEq, forall_apply_eq_imp_iff₂, ints, rows, rat, rats, toNat_cast, c_spec_IsMix]
  refine ⟨fun h => ?_, fun h => ?_⟩
  case refine_2 => rw [isMixB, decide_eq_false (p := (p.length : Int) = n) (by simpa using h)]; simp
  have hl : (p.length : Int) = n := by simpa using h
  refine CallW.pure (spec_l01In_ok n 1 4) [] rfl Try.call95 ?_ (by first | trivial | simp [T.noSh, T.noShL, rat]) rfl ?_
  · simp -implicitDefEqProofs only [Int.natCast_zero, Int.cast_ofNat_Int, Int.natCast_one, Nat.le_refl, Nat.reduceLeDiff, Nat.sub_self, Nat.reduceSub, List.getElem?_cons_zero, List.getElem?_cons_succ, vt_self, vaL, vtL, va, vt, vb, maT, List.cons_append, List.nil_append, List.append_nil, true_or, or_true, go_sem, List.reduceReplicate, Nat.reduceEqDiff, Nat.reduceAdd, Nat.reduceLeDiff, Nat.reduceMul, Nat.reduceSub, Nat.reduceDiv, Int.reduceToNat, Nat.reduceLT, Int.reduceLT, Int.reduceLE, ↓reduceIte, reduceCtorEq, ints, rows, rat, rats, ratsO, toShL_ratC, List.mem_cons, List.mem_nil_iff, List.not_mem_nil, or_false, false_or, exists_eq_left, exists_eq_left', exists_eq_right', Root.live.injEq, eq_self_iff_true, exists_eq, and_true, T.toSh, toShL_ints, toShL_intsO, intsO, rowsO]
  simp -implicitDefEqProofs only [go_sem, List.reduceReplicate, Nat.reduceEqDiff, Nat.reduceAdd, Nat.reduceLeDiff, Nat.reduceMul, Nat.reduceSub, Nat.reduceDiv, Int.reduceToNat, Nat.reduceLT, Int.reduceLT, Int.reduceLE, ↓reduceIte, reduceCtorEq, forall_apply_eq_imp_iff₂, ints, rows, rat, rats, toNat_cast]
  refine ⟨fun h => ?_, fun h => ?_⟩
  · rw [isMixB, decide_eq_false (p := 1 ≤ n ∧ n ≤ 4) (by simp at h; omega)]; simp
  have hn : 1 ≤ n ∧ n ≤ 4 := by simpa using h
  have hmB : isMixB p n = mixGo (0, 1) p := by rw [isMixB, decide_eq_true hn, decide_eq_true hl]; simp
  refine CallW.pure (spec_l19Whole_ok 0) [] rfl Try.call96 ?_ (by first | trivial | simp [T.noSh, T.noShL, rat]) rfl ?_
  · simp -implicitDefEqProofs only [Int.natCast_zero, Int.cast_ofNat_Int, Int.natCast_one, Nat.le_refl, Nat.reduceLeDiff, Nat.sub_self, Nat.reduceSub, List.getElem?_cons_zero, List.getElem?_cons_succ, vt_self, vaL, vtL, va, vt, vb, maT, List.cons_append, List.nil_append, List.append_nil, true_or, or_true, go_sem, List.reduceReplicate, Nat.reduceEqDiff, Nat.reduceAdd, Nat.reduceLeDiff, Nat.reduceMul, Nat.reduceSub, Nat.reduceDiv, Int.reduceToNat, Nat.reduceLT, Int.reduceLT, Int.reduceLE, ↓reduceIte, reduceCtorEq, ints, rows, rat, rats, ratsO, toShL_ratC, List.mem_cons, List.mem_nil_iff, List.not_mem_nil, or_false, false_or, exists_eq_left, exists_eq_left', exists_eq_right', Root.live.injEq, eq_self_iff_true, exists_eq, and_true, T.toSh, toShL_ints, toShL_intsO, intsO, rowsO]
  simp -implicitDefEqProofs only [go_sem, List.reduceReplicate, Nat.reduceEqDiff, Nat.reduceAdd, Nat.reduceLeDiff, Nat.reduceMul, Nat.reduceSub, Nat.reduceDiv, Int.reduceToNat, Nat.reduceLT, Int.reduceLT, Int.reduceLE, ↓reduceIte, reduceCtorEq, forall_apply_eq_imp_iff₂, ints, rows, rat, rats, toNat_cast]
  refine SemC.loopR (σ := Nat × Int × (Int × Int)) (fun s => St.of [(0, .t (rats p)), (5, .own 18), (6, .own 6), (7, .t (.i s.1))] [(6, .box [.i s.2.2.1, .i s.2.2.2]), (18, .box [.i s.2.1])]) (fun s => s.1 ≤ p.length ∧ mixSp s.2.1 s.2.2 (p.drop s.1) = mixSp 0 (0, 1) p) (fun s => p.length - s.1) (0, 0, (0, 1)) (Weak.of _ _ [some 6, some 18] (by simp) (by simp) ?_ ?_) ⟨by simp, rfl⟩ fun s hI R hn' hr he => ?_
  · simp -implicitDefEqProofs only [ints, rows, Nat.reduceBEq, Int.add_zero, envOK, maA, maT, upd_apply, Nat.reduceEqDiff, ↓reduceIte, and_true, true_or, or_true, List.map_cons, List.map_nil, Nat.zero_ne_one, and_self, true_and, Int.natCast_zero, Int.cast_ofNat_Int, Int.ofNat_zero, piOf, List.zip_cons_cons, List.zip_nil_right, List.lookup_cons, List.lookup_nil, beq_self_eq_true, rootsOK, mkRoots, mkEnv, rats]
  · exact ⟨⟨_, rfl, .refl _⟩, rfl, ⟨_, rfl, .refl _⟩, rfl, trivial⟩
  · obtain ⟨i, c, s1, s2⟩ := s
    obtain ⟨hi, hm⟩ := hI
    (try simp only [] at hi hm)
    rw [mixSp_eq, ← hmB] at hm
    simp -implicitDefEqProofs only [go_sem, List.reduceReplicate, Nat.reduceEqDiff, Nat.reduceAdd, Nat.reduceLeDiff, Nat.reduceMul, Nat.reduceSub, Nat.reduceDiv, Int.reduceToNat, Nat.reduceLT, Int.reduceLT, Int.reduceLE, ↓reduceIte, reduceCtorEq, forall_apply_eq_imp_iff₂, ints, rows, rat, rats, toNat_cast]
    refine ⟨fun h => ⟨by omega, by rw [ratC_length]; omega, by rw [ratC_length]; omega, ?_⟩, fun h => he _ _ ?_⟩
    · obtain ⟨x, hx⟩ : ∃ x, p[i]? = some x := ⟨_, List.getElem?_eq_getElem (by omega)⟩
      rw [ratC_at hx]
      rw [drop_of_get hx, mixSp] at hm
      refine CallW.pure (spec_IsRatio_ok x) [] rfl Try.call97 ?_ (by first | trivial | simp [T.noSh, T.noShL, rat]) rfl ?_
      · simp -implicitDefEqProofs only [Int.natCast_zero, Int.cast_ofNat_Int, Int.natCast_one, Nat.le_refl, Nat.reduceLeDiff, Nat.sub_self, Nat.reduceSub, List.getElem?_cons_zero, List.getElem?_cons_succ, vt_self, vaL, vtL, va, vt, vb, maT, List.cons_append, List.nil_append, List.append_nil, true_or, or_true, go_sem, List.reduceReplicate, Nat.reduceEqDiff, Nat.reduceAdd, Nat.reduceLeDiff, Nat.reduceMul, Nat.reduceSub, Nat.reduceDiv, Int.reduceToNat, Nat.reduceLT, Int.reduceLT, Int.reduceLE, ↓reduceIte, reduceCtorEq, ints, rows, rat, rats, ratsO, toShL_ratC, List.mem_cons, List.mem_nil_iff, List.not_mem_nil, or_false, false_or, exists_eq_left, exists_eq_left', exists_eq_right', Root.live.injEq, eq_self_iff_true, exists_eq, and_true, T.toSh, toShL_ints, toShL_intsO, intsO, rowsO]
      simp -implicitDefEqProofs only [go_sem, List.reduceReplicate, Nat.reduceEqDiff, Nat.reduceAdd, Nat.reduceLeDiff, Nat.reduceMul, Nat.reduceSub, Nat.reduceDiv, Int.reduceToNat, Nat.reduceLT, Int.reduceLT, Int.reduceLE, ↓reduceIte, reduceCtorEq, forall_apply_eq_imp_iff₂, ints, rows, rat, rats, toNat_cast, ratC_get1 hx]
      refine ⟨fun h1 => ⟨by omega, by rw [ratC_length]; omega, by rw [ratC_length]; omega, fun h2 => hr _ ?_, fun h2 => ?_⟩, fun h1 => hr _ ?_⟩
      · simp -implicitDefEqProofs only [go_sem, List.reduceReplicate, Nat.reduceEqDiff, Nat.reduceAdd, Nat.reduceLeDiff, Nat.reduceMul, Nat.reduceSub, Nat.reduceDiv, Int.reduceToNat, Nat.reduceLT, Int.reduceLT, Int.reduceLE, ↓reduceIte, reduceCtorEq, forall_apply_eq_imp_iff₂, ints, rows, rat, rats, toNat_cast]
        rw [← hm, decide_eq_false (p := 0 ≤ x.1) (by omega)]; simp
      · refine ⟨by omega, by rw [ratC_length]; omega, by rw [ratC_length]; omega, ?_⟩
        (try rw [ratC_at hx])
        refine CallH.ref (spec_l19Add_ok c (s1, s2) x) [18] [] rfl Try.call98 (by simp) ?_ (by simp) (fun e R' hR => ?_) (.inl rfl) ?_
        · simp -implicitDefEqProofs only [rootOf_arr, rootOf_box, rootOf_any, srcsOK, updL, updS, upd_apply, Nat.reduceEqDiff, ↓reduceIte, mkRoots, and_true, ints, rows, intsO, rowsO]
        · simp -implicitDefEqProofs only [Int.natCast_zero, Int.cast_ofNat_Int, Int.natCast_one, Nat.le_refl, Nat.reduceLeDiff, Nat.sub_self, Nat.reduceSub, List.getElem?_cons_zero, List.getElem?_cons_succ, vt_self, vaL, vtL, va, vt, vb, maT, List.cons_append, List.nil_append, List.append_nil, true_or, or_true, go_sem, List.reduceReplicate, Nat.reduceEqDiff, Nat.reduceAdd, Nat.reduceLeDiff, Nat.reduceMul, Nat.reduceSub, Nat.reduceDiv, Int.reduceToNat, Nat.reduceLT, Int.reduceLT, Int.reduceLE, ↓reduceIte, reduceCtorEq, ints, rows, rat, rats, ratsO, toShL_ratC, List.mem_cons, List.mem_nil_iff, List.not_mem_nil, or_false, false_or, exists_eq_left, exists_eq_left', exists_eq_right', Root.live.injEq, eq_self_iff_true, exists_eq, and_true, T.toSh, toShL_ints, toShL_intsO, intsO, rowsO]
        simp -implicitDefEqProofs only [List.append_nil, List.cons_append, Nat.reduceLeDiff, afterCall, absT_rowsO, absT_intsO, absT, absL, updL, updS, freeAll, rid, T.noSh, T.noShL, Nat.zero_le, go_sem, List.reduceReplicate, Nat.reduceEqDiff, Nat.reduceAdd, Nat.reduceLeDiff, Nat.reduceMul, Nat.reduceSub, Nat.reduceDiv, Int.reduceToNat, Nat.reduceLT, Int.reduceLT, Int.reduceLE, ↓reduceIte, reduceCtorEq, rat, forall_apply_eq_imp_iff₂, toNat_cast]
        refine hn' _ (i + 1, (stepA c (s1, s2) x).2, (stepA c (s1, s2) x).1) (Weak.of _ _ [some 6, some 18] (by simp) (by simp) ?_ ?_) ⟨by simp only []; omega, ?_⟩ (by simp only []; omega)
        · simp -implicitDefEqProofs only [ints, rows, Nat.reduceBEq, Int.add_zero, envOK, maA, maT, upd_apply, Nat.reduceEqDiff, ↓reduceIte, and_true, true_or, or_true, List.map_cons, List.map_nil, Nat.zero_ne_one, and_self, true_and, Int.natCast_zero, Int.cast_ofNat_Int, Int.ofNat_zero, piOf, List.zip_cons_cons, List.zip_nil_right, List.lookup_cons, List.lookup_nil, beq_self_eq_true, rootsOK, mkRoots, mkEnv, rats, next64 (by omega : i < p.length) hp]
        · exact ⟨⟨_, rfl, .refl _⟩, rfl, ⟨_, rfl, .refl _⟩, rfl, trivial⟩
        · simp only []
          rw [mixSp_eq, ← hmB, ← hm]
          have e1 : isRat x = true := by simpa using h1
          rw [e1, decide_eq_true (p := 0 ≤ x.1) (by omega)]; simp
      · simp -implicitDefEqProofs only [go_sem, List.reduceReplicate, Nat.reduceEqDiff, Nat.reduceAdd, Nat.reduceLeDiff, Nat.reduceMul, Nat.reduceSub, Nat.reduceDiv, Int.reduceToNat, Nat.reduceLT, Int.reduceLT, Int.reduceLE, ↓reduceIte, reduceCtorEq, forall_apply_eq_imp_iff₂, ints, rows, rat, rats, toNat_cast]
        rw [← hm]
        have e1 : isRat x = false := by simpa using h1
        rw [e1]; simp
    · simp -implicitDefEqProofs only [go_sem, List.reduceReplicate, Nat.reduceEqDiff, Nat.reduceAdd, Nat.reduceLeDiff, Nat.reduceMul, Nat.reduceSub, Nat.reduceDiv, Int.reduceToNat, Nat.reduceLT, Int.reduceLT, Int.reduceLE, ↓reduceIte, reduceCtorEq, forall_apply_eq_imp_iff₂, ints, rows, rat, rats, toNat_cast]
      rw [List.drop_of_length_le (by omega), mixSp] at hm
      refine ⟨fun h1 => ?_, fun h1 => ?_⟩
      · refine CallV.pure (spec_l19Whole_ok 1) [] rfl Try.call96 (fun e R' hR => ?_) (by first | trivial | simp [T.noSh, T.noShL, rat]) (fun _ => rfl) ?_
        · simp -implicitDefEqProofs only [Int.natCast_zero, Int.cast_ofNat_Int, Int.natCast_one, Nat.le_refl, Nat.reduceLeDiff, Nat.sub_self, Nat.reduceSub, List.getElem?_cons_zero, List.getElem?_cons_succ, vt_self, vaL, vtL, va, vt, vb, maT, List.cons_append, List.nil_append, List.append_nil, true_or, or_true, go_sem, List.reduceReplicate, Nat.reduceEqDiff, Nat.reduceAdd, Nat.reduceLeDiff, Nat.reduceMul, Nat.reduceSub, Nat.reduceDiv, Int.reduceToNat, Nat.reduceLT, Int.reduceLT, Int.reduceLE, ↓reduceIte, reduceCtorEq, ints, rows, rat, rats, ratsO, toShL_ratC, List.mem_cons, List.mem_nil_iff, List.not_mem_nil, or_false, false_or, exists_eq_left, exists_eq_left', exists_eq_right', Root.live.injEq, eq_self_iff_true, exists_eq, and_true, T.toSh, toShL_ints, toShL_intsO, intsO, rowsO]
        simp -implicitDefEqProofs only [go_sem, List.reduceReplicate, Nat.reduceEqDiff, Nat.reduceAdd, Nat.reduceLeDiff, Nat.reduceMul, Nat.reduceSub, Nat.reduceDiv, Int.reduceToNat, Nat.reduceLT, Int.reduceLT, Int.reduceLE, ↓reduceIte, reduceCtorEq, forall_apply_eq_imp_iff₂, ints, rows, rat, rats, toNat_cast]
        rw [← hm, decide_eq_true (p := c = 0) (by simpa using h1)]
        by_cases h : (s1, s2) = (1, 1) <;> simp_all
      · rw [← hm, decide_eq_false (p := c = 0) (by simpa using h1)]; simp
end Go.Ab

/- Contracts: lists of ratios in the laws; the law FnExactIsMix. -/
set_option linter.unusedSimpArgs false
set_option linter.unusedVariables false
namespace Go.Ab
open Go.Proofs

theorem laws_szRatioS_ok (l : List (Int × Int)) (left : Int) (hl : (l.length : Int) ≤ 9223372036854775807) (h0 : -1 ≤ left) (h1 : left ≤ 9223372036854775807) : Pure Try.prog 16 [rats l, .i left] (.i (budget l.length left)) := by
  refine fun_laws_szRatioS (by simp) ?_
  simp -implicitDefEqProofs only [go_sem, List.reduceReplicate, Nat.reduceEqDiff, Nat.reduceAdd, Nat.reduceLeDiff, Nat.reduceMul, Nat.reduceSub, Nat.reduceDiv, Int.reduceToNat, Nat.reduceLT, Int.reduceLT, Int.reduceLE, ↓reduceIte, reduceCtorEq, forall_apply_eq_imp_iff₂, ints, rows, rat, rats, toNat_cast, c_laws_szRatioS]
  rw [wrap64 (by omega) (by omega)]
  refine ⟨fun h => ?_, fun h => ?_⟩ <;> simp [budget, h]

theorem laws_toRatio_ok (r : Int × Int) : Pure Try.prog 84 [rat r] (rat r) := by
  refine fun_laws_toRatio (by simp) ?_
  simp -implicitDefEqProofs only [go_sem, List.reduceReplicate, Nat.reduceEqDiff, Nat.reduceAdd, Nat.reduceLeDiff, Nat.reduceMul, Nat.reduceSub, Nat.reduceDiv, Int.reduceToNat, Nat.reduceLT, Int.reduceLT, Int.reduceLE, ↓reduceIte, reduceCtorEq, forall_apply_eq_imp_iff₂, ints, rows, rat, rats, toNat_cast, c_laws_toRatio]

theorem laws_eqRatio_ok (a b : Int × Int) : Pure Try.prog 25 [rat a, rat b] (.b (decide (a = b))) := by
  obtain ⟨an, ad⟩ := a
  obtain ⟨bn, bd⟩ := b
  refine fun_laws_eqRatio (by simp) ?_
  simp -implicitDefEqProofs only [go_sem, List.reduceReplicate, Nat.reduceEqDiff, Nat.reduceAdd, Nat.reduceLeDiff, Nat.reduceMul, Nat.reduceSub, Nat.reduceDiv, Int.reduceToNat, Nat.reduceLT, Int.reduceLT, Int.reduceLE, ↓reduceIte, reduceCtorEq, forall_apply_eq_imp_iff₂, ints, rows, rat, rats, toNat_cast, c_laws_eqRatio]
  refine ⟨fun h => ?_, fun h => ⟨fun h' => ?_, fun h' => ?_⟩⟩
  · have : an ≠ bn := by simpa using h
    simp [this]
  · have : ad ≠ bd := by simpa using h'
    simp [this]
  · have e1 : an = bn := by simpa using h
    have e2 : ad = bd := by simpa using h'
    simp [e1, e2]

/-- A list of ratios that is half written. -/
def rfilled (l : List (Int × Int)) (i : Nat) : List (Int × Int) := l.take i ++ List.replicate (l.length - i) (0, 0)
theorem rfilled_length (l : List (Int × Int)) (i : Nat) (h : i ≤ l.length) : (rfilled l i).length = l.length := by simp [rfilled]; omega
theorem rfilled_all (l : List (Int × Int)) : rfilled l l.length = l := by simp [rfilled]
theorem ratC_replicate : ∀ (n : Nat), made [T.v (.int .i64 0), T.v (.int .i64 0)] n = ratC (List.replicate n (0, 0)) := by
  intro n
  refine List.ext_getElem? fun i => ?_
  have e : made [T.v (.int .i64 0), T.v (.int .i64 0)] n = (List.range (n * 2)).map fun i => [T.v (.int .i64 0), T.v (.int .i64 0)].getD (i % 2) .any := rfl
  rw [e]
  by_cases hi : i < n * 2
  · rw [List.getElem?_map, List.getElem?_range hi]
    have h2 : i / 2 < n := by omega
    have hx : (List.replicate n ((0 : Int), (0 : Int)))[i / 2]? = some (0, 0) := by rw [List.getElem?_replicate, if_pos h2]
    rcases Nat.mod_two_eq_zero_or_one i with h | h
    · have := ratC_get1 hx
      rw [show i / 2 * 2 = i by omega] at this
      rw [this, Option.map_some, h]; rfl
    · have := ratC_get2 hx
      rw [show i / 2 * 2 + 1 = i by omega] at this
      rw [this, Option.map_some, h]; rfl
  · rw [List.getElem?_eq_none (by simpa using hi), List.getElem?_eq_none (by rw [ratC_length]; simpa using hi)]
theorem ratC_set {l : List (Int × Int)} {i : Nat} (r : Int × Int) (h : i < l.length) : (ratC l).take (i * 2) ++ [T.i r.1, T.i r.2] ++ (ratC l).drop (i * 2 + 2) = ratC (l.set i r) := by
  rw [show i * 2 + 2 = (i + 1) * 2 by omega, ratC_take, ratC_drop, ← show ratC [r] = [T.i r.1, T.i r.2] from rfl, ← ratC_append, ← ratC_append]
  congr 1
  rw [List.set_eq_take_append_cons_drop, if_pos h]; simp
theorem rfilled_set {l : List (Int × Int)} {i : Nat} {x : Int × Int} (h : l[i]? = some x) : (rfilled l i).set i x = rfilled l (i + 1) := by
  obtain ⟨hi, rfl⟩ := List.getElem?_eq_some_iff.1 h
  rw [rfilled, rfilled, List.set_append_right _ _ (by simp; omega), List.take_succ_eq_append_getElem hi]
  have e : i - (l.take i).length = 0 := by simp; omega
  have e2 : l.length - i = (l.length - (i + 1)) + 1 := by omega
  rw [e, e2, List.replicate_succ, List.set_cons_zero]
  simp only [List.append_assoc, List.cons_append, List.nil_append]

theorem laws_toRatioS_ok (l : List (Int × Int)) (hl : (l.length : Int) ≤ 1000000000000) : Fun Try.prog 19 [] [.t (rats l)] fun o r => o = [] ∧ r = ratsO l := by
  refine fun_laws_toRatioS (by simp) ?_
  simp -implicitDefEqProofs only [go_sem, List.reduceReplicate, Nat.reduceEqDiff, Nat.reduceAdd, Nat.reduceLeDiff, Nat.reduceMul, Nat.reduceSub, Nat.reduceDiv, Int.reduceToNat, Nat.reduceLT, Int.reduceLT, Int.reduceLE, ↓reduceIte, reduceCtorEq, forall_apply_eq_imp_iff₂, ints, rows, rat, rats, toNat_cast, c_laws_toRatioS]
  refine ⟨by omega, by omega, ?_⟩
  refine SemC.loopR (σ := Nat) (fun i => St.of [(0, .t (rats l)), (3, .own 7), (4, .t (.i i))] [(7, .arr 2 (ratC (rfilled l i)))]) (fun i => i ≤ l.length) (fun i => l.length - i) 0 (Weak.of _ _ [some 7] (by simp) (by simp) ?_ ?_) (by simp) fun i hI R hn hr he => ?_
  · simp -implicitDefEqProofs only [ints, rows, Nat.reduceBEq, Int.add_zero, envOK, maA, maT, upd_apply, Nat.reduceEqDiff, ↓reduceIte, and_true, true_or, or_true, List.map_cons, List.map_nil, Nat.zero_ne_one, and_self, true_and, Int.natCast_zero, Int.cast_ofNat_Int, Int.ofNat_zero, piOf, List.zip_cons_cons, List.zip_nil_right, List.lookup_cons, List.lookup_nil, beq_self_eq_true, rootsOK, mkRoots, mkEnv, rats]
  · exact ⟨⟨_, rfl, by rw [ratC_replicate]; simp only [rfilled, List.take_zero, List.nil_append, Nat.sub_zero]; exact .refl _⟩, rfl, trivial⟩
  · have hlen := rfilled_length l i hI
    simp -implicitDefEqProofs only [go_sem, List.reduceReplicate, Nat.reduceEqDiff, Nat.reduceAdd, Nat.reduceLeDiff, Nat.reduceMul, Nat.reduceSub, Nat.reduceDiv, Int.reduceToNat, Nat.reduceLT, Int.reduceLT, Int.reduceLE, ↓reduceIte, reduceCtorEq, forall_apply_eq_imp_iff₂, ints, rows, rat, rats, toNat_cast]
    refine ⟨fun h => ⟨by omega, by rw [ratC_length]; omega, by rw [ratC_length]; omega, ?_⟩, fun h => he _ _ ?_⟩
    · obtain ⟨x, hx⟩ : ∃ x, l[i]? = some x := ⟨_, List.getElem?_eq_getElem (by omega)⟩
      rw [ratC_at hx]
      refine CallW.pure (laws_toRatio_ok x) [] rfl Try.call84 ?_ (by first | trivial | simp [T.noSh, T.noShL, rat]) rfl ?_
      · simp -implicitDefEqProofs only [Int.natCast_zero, Int.cast_ofNat_Int, Int.natCast_one, Nat.le_refl, Nat.reduceLeDiff, Nat.sub_self, Nat.reduceSub, List.getElem?_cons_zero, List.getElem?_cons_succ, vt_self, vaL, vtL, va, vt, vb, maT, List.cons_append, List.nil_append, List.append_nil, true_or, or_true, go_sem, List.reduceReplicate, Nat.reduceEqDiff, Nat.reduceAdd, Nat.reduceLeDiff, Nat.reduceMul, Nat.reduceSub, Nat.reduceDiv, Int.reduceToNat, Nat.reduceLT, Int.reduceLT, Int.reduceLE, ↓reduceIte, reduceCtorEq, ints, rows, rat, rats, ratsO, toShL_ratC, List.mem_cons, List.mem_nil_iff, List.not_mem_nil, or_false, false_or, exists_eq_left, exists_eq_left', exists_eq_right', Root.live.injEq, eq_self_iff_true, exists_eq, and_true, T.toSh, toShL_ints, toShL_intsO, intsO, rowsO]
      simp -implicitDefEqProofs only [go_sem, List.reduceReplicate, Nat.reduceEqDiff, Nat.reduceAdd, Nat.reduceLeDiff, Nat.reduceMul, Nat.reduceSub, Nat.reduceDiv, Int.reduceToNat, Nat.reduceLT, Int.reduceLT, Int.reduceLE, ↓reduceIte, reduceCtorEq, forall_apply_eq_imp_iff₂, ints, rows, rat, rats, toNat_cast]
      refine ⟨by omega, by rw [ratC_length]; omega, by rw [ratC_length]; omega, hn _ (i + 1) (Weak.of _ _ [some 7] (by simp) (by simp) ?_ ?_) (by omega) (by omega)⟩
      · simp -implicitDefEqProofs only [ints, rows, Nat.reduceBEq, Int.add_zero, envOK, maA, maT, upd_apply, Nat.reduceEqDiff, ↓reduceIte, and_true, true_or, or_true, List.map_cons, List.map_nil, Nat.zero_ne_one, and_self, true_and, Int.natCast_zero, Int.cast_ofNat_Int, Int.ofNat_zero, piOf, List.zip_cons_cons, List.zip_nil_right, List.lookup_cons, List.lookup_nil, beq_self_eq_true, rootsOK, mkRoots, mkEnv, rats, next64 (by omega : i < l.length) (by omega)]
      · refine ⟨⟨_, rfl, ?_⟩, rfl, trivial⟩
        (try simp only [List.cons_append, List.nil_append, List.append_assoc])
        have := ratC_set (l := rfilled l i) (i := i) x (by omega)
        simp only [List.append_assoc, List.cons_append, List.nil_append] at this
        rw [this, rfilled_set hx]; exact .refl _
    · simp -implicitDefEqProofs only [go_sem, List.reduceReplicate, Nat.reduceEqDiff, Nat.reduceAdd, Nat.reduceLeDiff, Nat.reduceMul, Nat.reduceSub, Nat.reduceDiv, Int.reduceToNat, Nat.reduceLT, Int.reduceLT, Int.reduceLE, ↓reduceIte, reduceCtorEq, forall_apply_eq_imp_iff₂, ints, rows, rat, rats, toNat_cast]
      have : i = l.length := by omega
      rw [this, rfilled_all]; rfl

theorem laws_eqRatioS_ok (a b : List (Int × Int)) (ha : a.length ≤ 1000000000000) (hb : b.length ≤ 1000000000000) : Pure Try.prog 22 [rats a, rats b] (.b (decide (a = b))) := by
  refine fun_laws_eqRatioS (by simp) ?_
  simp -implicitDefEqProofs only [go_sem, List.reduceReplicate, Nat.reduceEqDiff, Nat.reduceAdd, Nat.reduceLeDiff, Nat.reduceMul, Nat.reduceSub, Nat.reduceDiv, Int.reduceToNat, Nat.reduceLT, Int.reduceLT, Int.reduceLE, ↓reduceIte, reduceCtorEq, forall_apply_eq_imp_iff₂, ints, rows, rat, rats, toNat_cast, c_laws_eqRatioS]
  refine ⟨fun h => ?_, fun h => ?_⟩
  · have : a ≠ b := by rintro rfl; simp at h
    simp [this]
  · have hab : a.length = b.length := by simp at h; omega
    refine SemC.loopR (σ := Nat) (fun i => St.of [(0, .t (rats a)), (1, .t (rats b)), (5, .t (.i i))] []) (fun i => i ≤ a.length ∧ ∀ j, j < i → a[j]? = b[j]?) (fun i => a.length - i) 0 (Weak.of _ [] [] (by simp) (by simp) ?_ trivial) ⟨by simp, fun j hj => by omega⟩ fun i hI R hn hr he => ?_
    · simp -implicitDefEqProofs only [ints, rows, Int.add_zero, envOK, maA, maT, upd_apply, Nat.reduceEqDiff, ↓reduceIte, and_true, true_or, or_true, List.map_cons, List.map_nil, Nat.zero_ne_one, and_self, true_and, Int.natCast_zero, Int.cast_ofNat_Int, Int.ofNat_zero, rats]
    · simp -implicitDefEqProofs only [go_sem, List.reduceReplicate, Nat.reduceEqDiff, Nat.reduceAdd, Nat.reduceLeDiff, Nat.reduceMul, Nat.reduceSub, Nat.reduceDiv, Int.reduceToNat, Nat.reduceLT, Int.reduceLT, Int.reduceLE, ↓reduceIte, reduceCtorEq, forall_apply_eq_imp_iff₂, ints, rows, rat, rats, toNat_cast]
      refine ⟨fun h => ⟨by omega, by rw [ratC_length]; omega, by rw [ratC_length]; omega, by omega, by rw [ratC_length]; omega, by rw [ratC_length]; omega, ?_⟩, fun h => he _ _ ?_⟩
      · obtain ⟨x, hx⟩ : ∃ x, a[i]? = some x := ⟨_, List.getElem?_eq_getElem (by omega)⟩
        obtain ⟨y, hy⟩ : ∃ y, b[i]? = some y := ⟨_, List.getElem?_eq_getElem (by omega)⟩
        rw [ratC_at hx, ratC_at hy]
        refine CallV.pure (laws_eqRatio_ok x y) [] rfl Try.call25 (fun e R' hR => ?_) (by first | trivial | simp [T.noSh, T.noShL, rat]) (fun _ => rfl) ?_
        · simp -implicitDefEqProofs only [Int.natCast_zero, Int.cast_ofNat_Int, Int.natCast_one, Nat.le_refl, Nat.reduceLeDiff, Nat.sub_self, Nat.reduceSub, List.getElem?_cons_zero, List.getElem?_cons_succ, vt_self, vaL, vtL, va, vt, vb, maT, List.cons_append, List.nil_append, List.append_nil, true_or, or_true, go_sem, List.reduceReplicate, Nat.reduceEqDiff, Nat.reduceAdd, Nat.reduceLeDiff, Nat.reduceMul, Nat.reduceSub, Nat.reduceDiv, Int.reduceToNat, Nat.reduceLT, Int.reduceLT, Int.reduceLE, ↓reduceIte, reduceCtorEq, ints, rows, rat, rats, ratsO, toShL_ratC, List.mem_cons, List.mem_nil_iff, List.not_mem_nil, or_false, false_or, exists_eq_left, exists_eq_left', exists_eq_right', Root.live.injEq, eq_self_iff_true, exists_eq, and_true, T.toSh, toShL_ints, toShL_intsO, intsO, rowsO]
        simp -implicitDefEqProofs only [go_sem, List.reduceReplicate, Nat.reduceEqDiff, Nat.reduceAdd, Nat.reduceLeDiff, Nat.reduceMul, Nat.reduceSub, Nat.reduceDiv, Int.reduceToNat, Nat.reduceLT, Int.reduceLT, Int.reduceLE, ↓reduceIte, reduceCtorEq, forall_apply_eq_imp_iff₂, ints, rows, rat, rats, toNat_cast]
        refine ⟨fun h1 => hr _ ?_, fun h1 => hn _ (i + 1) (Weak.of _ [] [] (by simp) (by simp) ?_ trivial) ⟨by omega, fun j hj => ?_⟩ (by omega)⟩
        · simp -implicitDefEqProofs only [go_sem, List.reduceReplicate, Nat.reduceEqDiff, Nat.reduceAdd, Nat.reduceLeDiff, Nat.reduceMul, Nat.reduceSub, Nat.reduceDiv, Int.reduceToNat, Nat.reduceLT, Int.reduceLT, Int.reduceLE, ↓reduceIte, reduceCtorEq, forall_apply_eq_imp_iff₂, ints, rows, rat, rats, toNat_cast]
          have : a ≠ b := by rintro rfl; rw [hx] at hy; cases hy; simp at h1
          simp [this]
        · simp -implicitDefEqProofs only [ints, rows, Int.add_zero, envOK, maA, maT, upd_apply, Nat.reduceEqDiff, ↓reduceIte, and_true, true_or, or_true, List.map_cons, List.map_nil, Nat.zero_ne_one, and_self, true_and, Int.natCast_zero, Int.cast_ofNat_Int, Int.ofNat_zero, rats, next64 (by omega : i < a.length) ha]
        · rcases Nat.lt_or_ge j i with h | h
          · exact hI.2 j h
          · have : j = i := by omega
            subst this
            rw [hx, hy]; simpa using h1
      · simp -implicitDefEqProofs only [go_sem, List.reduceReplicate, Nat.reduceEqDiff, Nat.reduceAdd, Nat.reduceLeDiff, Nat.reduceMul, Nat.reduceSub, Nat.reduceDiv, Int.reduceToNat, Nat.reduceLT, Int.reduceLT, Int.reduceLE, ↓reduceIte, reduceCtorEq, forall_apply_eq_imp_iff₂, ints, rows, rat, rats, toNat_cast]
        have : a = b := by
          refine List.ext_getElem? fun j => ?_
          rcases Nat.lt_or_ge j i with h | h
          · exact hI.2 j h
          · rw [List.getElem?_eq_none (by omega), List.getElem?_eq_none (by omega)]
        simp [this]

end Go.Ab

/- Contracts: the turned matrix. -/
set_option linter.unusedSimpArgs false
set_option linter.unusedVariables false
namespace Go.Ab
open Go.Proofs

/-- A column of the first i rows. -/
def colI (m : List (List Int)) (k i : Nat) : List Int := (m.take i).map fun r => r.getD k 0
def colOf (m : List (List Int)) (k : Nat) : List Int := m.map fun r => r.getD k 0
def tr (m : List (List Int)) (c : Nat) : List (List Int) := (List.range c).map (colOf m)
/-- All rows have c numbers. -/
def rect (m : List (List Int)) (c : Nat) : Prop := ∀ r ∈ m, r.length = c
def tpart (m : List (List Int)) (c k i : Nat) : List (List Int) := (List.range c).map fun j => if j < k then colOf m j else if j = k then colI m j i else []
theorem tpart_length (m : List (List Int)) (c k i : Nat) : (tpart m c k i).length = c := by simp [tpart]
theorem tpart_get {m : List (List Int)} {c k i : Nat} (h : k < c) : (tpart m c k i)[k]? = some (colI m k i) := by simp [tpart, h]
theorem tpart_set {m : List (List Int)} {c k i : Nat} (h : k < c) {r : List Int} (hr : m[i]? = some r) : (tpart m c k i).set k (colI m k i ++ [r.getD k 0]) = tpart m c k (i + 1) := by
  refine List.ext_getElem? fun j => ?_
  rw [List.getElem?_set]
  by_cases hj : k = j
  · subst hj
    rw [if_pos rfl, if_pos (by rw [tpart_length]; exact h), tpart_get h, colI, colI, take_snoc hr]; simp
  · rw [if_neg hj]
    simp only [tpart, List.getElem?_map]
    by_cases hjc : j < c
    · rw [List.getElem?_range hjc]; simp only [Option.map_some, if_neg (Ne.symm hj)]
    · rw [List.getElem?_eq_none (by simpa using hjc)]; rfl
theorem tpart_zero (m : List (List Int)) (c : Nat) : tpart m c 0 0 = List.replicate c [] := by
  refine List.ext_getElem? fun j => ?_
  simp only [tpart, List.getElem?_map, List.getElem?_replicate]
  by_cases hjc : j < c
  · rw [List.getElem?_range hjc, if_pos hjc]; simp [colI]
  · rw [List.getElem?_eq_none (by simpa using hjc), if_neg hjc]; rfl
theorem tpart_next {m : List (List Int)} {c k : Nat} : tpart m c k m.length = tpart m c (k + 1) 0 := by
  refine List.map_congr_left fun j _ => ?_
  by_cases h1 : j < k
  · rw [if_pos h1, if_pos (by omega)]
  · by_cases h2 : j = k
    · rw [if_neg h1, if_pos h2, if_pos (by omega), colI, List.take_length]; rfl
    · rw [if_neg h1, if_neg h2, if_neg (by omega)]
      split
      · simp [colI]
      · rfl
theorem tpart_all (m : List (List Int)) (c : Nat) : tpart m c c 0 = tr m c := by
  refine List.map_congr_left fun j hj => ?_
  rw [if_pos (by simpa using hj)]

theorem le_nils (n : Nat) : Le (.arr 1 (List.replicate n (.v (.slice none 0 0)))) (.arr 1 ((List.replicate n ([] : List Int)).map intsO)) :=
  .arr 1 (by simp) fun i h h' => by simp [intsO]; exact .nilArr 1

theorem impl_turned_ok (m : List (List Int)) (c : Nat) (hm : m ≠ []) (hr : rect m c) (hml : m.length ≤ 1000000) (hcl : c ≤ 1000000) : Fun Try.prog 108 [] [.t (rows m)] fun o r => o = [] ∧ r = rowsO (tr m c) := by
  have hpos : 0 < m.length := List.length_pos_iff.2 hm
  refine fun_impl_turned (by simp) ?_
  simp -implicitDefEqProofs only [go_sem, List.reduceReplicate, Nat.reduceEqDiff, Nat.reduceAdd, Nat.reduceLeDiff, Nat.reduceMul, Nat.reduceSub, Nat.reduceDiv, Int.reduceToNat, Nat.reduceLT, Int.reduceLT, Int.reduceLE, ↓reduceIte, reduceCtorEq, forall_apply_eq_imp_iff₂, ints, rows, rat, rats, toNat_cast, c_impl_turned]
  refine ⟨by omega, by omega, fun r0 h0 => ?_⟩
  have hc0 : r0.length = c := hr r0 (List.mem_of_getElem? h0)
  rw [hc0]
  refine ⟨by omega, by omega, ?_⟩
  refine SemC.loopR (σ := Nat) (fun k => St.of [(0, .t (rows m)), (3, .own 11), (13, .t (.i c)), (14, .t (.i k))] [(11, .arr 1 ((tpart m c k 0).map intsO))]) (fun k => k ≤ c) (fun k => c - k) 0 (Weak.of _ _ [some 11] (by simp) (by simp) ?_ ?_) (by simp) fun k hk R hn hr' he => ?_
  · simp -implicitDefEqProofs only [ints, rows, Nat.reduceBEq, Int.add_zero, envOK, maA, maT, upd_apply, Nat.reduceEqDiff, ↓reduceIte, and_true, true_or, or_true, List.map_cons, List.map_nil, Nat.zero_ne_one, and_self, true_and, Int.natCast_zero, Int.cast_ofNat_Int, Int.ofNat_zero, piOf, List.zip_cons_cons, List.zip_nil_right, List.lookup_cons, List.lookup_nil, beq_self_eq_true, rootsOK, mkRoots, mkEnv, made_one, List.length_replicate]
  · exact ⟨⟨_, rfl, by rw [made_one, tpart_zero]; exact le_nils _⟩, rfl, trivial⟩
  · simp -implicitDefEqProofs only [go_sem, List.reduceReplicate, Nat.reduceEqDiff, Nat.reduceAdd, Nat.reduceLeDiff, Nat.reduceMul, Nat.reduceSub, Nat.reduceDiv, Int.reduceToNat, Nat.reduceLT, Int.reduceLT, Int.reduceLE, ↓reduceIte, reduceCtorEq, forall_apply_eq_imp_iff₂, ints, rows, rat, rats, toNat_cast]
    refine ⟨fun h => ?_, fun h => he _ _ ?_⟩
    · refine SemC.loopR (σ := Nat) (fun i => St.of [(0, .t (rows m)), (3, .own 11), (4, .t (.i k)), (13, .t (.i c)), (14, .t (.i k)), (17, .t (rows m)), (18, .t (.i m.length)), (19, .t (.i i))] [(11, .arr 1 ((tpart m c k i).map intsO))]) (fun i => i ≤ m.length) (fun i => m.length - i) 0 (Weak.of _ _ [some 11] (by simp) (by simp) ?_ ?_) (by simp) fun i hi R2 hn2 hr2 he2 => ?_
      · simp -implicitDefEqProofs only [ints, rows, Nat.reduceBEq, Int.add_zero, envOK, maA, maT, upd_apply, Nat.reduceEqDiff, ↓reduceIte, and_true, true_or, or_true, List.map_cons, List.map_nil, Nat.zero_ne_one, and_self, true_and, Int.natCast_zero, Int.cast_ofNat_Int, Int.ofNat_zero, piOf, List.zip_cons_cons, List.zip_nil_right, List.lookup_cons, List.lookup_nil, beq_self_eq_true, rootsOK, mkRoots, mkEnv]
      · exact ⟨⟨_, rfl, .refl _⟩, rfl, trivial⟩
      · have hlen := tpart_length m c k i
        simp -implicitDefEqProofs only [go_sem, List.reduceReplicate, Nat.reduceEqDiff, Nat.reduceAdd, Nat.reduceLeDiff, Nat.reduceMul, Nat.reduceSub, Nat.reduceDiv, Int.reduceToNat, Nat.reduceLT, Int.reduceLT, Int.reduceLE, ↓reduceIte, reduceCtorEq, forall_apply_eq_imp_iff₂, ints, rows, rat, rats, toNat_cast, hlen, intsO]
        refine ⟨fun h1 => ⟨by omega, by omega, by omega, fun r hrow => ⟨by omega, by omega, by omega, fun q hq => ?_⟩⟩, fun h1 => he2 _ _ ?_⟩
        · have hkc : k < c := by omega
          rw [tpart_get hkc] at hq; cases hq
          have hrl := hr r (List.mem_of_getElem? hrow)
          refine ⟨by omega, by omega, by omega, fun x hx => ⟨?_, by omega, by omega, by omega, hn2 _ (i + 1) (Weak.of _ _ [some 11] (by simp) (by simp) ?_ ?_) (by omega) (by omega)⟩⟩
          · simp [colI]; omega
          · simp -implicitDefEqProofs only [ints, rows, Nat.reduceBEq, Int.add_zero, envOK, maA, maT, upd_apply, Nat.reduceEqDiff, ↓reduceIte, and_true, true_or, or_true, List.map_cons, List.map_nil, Nat.zero_ne_one, and_self, true_and, Int.natCast_zero, Int.cast_ofNat_Int, Int.ofNat_zero, piOf, List.zip_cons_cons, List.zip_nil_right, List.lookup_cons, List.lookup_nil, beq_self_eq_true, rootsOK, mkRoots, mkEnv, next64 (by omega : i < m.length) (by omega)]
          · refine ⟨⟨_, rfl, ?_⟩, rfl, trivial⟩
            have e := tpart_set hkc hrow
            have hxk : r.getD k 0 = x := by rw [List.getD_eq_getElem?_getD, hx]; rfl
            rw [hxk] at e
            rw [← e, List.map_set]
            simp only [intsO, List.map_append, List.map_cons, List.map_nil]
            exact .refl _
        · simp -implicitDefEqProofs only [go_sem, List.reduceReplicate, Nat.reduceEqDiff, Nat.reduceAdd, Nat.reduceLeDiff, Nat.reduceMul, Nat.reduceSub, Nat.reduceDiv, Int.reduceToNat, Nat.reduceLT, Int.reduceLT, Int.reduceLE, ↓reduceIte, reduceCtorEq, forall_apply_eq_imp_iff₂, ints, rows, rat, rats, toNat_cast]
          have : i = m.length := by omega
          subst this
          refine hn _ (k + 1) (Weak.of _ _ [some 11] (by simp) (by simp) ?_ ?_) (by omega) (by omega)
          · simp -implicitDefEqProofs only [ints, rows, Nat.reduceBEq, Int.add_zero, envOK, maA, maT, upd_apply, Nat.reduceEqDiff, ↓reduceIte, and_true, true_or, or_true, List.map_cons, List.map_nil, Nat.zero_ne_one, and_self, true_and, Int.natCast_zero, Int.cast_ofNat_Int, Int.ofNat_zero, piOf, List.zip_cons_cons, List.zip_nil_right, List.lookup_cons, List.lookup_nil, beq_self_eq_true, rootsOK, mkRoots, mkEnv, next64 (by omega : k < c) (by omega)]
          · exact ⟨⟨_, rfl, by rw [tpart_next]; exact .refl _⟩, rfl, trivial⟩
    · simp -implicitDefEqProofs only [go_sem, List.reduceReplicate, Nat.reduceEqDiff, Nat.reduceAdd, Nat.reduceLeDiff, Nat.reduceMul, Nat.reduceSub, Nat.reduceDiv, Int.reduceToNat, Nat.reduceLT, Int.reduceLT, Int.reduceLE, ↓reduceIte, reduceCtorEq, forall_apply_eq_imp_iff₂, ints, rows, rat, rats, toNat_cast]
      have : k = c := by omega
      subst this
      rw [tpart_all]; rfl
end Go.Ab

/- Contracts: saddle points. -/
set_option linter.unusedSimpArgs false
set_option linter.unusedVariables false
namespace Go.Ab
open Go.Proofs

theorem isMat_spec {m : List (List Int)} (h : isMat m = true) : 1 ≤ m.length ∧ m.length ≤ 4 ∧ 1 ≤ (m.headD []).length ∧ (m.headD []).length ≤ 4 ∧ rect m (m.headD []).length ∧ ∀ r ∈ m, ∀ x ∈ r, -20 ≤ x ∧ x ≤ 20 := by
  simp only [isMat, Bool.and_eq_true, decide_eq_true_eq, List.all_eq_true, rowOK] at h
  exact ⟨h.1.1.1, h.1.1.2, h.1.2.1, h.1.2.2, fun r hr => (h.2 r hr).1, fun r hr x hx => (h.2 r hr).2 x hx⟩
end Go.Ab

/- The law FnExactSaddlePoint, as a contract. -/
set_option linter.unusedSimpArgs false
set_option linter.unusedVariables false
namespace Go.Ab
open Go.Proofs

end Go.Ab

/- Contracts: marks of lists of rows. -/
set_option linter.unusedSimpArgs false
set_option linter.unusedVariables false
namespace Go.Ab
open Go.Proofs

/-- How many numbers. -/
def tot : List (List Int) → Nat
  | [] => 0
  | r :: m => r.length + tot m
end Go.Ab

/- The law FnExactDominatedRows, as a contract. -/
set_option linter.unusedSimpArgs false
set_option linter.unusedVariables false
namespace Go.Ab
open Go.Proofs

theorem budgetRows_tot : ∀ {m : List (List Int)} {left : Int}, 0 ≤ left → 0 ≤ budgetRows m left → (tot m : Int) ≤ left
  | [], left, _, _ => by simp [tot]; assumption
  | x :: m, left, h0, h => by
    simp only [budgetRows] at h
    split at h
    · omega
    · have := budgetRows_tot (by omega) h
      simp only [tot]; omega
theorem budgetMat_tot {m : List (List Int)} {left : Int} (h0 : 0 ≤ left) (h : 0 ≤ budgetMat m left) : (tot m : Int) ≤ left := by
  simp only [budgetMat] at h
  split at h
  · omega
  · have := budgetRows_tot (by omega) h; omega
end Go.Ab

/- Contracts: the flipped matrix, the reference. -/
set_option linter.unusedSimpArgs false
set_option linter.unusedVariables false
namespace Go.Ab
open Go.Proofs

def neg (l : List Int) : List Int := l.map fun x => -x
end Go.Ab

/- Contracts: a matrix without a row and a column. -/
set_option linter.unusedSimpArgs false
set_option linter.unusedVariables false
namespace Go.Ab
open Go.Proofs

def without (m : List (List Int)) (r c : Nat) : List (List Int) := (m.eraseIdx r).map fun l => l.eraseIdx c
end Go.Ab

/- Contracts: adjugates. -/
set_option linter.unusedSimpArgs false
set_option linter.unusedVariables false
namespace Go.Ab
open Go.Proofs

/-- Rows that are filled one after the other: the first i are full, the next one holds cur. -/
def parts (full : Nat → List Int) (cur : List Int) (n i : Nat) : List (List Int) := (List.range n).map fun j => if j < i then full j else if j = i then cur else []
end Go.Ab

/- Contracts: sums of products of ratios, gains; the program's. -/
set_option linter.unusedSimpArgs false
set_option linter.unusedVariables false
namespace Go.Ab
open Go.Proofs

theorem impl_MultiplyRatios_p (a b : Int × Int) : Pure Try.prog 131 [rat a, rat b] (redT (mulR a b)) := impl_MultiplyRatios_ok a b
theorem impl_AddRatios_p (a b : Int × Int) : Pure Try.prog 37 [rat a, rat b] (redT (addR a b)) := impl_AddRatios_ok a b

/-- The sum of products, formed in order, or the first error. -/
def spGo : Int × Int → List ((Int × Int) × (Int × Int)) → (Int × Int) × Int
  | s, [] => (s, 0)
  | s, x :: l => if (mulR x.1 x.2).2 ≠ 0 then ((0, 0), (mulR x.1 x.2).2) else if (addR s (mulR x.1 x.2).1).2 ≠ 0 then ((0, 0), (addR s (mulR x.1 x.2).1).2) else spGo (addR s (mulR x.1 x.2).1).1 l
def spR (a b : List (Int × Int)) : (Int × Int) × Int := spGo (0, 1) (a.zip b)
theorem zip_get {α β : Type} {a : List α} {b : List β} {i : Nat} {x : α} {y : β} (hx : a[i]? = some x) (hy : b[i]? = some y) : (a.zip b)[i]? = some (x, y) := by
  rw [List.getElem?_zip_eq_some]; exact ⟨hx, hy⟩

theorem impl_sumOfProducts_ok (a b : List (Int × Int)) (hab : a.length ≤ b.length) (ha : a.length ≤ 1000000000000) : Pure Try.prog 105 [rats a, rats b] (redT (spR a b)) := by
  refine fun_impl_sumOfProducts (by simp) ?_
  simp -implicitDefEqProofs only [go_sem, List.reduceReplicate, Nat.reduceEqDiff, Nat.reduceAdd, Nat.reduceLeDiff, Nat.reduceMul, Nat.reduceSub, Nat.reduceDiv, Int.reduceToNat, Nat.reduceLT, Int.reduceLT, Int.reduceLE, ↓reduceIte, reduceCtorEq, forall_apply_eq_imp_iff₂, ints, rows, rat, rats, toNat_cast, c_impl_sumOfProducts]
  refine SemC.loopR (σ := Nat × (Int × Int)) (fun s => St.of [(0, .t (rats a)), (1, .t (rats b)), (4, .own 4), (6, .own 6), (12, .t (.i a.length)), (13, .t (.i s.1))] [(4, .box [.i 0, .i 0]), (6, .box [.i s.2.1, .i s.2.2])]) (fun s => s.1 ≤ a.length ∧ spGo s.2 ((a.zip b).drop s.1) = spR a b) (fun s => a.length - s.1) (0, (0, 1)) (Weak.of _ _ [some 4, some 6] (by simp) (by simp) ?_ ?_) ⟨by simp, rfl⟩ fun s hI R hn hr he => ?_
  · simp -implicitDefEqProofs only [ints, rows, Nat.reduceBEq, Int.add_zero, envOK, maA, maT, upd_apply, Nat.reduceEqDiff, ↓reduceIte, and_true, true_or, or_true, List.map_cons, List.map_nil, Nat.zero_ne_one, and_self, true_and, Int.natCast_zero, Int.cast_ofNat_Int, Int.ofNat_zero, piOf, List.zip_cons_cons, List.zip_nil_right, List.lookup_cons, List.lookup_nil, beq_self_eq_true, rootsOK, mkRoots, mkEnv, rats]
  · exact ⟨⟨_, rfl, .refl _⟩, rfl, ⟨_, rfl, .refl _⟩, rfl, trivial⟩
  · obtain ⟨i, s1, s2⟩ := s
    obtain ⟨hi, hm⟩ := hI
    (try simp only [] at hi hm)
    simp -implicitDefEqProofs only [go_sem, List.reduceReplicate, Nat.reduceEqDiff, Nat.reduceAdd, Nat.reduceLeDiff, Nat.reduceMul, Nat.reduceSub, Nat.reduceDiv, Int.reduceToNat, Nat.reduceLT, Int.reduceLT, Int.reduceLE, ↓reduceIte, reduceCtorEq, forall_apply_eq_imp_iff₂, ints, rows, rat, rats, toNat_cast]
    refine ⟨fun h => ?_, fun h => he _ _ ?_⟩
    · obtain ⟨x, hx⟩ : ∃ x, a[i]? = some x := ⟨_, List.getElem?_eq_getElem (by omega)⟩
      obtain ⟨y, hy⟩ : ∃ y, b[i]? = some y := ⟨_, List.getElem?_eq_getElem (by omega)⟩
      refine ⟨by omega, by rw [ratC_length]; omega, by rw [ratC_length]; omega, by omega, by rw [ratC_length]; omega, by rw [ratC_length]; omega, ?_⟩
      rw [ratC_at hx, ratC_at hy]
      rw [drop_of_get (zip_get hx hy), spGo] at hm
      refine CallV.pure (impl_MultiplyRatios_p x y) [] rfl Try.call131 (fun e R' hR => ?_) (by first | trivial | simp [T.noSh, T.noShL, rat]) (fun _ => rfl) ?_
      · simp -implicitDefEqProofs only [Int.natCast_zero, Int.cast_ofNat_Int, Int.natCast_one, Nat.le_refl, Nat.reduceLeDiff, Nat.sub_self, Nat.reduceSub, List.getElem?_cons_zero, List.getElem?_cons_succ, vt_self, vaL, vtL, va, vt, vb, maT, List.cons_append, List.nil_append, List.append_nil, true_or, or_true, go_sem, List.reduceReplicate, Nat.reduceEqDiff, Nat.reduceAdd, Nat.reduceLeDiff, Nat.reduceMul, Nat.reduceSub, Nat.reduceDiv, Int.reduceToNat, Nat.reduceLT, Int.reduceLT, Int.reduceLE, ↓reduceIte, reduceCtorEq, ints, rows, rat, rats, ratsO, toShL_ratC, List.mem_cons, List.mem_nil_iff, List.not_mem_nil, or_false, false_or, exists_eq_left, exists_eq_left', exists_eq_right', Root.live.injEq, eq_self_iff_true, exists_eq, and_true, T.toSh, toShL_ints, toShL_intsO, intsO, rowsO]
      simp -implicitDefEqProofs only [go_sem, List.reduceReplicate, Nat.reduceEqDiff, Nat.reduceAdd, Nat.reduceLeDiff, Nat.reduceMul, Nat.reduceSub, Nat.reduceDiv, Int.reduceToNat, Nat.reduceLT, Int.reduceLT, Int.reduceLE, ↓reduceIte, reduceCtorEq, forall_apply_eq_imp_iff₂, ints, rows, rat, rats, toNat_cast, redT, rat]
      refine ⟨fun h1 => hr _ ?_, fun h1 => ?_⟩
      · have h1 : (mulR x y).2 ≠ 0 := by simpa using h1
        simp -implicitDefEqProofs only [go_sem, List.reduceReplicate, Nat.reduceEqDiff, Nat.reduceAdd, Nat.reduceLeDiff, Nat.reduceMul, Nat.reduceSub, Nat.reduceDiv, Int.reduceToNat, Nat.reduceLT, Int.reduceLT, Int.reduceLE, ↓reduceIte, reduceCtorEq, forall_apply_eq_imp_iff₂, ints, rows, rat, rats, toNat_cast]
        rw [← hm, if_pos h1]; rfl
      · have h1 : (mulR x y).2 = 0 := by simpa using h1
        rw [if_neg (by simp [h1])] at hm
        refine CallW.pure (impl_AddRatios_p (s1, s2) (mulR x y).1) [] rfl Try.call37 ?_ (by first | trivial | simp [T.noSh, T.noShL, rat]) rfl ?_
        · simp -implicitDefEqProofs only [Int.natCast_zero, Int.cast_ofNat_Int, Int.natCast_one, Nat.le_refl, Nat.reduceLeDiff, Nat.sub_self, Nat.reduceSub, List.getElem?_cons_zero, List.getElem?_cons_succ, vt_self, vaL, vtL, va, vt, vb, maT, List.cons_append, List.nil_append, List.append_nil, true_or, or_true, go_sem, List.reduceReplicate, Nat.reduceEqDiff, Nat.reduceAdd, Nat.reduceLeDiff, Nat.reduceMul, Nat.reduceSub, Nat.reduceDiv, Int.reduceToNat, Nat.reduceLT, Int.reduceLT, Int.reduceLE, ↓reduceIte, reduceCtorEq, ints, rows, rat, rats, ratsO, toShL_ratC, List.mem_cons, List.mem_nil_iff, List.not_mem_nil, or_false, false_or, exists_eq_left, exists_eq_left', exists_eq_right', Root.live.injEq, eq_self_iff_true, exists_eq, and_true, T.toSh, toShL_ints, toShL_intsO, intsO, rowsO]
        simp -implicitDefEqProofs only [go_sem, List.reduceReplicate, Nat.reduceEqDiff, Nat.reduceAdd, Nat.reduceLeDiff, Nat.reduceMul, Nat.reduceSub, Nat.reduceDiv, Int.reduceToNat, Nat.reduceLT, Int.reduceLT, Int.reduceLE, ↓reduceIte, reduceCtorEq, forall_apply_eq_imp_iff₂, ints, rows, rat, rats, toNat_cast, redT, rat]
        refine ⟨fun h2 => hr _ ?_, fun h2 => ?_⟩
        · have h2 : (addR (s1, s2) (mulR x y).1).2 ≠ 0 := by simpa using h2
          simp -implicitDefEqProofs only [go_sem, List.reduceReplicate, Nat.reduceEqDiff, Nat.reduceAdd, Nat.reduceLeDiff, Nat.reduceMul, Nat.reduceSub, Nat.reduceDiv, Int.reduceToNat, Nat.reduceLT, Int.reduceLT, Int.reduceLE, ↓reduceIte, reduceCtorEq, forall_apply_eq_imp_iff₂, ints, rows, rat, rats, toNat_cast]
          rw [← hm, if_pos h2]; rfl
        · have h2 : (addR (s1, s2) (mulR x y).1).2 = 0 := by simpa using h2
          rw [if_neg (by simp [h2])] at hm
          refine hn _ (i + 1, (addR (s1, s2) (mulR x y).1).1) (Weak.of _ _ [some 4, some 6] (by simp) (by simp) ?_ ?_) ⟨by simp only []; omega, hm⟩ (by simp only []; omega)
          · simp -implicitDefEqProofs only [ints, rows, Nat.reduceBEq, Int.add_zero, envOK, maA, maT, upd_apply, Nat.reduceEqDiff, ↓reduceIte, and_true, true_or, or_true, List.map_cons, List.map_nil, Nat.zero_ne_one, and_self, true_and, Int.natCast_zero, Int.cast_ofNat_Int, Int.ofNat_zero, piOf, List.zip_cons_cons, List.zip_nil_right, List.lookup_cons, List.lookup_nil, beq_self_eq_true, rootsOK, mkRoots, mkEnv, rats, next64 (by omega : i < a.length) ha]
          · exact ⟨⟨_, rfl, .refl _⟩, rfl, ⟨_, rfl, .refl _⟩, rfl, trivial⟩
    · simp -implicitDefEqProofs only [go_sem, List.reduceReplicate, Nat.reduceEqDiff, Nat.reduceAdd, Nat.reduceLeDiff, Nat.reduceMul, Nat.reduceSub, Nat.reduceDiv, Int.reduceToNat, Nat.reduceLT, Int.reduceLT, Int.reduceLE, ↓reduceIte, reduceCtorEq, forall_apply_eq_imp_iff₂, ints, rows, rat, rats, toNat_cast]
      rw [List.drop_of_length_le (by rw [List.length_zip]; omega), spGo] at hm
      rw [← hm]; rfl
end Go.Ab

/- Contracts: sums of products of ratios, gains; the reference's. -/
set_option linter.unusedSimpArgs false
set_option linter.unusedVariables false
namespace Go.Ab
open Go.Proofs

/-- The same with a code that stops all. -/
def gainGo : Int → Int × Int → List ((Int × Int) × (Int × Int)) → (Int × Int) × Int
  | c, s, [] => (s, c)
  | c, s, x :: l => gainGo (stepA (stepM c x.1 x.2).2 s (stepM c x.1 x.2).1).2 (stepA (stepM c x.1 x.2).2 s (stepM c x.1 x.2).1).1 l
theorem stepA_err {c : Int} (h : c ≠ 0) (a b : Int × Int) : stepA c a b = ((0, 1), c) := if_pos h
theorem stepM_err {c : Int} (h : c ≠ 0) (a b : Int × Int) : stepM c a b = ((0, 1), c) := if_pos h
theorem stepA_zero (a b : Int × Int) : stepA 0 a b = addR a b := if_neg (by simp)
theorem stepM_zero (a b : Int × Int) : stepM 0 a b = mulR a b := if_neg (by simp)
theorem gainGo_err : ∀ (l : List ((Int × Int) × (Int × Int))) (c : Int) (s : Int × Int), c ≠ 0 → (gainGo c s l).2 = c
  | [], c, s, h => rfl
  | x :: l, c, s, h => by rw [gainGo, stepM_err h, stepA_err h]; exact gainGo_err l c _ h
theorem gainGo_spec : ∀ (l : List ((Int × Int) × (Int × Int))) (s : Int × Int), (gainGo 0 s l).2 = (spGo s l).2 ∧ ((spGo s l).2 = 0 → (gainGo 0 s l).1 = (spGo s l).1)
  | [], s => ⟨rfl, fun _ => rfl⟩
  | x :: l, s => by
    rw [gainGo, spGo, stepM_zero]
    by_cases h1 : (mulR x.1 x.2).2 = 0
    · rw [h1, stepA_zero, if_neg (by simp)]
      by_cases h2 : (addR s (mulR x.1 x.2).1).2 = 0
      · rw [h2, if_neg (by simp)]; exact gainGo_spec l _
      · rw [if_pos h2]; exact ⟨gainGo_err l _ _ h2, fun h => absurd h h2⟩
    · rw [if_pos h1, stepA_err h1]; exact ⟨gainGo_err l _ _ h1, fun h => absurd h h1⟩

def ones (r : List Int) : List (Int × Int) := r.map fun x => (x, 1)
theorem ones_length (r : List Int) : (ones r).length = r.length := by simp [ones]
theorem ones_get {r : List Int} {i : Nat} {x : Int} (h : r[i]? = some x) : (ones r)[i]? = some (x, 1) := by simp [ones, h]
def gainC (c : Int) (q : List (Int × Int)) (r : List Int) : (Int × Int) × Int := gainGo c (0, 1) (q.zip (ones r))

theorem spec_l26Gain_ok (c : Int) (q : List (Int × Int)) (r : List Int) (hqr : q.length ≤ r.length) (hq : q.length ≤ 1000000000000) : Fun Try.prog 130 [.box [.i c]] [.own 1000000000, .t (rats q), .t (ints r)] fun o res => o = [.box [.i (gainC c q r).2]] ∧ res = rat (gainC c q r).1 := by
  refine fun_spec_l26Gain (by simp) ?_
  simp -implicitDefEqProofs only [go_sem, List.reduceReplicate, Nat.reduceEqDiff, Nat.reduceAdd, Nat.reduceLeDiff, Nat.reduceMul, Nat.reduceSub, Nat.reduceDiv, Int.reduceToNat, Nat.reduceLT, Int.reduceLT, Int.reduceLE, ↓reduceIte, reduceCtorEq, forall_apply_eq_imp_iff₂, ints, rows, rat, rats, toNat_cast, c_spec_l26Gain]
  refine CallW.pure (spec_l19Whole_ok 0) [] rfl Try.call96 ?_ (by first | trivial | simp [T.noSh, T.noShL, rat]) rfl ?_
  · simp -implicitDefEqProofs only [Int.natCast_zero, Int.cast_ofNat_Int, Int.natCast_one, Nat.le_refl, Nat.reduceLeDiff, Nat.sub_self, Nat.reduceSub, List.getElem?_cons_zero, List.getElem?_cons_succ, vt_self, vaL, vtL, va, vt, vb, maT, List.cons_append, List.nil_append, List.append_nil, true_or, or_true, go_sem, List.reduceReplicate, Nat.reduceEqDiff, Nat.reduceAdd, Nat.reduceLeDiff, Nat.reduceMul, Nat.reduceSub, Nat.reduceDiv, Int.reduceToNat, Nat.reduceLT, Int.reduceLT, Int.reduceLE, ↓reduceIte, reduceCtorEq, ints, rows, rat, rats, ratsO, toShL_ratC, List.mem_cons, List.mem_nil_iff, List.not_mem_nil, or_false, false_or, exists_eq_left, exists_eq_left', exists_eq_right', Root.live.injEq, eq_self_iff_true, exists_eq, and_true, T.toSh, toShL_ints, toShL_intsO, intsO, rowsO]
  simp -implicitDefEqProofs only [go_sem, List.reduceReplicate, Nat.reduceEqDiff, Nat.reduceAdd, Nat.reduceLeDiff, Nat.reduceMul, Nat.reduceSub, Nat.reduceDiv, Int.reduceToNat, Nat.reduceLT, Int.reduceLT, Int.reduceLE, ↓reduceIte, reduceCtorEq, forall_apply_eq_imp_iff₂, ints, rows, rat, rats, toNat_cast]
  refine SemC.loopR (σ := Nat × Int × (Int × Int)) (fun s => St.of [(0, .own 1000000000), (1, .t (rats q)), (2, .t (ints r)), (6, .own 6), (7, .own 7), (8, .t (.i s.1))] [(6, .box [.i 0, .i 0]), (7, .box [.i s.2.2.1, .i s.2.2.2]), (1000000000, .box [.i s.2.1])]) (fun s => s.1 ≤ q.length ∧ gainGo s.2.1 s.2.2 ((q.zip (ones r)).drop s.1) = gainC c q r) (fun s => q.length - s.1) (0, c, (0, 1)) (Weak.of _ _ [some 6, some 7, some 1000000000] (by simp) (by simp) ?_ ?_) ⟨by simp, rfl⟩ fun s hI R hn' hr he => ?_
  · simp -implicitDefEqProofs only [ints, rows, Nat.reduceBEq, Int.add_zero, envOK, maA, maT, upd_apply, Nat.reduceEqDiff, ↓reduceIte, and_true, true_or, or_true, List.map_cons, List.map_nil, Nat.zero_ne_one, and_self, true_and, Int.natCast_zero, Int.cast_ofNat_Int, Int.ofNat_zero, piOf, List.zip_cons_cons, List.zip_nil_right, List.lookup_cons, List.lookup_nil, beq_self_eq_true, rootsOK, mkRoots, mkEnv, rats]
  · exact ⟨⟨_, rfl, .refl _⟩, rfl, ⟨_, rfl, .refl _⟩, rfl, ⟨_, rfl, .refl _⟩, rfl, trivial⟩
  · obtain ⟨i, c', s1, s2⟩ := s
    obtain ⟨hi, hm⟩ := hI
    (try simp only [] at hi hm)
    simp -implicitDefEqProofs only [go_sem, List.reduceReplicate, Nat.reduceEqDiff, Nat.reduceAdd, Nat.reduceLeDiff, Nat.reduceMul, Nat.reduceSub, Nat.reduceDiv, Int.reduceToNat, Nat.reduceLT, Int.reduceLT, Int.reduceLE, ↓reduceIte, reduceCtorEq, forall_apply_eq_imp_iff₂, ints, rows, rat, rats, toNat_cast]
    refine ⟨fun h => ?_, fun h => he _ _ ?_⟩
    · obtain ⟨x, hx⟩ : ∃ x, q[i]? = some x := ⟨_, List.getElem?_eq_getElem (by omega)⟩
      obtain ⟨y, hy⟩ : ∃ y, r[i]? = some y := ⟨_, List.getElem?_eq_getElem (by omega)⟩
      rw [drop_of_get (zip_get hx (ones_get hy)), gainGo] at hm
      refine ⟨by omega, by rw [ratC_length]; omega, by rw [ratC_length]; omega, by omega, by omega, by omega, fun y' hy' => ?_⟩
      rw [hy] at hy'; cases hy'
      rw [ratC_at hx]
      refine CallV.pure (spec_l19Whole_ok y) [] rfl Try.call96 (fun e R' hR => ?_) (by first | trivial | simp [T.noSh, T.noShL, rat]) (fun _ => rfl) ?_
      · simp -implicitDefEqProofs only [Int.natCast_zero, Int.cast_ofNat_Int, Int.natCast_one, Nat.le_refl, Nat.reduceLeDiff, Nat.sub_self, Nat.reduceSub, List.getElem?_cons_zero, List.getElem?_cons_succ, vt_self, vaL, vtL, va, vt, vb, maT, List.cons_append, List.nil_append, List.append_nil, true_or, or_true, go_sem, List.reduceReplicate, Nat.reduceEqDiff, Nat.reduceAdd, Nat.reduceLeDiff, Nat.reduceMul, Nat.reduceSub, Nat.reduceDiv, Int.reduceToNat, Nat.reduceLT, Int.reduceLT, Int.reduceLE, ↓reduceIte, reduceCtorEq, ints, rows, rat, rats, ratsO, toShL_ratC, List.mem_cons, List.mem_nil_iff, List.not_mem_nil, or_false, false_or, exists_eq_left, exists_eq_left', exists_eq_right', Root.live.injEq, eq_self_iff_true, exists_eq, and_true, T.toSh, toShL_ints, toShL_intsO, intsO, rowsO]
      simp -implicitDefEqProofs only [go_sem, List.reduceReplicate, Nat.reduceEqDiff, Nat.reduceAdd, Nat.reduceLeDiff, Nat.reduceMul, Nat.reduceSub, Nat.reduceDiv, Int.reduceToNat, Nat.reduceLT, Int.reduceLT, Int.reduceLE, ↓reduceIte, reduceCtorEq, forall_apply_eq_imp_iff₂, ints, rows, rat, rats, toNat_cast]
      refine CallH.ref (spec_l19Times_ok c' x (y, 1)) [1000000000] [] rfl Try.call132 (by simp) ?_ (by simp) (fun e R' hR => ?_) (.inl rfl) ?_
      · simp -implicitDefEqProofs only [rootOf_arr, rootOf_box, rootOf_any, srcsOK, updL, updS, upd_apply, Nat.reduceEqDiff, ↓reduceIte, mkRoots, and_true, ints, rows, intsO, rowsO]
      · simp -implicitDefEqProofs only [Int.natCast_zero, Int.cast_ofNat_Int, Int.natCast_one, Nat.le_refl, Nat.reduceLeDiff, Nat.sub_self, Nat.reduceSub, List.getElem?_cons_zero, List.getElem?_cons_succ, vt_self, vaL, vtL, va, vt, vb, maT, List.cons_append, List.nil_append, List.append_nil, true_or, or_true, go_sem, List.reduceReplicate, Nat.reduceEqDiff, Nat.reduceAdd, Nat.reduceLeDiff, Nat.reduceMul, Nat.reduceSub, Nat.reduceDiv, Int.reduceToNat, Nat.reduceLT, Int.reduceLT, Int.reduceLE, ↓reduceIte, reduceCtorEq, ints, rows, rat, rats, ratsO, toShL_ratC, List.mem_cons, List.mem_nil_iff, List.not_mem_nil, or_false, false_or, exists_eq_left, exists_eq_left', exists_eq_right', Root.live.injEq, eq_self_iff_true, exists_eq, and_true, T.toSh, toShL_ints, toShL_intsO, intsO, rowsO]
      simp -implicitDefEqProofs only [List.append_nil, List.cons_append, Nat.reduceLeDiff, afterCall, absT_rowsO, absT_intsO, absT, absL, updL, updS, freeAll, rid, T.noSh, T.noShL, Nat.zero_le, go_sem, List.reduceReplicate, Nat.reduceEqDiff, Nat.reduceAdd, Nat.reduceLeDiff, Nat.reduceMul, Nat.reduceSub, Nat.reduceDiv, Int.reduceToNat, Nat.reduceLT, Int.reduceLT, Int.reduceLE, ↓reduceIte, reduceCtorEq, rat, forall_apply_eq_imp_iff₂, toNat_cast]
      refine ⟨?_, (frameOK.refl _ _ _).upd _ (.inl (by simp))⟩
      refine CallH.ref (spec_l19Add_ok (stepM c' x (y, 1)).2 (s1, s2) (stepM c' x (y, 1)).1) [1000000000] [] rfl Try.call98 (by simp) ?_ (by simp) (fun e R' hR => ?_) (.inl rfl) ?_
      · simp -implicitDefEqProofs only [rootOf_arr, rootOf_box, rootOf_any, srcsOK, updL, updS, upd_apply, Nat.reduceEqDiff, ↓reduceIte, mkRoots, and_true, ints, rows, intsO, rowsO]
      · simp -implicitDefEqProofs only [Int.natCast_zero, Int.cast_ofNat_Int, Int.natCast_one, Nat.le_refl, Nat.reduceLeDiff, Nat.sub_self, Nat.reduceSub, List.getElem?_cons_zero, List.getElem?_cons_succ, vt_self, vaL, vtL, va, vt, vb, maT, List.cons_append, List.nil_append, List.append_nil, true_or, or_true, go_sem, List.reduceReplicate, Nat.reduceEqDiff, Nat.reduceAdd, Nat.reduceLeDiff, Nat.reduceMul, Nat.reduceSub, Nat.reduceDiv, Int.reduceToNat, Nat.reduceLT, Int.reduceLT, Int.reduceLE, ↓reduceIte, reduceCtorEq, ints, rows, rat, rats, ratsO, toShL_ratC, List.mem_cons, List.mem_nil_iff, List.not_mem_nil, or_false, false_or, exists_eq_left, exists_eq_left', exists_eq_right', Root.live.injEq, eq_self_iff_true, exists_eq, and_true, T.toSh, toShL_ints, toShL_intsO, intsO, rowsO]
      simp -implicitDefEqProofs only [List.append_nil, List.cons_append, Nat.reduceLeDiff, afterCall, absT_rowsO, absT_intsO, absT, absL, updL, updS, freeAll, rid, T.noSh, T.noShL, Nat.zero_le, go_sem, List.reduceReplicate, Nat.reduceEqDiff, Nat.reduceAdd, Nat.reduceLeDiff, Nat.reduceMul, Nat.reduceSub, Nat.reduceDiv, Int.reduceToNat, Nat.reduceLT, Int.reduceLT, Int.reduceLE, ↓reduceIte, reduceCtorEq, rat, forall_apply_eq_imp_iff₂, toNat_cast]
      refine hn' _ (i + 1, (stepA (stepM c' x (y, 1)).2 (s1, s2) (stepM c' x (y, 1)).1).2, (stepA (stepM c' x (y, 1)).2 (s1, s2) (stepM c' x (y, 1)).1).1) (Weak.of _ _ [some 6, some 7, some 1000000000] (by simp) (by simp) ?_ ?_) ⟨by simp only []; omega, hm⟩ (by simp only []; omega)
      · simp -implicitDefEqProofs only [ints, rows, Nat.reduceBEq, Int.add_zero, envOK, maA, maT, upd_apply, Nat.reduceEqDiff, ↓reduceIte, and_true, true_or, or_true, List.map_cons, List.map_nil, Nat.zero_ne_one, and_self, true_and, Int.natCast_zero, Int.cast_ofNat_Int, Int.ofNat_zero, piOf, List.zip_cons_cons, List.zip_nil_right, List.lookup_cons, List.lookup_nil, beq_self_eq_true, rootsOK, mkRoots, mkEnv, rats, next64 (by omega : i < q.length) hq]
      · exact ⟨⟨_, rfl, .refl _⟩, rfl, ⟨_, rfl, .refl _⟩, rfl, ⟨_, rfl, .refl _⟩, rfl, trivial⟩
    · simp -implicitDefEqProofs only [go_sem, List.reduceReplicate, Nat.reduceEqDiff, Nat.reduceAdd, Nat.reduceLeDiff, Nat.reduceMul, Nat.reduceSub, Nat.reduceDiv, Int.reduceToNat, Nat.reduceLT, Int.reduceLT, Int.reduceLE, ↓reduceIte, reduceCtorEq, forall_apply_eq_imp_iff₂, ints, rows, rat, rats, toNat_cast]
      rw [List.drop_of_length_le (by rw [List.length_zip, ones_length]; omega), gainGo] at hm
      rw [← hm]; exact ⟨rfl, rfl⟩
end Go.Ab

/- Contracts: gains of all rows; the program's. -/
set_option linter.unusedSimpArgs false
set_option linter.unusedVariables false
namespace Go.Ab
open Go.Proofs

def gainsGo (q : List (Int × Int)) : List (List Int) → List (Int × Int) × Int
  | [] => ([], 0)
  | r :: m => if (spR q (ones r)).2 ≠ 0 then ([], (spR q (ones r)).2) else if (gainsGo q m).2 ≠ 0 then ([], (gainsGo q m).2) else ((spR q (ones r)).1 :: (gainsGo q m).1, 0)
def gjoin (g : List (Int × Int)) (x : List (Int × Int) × Int) : List (Int × Int) × Int := if x.2 ≠ 0 then ([], x.2) else (g ++ x.1, 0)
theorem gainsGo_err (q : List (Int × Int)) : ∀ (m : List (List Int)), (gainsGo q m).2 ≠ 0 → (gainsGo q m).1 = []
  | [], h => absurd rfl h
  | r :: m, h => by
    rw [gainsGo] at h ⊢
    split
    · rfl
    · rename_i h1
      rw [if_neg h1] at h
      split
      · rfl
      · rename_i h2; rw [if_neg h2] at h; exact absurd rfl h
theorem gjoin_nil (q : List (Int × Int)) (m : List (List Int)) : gjoin [] (gainsGo q m) = gainsGo q m := by
  rw [gjoin]; split
  · rename_i h; rw [← gainsGo_err q m h]
  · rename_i h
    have : (gainsGo q m).2 = 0 := by omega
    rw [List.nil_append, ← this]
theorem gainsGo_length (q : List (Int × Int)) : ∀ (m : List (List Int)), (gainsGo q m).2 = 0 → (gainsGo q m).1.length = m.length
  | [], h => rfl
  | r :: m, h => by
    rw [gainsGo] at h ⊢
    split at h
    · rename_i h1; exact absurd h h1
    · rename_i h1
      rw [if_neg h1]
      split at h
      · rename_i h2; exact absurd h h2
      · rename_i h2
        rw [if_neg h2, List.length_cons, List.length_cons, gainsGo_length q m (by omega)]
def gT (x : List (Int × Int) × Int) : T := .tup [ratsO x.1, .i x.2]
theorem gT_noSh (x : List (Int × Int) × Int) : (gT x).noSh := ⟨ratsO_noSh _, trivial, trivial⟩
theorem Fun.gT_nil {P : Program} {f : FuncId} {rin : List T} {args : List A} {x : List (Int × Int) × Int} {o0 : List T} (h : Fun P f rin args fun o r => o = o0 ∧ (r = gT x ∨ (x.1 = [] ∧ r = .tup [.v (.slice none 0 0), .i x.2]))) : Fun P f rin args fun o r => o = o0 ∧ r = gT x := by
  refine Fun.le h ?_
  rintro o r ⟨rfl, rfl | ⟨h, rfl⟩⟩
  · exact ⟨_, .refl _, rfl, rfl⟩
  · refine ⟨_, ?_, rfl, rfl⟩
    rw [gT, h]
    exact .tup2 (.nilArr 2) (.refl _)

theorem impl_gainsOf_ok (m : List (List Int)) (q : List (Int × Int)) (hq : q.length ≤ 1000000) (hm : m.length ≤ 1000000) (hr : ∀ r ∈ m, q.length ≤ r.length ∧ r.length ≤ 1000000) : Fun Try.prog 100 [] [.t (rows m), .t (rats q)] fun o r => o = [] ∧ r = gT (gainsGo q m) := by
  refine Fun.gT_nil ?_
  refine fun_impl_gainsOf (by simp) ?_
  simp -implicitDefEqProofs only [go_sem, List.reduceReplicate, Nat.reduceEqDiff, Nat.reduceAdd, Nat.reduceLeDiff, Nat.reduceMul, Nat.reduceSub, Nat.reduceDiv, Int.reduceToNat, Nat.reduceLT, Int.reduceLT, Int.reduceLE, ↓reduceIte, reduceCtorEq, forall_apply_eq_imp_iff₂, ints, rows, rat, rats, toNat_cast, c_impl_gainsOf]
  refine SemC.loopR (σ := Nat × List (Int × Int)) (fun s => St.of [(0, .t (rows m)), (1, .t (rats q)), (6, .own 77), (14, .t (rows m)), (15, .t (.i m.length)), (16, .t (.i s.1))] [(77, .arr 2 (ratC s.2))]) (fun s => s.1 ≤ m.length ∧ s.2.length = s.1 ∧ gjoin s.2 (gainsGo q (m.drop s.1)) = gainsGo q m) (fun s => m.length - s.1) (0, []) (Weak.of _ _ [none] (by simp) (by simp) ?_ ?_) ⟨by simp, rfl, gjoin_nil q m⟩ fun s hI R hn hr0 he => ?_
  · simp -implicitDefEqProofs only [ints, rows, Nat.reduceBEq, Int.add_zero, envOK, maA, maT, upd_apply, Nat.reduceEqDiff, ↓reduceIte, and_true, true_or, or_true, List.map_cons, List.map_nil, Nat.zero_ne_one, and_self, true_and, Int.natCast_zero, Int.cast_ofNat_Int, Int.ofNat_zero, piOf, List.zip_cons_cons, List.zip_nil_right, List.lookup_cons, List.lookup_nil, beq_self_eq_true, rootsOK, mkRoots, mkEnv, rats]
  · exact ⟨⟨2, rfl⟩, trivial⟩
  · obtain ⟨i, g⟩ := s
    obtain ⟨hi, hgl, hg⟩ := hI
    (try simp only [] at hi hgl hg)
    simp -implicitDefEqProofs only [go_sem, List.reduceReplicate, Nat.reduceEqDiff, Nat.reduceAdd, Nat.reduceLeDiff, Nat.reduceMul, Nat.reduceSub, Nat.reduceDiv, Int.reduceToNat, Nat.reduceLT, Int.reduceLT, Int.reduceLE, ↓reduceIte, reduceCtorEq, forall_apply_eq_imp_iff₂, ints, rows, rat, rats, toNat_cast]
    refine ⟨fun h => ⟨by omega, by omega, by omega, fun r hrow => ?_⟩, fun h => he _ _ ?_⟩
    · obtain ⟨hrl, hrl2⟩ := hr r (List.mem_of_getElem? hrow)
      rw [drop_of_get hrow, gainsGo] at hg
      refine ⟨by omega, by omega, ?_⟩
      have hol := ones_length r
      refine SemC.loopR (σ := Nat) (fun j => St.of [(0, .t (rows m)), (1, .t (rats q)), (6, .own 77), (8, .t (ints r)), (9, .own 22), (14, .t (rows m)), (15, .t (.i m.length)), (16, .t (.i i)), (23, .t (ints r)), (24, .t (.i r.length)), (25, .t (.i j))] [(77, .arr 2 (ratC g)), (22, .arr 2 (ratC (rfilled (ones r) j)))]) (fun j => j ≤ r.length) (fun j => r.length - j) 0 (Weak.of _ _ [some 77, some 22] (by simp) (by simp) ?_ ?_) (by simp) fun j hj R2 hn2 hr2 he2 => ?_
      · simp -implicitDefEqProofs only [ints, rows, Nat.reduceBEq, Int.add_zero, envOK, maA, maT, upd_apply, Nat.reduceEqDiff, ↓reduceIte, and_true, true_or, or_true, List.map_cons, List.map_nil, Nat.zero_ne_one, and_self, true_and, Int.natCast_zero, Int.cast_ofNat_Int, Int.ofNat_zero, piOf, List.zip_cons_cons, List.zip_nil_right, List.lookup_cons, List.lookup_nil, beq_self_eq_true, rootsOK, mkRoots, mkEnv, rats]
      · exact ⟨⟨_, rfl, .refl _⟩, rfl, ⟨_, rfl, by rw [ratC_replicate]; simp only [rfilled, List.take_zero, List.nil_append, Nat.sub_zero, hol]; exact .refl _⟩, rfl, trivial⟩
      · have hlen := rfilled_length (ones r) j (by omega)
        simp -implicitDefEqProofs only [go_sem, List.reduceReplicate, Nat.reduceEqDiff, Nat.reduceAdd, Nat.reduceLeDiff, Nat.reduceMul, Nat.reduceSub, Nat.reduceDiv, Int.reduceToNat, Nat.reduceLT, Int.reduceLT, Int.reduceLE, ↓reduceIte, reduceCtorEq, forall_apply_eq_imp_iff₂, ints, rows, rat, rats, toNat_cast]
        refine ⟨fun h1 => ⟨by omega, by omega, by omega, fun x hx => ⟨by omega, by rw [ratC_length]; omega, by rw [ratC_length]; omega, hn2 _ (j + 1) (Weak.of _ _ [some 77, some 22] (by simp) (by simp) ?_ ?_) (by omega) (by omega)⟩⟩, fun h1 => he2 _ _ ?_⟩
        · simp -implicitDefEqProofs only [ints, rows, Nat.reduceBEq, Int.add_zero, envOK, maA, maT, upd_apply, Nat.reduceEqDiff, ↓reduceIte, and_true, true_or, or_true, List.map_cons, List.map_nil, Nat.zero_ne_one, and_self, true_and, Int.natCast_zero, Int.cast_ofNat_Int, Int.ofNat_zero, piOf, List.zip_cons_cons, List.zip_nil_right, List.lookup_cons, List.lookup_nil, beq_self_eq_true, rootsOK, mkRoots, mkEnv, rats, next64 (by omega : j < r.length) (by omega)]
        · refine ⟨⟨_, rfl, .refl _⟩, rfl, ⟨_, rfl, ?_⟩, rfl, trivial⟩
          (try simp only [List.cons_append, List.nil_append, List.append_assoc])
          have := ratC_set (l := rfilled (ones r) j) (i := j) (x, 1) (by omega)
          simp only [List.append_assoc, List.cons_append, List.nil_append] at this
          rw [this, rfilled_set (ones_get hx)]; exact .refl _
        · have hje : j = (ones r).length := by omega
          rw [hje, rfilled_all]
          simp -implicitDefEqProofs only [go_sem, List.reduceReplicate, Nat.reduceEqDiff, Nat.reduceAdd, Nat.reduceLeDiff, Nat.reduceMul, Nat.reduceSub, Nat.reduceDiv, Int.reduceToNat, Nat.reduceLT, Int.reduceLT, Int.reduceLE, ↓reduceIte, reduceCtorEq, forall_apply_eq_imp_iff₂, ints, rows, rat, rats, toNat_cast]
          refine CallW.pure (impl_sumOfProducts_ok q (ones r) (by omega) (by omega)) [22] rfl Try.call105 ?_ (by first | trivial | simp [T.noSh, T.noShL, rat]) rfl ?_
          · simp -implicitDefEqProofs only [Int.natCast_zero, Int.cast_ofNat_Int, Int.natCast_one, Nat.le_refl, Nat.reduceLeDiff, Nat.sub_self, Nat.reduceSub, List.getElem?_cons_zero, List.getElem?_cons_succ, vt_self, vaL, vtL, va, vt, vb, maT, List.cons_append, List.nil_append, List.append_nil, true_or, or_true, go_sem, List.reduceReplicate, Nat.reduceEqDiff, Nat.reduceAdd, Nat.reduceLeDiff, Nat.reduceMul, Nat.reduceSub, Nat.reduceDiv, Int.reduceToNat, Nat.reduceLT, Int.reduceLT, Int.reduceLE, ↓reduceIte, reduceCtorEq, ints, rows, rat, rats, ratsO, toShL_ratC, List.mem_cons, List.mem_nil_iff, List.not_mem_nil, or_false, false_or, exists_eq_left, exists_eq_left', exists_eq_right', Root.live.injEq, eq_self_iff_true, exists_eq, and_true, T.toSh, toShL_ints, toShL_intsO, intsO, rowsO]
          simp -implicitDefEqProofs only [go_sem, List.reduceReplicate, Nat.reduceEqDiff, Nat.reduceAdd, Nat.reduceLeDiff, Nat.reduceMul, Nat.reduceSub, Nat.reduceDiv, Int.reduceToNat, Nat.reduceLT, Int.reduceLT, Int.reduceLE, ↓reduceIte, reduceCtorEq, forall_apply_eq_imp_iff₂, ints, rows, rat, rats, toNat_cast, redT, rat]
          refine ⟨fun h2 => hr0 _ ?_, fun h2 => ?_⟩
          · have h2 : (spR q (ones r)).2 ≠ 0 := by simpa using h2
            rw [if_pos h2, gjoin, if_pos h2] at hg
            simp -implicitDefEqProofs only [go_sem, List.reduceReplicate, Nat.reduceEqDiff, Nat.reduceAdd, Nat.reduceLeDiff, Nat.reduceMul, Nat.reduceSub, Nat.reduceDiv, Int.reduceToNat, Nat.reduceLT, Int.reduceLT, Int.reduceLE, ↓reduceIte, reduceCtorEq, forall_apply_eq_imp_iff₂, ints, rows, rat, rats, toNat_cast]
            exact .inr ⟨by rw [← hg], by rw [← hg]⟩
          · have h2 : (spR q (ones r)).2 = 0 := by simpa using h2
            rw [if_neg (by simp [h2])] at hg
            refine ⟨by rw [ratC_length]; omega, hn _ (i + 1, g ++ [(spR q (ones r)).1]) (Weak.of _ _ [some 48] (by simp) (by simp) ?_ ?_) ⟨by simp only []; omega, by simp; omega, ?_⟩ (by simp only []; omega)⟩
            · simp -implicitDefEqProofs only [ints, rows, Nat.reduceBEq, Int.add_zero, envOK, maA, maT, upd_apply, Nat.reduceEqDiff, ↓reduceIte, and_true, true_or, or_true, List.map_cons, List.map_nil, Nat.zero_ne_one, and_self, true_and, Int.natCast_zero, Int.cast_ofNat_Int, Int.ofNat_zero, piOf, List.zip_cons_cons, List.zip_nil_right, List.lookup_cons, List.lookup_nil, beq_self_eq_true, rootsOK, mkRoots, mkEnv, rats, next64 (by omega : i < m.length) (by omega)]
            · refine ⟨⟨_, rfl, ?_⟩, rfl, trivial⟩
              rw [ratC_append]; exact .refl _
            · simp only []
              rw [← hg]
              by_cases h3 : (gainsGo q (m.drop (i + 1))).2 = 0
              · rw [if_neg (by simp [h3]), gjoin, gjoin, if_neg (by simp [h3]), if_neg (by simp)]; simp
              · rw [if_pos h3, gjoin, gjoin, if_pos h3, if_pos h3]
    · simp -implicitDefEqProofs only [go_sem, List.reduceReplicate, Nat.reduceEqDiff, Nat.reduceAdd, Nat.reduceLeDiff, Nat.reduceMul, Nat.reduceSub, Nat.reduceDiv, Int.reduceToNat, Nat.reduceLT, Int.reduceLT, Int.reduceLE, ↓reduceIte, reduceCtorEq, forall_apply_eq_imp_iff₂, ints, rows, rat, rats, toNat_cast]
      have : i = m.length := by omega
      rw [List.drop_of_length_le (by omega), gainsGo, gjoin] at hg
      left
      rw [← hg]; simp [gT, ratsO]
end Go.Ab

/- Contracts: gains of all rows and of all columns; the reference's. -/
set_option linter.unusedSimpArgs false
set_option linter.unusedVariables false
namespace Go.Ab
open Go.Proofs

theorem spec_l26Column_ok (m : List (List Int)) (k : Nat) (hm : m.length ≤ 1000000) (hr : ∀ r ∈ m, k < r.length ∧ r.length ≤ 1000000) : Fun Try.prog 133 [] [.t (rows m), .t (.i k)] fun o r => o = [] ∧ r = intsO (colOf m k) := by
  refine fun_spec_l26Column (by simp) ?_
  simp -implicitDefEqProofs only [go_sem, List.reduceReplicate, Nat.reduceEqDiff, Nat.reduceAdd, Nat.reduceLeDiff, Nat.reduceMul, Nat.reduceSub, Nat.reduceDiv, Int.reduceToNat, Nat.reduceLT, Int.reduceLT, Int.reduceLE, ↓reduceIte, reduceCtorEq, forall_apply_eq_imp_iff₂, ints, rows, rat, rats, toNat_cast, c_spec_l26Column]
  refine SemC.loopR (σ := Nat) (fun i => St.of [(0, .t (rows m)), (1, .t (.i k)), (5, .own 77), (6, .t (.i i))] [(77, .arr 1 ((colI m k i).map T.i))]) (fun i => i ≤ m.length) (fun i => m.length - i) 0 (Weak.of _ _ [some 7] (by simp) (by simp) ?_ ?_) (by simp) fun i hi R hn hr' he => ?_
  · simp -implicitDefEqProofs only [ints, rows, Nat.reduceBEq, Int.add_zero, envOK, maA, maT, upd_apply, Nat.reduceEqDiff, ↓reduceIte, and_true, true_or, or_true, List.map_cons, List.map_nil, Nat.zero_ne_one, and_self, true_and, Int.natCast_zero, Int.cast_ofNat_Int, Int.ofNat_zero, piOf, List.zip_cons_cons, List.zip_nil_right, List.lookup_cons, List.lookup_nil, beq_self_eq_true, rootsOK, mkRoots, mkEnv]
  · exact ⟨⟨_, rfl, .refl _⟩, rfl, trivial⟩
  · simp -implicitDefEqProofs only [go_sem, List.reduceReplicate, Nat.reduceEqDiff, Nat.reduceAdd, Nat.reduceLeDiff, Nat.reduceMul, Nat.reduceSub, Nat.reduceDiv, Int.reduceToNat, Nat.reduceLT, Int.reduceLT, Int.reduceLE, ↓reduceIte, reduceCtorEq, forall_apply_eq_imp_iff₂, ints, rows, rat, rats, toNat_cast]
    refine ⟨fun h => ⟨by omega, by omega, by omega, fun r hrow => ?_⟩, fun h => he _ _ ?_⟩
    · have hrl := hr r (List.mem_of_getElem? hrow)
      refine ⟨by omega, by omega, by omega, fun x hx => ?_⟩
      have hcl : (colI m k i).length ≤ 1000000 := by simp [colI]; omega
      refine ⟨by omega, hn _ (i + 1) (Weak.of _ _ [some 23] (by simp) (by simp) ?_ ?_) (by omega) (by omega)⟩
      · simp -implicitDefEqProofs only [ints, rows, Nat.reduceBEq, Int.add_zero, envOK, maA, maT, upd_apply, Nat.reduceEqDiff, ↓reduceIte, and_true, true_or, or_true, List.map_cons, List.map_nil, Nat.zero_ne_one, and_self, true_and, Int.natCast_zero, Int.cast_ofNat_Int, Int.ofNat_zero, piOf, List.zip_cons_cons, List.zip_nil_right, List.lookup_cons, List.lookup_nil, beq_self_eq_true, rootsOK, mkRoots, mkEnv, next64 (by omega : i < m.length) (by omega)]
      · refine ⟨⟨_, rfl, ?_⟩, rfl, trivial⟩
        have e : colI m k (i + 1) = colI m k i ++ [x] := by
          rw [colI, take_snoc hrow]
          simp only [colI, List.map_append, List.map_cons, List.map_nil]
          rw [List.getD_eq_getElem?_getD, hx]; rfl
        rw [e]
        simp only [List.map_append, List.map_cons, List.map_nil]
        exact .refl _
    · simp -implicitDefEqProofs only [go_sem, List.reduceReplicate, Nat.reduceEqDiff, Nat.reduceAdd, Nat.reduceLeDiff, Nat.reduceMul, Nat.reduceSub, Nat.reduceDiv, Int.reduceToNat, Nat.reduceLT, Int.reduceLT, Int.reduceLE, ↓reduceIte, reduceCtorEq, forall_apply_eq_imp_iff₂, ints, rows, rat, rats, toNat_cast]
      have : i = m.length := by omega
      rw [this, colI, List.take_length]; rfl

def rowsGo (q : List (Int × Int)) : Int → List (List Int) → List (Int × Int) × Int
  | c, [] => ([], c)
  | c, r :: m => ((gainC c q r).1 :: (rowsGo q (gainC c q r).2 m).1, (rowsGo q (gainC c q r).2 m).2)
def rjoin (g : List (Int × Int)) (x : List (Int × Int) × Int) : List (Int × Int) × Int := (g ++ x.1, x.2)
theorem rjoin_cons (q : List (Int × Int)) (g : List (Int × Int)) (c : Int) (r : List Int) (m : List (List Int)) : rjoin g (rowsGo q c (r :: m)) = rjoin (g ++ [(gainC c q r).1]) (rowsGo q (gainC c q r).2 m) := by
  simp [rjoin, rowsGo]
theorem rowsGo_err (q : List (Int × Int)) : ∀ (m : List (List Int)) (c : Int), c ≠ 0 → (rowsGo q c m).2 = c
  | [], c, h => rfl
  | r :: m, c, h => by
    have : (gainC c q r).2 = c := gainGo_err _ _ _ h
    rw [rowsGo]; simp only []
    rw [this]; exact rowsGo_err q m c h
/-- Both ways of gathering gains. -/
theorem rowsGo_spec (q : List (Int × Int)) : ∀ (m : List (List Int)), (rowsGo q 0 m).2 = (gainsGo q m).2 ∧ ((gainsGo q m).2 = 0 → (rowsGo q 0 m).1 = (gainsGo q m).1)
  | [] => ⟨rfl, fun _ => rfl⟩
  | r :: m => by
    have hg : (gainC 0 q r).2 = (spR q (ones r)).2 ∧ ((spR q (ones r)).2 = 0 → (gainC 0 q r).1 = (spR q (ones r)).1) := gainGo_spec _ _
    rw [rowsGo, gainsGo]
    simp only []
    by_cases h1 : (spR q (ones r)).2 = 0
    · rw [hg.1, h1, if_neg (by simp)]
      obtain ⟨h2, h3⟩ := rowsGo_spec q m
      by_cases h4 : (gainsGo q m).2 = 0
      · rw [h4, if_neg (by simp)]
        exact ⟨by rw [h2, h4], fun _ => by rw [h3 h4, hg.2 h1]⟩
      · rw [if_pos h4]
        exact ⟨h2, fun h => absurd h h4⟩
    · rw [hg.1, if_pos h1]
      exact ⟨rowsGo_err q m _ h1, fun h => absurd h h1⟩

end Go.Ab

/- Contracts: RowGains and ColumnGains. -/
set_option linter.unusedSimpArgs false
set_option linter.unusedVariables false
namespace Go.Ab
open Go.Proofs

theorem tr_drop {m : List (List Int)} {c k : Nat} (h : k < c) : (tr m c)[k]? = some (colOf m k) := by simp [tr, h]
theorem spec_l26Columns_ok (c : Int) (m : List (List Int)) (n : Nat) (q : List (Int × Int)) (hm0 : m ≠ []) (hq : q.length = m.length) (hm : m.length ≤ 1000000) (hn0 : n ≤ 1000000) (hr : rect m n) : Fun Try.prog 109 [.box [.i c]] [.own 1000000000, .t (rows m), .t (rats q)] fun o r => o = [.box [.i (rowsGo q c (tr m n)).2]] ∧ r = ratsO (rowsGo q c (tr m n)).1 := by
  have hpos : 0 < m.length := List.length_pos_iff.2 hm0
  refine fun_spec_l26Columns (by simp) ?_
  simp -implicitDefEqProofs only [go_sem, List.reduceReplicate, Nat.reduceEqDiff, Nat.reduceAdd, Nat.reduceLeDiff, Nat.reduceMul, Nat.reduceSub, Nat.reduceDiv, Int.reduceToNat, Nat.reduceLT, Int.reduceLT, Int.reduceLE, ↓reduceIte, reduceCtorEq, forall_apply_eq_imp_iff₂, ints, rows, rat, rats, toNat_cast, c_spec_l26Columns]
  have htl : (tr m n).length = n := by simp [tr]
  refine SemC.loopR (σ := Nat × Int × List (Int × Int)) (fun s => St.of [(0, .own 1000000000), (1, .t (rows m)), (2, .t (rats q)), (7, .own 77), (8, .t (.i s.1))] [(77, .arr 2 (ratC s.2.2)), (1000000000, .box [.i s.2.1])]) (fun s => s.1 ≤ n ∧ s.2.2.length = s.1 ∧ rjoin s.2.2 (rowsGo q s.2.1 ((tr m n).drop s.1)) = rowsGo q c (tr m n)) (fun s => n - s.1) (0, c, []) (Weak.of _ _ [some 9, some 1000000000] (by simp) (by simp) ?_ ?_) ⟨by simp, rfl, rfl⟩ fun s hI R hn hr0 he => ?_
  · simp -implicitDefEqProofs only [ints, rows, Nat.reduceBEq, Int.add_zero, envOK, maA, maT, upd_apply, Nat.reduceEqDiff, ↓reduceIte, and_true, true_or, or_true, List.map_cons, List.map_nil, Nat.zero_ne_one, and_self, true_and, Int.natCast_zero, Int.cast_ofNat_Int, Int.ofNat_zero, piOf, List.zip_cons_cons, List.zip_nil_right, List.lookup_cons, List.lookup_nil, beq_self_eq_true, rootsOK, mkRoots, mkEnv, rats]
  · exact ⟨⟨_, rfl, .refl _⟩, rfl, ⟨_, rfl, .refl _⟩, rfl, trivial⟩
  · obtain ⟨i, c', g⟩ := s
    obtain ⟨hi, hgl, hg⟩ := hI
    (try simp only [] at hi hgl hg)
    simp -implicitDefEqProofs only [go_sem, List.reduceReplicate, Nat.reduceEqDiff, Nat.reduceAdd, Nat.reduceLeDiff, Nat.reduceMul, Nat.reduceSub, Nat.reduceDiv, Int.reduceToNat, Nat.reduceLT, Int.reduceLT, Int.reduceLE, ↓reduceIte, reduceCtorEq, forall_apply_eq_imp_iff₂, ints, rows, rat, rats, toNat_cast]
    refine ⟨by omega, by omega, fun r0 h0 => ?_⟩
    have hr0l := hr r0 (List.mem_of_getElem? h0)
    rw [hr0l]
    refine ⟨fun h => ?_, fun h => he _ _ ?_⟩
    · have hin : i < n := by omega
      rw [drop_of_get (tr_drop hin), rjoin_cons] at hg
      refine CallW.res (spec_l26Column_ok m i hm (fun r hr1 => by have := hr r hr1; omega)) [] rfl Try.call133 ?_ (.inl rfl) ?_
      · simp -implicitDefEqProofs only [Int.natCast_zero, Int.cast_ofNat_Int, Int.natCast_one, Nat.le_refl, Nat.reduceLeDiff, Nat.sub_self, Nat.reduceSub, List.getElem?_cons_zero, List.getElem?_cons_succ, vt_self, vaL, vtL, va, vt, vb, maT, List.cons_append, List.nil_append, List.append_nil, true_or, or_true, go_sem, List.reduceReplicate, Nat.reduceEqDiff, Nat.reduceAdd, Nat.reduceLeDiff, Nat.reduceMul, Nat.reduceSub, Nat.reduceDiv, Int.reduceToNat, Nat.reduceLT, Int.reduceLT, Int.reduceLE, ↓reduceIte, reduceCtorEq, ints, rows, rat, rats, ratsO, toShL_ratC, List.mem_cons, List.mem_nil_iff, List.not_mem_nil, or_false, false_or, exists_eq_left, exists_eq_left', exists_eq_right', Root.live.injEq, eq_self_iff_true, exists_eq, and_true, T.toSh, toShL_ints, toShL_intsO, intsO, rowsO]
      simp -implicitDefEqProofs only [List.append_nil, List.cons_append, Nat.reduceLeDiff, afterCall, absT_rowsO, absT_intsO, absT, absL, updL, updS, freeAll, rid, T.noSh, T.noShL, Nat.zero_le, go_sem, List.reduceReplicate, Nat.reduceEqDiff, Nat.reduceAdd, Nat.reduceLeDiff, Nat.reduceMul, Nat.reduceSub, Nat.reduceDiv, Int.reduceToNat, Nat.reduceLT, Int.reduceLT, Int.reduceLE, ↓reduceIte, reduceCtorEq, rat, forall_apply_eq_imp_iff₂, toNat_cast]
      refine CallW.ref (spec_l26Gain_ok c' q (colOf m i) (by simp [colOf]; omega) (by omega)) [1000000000] [23] rfl Try.call130 (by simp) ?_ (by simp) ?_ (.inr ⟨⟨trivial, trivial, trivial⟩, ⟨trivial, trivial⟩, trivial⟩) ?_
      · simp -implicitDefEqProofs only [rootOf_arr, rootOf_box, rootOf_any, srcsOK, updL, updS, upd_apply, Nat.reduceEqDiff, ↓reduceIte, mkRoots, and_true, ints, rows, intsO, rowsO]
      · simp -implicitDefEqProofs only [Int.natCast_zero, Int.cast_ofNat_Int, Int.natCast_one, Nat.le_refl, Nat.reduceLeDiff, Nat.sub_self, Nat.reduceSub, List.getElem?_cons_zero, List.getElem?_cons_succ, vt_self, vaL, vtL, va, vt, vb, maT, List.cons_append, List.nil_append, List.append_nil, true_or, or_true, go_sem, List.reduceReplicate, Nat.reduceEqDiff, Nat.reduceAdd, Nat.reduceLeDiff, Nat.reduceMul, Nat.reduceSub, Nat.reduceDiv, Int.reduceToNat, Nat.reduceLT, Int.reduceLT, Int.reduceLE, ↓reduceIte, reduceCtorEq, ints, rows, rat, rats, ratsO, toShL_ratC, List.mem_cons, List.mem_nil_iff, List.not_mem_nil, or_false, false_or, exists_eq_left, exists_eq_left', exists_eq_right', Root.live.injEq, eq_self_iff_true, exists_eq, and_true, T.toSh, toShL_ints, toShL_intsO, intsO, rowsO]
      simp -implicitDefEqProofs only [List.append_nil, List.cons_append, Nat.reduceLeDiff, afterCall, absT_rowsO, absT_intsO, absT, absL, updL, updS, freeAll, rid, T.noSh, T.noShL, Nat.zero_le, go_sem, List.reduceReplicate, Nat.reduceEqDiff, Nat.reduceAdd, Nat.reduceLeDiff, Nat.reduceMul, Nat.reduceSub, Nat.reduceDiv, Int.reduceToNat, Nat.reduceLT, Int.reduceLT, Int.reduceLE, ↓reduceIte, reduceCtorEq, rat, forall_apply_eq_imp_iff₂, toNat_cast, rat]
      refine ⟨by rw [ratC_length]; omega, hn _ (i + 1, (gainC c' q (colOf m i)).2, g ++ [(gainC c' q (colOf m i)).1]) (Weak.of _ _ [some 26, some 1000000000] (by simp) (by simp) ?_ ?_) ⟨by simp only []; omega, by simp; omega, hg⟩ (by simp only []; omega)⟩
      · simp -implicitDefEqProofs only [ints, rows, Nat.reduceBEq, Int.add_zero, envOK, maA, maT, upd_apply, Nat.reduceEqDiff, ↓reduceIte, and_true, true_or, or_true, List.map_cons, List.map_nil, Nat.zero_ne_one, and_self, true_and, Int.natCast_zero, Int.cast_ofNat_Int, Int.ofNat_zero, piOf, List.zip_cons_cons, List.zip_nil_right, List.lookup_cons, List.lookup_nil, beq_self_eq_true, rootsOK, mkRoots, mkEnv, rats, next64 (by omega : i < n) (by omega)]
      · refine ⟨⟨_, rfl, ?_⟩, rfl, ⟨_, rfl, .refl _⟩, rfl, trivial⟩
        rw [ratC_append]; exact .refl _
    · simp -implicitDefEqProofs only [go_sem, List.reduceReplicate, Nat.reduceEqDiff, Nat.reduceAdd, Nat.reduceLeDiff, Nat.reduceMul, Nat.reduceSub, Nat.reduceDiv, Int.reduceToNat, Nat.reduceLT, Int.reduceLT, Int.reduceLE, ↓reduceIte, reduceCtorEq, forall_apply_eq_imp_iff₂, ints, rows, rat, rats, toNat_cast]
      have : i = n := by omega
      rw [List.drop_of_length_le (by omega), rowsGo, rjoin, List.append_nil] at hg
      rw [← hg]; exact ⟨rfl, rfl⟩

theorem spec_l26List_ok (g : List (Int × Int)) : Fun Try.prog 101 [.box [.i 0], ratsO g] [.own 1000000000, .own 1000000001] fun o r => o = [.box [.i 0], .any] ∧ r = .tup [ratsO g, .i 0] := by
  refine fun_spec_l26List (by simp) ?_
  simp -implicitDefEqProofs only [go_sem, List.reduceReplicate, Nat.reduceEqDiff, Nat.reduceAdd, Nat.reduceLeDiff, Nat.reduceMul, Nat.reduceSub, Nat.reduceDiv, Int.reduceToNat, Nat.reduceLT, Int.reduceLT, Int.reduceLE, ↓reduceIte, reduceCtorEq, forall_apply_eq_imp_iff₂, ints, rows, rat, rats, toNat_cast, c_spec_l26List, ratsO]
theorem spec_l26List_err (c : Int) (hc : c ≠ 0) (g : List (Int × Int)) : Fun Try.prog 101 [.box [.i c], ratsO g] [.own 1000000000, .own 1000000001] fun o r => o = [.box [.i c], ratsO g] ∧ r = .tup [.v (.slice none 0 0), .i c] := by
  refine fun_spec_l26List (by simp) ?_
  simp -implicitDefEqProofs only [go_sem, List.reduceReplicate, Nat.reduceEqDiff, Nat.reduceAdd, Nat.reduceLeDiff, Nat.reduceMul, Nat.reduceSub, Nat.reduceDiv, Int.reduceToNat, Nat.reduceLT, Int.reduceLT, Int.reduceLE, ↓reduceIte, reduceCtorEq, forall_apply_eq_imp_iff₂, ints, rows, rat, rats, toNat_cast, c_spec_l26List, ratsO]
  exact ⟨fun _ => trivial, fun h => absurd (by simpa using h) hc⟩
def cgRes (m : List (List Int)) (p : List (Int × Int)) : List (Int × Int) × Int := if isMat m then (if isMixB p m.length then gainsGo p (tr m (m.headD []).length) else ([], 2)) else ([], 1)
theorem isMixB_length {p : List (Int × Int)} {n : Int} (h : isMixB p n = true) : (p.length : Int) = n := by
  simp only [isMixB, Bool.and_eq_true, decide_eq_true_eq] at h; exact h.1.2

theorem impl_ColumnGains_ok (m : List (List Int)) (p : List (Int × Int)) (hml : m.length ≤ 1000000000000) (hmr : ∀ r ∈ m, r.length ≤ 1000000000000) (hp : p.length ≤ 1000000000000) : Fun Try.prog 46 [] [.t (rows m), .t (rats p)] fun o r => o = [] ∧ r = gT (cgRes m p) := by
  refine Fun.gT_nil ?_
  refine fun_impl_ColumnGains (by simp) ?_
  simp -implicitDefEqProofs only [go_sem, List.reduceReplicate, Nat.reduceEqDiff, Nat.reduceAdd, Nat.reduceLeDiff, Nat.reduceMul, Nat.reduceSub, Nat.reduceDiv, Int.reduceToNat, Nat.reduceLT, Int.reduceLT, Int.reduceLE, ↓reduceIte, reduceCtorEq, forall_apply_eq_imp_iff₂, ints, rows, rat, rats, toNat_cast, c_impl_ColumnGains]
  refine CallW.pure (impl_IsMatrix_ok m (by omega) hmr) [] rfl Try.call56 ?_ (by first | trivial | simp [T.noSh, T.noShL, rat]) rfl ?_
  · simp -implicitDefEqProofs only [Int.natCast_zero, Int.cast_ofNat_Int, Int.natCast_one, Nat.le_refl, Nat.reduceLeDiff, Nat.sub_self, Nat.reduceSub, List.getElem?_cons_zero, List.getElem?_cons_succ, vt_self, vaL, vtL, va, vt, vb, maT, List.cons_append, List.nil_append, List.append_nil, true_or, or_true, go_sem, List.reduceReplicate, Nat.reduceEqDiff, Nat.reduceAdd, Nat.reduceLeDiff, Nat.reduceMul, Nat.reduceSub, Nat.reduceDiv, Int.reduceToNat, Nat.reduceLT, Int.reduceLT, Int.reduceLE, ↓reduceIte, reduceCtorEq, ints, rows, rat, rats, ratsO, toShL_ratC, List.mem_cons, List.mem_nil_iff, List.not_mem_nil, or_false, false_or, exists_eq_left, exists_eq_left', exists_eq_right', Root.live.injEq, eq_self_iff_true, exists_eq, and_true, T.toSh, toShL_ints, toShL_intsO, intsO, rowsO]
  simp -implicitDefEqProofs only [go_sem, List.reduceReplicate, Nat.reduceEqDiff, Nat.reduceAdd, Nat.reduceLeDiff, Nat.reduceMul, Nat.reduceSub, Nat.reduceDiv, Int.reduceToNat, Nat.reduceLT, Int.reduceLT, Int.reduceLE, ↓reduceIte, reduceCtorEq, forall_apply_eq_imp_iff₂, ints, rows, rat, rats, toNat_cast]
  refine ⟨fun h => ?_, fun h => ?_⟩
  · have h' : isMat m = false := by simpa using h
    right; rw [cgRes, h']; exact ⟨rfl, rfl⟩
  · have hmat : isMat m = true := by simpa using h
    obtain ⟨h1, h2, h3, h4, h5, h6⟩ := isMat_spec hmat
    refine CallW.pure (impl_IsMix_ok p m.length hp) [] rfl Try.call33 ?_ (by first | trivial | simp [T.noSh, T.noShL, rat]) rfl ?_
    · simp -implicitDefEqProofs only [Int.natCast_zero, Int.cast_ofNat_Int, Int.natCast_one, Nat.le_refl, Nat.reduceLeDiff, Nat.sub_self, Nat.reduceSub, List.getElem?_cons_zero, List.getElem?_cons_succ, vt_self, vaL, vtL, va, vt, vb, maT, List.cons_append, List.nil_append, List.append_nil, true_or, or_true, go_sem, List.reduceReplicate, Nat.reduceEqDiff, Nat.reduceAdd, Nat.reduceLeDiff, Nat.reduceMul, Nat.reduceSub, Nat.reduceDiv, Int.reduceToNat, Nat.reduceLT, Int.reduceLT, Int.reduceLE, ↓reduceIte, reduceCtorEq, ints, rows, rat, rats, ratsO, toShL_ratC, List.mem_cons, List.mem_nil_iff, List.not_mem_nil, or_false, false_or, exists_eq_left, exists_eq_left', exists_eq_right', Root.live.injEq, eq_self_iff_true, exists_eq, and_true, T.toSh, toShL_ints, toShL_intsO, intsO, rowsO]
    simp -implicitDefEqProofs only [go_sem, List.reduceReplicate, Nat.reduceEqDiff, Nat.reduceAdd, Nat.reduceLeDiff, Nat.reduceMul, Nat.reduceSub, Nat.reduceDiv, Int.reduceToNat, Nat.reduceLT, Int.reduceLT, Int.reduceLE, ↓reduceIte, reduceCtorEq, forall_apply_eq_imp_iff₂, ints, rows, rat, rats, toNat_cast]
    refine ⟨fun h => ?_, fun h => ?_⟩
    · have h' : isMixB p m.length = false := by simpa using h
      right; rw [cgRes, hmat, h']; exact ⟨rfl, rfl⟩
    · have hmix : isMixB p m.length = true := by simpa using h
      have hpl := isMixB_length hmix
      generalize hc : (m.headD []).length = c at h3 h4 h5
      have htl : (tr m c).length = c := by simp [tr]
      refine CallW.res (impl_turned_ok m c (by rintro rfl; simp at h1) h5 (by omega) (by omega)) [] rfl Try.call108 ?_ (.inl rfl) ?_
      · simp -implicitDefEqProofs only [Int.natCast_zero, Int.cast_ofNat_Int, Int.natCast_one, Nat.le_refl, Nat.reduceLeDiff, Nat.sub_self, Nat.reduceSub, List.getElem?_cons_zero, List.getElem?_cons_succ, vt_self, vaL, vtL, va, vt, vb, maT, List.cons_append, List.nil_append, List.append_nil, true_or, or_true, go_sem, List.reduceReplicate, Nat.reduceEqDiff, Nat.reduceAdd, Nat.reduceLeDiff, Nat.reduceMul, Nat.reduceSub, Nat.reduceDiv, Int.reduceToNat, Nat.reduceLT, Int.reduceLT, Int.reduceLE, ↓reduceIte, reduceCtorEq, ints, rows, rat, rats, ratsO, toShL_ratC, List.mem_cons, List.mem_nil_iff, List.not_mem_nil, or_false, false_or, exists_eq_left, exists_eq_left', exists_eq_right', Root.live.injEq, eq_self_iff_true, exists_eq, and_true, T.toSh, toShL_ints, toShL_intsO, intsO, rowsO]
      simp -implicitDefEqProofs only [List.append_nil, List.cons_append, Nat.reduceLeDiff, afterCall, absT_rowsO, absT_intsO, absT, absL, updL, updS, freeAll, rid, T.noSh, T.noShL, Nat.zero_le, go_sem, List.reduceReplicate, Nat.reduceEqDiff, Nat.reduceAdd, Nat.reduceLeDiff, Nat.reduceMul, Nat.reduceSub, Nat.reduceDiv, Int.reduceToNat, Nat.reduceLT, Int.reduceLT, Int.reduceLE, ↓reduceIte, reduceCtorEq, rat, forall_apply_eq_imp_iff₂, toNat_cast]
      refine CallW.res (impl_gainsOf_ok (tr m c) p (by omega) (by omega) (fun r hr => by obtain ⟨k, _, rfl⟩ := List.mem_map.1 hr; simp only [colOf, List.length_map]; omega)) [15] rfl Try.call100 ?_ (.inr (gT_noSh _)) ?_
      · simp -implicitDefEqProofs only [Int.natCast_zero, Int.cast_ofNat_Int, Int.natCast_one, Nat.le_refl, Nat.reduceLeDiff, Nat.sub_self, Nat.reduceSub, List.getElem?_cons_zero, List.getElem?_cons_succ, vt_self, vaL, vtL, va, vt, vb, maT, List.cons_append, List.nil_append, List.append_nil, true_or, or_true, go_sem, List.reduceReplicate, Nat.reduceEqDiff, Nat.reduceAdd, Nat.reduceLeDiff, Nat.reduceMul, Nat.reduceSub, Nat.reduceDiv, Int.reduceToNat, Nat.reduceLT, Int.reduceLT, Int.reduceLE, ↓reduceIte, reduceCtorEq, ints, rows, rat, rats, ratsO, toShL_ratC, List.mem_cons, List.mem_nil_iff, List.not_mem_nil, or_false, false_or, exists_eq_left, exists_eq_left', exists_eq_right', Root.live.injEq, eq_self_iff_true, exists_eq, and_true, T.toSh, toShL_ints, toShL_intsO, intsO, rowsO]
      simp -implicitDefEqProofs only [List.append_nil, List.cons_append, Nat.reduceLeDiff, afterCall, absT_rowsO, absT_intsO, absT, absL, updL, updS, freeAll, rid, T.noSh, T.noShL, Nat.zero_le, go_sem, List.reduceReplicate, Nat.reduceEqDiff, Nat.reduceAdd, Nat.reduceLeDiff, Nat.reduceMul, Nat.reduceSub, Nat.reduceDiv, Int.reduceToNat, Nat.reduceLT, Int.reduceLT, Int.reduceLE, ↓reduceIte, reduceCtorEq, rat, forall_apply_eq_imp_iff₂, toNat_cast, gT]
      left; rw [cgRes, if_pos hmat, hc, if_pos hmix]
theorem spec_ColumnGains_ok (m : List (List Int)) (p : List (Int × Int)) (hp : p.length ≤ 1000000000000) : Fun Try.prog 47 [] [.t (rows m), .t (rats p)] fun o r => o = [] ∧ r = gT (cgRes m p) := by
  refine Fun.gT_nil ?_
  refine fun_spec_ColumnGains (by simp) ?_
  simp -implicitDefEqProofs only [go_sem, List.reduceReplicate, Nat.reduceEqDiff, Nat.reduceAdd, Nat.reduceLeDiff, Nat.reduceMul, Nat.reduceSub, Nat.reduceDiv, Int.reduceToNat, Nat.reduceLT, Int.reduceLT, Int.reduceLE, ↓reduceIte, reduceCtorEq, forall_apply_eq_imp_iff₂, ints, rows, rat, rats, toNat_cast, c_spec_ColumnGains]
  refine CallW.pure (spec_IsMatrix_ok m) [] rfl Try.call57 ?_ (by first | trivial | simp [T.noSh, T.noShL, rat]) rfl ?_
  · simp -implicitDefEqProofs only [Int.natCast_zero, Int.cast_ofNat_Int, Int.natCast_one, Nat.le_refl, Nat.reduceLeDiff, Nat.sub_self, Nat.reduceSub, List.getElem?_cons_zero, List.getElem?_cons_succ, vt_self, vaL, vtL, va, vt, vb, maT, List.cons_append, List.nil_append, List.append_nil, true_or, or_true, go_sem, List.reduceReplicate, Nat.reduceEqDiff, Nat.reduceAdd, Nat.reduceLeDiff, Nat.reduceMul, Nat.reduceSub, Nat.reduceDiv, Int.reduceToNat, Nat.reduceLT, Int.reduceLT, Int.reduceLE, ↓reduceIte, reduceCtorEq, ints, rows, rat, rats, ratsO, toShL_ratC, List.mem_cons, List.mem_nil_iff, List.not_mem_nil, or_false, false_or, exists_eq_left, exists_eq_left', exists_eq_right', Root.live.injEq, eq_self_iff_true, exists_eq, and_true, T.toSh, toShL_ints, toShL_intsO, intsO, rowsO]
  simp -implicitDefEqProofs only [go_sem, List.reduceReplicate, Nat.reduceEqDiff, Nat.reduceAdd, Nat.reduceLeDiff, Nat.reduceMul, Nat.reduceSub, Nat.reduceDiv, Int.reduceToNat, Nat.reduceLT, Int.reduceLT, Int.reduceLE, ↓reduceIte, reduceCtorEq, forall_apply_eq_imp_iff₂, ints, rows, rat, rats, toNat_cast]
  refine ⟨fun h => ?_, fun h => ?_⟩
  · have h' : isMat m = false := by simpa using h
    right; rw [cgRes, h']; exact ⟨rfl, rfl⟩
  · have hmat : isMat m = true := by simpa using h
    obtain ⟨h1, h2, h3, h4, h5, h6⟩ := isMat_spec hmat
    refine CallW.pure (spec_IsMix_ok p m.length hp) [] rfl Try.call36 ?_ (by first | trivial | simp [T.noSh, T.noShL, rat]) rfl ?_
    · simp -implicitDefEqProofs only [Int.natCast_zero, Int.cast_ofNat_Int, Int.natCast_one, Nat.le_refl, Nat.reduceLeDiff, Nat.sub_self, Nat.reduceSub, List.getElem?_cons_zero, List.getElem?_cons_succ, vt_self, vaL, vtL, va, vt, vb, maT, List.cons_append, List.nil_append, List.append_nil, true_or, or_true, go_sem, List.reduceReplicate, Nat.reduceEqDiff, Nat.reduceAdd, Nat.reduceLeDiff, Nat.reduceMul, Nat.reduceSub, Nat.reduceDiv, Int.reduceToNat, Nat.reduceLT, Int.reduceLT, Int.reduceLE, ↓reduceIte, reduceCtorEq, ints, rows, rat, rats, ratsO, toShL_ratC, List.mem_cons, List.mem_nil_iff, List.not_mem_nil, or_false, false_or, exists_eq_left, exists_eq_left', exists_eq_right', Root.live.injEq, eq_self_iff_true, exists_eq, and_true, T.toSh, toShL_ints, toShL_intsO, intsO, rowsO]
    simp -implicitDefEqProofs only [go_sem, List.reduceReplicate, Nat.reduceEqDiff, Nat.reduceAdd, Nat.reduceLeDiff, Nat.reduceMul, Nat.reduceSub, Nat.reduceDiv, Int.reduceToNat, Nat.reduceLT, Int.reduceLT, Int.reduceLE, ↓reduceIte, reduceCtorEq, forall_apply_eq_imp_iff₂, ints, rows, rat, rats, toNat_cast]
    refine ⟨fun h => ?_, fun h => ?_⟩
    · have h' : isMixB p m.length = false := by simpa using h
      right; rw [cgRes, hmat, h']; exact ⟨rfl, rfl⟩
    · have hmix : isMixB p m.length = true := by simpa using h
      have hpl := isMixB_length hmix
      generalize hc : (m.headD []).length = c at h3 h4 h5
      refine CallW.ref (spec_l26Columns_ok 0 m c p (by rintro rfl; simp at h1) (by omega) (by omega) (by omega) h5) [16] [] rfl Try.call109 (by simp) ?_ (by simp) ?_ (.inl rfl) ?_
      · simp -implicitDefEqProofs only [rootOf_arr, rootOf_box, rootOf_any, srcsOK, updL, updS, upd_apply, Nat.reduceEqDiff, ↓reduceIte, mkRoots, and_true, ints, rows, intsO, rowsO]
      · simp -implicitDefEqProofs only [Int.natCast_zero, Int.cast_ofNat_Int, Int.natCast_one, Nat.le_refl, Nat.reduceLeDiff, Nat.sub_self, Nat.reduceSub, List.getElem?_cons_zero, List.getElem?_cons_succ, vt_self, vaL, vtL, va, vt, vb, maT, List.cons_append, List.nil_append, List.append_nil, true_or, or_true, go_sem, List.reduceReplicate, Nat.reduceEqDiff, Nat.reduceAdd, Nat.reduceLeDiff, Nat.reduceMul, Nat.reduceSub, Nat.reduceDiv, Int.reduceToNat, Nat.reduceLT, Int.reduceLT, Int.reduceLE, ↓reduceIte, reduceCtorEq, ints, rows, rat, rats, ratsO, toShL_ratC, List.mem_cons, List.mem_nil_iff, List.not_mem_nil, or_false, false_or, exists_eq_left, exists_eq_left', exists_eq_right', Root.live.injEq, eq_self_iff_true, exists_eq, and_true, T.toSh, toShL_ints, toShL_intsO, intsO, rowsO]
      simp -implicitDefEqProofs only [List.append_nil, List.cons_append, Nat.reduceLeDiff, afterCall, absT_rowsO, absT_intsO, absT, absL, updL, updS, freeAll, rid, T.noSh, T.noShL, Nat.zero_le, go_sem, List.reduceReplicate, Nat.reduceEqDiff, Nat.reduceAdd, Nat.reduceLeDiff, Nat.reduceMul, Nat.reduceSub, Nat.reduceDiv, Int.reduceToNat, Nat.reduceLT, Int.reduceLT, Int.reduceLE, ↓reduceIte, reduceCtorEq, rat, forall_apply_eq_imp_iff₂, toNat_cast]
      have hrs := rowsGo_spec p (tr m c)
      have hres : cgRes m p = gainsGo p (tr m c) := by rw [cgRes, if_pos hmat, hc, if_pos hmix]
      by_cases hc : (gainsGo p (tr m c)).2 = 0
      · rw [hrs.1, hc, hrs.2 hc]
        refine CallW.ref (spec_l26List_ok (gainsGo p (tr m c)).1) [16, 21] [] rfl Try.call101 (by simp) ?_ (by simp) ?_ (.inl rfl) ?_
        · simp -implicitDefEqProofs only [rootOf_arr, rootOf_box, rootOf_any, srcsOK, updL, updS, upd_apply, Nat.reduceEqDiff, ↓reduceIte, mkRoots, and_true, ints, rows, intsO, rowsO]
        · simp -implicitDefEqProofs only [Int.natCast_zero, Int.cast_ofNat_Int, Int.natCast_one, Nat.le_refl, Nat.reduceLeDiff, Nat.sub_self, Nat.reduceSub, List.getElem?_cons_zero, List.getElem?_cons_succ, vt_self, vaL, vtL, va, vt, vb, maT, List.cons_append, List.nil_append, List.append_nil, true_or, or_true, go_sem, List.reduceReplicate, Nat.reduceEqDiff, Nat.reduceAdd, Nat.reduceLeDiff, Nat.reduceMul, Nat.reduceSub, Nat.reduceDiv, Int.reduceToNat, Nat.reduceLT, Int.reduceLT, Int.reduceLE, ↓reduceIte, reduceCtorEq, ints, rows, rat, rats, ratsO, toShL_ratC, List.mem_cons, List.mem_nil_iff, List.not_mem_nil, or_false, false_or, exists_eq_left, exists_eq_left', exists_eq_right', Root.live.injEq, eq_self_iff_true, exists_eq, and_true, T.toSh, toShL_ints, toShL_intsO, intsO, rowsO]
        simp -implicitDefEqProofs only [List.append_nil, List.cons_append, Nat.reduceLeDiff, afterCall, absT_rowsO, absT_intsO, absT, absL, updL, updS, freeAll, rid, T.noSh, T.noShL, Nat.zero_le, go_sem, List.reduceReplicate, Nat.reduceEqDiff, Nat.reduceAdd, Nat.reduceLeDiff, Nat.reduceMul, Nat.reduceSub, Nat.reduceDiv, Int.reduceToNat, Nat.reduceLT, Int.reduceLT, Int.reduceLE, ↓reduceIte, reduceCtorEq, rat, forall_apply_eq_imp_iff₂, toNat_cast, ratsO]
        left; rw [hres, gT, hc]; rfl
      · rw [hrs.1]
        refine CallW.ref (spec_l26List_err (gainsGo p (tr m c)).2 hc (rowsGo p 0 (tr m c)).1) [16, 21] [] rfl Try.call101 (by simp) ?_ (by simp) ?_ (.inl rfl) ?_
        · simp -implicitDefEqProofs only [rootOf_arr, rootOf_box, rootOf_any, srcsOK, updL, updS, upd_apply, Nat.reduceEqDiff, ↓reduceIte, mkRoots, and_true, ints, rows, intsO, rowsO]
        · simp -implicitDefEqProofs only [Int.natCast_zero, Int.cast_ofNat_Int, Int.natCast_one, Nat.le_refl, Nat.reduceLeDiff, Nat.sub_self, Nat.reduceSub, List.getElem?_cons_zero, List.getElem?_cons_succ, vt_self, vaL, vtL, va, vt, vb, maT, List.cons_append, List.nil_append, List.append_nil, true_or, or_true, go_sem, List.reduceReplicate, Nat.reduceEqDiff, Nat.reduceAdd, Nat.reduceLeDiff, Nat.reduceMul, Nat.reduceSub, Nat.reduceDiv, Int.reduceToNat, Nat.reduceLT, Int.reduceLT, Int.reduceLE, ↓reduceIte, reduceCtorEq, ints, rows, rat, rats, ratsO, toShL_ratC, List.mem_cons, List.mem_nil_iff, List.not_mem_nil, or_false, false_or, exists_eq_left, exists_eq_left', exists_eq_right', Root.live.injEq, eq_self_iff_true, exists_eq, and_true, T.toSh, toShL_ints, toShL_intsO, intsO, rowsO]
        simp -implicitDefEqProofs only [List.append_nil, List.cons_append, Nat.reduceLeDiff, afterCall, absT_rowsO, absT_intsO, absT, absL, updL, updS, freeAll, rid, T.noSh, T.noShL, Nat.zero_le, go_sem, List.reduceReplicate, Nat.reduceEqDiff, Nat.reduceAdd, Nat.reduceLeDiff, Nat.reduceMul, Nat.reduceSub, Nat.reduceDiv, Int.reduceToNat, Nat.reduceLT, Int.reduceLT, Int.reduceLE, ↓reduceIte, reduceCtorEq, rat, forall_apply_eq_imp_iff₂, toNat_cast, ratsO]
        right; rw [hres]; exact ⟨gainsGo_err p _ hc, rfl⟩
end Go.Ab

/- Contracts: marks of lists of ratios. -/
set_option linter.unusedSimpArgs false
set_option linter.unusedVariables false
namespace Go.Ab
open Go.Proofs

theorem budget_ok {n : Nat} {left : Int} (h0 : 0 ≤ left) (h : 0 ≤ budget n left) : (n : Int) ≤ left ∧ budget n left ≤ left := by
  simp only [budget] at h ⊢
  split at h <;> split <;> omega
theorem budgetRows_le : ∀ (m : List (List Int)) {left : Int}, 0 ≤ left → budgetRows m left ≤ left
  | [], left, h => by simp [budgetRows]
  | r :: m, left, h => by
    rw [budgetRows]
    split
    · omega
    · have := budgetRows_le m (left := left - r.length) (by omega); omega
theorem budgetMat_le {m : List (List Int)} {left : Int} (h : 0 ≤ left) : budgetMat m left ≤ left := by
  rw [budgetMat]; split
  · omega
  · have := budgetRows_le m (left := left - m.length) (by omega); omega
theorem cgRes_length (m : List (List Int)) (q : List (Int × Int)) : (cgRes m q).1.length ≤ 4 := by
  rw [cgRes]
  by_cases h1 : isMat m = true
  · obtain ⟨_, _, _, h2, _⟩ := isMat_spec h1
    rw [if_pos h1]; split
    · by_cases h3 : (gainsGo q (tr m (m.headD []).length)).2 = 0
      · rw [gainsGo_length q _ h3, tr, List.length_map, List.length_range]; exact h2
      · rw [gainsGo_err q _ h3]; simp
    · simp
  · rw [if_neg h1]; simp
end Go.Ab

/- Contracts: MatrixValue. -/
set_option linter.unusedSimpArgs false
set_option linter.unusedVariables false
namespace Go.Ab
open Go.Proofs

theorem redT_noSh (x : (Int × Int) × Int) : (redT x).noSh := ⟨⟨trivial, trivial, trivial⟩, trivial, trivial⟩
end Go.Ab

/- The order of ratios; valid sums. -/
set_option linter.unusedSimpArgs false
set_option linter.unusedVariables false
namespace Go.Ab
open Go.Proofs

def cmpR (a b : Int × Int) : Int := if a.1 * b.2 < b.1 * a.2 then -1 else if b.1 * a.2 < a.1 * b.2 then 1 else 0
theorem redR_valid {n d : Int} (h : (redR n d).2 = 0) : isRat (redR n d).1 = true := by
  unfold redR at h ⊢
  split
  · rename_i h1; exact h1
  · rename_i h1; rw [if_neg h1] at h; simp at h
theorem addR_valid {a b : Int × Int} (h : (addR a b).2 = 0) : isRat (addR a b).1 = true := by
  unfold addR at h ⊢
  split
  · rename_i h1; rw [if_pos h1] at h; exact redR_valid h
  · rename_i h1; rw [if_neg h1] at h; simp at h
theorem spGo_valid : ∀ (l : List ((Int × Int) × (Int × Int))) (s : Int × Int), isRat s = true → (spGo s l).2 = 0 → isRat (spGo s l).1 = true
  | [], s, hs, _ => hs
  | x :: l, s, hs, h => by
    rw [spGo] at h ⊢
    split
    · rename_i h1; rw [if_pos h1] at h; exact absurd h h1
    · rename_i h1
      rw [if_neg h1] at h
      split
      · rename_i h2; rw [if_pos h2] at h; exact absurd h h2
      · rename_i h2; rw [if_neg h2] at h; exact spGo_valid l _ (addR_valid (by omega)) h
theorem gainsGo_valid (q : List (Int × Int)) : ∀ (m : List (List Int)), ∀ x ∈ (gainsGo q m).1, isRat x = true
  | [], x, hx => by simp [gainsGo] at hx
  | r :: m, x, hx => by
    rw [gainsGo] at hx
    split at hx
    · simp at hx
    · rename_i h1
      split at hx
      · simp at hx
      · rcases List.mem_cons.1 hx with rfl | hx
        · exact spGo_valid _ _ (by decide) (by have h1 : (spR q (ones r)).2 = 0 := by simpa using h1
                                               exact h1)
        · exact gainsGo_valid q m x hx

def minR (l : List (Int × Int)) : Int × Int := l.tail.foldl (fun m x => if cmpR x m < 0 then x else m) (l.headD (0, 0))
theorem minR_snoc {l : List (Int × Int)} (h : l ≠ []) (x : Int × Int) : minR (l ++ [x]) = if cmpR x (minR l) < 0 then x else minR l := by
  cases l with
  | nil => exact absurd rfl h
  | cons a l => simp [minR, List.foldl_append]
end Go.Ab

/- Contracts: comparison of ratios; the least and the greatest of ratios. -/
set_option linter.unusedSimpArgs false
set_option linter.unusedVariables false
namespace Go.Ab
open Go.Proofs

theorem cmp_isNaN_ok (x : Int) : Pure Try.prog 141 [.i x] (.b false) := by
  refine fun_cmp_isNaN_int64_ (by simp) ?_
  simp -implicitDefEqProofs only [go_sem, List.reduceReplicate, Nat.reduceEqDiff, Nat.reduceAdd, Nat.reduceLeDiff, Nat.reduceMul, Nat.reduceSub, Nat.reduceDiv, Int.reduceToNat, Nat.reduceLT, Int.reduceLT, Int.reduceLE, ↓reduceIte, reduceCtorEq, forall_apply_eq_imp_iff₂, ints, rows, rat, rats, toNat_cast, c_cmp_isNaN_int64_]
theorem cmp_Compare_ok (x y : Int) : Pure Try.prog 121 [.i x, .i y] (.i (if x < y then -1 else if y < x then 1 else 0)) := by
  refine fun_cmp_Compare_int64_ (by simp) ?_
  simp -implicitDefEqProofs only [go_sem, List.reduceReplicate, Nat.reduceEqDiff, Nat.reduceAdd, Nat.reduceLeDiff, Nat.reduceMul, Nat.reduceSub, Nat.reduceDiv, Int.reduceToNat, Nat.reduceLT, Int.reduceLT, Int.reduceLE, ↓reduceIte, reduceCtorEq, forall_apply_eq_imp_iff₂, ints, rows, rat, rats, toNat_cast, c_cmp_Compare_int64_]
  refine CallW.pure (cmp_isNaN_ok x) [] rfl Try.call141 ?_ (by first | trivial | simp [T.noSh, T.noShL, rat]) rfl ?_
  · simp -implicitDefEqProofs only [Int.natCast_zero, Int.cast_ofNat_Int, Int.natCast_one, Nat.le_refl, Nat.reduceLeDiff, Nat.sub_self, Nat.reduceSub, List.getElem?_cons_zero, List.getElem?_cons_succ, vt_self, vaL, vtL, va, vt, vb, maT, List.cons_append, List.nil_append, List.append_nil, true_or, or_true, go_sem, List.reduceReplicate, Nat.reduceEqDiff, Nat.reduceAdd, Nat.reduceLeDiff, Nat.reduceMul, Nat.reduceSub, Nat.reduceDiv, Int.reduceToNat, Nat.reduceLT, Int.reduceLT, Int.reduceLE, ↓reduceIte, reduceCtorEq, ints, rows, rat, rats, ratsO, toShL_ratC, List.mem_cons, List.mem_nil_iff, List.not_mem_nil, or_false, false_or, exists_eq_left, exists_eq_left', exists_eq_right', Root.live.injEq, eq_self_iff_true, exists_eq, and_true, T.toSh, toShL_ints, toShL_intsO, intsO, rowsO]
  simp -implicitDefEqProofs only [go_sem, List.reduceReplicate, Nat.reduceEqDiff, Nat.reduceAdd, Nat.reduceLeDiff, Nat.reduceMul, Nat.reduceSub, Nat.reduceDiv, Int.reduceToNat, Nat.reduceLT, Int.reduceLT, Int.reduceLE, ↓reduceIte, reduceCtorEq, forall_apply_eq_imp_iff₂, ints, rows, rat, rats, toNat_cast]
  refine CallW.pure (cmp_isNaN_ok y) [] rfl Try.call141 ?_ (by first | trivial | simp [T.noSh, T.noShL, rat]) rfl ?_
  · simp -implicitDefEqProofs only [Int.natCast_zero, Int.cast_ofNat_Int, Int.natCast_one, Nat.le_refl, Nat.reduceLeDiff, Nat.sub_self, Nat.reduceSub, List.getElem?_cons_zero, List.getElem?_cons_succ, vt_self, vaL, vtL, va, vt, vb, maT, List.cons_append, List.nil_append, List.append_nil, true_or, or_true, go_sem, List.reduceReplicate, Nat.reduceEqDiff, Nat.reduceAdd, Nat.reduceLeDiff, Nat.reduceMul, Nat.reduceSub, Nat.reduceDiv, Int.reduceToNat, Nat.reduceLT, Int.reduceLT, Int.reduceLE, ↓reduceIte, reduceCtorEq, ints, rows, rat, rats, ratsO, toShL_ratC, List.mem_cons, List.mem_nil_iff, List.not_mem_nil, or_false, false_or, exists_eq_left, exists_eq_left', exists_eq_right', Root.live.injEq, eq_self_iff_true, exists_eq, and_true, T.toSh, toShL_ints, toShL_intsO, intsO, rowsO]
  simp -implicitDefEqProofs only [go_sem, List.reduceReplicate, Nat.reduceEqDiff, Nat.reduceAdd, Nat.reduceLeDiff, Nat.reduceMul, Nat.reduceSub, Nat.reduceDiv, Int.reduceToNat, Nat.reduceLT, Int.reduceLT, Int.reduceLE, ↓reduceIte, reduceCtorEq, forall_apply_eq_imp_iff₂, ints, rows, rat, rats, toNat_cast]
  refine ⟨fun h => by rw [if_pos h], fun h => ⟨fun h' => by rw [if_neg h, if_pos (by omega)], fun h' => by rw [if_neg h, if_neg (by omega)]⟩⟩
theorem impl_compareRatios_ok (a b : Int × Int) (ha : isRat a = true) (hb : isRat b = true) : Pure Try.prog 85 [rat a, rat b] (.i (cmpR a b)) := by
  refine fun_impl_compareRatios (by simp) ?_
  simp -implicitDefEqProofs only [go_sem, List.reduceReplicate, Nat.reduceEqDiff, Nat.reduceAdd, Nat.reduceLeDiff, Nat.reduceMul, Nat.reduceSub, Nat.reduceDiv, Int.reduceToNat, Nat.reduceLT, Int.reduceLT, Int.reduceLE, ↓reduceIte, reduceCtorEq, forall_apply_eq_imp_iff₂, ints, rows, rat, rats, toNat_cast, c_impl_compareRatios]
  obtain ⟨a1, a2, a3, a4⟩ := isRat_spec ha
  obtain ⟨b1, b2, b3, b4⟩ := isRat_spec hb
  have p1 := mul_bound a1 a2 b3 b4
  have p2 := mul_bound b1 b2 a3 a4
  rw [wrap64 (n := a.1 * b.2) (by omega) (by omega), wrap64 (n := b.1 * a.2) (by omega) (by omega)]
  refine CallW.pure (cmp_Compare_ok (a.1 * b.2) (b.1 * a.2)) [] rfl Try.call121 ?_ (by first | trivial | simp [T.noSh, T.noShL, rat]) rfl ?_
  · simp -implicitDefEqProofs only [Int.natCast_zero, Int.cast_ofNat_Int, Int.natCast_one, Nat.le_refl, Nat.reduceLeDiff, Nat.sub_self, Nat.reduceSub, List.getElem?_cons_zero, List.getElem?_cons_succ, vt_self, vaL, vtL, va, vt, vb, maT, List.cons_append, List.nil_append, List.append_nil, true_or, or_true, go_sem, List.reduceReplicate, Nat.reduceEqDiff, Nat.reduceAdd, Nat.reduceLeDiff, Nat.reduceMul, Nat.reduceSub, Nat.reduceDiv, Int.reduceToNat, Nat.reduceLT, Int.reduceLT, Int.reduceLE, ↓reduceIte, reduceCtorEq, ints, rows, rat, rats, ratsO, toShL_ratC, List.mem_cons, List.mem_nil_iff, List.not_mem_nil, or_false, false_or, exists_eq_left, exists_eq_left', exists_eq_right', Root.live.injEq, eq_self_iff_true, exists_eq, and_true, T.toSh, toShL_ints, toShL_intsO, intsO, rowsO]
  simp -implicitDefEqProofs only [go_sem, List.reduceReplicate, Nat.reduceEqDiff, Nat.reduceAdd, Nat.reduceLeDiff, Nat.reduceMul, Nat.reduceSub, Nat.reduceDiv, Int.reduceToNat, Nat.reduceLT, Int.reduceLT, Int.reduceLE, ↓reduceIte, reduceCtorEq, forall_apply_eq_imp_iff₂, ints, rows, rat, rats, toNat_cast]
  rfl
theorem spec_l01Compare_ok (a b : Int × Int) (ha : isRat a = true) (hb : isRat b = true) : Pure Try.prog 82 [rat a, rat b] (.i (cmpR a b)) := by
  refine fun_spec_l01Compare (by simp) ?_
  simp -implicitDefEqProofs only [go_sem, List.reduceReplicate, Nat.reduceEqDiff, Nat.reduceAdd, Nat.reduceLeDiff, Nat.reduceMul, Nat.reduceSub, Nat.reduceDiv, Int.reduceToNat, Nat.reduceLT, Int.reduceLT, Int.reduceLE, ↓reduceIte, reduceCtorEq, forall_apply_eq_imp_iff₂, ints, rows, rat, rats, toNat_cast, c_spec_l01Compare]
  obtain ⟨a1, a2, a3, a4⟩ := isRat_spec ha
  obtain ⟨b1, b2, b3, b4⟩ := isRat_spec hb
  have p1 := mul_bound a1 a2 b3 b4
  have p2 := mul_bound b1 b2 a3 a4
  rw [wrap64 (n := a.1 * b.2) (by omega) (by omega), wrap64 (n := b.1 * a.2) (by omega) (by omega)]
  unfold cmpR
  refine ⟨fun h => by rw [if_pos h], fun h => ⟨fun h' => by rw [if_neg h, if_pos (by omega)], fun h' => by rw [if_neg h, if_neg (by omega)]⟩⟩
end Go.Ab

/- Contracts: the least and the greatest of ratios. -/
set_option linter.unusedSimpArgs false
set_option linter.unusedVariables false
namespace Go.Ab
open Go.Proofs

theorem mm_mem {f : (Int × Int) → (Int × Int) → Prop} [∀ a b, Decidable (f a b)] : ∀ (l : List (Int × Int)) (a : Int × Int), l.foldl (fun m x => if f m x then x else m) a ∈ a :: l := by
  intro l
  induction l with
  | nil => intro a; simp
  | cons b l ih =>
    intro a
    rw [List.foldl_cons]
    have := ih (if f a b then b else a)
    rcases List.mem_cons.1 this with h | h
    · rw [h]; split <;> simp
    · simp [h]
theorem minR_mem {l : List (Int × Int)} (h : l ≠ []) : minR l ∈ l := by
  cases l with
  | nil => exact absurd rfl h
  | cons a l => exact mm_mem (f := fun m x => cmpR x m < 0) l a
theorem take_ne {l : List (Int × Int)} {i : Nat} (h : 1 ≤ i) (h' : i ≤ l.length) : l.take i ≠ [] := by
  intro e
  have := congrArg List.length e
  simp at this
  rcases this with h | h
  · omega
  · rw [h] at h'; simp at h'; omega
theorem take_mem {l : List (Int × Int)} {i : Nat} {x : Int × Int} (h : x ∈ l.take i) : x ∈ l := List.mem_of_mem_take h

theorem ratC_take2 {l : List (Int × Int)} {x : Int × Int} (h : l[0]? = some x) : (ratC l).take 2 = [T.i x.1, T.i x.2] := by
  have := ratC_at h
  simpa using this
theorem slices_MinFunc_ok (l : List (Int × Int)) (hv : ∀ x ∈ l, isRat x = true) (h0 : 1 ≤ l.length) (h1 : l.length ≤ 1000000000) : Pure Try.prog 87 [rats l, .fn 85 []] (rat (minR l)) := by
  obtain ⟨x0, hx0⟩ : ∃ x, l[0]? = some x := ⟨_, List.getElem?_eq_getElem (by omega)⟩
  refine fun_slices_MinFunc___impl_Ratio_impl_Ratio_ (by simp) ?_
  simp -implicitDefEqProofs only [go_sem, List.reduceReplicate, Nat.reduceEqDiff, Nat.reduceAdd, Nat.reduceLeDiff, Nat.reduceMul, Nat.reduceSub, Nat.reduceDiv, Int.reduceToNat, Nat.reduceLT, Int.reduceLT, Int.reduceLE, ↓reduceIte, reduceCtorEq, forall_apply_eq_imp_iff₂, ints, rows, rat, rats, toNat_cast, c_slices_MinFunc___impl_Ratio_impl_Ratio_]
  refine ⟨fun h => by omega, fun _ => ⟨by rw [ratC_length]; omega, by rw [ratC_length]; omega, by rw [ratC_take2 hx0]; rfl, ?_⟩⟩
  rw [ratC_take2 hx0]
  simp -implicitDefEqProofs only [go_sem, List.reduceReplicate, Nat.reduceEqDiff, Nat.reduceAdd, Nat.reduceLeDiff, Nat.reduceMul, Nat.reduceSub, Nat.reduceDiv, Int.reduceToNat, Nat.reduceLT, Int.reduceLT, Int.reduceLE, ↓reduceIte, reduceCtorEq, forall_apply_eq_imp_iff₂, ints, rows, rat, rats, toNat_cast]
  have t1 : l.take 1 = [x0] := by
    cases l with
    | nil => simp at h0
    | cons a l => simp at hx0; simp [hx0]
  refine SemC.loopR (σ := Nat) (fun i => St.of [(0, .t (rats l)), (1, .t (.fn 85 [])), (4, .own 4), (5, .own 5), (6, .t (.i i))] [(4, .box [.i 0, .i 0]), (5, .box [.i (minR (l.take i)).1, .i (minR (l.take i)).2])]) (fun i => 1 ≤ i ∧ i ≤ l.length) (fun i => l.length - i) 1 (Weak.of _ _ [some 4, some 5] (by simp) (by simp) ?_ ?_) ⟨by omega, by omega⟩ fun i hI R hn hr he => ?_
  · simp -implicitDefEqProofs only [ints, rows, Nat.reduceBEq, Int.add_zero, envOK, maA, maT, upd_apply, Nat.reduceEqDiff, ↓reduceIte, and_true, true_or, or_true, List.map_cons, List.map_nil, Nat.zero_ne_one, and_self, true_and, Int.natCast_zero, Int.cast_ofNat_Int, Int.ofNat_zero, piOf, List.zip_cons_cons, List.zip_nil_right, List.lookup_cons, List.lookup_nil, beq_self_eq_true, rootsOK, mkRoots, mkEnv, rats]
  · exact ⟨⟨_, rfl, .refl _⟩, rfl, ⟨_, rfl, by rw [t1]; exact .refl _⟩, rfl, trivial⟩
  · simp -implicitDefEqProofs only [go_sem, List.reduceReplicate, Nat.reduceEqDiff, Nat.reduceAdd, Nat.reduceLeDiff, Nat.reduceMul, Nat.reduceSub, Nat.reduceDiv, Int.reduceToNat, Nat.reduceLT, Int.reduceLT, Int.reduceLE, ↓reduceIte, reduceCtorEq, forall_apply_eq_imp_iff₂, ints, rows, rat, rats, toNat_cast]
    refine ⟨fun h => ?_, fun h => he _ _ ?_⟩
    · have hil : i < l.length := by omega
      obtain ⟨x, hx⟩ : ∃ x, l[i]? = some x := ⟨_, List.getElem?_eq_getElem hil⟩
      have hm := minR_mem (take_ne hI.1 hI.2)
      have hs := take_snoc hx
      have hss := minR_snoc (take_ne hI.1 hI.2) x
      rw [← hs] at hss
      have hxv := hv x (List.mem_of_getElem? hx)
      generalize hmm : minR (l.take i) = mm at hm hss
      have hmv := hv mm (take_mem hm)
      refine ⟨by omega, by rw [ratC_length]; omega, by rw [ratC_length]; omega, ?_⟩
      rw [ratC_at hx]
      refine CallV.pure (impl_compareRatios_ok x mm hxv hmv) [] rfl Try.call85 (fun e R' hR => ?_) (by first | trivial | simp [T.noSh, T.noShL, rat]) (fun _ => rfl) ?_
      · simp -implicitDefEqProofs only [Int.natCast_zero, Int.cast_ofNat_Int, Int.natCast_one, Nat.le_refl, Nat.reduceLeDiff, Nat.sub_self, Nat.reduceSub, List.getElem?_cons_zero, List.getElem?_cons_succ, vt_self, vaL, vtL, va, vt, vb, maT, List.cons_append, List.nil_append, List.append_nil, true_or, or_true, go_sem, List.reduceReplicate, Nat.reduceEqDiff, Nat.reduceAdd, Nat.reduceLeDiff, Nat.reduceMul, Nat.reduceSub, Nat.reduceDiv, Int.reduceToNat, Nat.reduceLT, Int.reduceLT, Int.reduceLE, ↓reduceIte, reduceCtorEq, ints, rows, rat, rats, ratsO, toShL_ratC, List.mem_cons, List.mem_nil_iff, List.not_mem_nil, or_false, false_or, exists_eq_left, exists_eq_left', exists_eq_right', Root.live.injEq, eq_self_iff_true, exists_eq, and_true, T.toSh, toShL_ints, toShL_intsO, intsO, rowsO]
      simp -implicitDefEqProofs only [go_sem, List.reduceReplicate, Nat.reduceEqDiff, Nat.reduceAdd, Nat.reduceLeDiff, Nat.reduceMul, Nat.reduceSub, Nat.reduceDiv, Int.reduceToNat, Nat.reduceLT, Int.reduceLT, Int.reduceLE, ↓reduceIte, reduceCtorEq, forall_apply_eq_imp_iff₂, ints, rows, rat, rats, toNat_cast]
      refine ⟨fun hc => ?_, fun hc => ?_⟩
      · rw [if_pos (by omega)] at hss
        refine ⟨by omega, by rw [ratC_length]; omega, by rw [ratC_length]; omega, by rw [ratC_at hx]; rfl, ?_⟩
        rw [ratC_at hx]
        simp -implicitDefEqProofs only [go_sem, List.reduceReplicate, Nat.reduceEqDiff, Nat.reduceAdd, Nat.reduceLeDiff, Nat.reduceMul, Nat.reduceSub, Nat.reduceDiv, Int.reduceToNat, Nat.reduceLT, Int.reduceLT, Int.reduceLE, ↓reduceIte, reduceCtorEq, forall_apply_eq_imp_iff₂, ints, rows, rat, rats, toNat_cast]
        refine hn _ (i + 1) (Weak.of _ _ [some 4, some 5] (by simp) (by simp) ?_ ?_) ⟨by omega, by omega⟩ (by omega)
        · simp -implicitDefEqProofs only [ints, rows, Nat.reduceBEq, Int.add_zero, envOK, maA, maT, upd_apply, Nat.reduceEqDiff, ↓reduceIte, and_true, true_or, or_true, List.map_cons, List.map_nil, Nat.zero_ne_one, and_self, true_and, Int.natCast_zero, Int.cast_ofNat_Int, Int.ofNat_zero, piOf, List.zip_cons_cons, List.zip_nil_right, List.lookup_cons, List.lookup_nil, beq_self_eq_true, rootsOK, mkRoots, mkEnv, rats, next64 hil (by omega)]
        · exact ⟨⟨_, rfl, .refl _⟩, rfl, ⟨_, rfl, by rw [hss]; exact .refl _⟩, rfl, trivial⟩
      · rw [if_neg (by omega)] at hss
        refine hn _ (i + 1) (Weak.of _ _ [some 4, some 5] (by simp) (by simp) ?_ ?_) ⟨by omega, by omega⟩ (by omega)
        · simp -implicitDefEqProofs only [ints, rows, Nat.reduceBEq, Int.add_zero, envOK, maA, maT, upd_apply, Nat.reduceEqDiff, ↓reduceIte, and_true, true_or, or_true, List.map_cons, List.map_nil, Nat.zero_ne_one, and_self, true_and, Int.natCast_zero, Int.cast_ofNat_Int, Int.ofNat_zero, piOf, List.zip_cons_cons, List.zip_nil_right, List.lookup_cons, List.lookup_nil, beq_self_eq_true, rootsOK, mkRoots, mkEnv, rats, next64 hil (by omega)]
        · exact ⟨⟨_, rfl, .refl _⟩, rfl, ⟨_, rfl, by rw [hss]; exact .refl _⟩, rfl, trivial⟩
    · simp -implicitDefEqProofs only [go_sem, List.reduceReplicate, Nat.reduceEqDiff, Nat.reduceAdd, Nat.reduceLeDiff, Nat.reduceMul, Nat.reduceSub, Nat.reduceDiv, Int.reduceToNat, Nat.reduceLT, Int.reduceLT, Int.reduceLE, ↓reduceIte, reduceCtorEq, forall_apply_eq_imp_iff₂, ints, rows, rat, rats, toNat_cast]
      have e : l.take i = l := List.take_of_length_le (by omega)
      rw [e]
end Go.Ab

/- Contracts: BestRow, SecurityOf. -/
set_option linter.unusedSimpArgs false
set_option linter.unusedVariables false
namespace Go.Ab
open Go.Proofs

def soRes (m : List (List Int)) (p : List (Int × Int)) : (Int × Int) × Int := if (cgRes m p).2 ≠ 0 then ((0, 0), (cgRes m p).2) else (minR (cgRes m p).1, 0)
theorem cgRes_valid (m : List (List Int)) (q : List (Int × Int)) : ∀ x ∈ (cgRes m q).1, isRat x = true := by
  unfold cgRes
  split
  · split
    · exact gainsGo_valid q _
    · intro x hx; simp at hx
  · intro x hx; simp at hx
theorem cgRes_pos {m : List (List Int)} {q : List (Int × Int)} (h : (cgRes m q).2 = 0) : 1 ≤ (cgRes m q).1.length := by
  unfold cgRes at h ⊢
  split
  · rename_i hm
    rw [if_pos hm] at h
    split
    · rename_i hx
      rw [if_pos hx] at h
      rw [gainsGo_length q _ h]
      obtain ⟨h1, h2, h3, h4, h5, h6⟩ := isMat_spec hm
      have : (tr m (m.headD []).length).length = (m.headD []).length := by simp [tr]
      omega
    · rename_i hx; rw [if_neg hx] at h; simp at h
  · rename_i hm; rw [if_neg hm] at h; simp at h
theorem spec_l26Least_ok (l : List (Int × Int)) (hv : ∀ x ∈ l, isRat x = true) (h0 : 1 ≤ l.length) (h1 : l.length ≤ 1000000000) : Pure Try.prog 86 [rats l] (rat (minR l)) := by
  obtain ⟨x0, hx0⟩ : ∃ x, l[0]? = some x := ⟨_, List.getElem?_eq_getElem (by omega)⟩
  refine fun_spec_l26Least (by simp) ?_
  simp -implicitDefEqProofs only [go_sem, List.reduceReplicate, Nat.reduceEqDiff, Nat.reduceAdd, Nat.reduceLeDiff, Nat.reduceMul, Nat.reduceSub, Nat.reduceDiv, Int.reduceToNat, Nat.reduceLT, Int.reduceLT, Int.reduceLE, ↓reduceIte, reduceCtorEq, forall_apply_eq_imp_iff₂, ints, rows, rat, rats, toNat_cast, c_spec_l26Least]
  refine ⟨by rw [ratC_length]; omega, by rw [ratC_length]; omega, by rw [ratC_take2 hx0]; rfl, ?_⟩
  rw [ratC_take2 hx0]
  simp -implicitDefEqProofs only [go_sem, List.reduceReplicate, Nat.reduceEqDiff, Nat.reduceAdd, Nat.reduceLeDiff, Nat.reduceMul, Nat.reduceSub, Nat.reduceDiv, Int.reduceToNat, Nat.reduceLT, Int.reduceLT, Int.reduceLE, ↓reduceIte, reduceCtorEq, forall_apply_eq_imp_iff₂, ints, rows, rat, rats, toNat_cast]
  have t1 : l.take 1 = [x0] := by
    cases l with
    | nil => simp at h0
    | cons a l => simp at hx0; simp [hx0]
  refine SemC.loopR (σ := Nat) (fun i => St.of [(0, .t (rats l)), (2, .own 2), (3, .own 3), (4, .t (.i i))] [(2, .box [.i 0, .i 0]), (3, .box [.i (minR (l.take i)).1, .i (minR (l.take i)).2])]) (fun i => 1 ≤ i ∧ i ≤ l.length) (fun i => l.length - i) 1 (Weak.of _ _ [some 2, some 3] (by simp) (by simp) ?_ ?_) ⟨by omega, by omega⟩ fun i hI R hn hr he => ?_
  · simp -implicitDefEqProofs only [ints, rows, Nat.reduceBEq, Int.add_zero, envOK, maA, maT, upd_apply, Nat.reduceEqDiff, ↓reduceIte, and_true, true_or, or_true, List.map_cons, List.map_nil, Nat.zero_ne_one, and_self, true_and, Int.natCast_zero, Int.cast_ofNat_Int, Int.ofNat_zero, piOf, List.zip_cons_cons, List.zip_nil_right, List.lookup_cons, List.lookup_nil, beq_self_eq_true, rootsOK, mkRoots, mkEnv, rats]
  · exact ⟨⟨_, rfl, .refl _⟩, rfl, ⟨_, rfl, by rw [t1]; exact .refl _⟩, rfl, trivial⟩
  · simp -implicitDefEqProofs only [go_sem, List.reduceReplicate, Nat.reduceEqDiff, Nat.reduceAdd, Nat.reduceLeDiff, Nat.reduceMul, Nat.reduceSub, Nat.reduceDiv, Int.reduceToNat, Nat.reduceLT, Int.reduceLT, Int.reduceLE, ↓reduceIte, reduceCtorEq, forall_apply_eq_imp_iff₂, ints, rows, rat, rats, toNat_cast]
    refine ⟨fun h => ?_, fun h => he _ _ ?_⟩
    · have hil : i < l.length := by omega
      obtain ⟨x, hx⟩ : ∃ x, l[i]? = some x := ⟨_, List.getElem?_eq_getElem hil⟩
      have hm := minR_mem (take_ne hI.1 hI.2)
      have hs := take_snoc hx
      have hss := minR_snoc (take_ne hI.1 hI.2) x
      rw [← hs] at hss
      have hxv := hv x (List.mem_of_getElem? hx)
      generalize hmm : minR (l.take i) = mm at hm hss
      have hmv := hv mm (take_mem hm)
      refine ⟨by omega, by rw [ratC_length]; omega, by rw [ratC_length]; omega, ?_⟩
      rw [ratC_at hx]
      refine CallV.pure (spec_l01Compare_ok x mm hxv hmv) [] rfl Try.call82 (fun e R' hR => ?_) (by first | trivial | simp [T.noSh, T.noShL, rat]) (fun _ => rfl) ?_
      · simp -implicitDefEqProofs only [Int.natCast_zero, Int.cast_ofNat_Int, Int.natCast_one, Nat.le_refl, Nat.reduceLeDiff, Nat.sub_self, Nat.reduceSub, List.getElem?_cons_zero, List.getElem?_cons_succ, vt_self, vaL, vtL, va, vt, vb, maT, List.cons_append, List.nil_append, List.append_nil, true_or, or_true, go_sem, List.reduceReplicate, Nat.reduceEqDiff, Nat.reduceAdd, Nat.reduceLeDiff, Nat.reduceMul, Nat.reduceSub, Nat.reduceDiv, Int.reduceToNat, Nat.reduceLT, Int.reduceLT, Int.reduceLE, ↓reduceIte, reduceCtorEq, ints, rows, rat, rats, ratsO, toShL_ratC, List.mem_cons, List.mem_nil_iff, List.not_mem_nil, or_false, false_or, exists_eq_left, exists_eq_left', exists_eq_right', Root.live.injEq, eq_self_iff_true, exists_eq, and_true, T.toSh, toShL_ints, toShL_intsO, intsO, rowsO]
      simp -implicitDefEqProofs only [go_sem, List.reduceReplicate, Nat.reduceEqDiff, Nat.reduceAdd, Nat.reduceLeDiff, Nat.reduceMul, Nat.reduceSub, Nat.reduceDiv, Int.reduceToNat, Nat.reduceLT, Int.reduceLT, Int.reduceLE, ↓reduceIte, reduceCtorEq, forall_apply_eq_imp_iff₂, ints, rows, rat, rats, toNat_cast]
      refine ⟨fun hc => ?_, fun hc => ?_⟩
      · rw [if_pos (by omega)] at hss
        refine ⟨by omega, by rw [ratC_length]; omega, by rw [ratC_length]; omega, by rw [ratC_at hx]; rfl, ?_⟩
        rw [ratC_at hx]
        simp -implicitDefEqProofs only [go_sem, List.reduceReplicate, Nat.reduceEqDiff, Nat.reduceAdd, Nat.reduceLeDiff, Nat.reduceMul, Nat.reduceSub, Nat.reduceDiv, Int.reduceToNat, Nat.reduceLT, Int.reduceLT, Int.reduceLE, ↓reduceIte, reduceCtorEq, forall_apply_eq_imp_iff₂, ints, rows, rat, rats, toNat_cast]
        refine hn _ (i + 1) (Weak.of _ _ [some 2, some 3] (by simp) (by simp) ?_ ?_) ⟨by omega, by omega⟩ (by omega)
        · simp -implicitDefEqProofs only [ints, rows, Nat.reduceBEq, Int.add_zero, envOK, maA, maT, upd_apply, Nat.reduceEqDiff, ↓reduceIte, and_true, true_or, or_true, List.map_cons, List.map_nil, Nat.zero_ne_one, and_self, true_and, Int.natCast_zero, Int.cast_ofNat_Int, Int.ofNat_zero, piOf, List.zip_cons_cons, List.zip_nil_right, List.lookup_cons, List.lookup_nil, beq_self_eq_true, rootsOK, mkRoots, mkEnv, rats, next64 hil (by omega)]
        · exact ⟨⟨_, rfl, .refl _⟩, rfl, ⟨_, rfl, by rw [hss]; exact .refl _⟩, rfl, trivial⟩
      · rw [if_neg (by omega)] at hss
        refine hn _ (i + 1) (Weak.of _ _ [some 2, some 3] (by simp) (by simp) ?_ ?_) ⟨by omega, by omega⟩ (by omega)
        · simp -implicitDefEqProofs only [ints, rows, Nat.reduceBEq, Int.add_zero, envOK, maA, maT, upd_apply, Nat.reduceEqDiff, ↓reduceIte, and_true, true_or, or_true, List.map_cons, List.map_nil, Nat.zero_ne_one, and_self, true_and, Int.natCast_zero, Int.cast_ofNat_Int, Int.ofNat_zero, piOf, List.zip_cons_cons, List.zip_nil_right, List.lookup_cons, List.lookup_nil, beq_self_eq_true, rootsOK, mkRoots, mkEnv, rats, next64 hil (by omega)]
        · exact ⟨⟨_, rfl, .refl _⟩, rfl, ⟨_, rfl, by rw [hss]; exact .refl _⟩, rfl, trivial⟩
    · simp -implicitDefEqProofs only [go_sem, List.reduceReplicate, Nat.reduceEqDiff, Nat.reduceAdd, Nat.reduceLeDiff, Nat.reduceMul, Nat.reduceSub, Nat.reduceDiv, Int.reduceToNat, Nat.reduceLT, Int.reduceLT, Int.reduceLE, ↓reduceIte, reduceCtorEq, forall_apply_eq_imp_iff₂, ints, rows, rat, rats, toNat_cast]
      have e : l.take i = l := List.take_of_length_le (by omega)
      rw [e]
theorem impl_SecurityOf_ok (m : List (List Int)) (p : List (Int × Int)) (hml : m.length ≤ 1000000000000) (hmr : ∀ r ∈ m, r.length ≤ 1000000000000) (hp : p.length ≤ 1000000000000) : Fun Try.prog 24 [] [.t (rows m), .t (rats p)] fun o r => o = [] ∧ r = redT (soRes m p) := by
  have hlen := cgRes_length m p
  refine fun_impl_SecurityOf (by simp) ?_
  simp -implicitDefEqProofs only [go_sem, List.reduceReplicate, Nat.reduceEqDiff, Nat.reduceAdd, Nat.reduceLeDiff, Nat.reduceMul, Nat.reduceSub, Nat.reduceDiv, Int.reduceToNat, Nat.reduceLT, Int.reduceLT, Int.reduceLE, ↓reduceIte, reduceCtorEq, forall_apply_eq_imp_iff₂, ints, rows, rat, rats, toNat_cast, c_impl_SecurityOf]
  refine CallW.res (impl_ColumnGains_ok m p hml hmr hp) [] rfl Try.call46 ?_ (.inl rfl) ?_
  · simp -implicitDefEqProofs only [Int.natCast_zero, Int.cast_ofNat_Int, Int.natCast_one, Nat.le_refl, Nat.reduceLeDiff, Nat.sub_self, Nat.reduceSub, List.getElem?_cons_zero, List.getElem?_cons_succ, vt_self, vaL, vtL, va, vt, vb, maT, List.cons_append, List.nil_append, List.append_nil, true_or, or_true, go_sem, List.reduceReplicate, Nat.reduceEqDiff, Nat.reduceAdd, Nat.reduceLeDiff, Nat.reduceMul, Nat.reduceSub, Nat.reduceDiv, Int.reduceToNat, Nat.reduceLT, Int.reduceLT, Int.reduceLE, ↓reduceIte, reduceCtorEq, ints, rows, rat, rats, ratsO, toShL_ratC, List.mem_cons, List.mem_nil_iff, List.not_mem_nil, or_false, false_or, exists_eq_left, exists_eq_left', exists_eq_right', Root.live.injEq, eq_self_iff_true, exists_eq, and_true, T.toSh, toShL_ints, toShL_intsO, intsO, rowsO]
  simp -implicitDefEqProofs only [List.append_nil, List.cons_append, Nat.reduceLeDiff, afterCall, absT_rowsO, absT_intsO, absT, absL, updL, updS, freeAll, rid, T.noSh, T.noShL, Nat.zero_le, go_sem, List.reduceReplicate, Nat.reduceEqDiff, Nat.reduceAdd, Nat.reduceLeDiff, Nat.reduceMul, Nat.reduceSub, Nat.reduceDiv, Int.reduceToNat, Nat.reduceLT, Int.reduceLT, Int.reduceLE, ↓reduceIte, reduceCtorEq, rat, forall_apply_eq_imp_iff₂, toNat_cast, gT]
  refine ⟨fun h => ?_, fun h => ?_⟩
  · have h : (cgRes m p).2 ≠ 0 := by simpa using h
    rw [soRes, if_pos h]; rfl
  · have h0 : (cgRes m p).2 = 0 := by simpa using h
    refine CallW.pure (slices_MinFunc_ok (cgRes m p).1 (cgRes_valid m p) (cgRes_pos h0) (by omega)) [11] rfl Try.call87 ?_ (by first | trivial | simp [T.noSh, T.noShL, rat]) rfl ?_
    · simp -implicitDefEqProofs only [Int.natCast_zero, Int.cast_ofNat_Int, Int.natCast_one, Nat.le_refl, Nat.reduceLeDiff, Nat.sub_self, Nat.reduceSub, List.getElem?_cons_zero, List.getElem?_cons_succ, vt_self, vaL, vtL, va, vt, vb, maT, List.cons_append, List.nil_append, List.append_nil, true_or, or_true, go_sem, List.reduceReplicate, Nat.reduceEqDiff, Nat.reduceAdd, Nat.reduceLeDiff, Nat.reduceMul, Nat.reduceSub, Nat.reduceDiv, Int.reduceToNat, Nat.reduceLT, Int.reduceLT, Int.reduceLE, ↓reduceIte, reduceCtorEq, ints, rows, rat, rats, ratsO, toShL_ratC, List.mem_cons, List.mem_nil_iff, List.not_mem_nil, or_false, false_or, exists_eq_left, exists_eq_left', exists_eq_right', Root.live.injEq, eq_self_iff_true, exists_eq, and_true, T.toSh, toShL_ints, toShL_intsO, intsO, rowsO]
    simp -implicitDefEqProofs only [go_sem, List.reduceReplicate, Nat.reduceEqDiff, Nat.reduceAdd, Nat.reduceLeDiff, Nat.reduceMul, Nat.reduceSub, Nat.reduceDiv, Int.reduceToNat, Nat.reduceLT, Int.reduceLT, Int.reduceLE, ↓reduceIte, reduceCtorEq, forall_apply_eq_imp_iff₂, ints, rows, rat, rats, toNat_cast]
    rw [soRes, if_neg (by rw [h0]; simp)]; rfl
theorem spec_SecurityOf_ok (m : List (List Int)) (p : List (Int × Int)) (hp : p.length ≤ 1000000000000) : Fun Try.prog 23 [] [.t (rows m), .t (rats p)] fun o r => o = [] ∧ r = redT (soRes m p) := by
  have hlen := cgRes_length m p
  refine fun_spec_SecurityOf (by simp) ?_
  simp -implicitDefEqProofs only [go_sem, List.reduceReplicate, Nat.reduceEqDiff, Nat.reduceAdd, Nat.reduceLeDiff, Nat.reduceMul, Nat.reduceSub, Nat.reduceDiv, Int.reduceToNat, Nat.reduceLT, Int.reduceLT, Int.reduceLE, ↓reduceIte, reduceCtorEq, forall_apply_eq_imp_iff₂, ints, rows, rat, rats, toNat_cast, c_spec_SecurityOf]
  refine CallW.res (spec_ColumnGains_ok m p hp) [] rfl Try.call47 ?_ (.inl rfl) ?_
  · simp -implicitDefEqProofs only [Int.natCast_zero, Int.cast_ofNat_Int, Int.natCast_one, Nat.le_refl, Nat.reduceLeDiff, Nat.sub_self, Nat.reduceSub, List.getElem?_cons_zero, List.getElem?_cons_succ, vt_self, vaL, vtL, va, vt, vb, maT, List.cons_append, List.nil_append, List.append_nil, true_or, or_true, go_sem, List.reduceReplicate, Nat.reduceEqDiff, Nat.reduceAdd, Nat.reduceLeDiff, Nat.reduceMul, Nat.reduceSub, Nat.reduceDiv, Int.reduceToNat, Nat.reduceLT, Int.reduceLT, Int.reduceLE, ↓reduceIte, reduceCtorEq, ints, rows, rat, rats, ratsO, toShL_ratC, List.mem_cons, List.mem_nil_iff, List.not_mem_nil, or_false, false_or, exists_eq_left, exists_eq_left', exists_eq_right', Root.live.injEq, eq_self_iff_true, exists_eq, and_true, T.toSh, toShL_ints, toShL_intsO, intsO, rowsO]
  simp -implicitDefEqProofs only [List.append_nil, List.cons_append, Nat.reduceLeDiff, afterCall, absT_rowsO, absT_intsO, absT, absL, updL, updS, freeAll, rid, T.noSh, T.noShL, Nat.zero_le, go_sem, List.reduceReplicate, Nat.reduceEqDiff, Nat.reduceAdd, Nat.reduceLeDiff, Nat.reduceMul, Nat.reduceSub, Nat.reduceDiv, Int.reduceToNat, Nat.reduceLT, Int.reduceLT, Int.reduceLE, ↓reduceIte, reduceCtorEq, rat, forall_apply_eq_imp_iff₂, toNat_cast, gT]
  refine ⟨fun h => ?_, fun h => ?_⟩
  · have h : (cgRes m p).2 ≠ 0 := by simpa using h
    rw [soRes, if_pos h]; rfl
  · have h0 : (cgRes m p).2 = 0 := by simpa using h
    refine CallW.pure (spec_l26Least_ok (cgRes m p).1 (cgRes_valid m p) (cgRes_pos h0) (by omega)) [11] rfl Try.call86 ?_ (by first | trivial | simp [T.noSh, T.noShL, rat]) rfl ?_
    · simp -implicitDefEqProofs only [Int.natCast_zero, Int.cast_ofNat_Int, Int.natCast_one, Nat.le_refl, Nat.reduceLeDiff, Nat.sub_self, Nat.reduceSub, List.getElem?_cons_zero, List.getElem?_cons_succ, vt_self, vaL, vtL, va, vt, vb, maT, List.cons_append, List.nil_append, List.append_nil, true_or, or_true, go_sem, List.reduceReplicate, Nat.reduceEqDiff, Nat.reduceAdd, Nat.reduceLeDiff, Nat.reduceMul, Nat.reduceSub, Nat.reduceDiv, Int.reduceToNat, Nat.reduceLT, Int.reduceLT, Int.reduceLE, ↓reduceIte, reduceCtorEq, ints, rows, rat, rats, ratsO, toShL_ratC, List.mem_cons, List.mem_nil_iff, List.not_mem_nil, or_false, false_or, exists_eq_left, exists_eq_left', exists_eq_right', Root.live.injEq, eq_self_iff_true, exists_eq, and_true, T.toSh, toShL_ints, toShL_intsO, intsO, rowsO]
    simp -implicitDefEqProofs only [go_sem, List.reduceReplicate, Nat.reduceEqDiff, Nat.reduceAdd, Nat.reduceLeDiff, Nat.reduceMul, Nat.reduceSub, Nat.reduceDiv, Int.reduceToNat, Nat.reduceLT, Int.reduceLT, Int.reduceLE, ↓reduceIte, reduceCtorEq, forall_apply_eq_imp_iff₂, ints, rows, rat, rats, toNat_cast]
    rw [soRes, if_neg (by rw [h0]; simp)]; rfl
end Go.Ab

/- The law FnExactSecurityOf, as a contract. -/
set_option linter.unusedSimpArgs false
set_option linter.unusedVariables false
namespace Go.Ab
open Go.Proofs



theorem laws_FnExactSecurityOf_ok (m : List (List Int)) (hm : (m.length : Int) ≤ 9223372036854775807) (hmr : ∀ r ∈ m, (r.length : Int) ≤ 9223372036854775807) (p : List (Int × Int)) (hp : (p.length : Int) ≤ 9223372036854775807) : Pure Try.prog 4 [rows m, rats p] (.b true) := by
  refine fun_laws_FnExactSecurityOf (by simp) ?_
  simp -implicitDefEqProofs only [go_sem, List.reduceReplicate, Nat.reduceEqDiff, Nat.reduceAdd, Nat.reduceLeDiff, Nat.reduceMul, Nat.reduceSub, Nat.reduceDiv, Int.reduceToNat, Nat.reduceLT, Int.reduceLT, Int.reduceLE, ↓reduceIte, reduceCtorEq, forall_apply_eq_imp_iff₂, ints, rows, rat, rats, toNat_cast, c_laws_FnExactSecurityOf]
  refine CallW.pure (laws_szInt64SS_ok m 1048576 hm hmr (by omega) (by omega)) [] rfl Try.call15 ?_ (by first | trivial | simp [T.noSh, T.noShL, rat]) rfl ?_
  · simp -implicitDefEqProofs only [Int.natCast_zero, Int.cast_ofNat_Int, Int.natCast_one, Nat.le_refl, Nat.reduceLeDiff, Nat.sub_self, Nat.reduceSub, List.getElem?_cons_zero, List.getElem?_cons_succ, vt_self, vaL, vtL, va, vt, vb, maT, List.cons_append, List.nil_append, List.append_nil, true_or, or_true, go_sem, List.reduceReplicate, Nat.reduceEqDiff, Nat.reduceAdd, Nat.reduceLeDiff, Nat.reduceMul, Nat.reduceSub, Nat.reduceDiv, Int.reduceToNat, Nat.reduceLT, Int.reduceLT, Int.reduceLE, ↓reduceIte, reduceCtorEq, ints, rows, rat, rats, ratsO, toShL_ratC, List.mem_cons, List.mem_nil_iff, List.not_mem_nil, or_false, false_or, exists_eq_left, exists_eq_left', exists_eq_right', Root.live.injEq, eq_self_iff_true, exists_eq, and_true, T.toSh, toShL_ints, toShL_intsO, intsO, rowsO]
  simp -implicitDefEqProofs only [go_sem, List.reduceReplicate, Nat.reduceEqDiff, Nat.reduceAdd, Nat.reduceLeDiff, Nat.reduceMul, Nat.reduceSub, Nat.reduceDiv, Int.reduceToNat, Nat.reduceLT, Int.reduceLT, Int.reduceLE, ↓reduceIte, reduceCtorEq, forall_apply_eq_imp_iff₂, ints, rows, rat, rats, toNat_cast]
  refine ⟨fun _ => trivial, fun hb0 => ?_⟩
  obtain ⟨hm1, hmr1⟩ := budgetMat_ok (m := m) (left := 1048576) (by omega) (by omega)
  have hmt := budgetMat_tot (m := m) (left := 1048576) (by omega) (by omega)
  have hmb := budgetMat_le (m := m) (left := 1048576) (by omega)
  have hm2 : (m.length : Int) ≤ 1000000000000 := by omega
  have hmr2 : ∀ r ∈ m, (r.length : Int) ≤ 1000000000000 := fun r h => by have := hmr1 r h; omega
  have hmr3 : ∀ r ∈ m, r.length ≤ 1000000000000 := fun r h => by have := hmr1 r h; omega
  refine CallW.pure (laws_szRatioS_ok p (budgetMat m 1048576) hp (by omega) (by omega)) [] rfl Try.call16 ?_ (by first | trivial | simp [T.noSh, T.noShL, rat]) rfl ?_
  · simp -implicitDefEqProofs only [Int.natCast_zero, Int.cast_ofNat_Int, Int.natCast_one, Nat.le_refl, Nat.reduceLeDiff, Nat.sub_self, Nat.reduceSub, List.getElem?_cons_zero, List.getElem?_cons_succ, vt_self, vaL, vtL, va, vt, vb, maT, List.cons_append, List.nil_append, List.append_nil, true_or, or_true, go_sem, List.reduceReplicate, Nat.reduceEqDiff, Nat.reduceAdd, Nat.reduceLeDiff, Nat.reduceMul, Nat.reduceSub, Nat.reduceDiv, Int.reduceToNat, Nat.reduceLT, Int.reduceLT, Int.reduceLE, ↓reduceIte, reduceCtorEq, ints, rows, rat, rats, ratsO, toShL_ratC, List.mem_cons, List.mem_nil_iff, List.not_mem_nil, or_false, false_or, exists_eq_left, exists_eq_left', exists_eq_right', Root.live.injEq, eq_self_iff_true, exists_eq, and_true, T.toSh, toShL_ints, toShL_intsO, intsO, rowsO]
  simp -implicitDefEqProofs only [go_sem, List.reduceReplicate, Nat.reduceEqDiff, Nat.reduceAdd, Nat.reduceLeDiff, Nat.reduceMul, Nat.reduceSub, Nat.reduceDiv, Int.reduceToNat, Nat.reduceLT, Int.reduceLT, Int.reduceLE, ↓reduceIte, reduceCtorEq, forall_apply_eq_imp_iff₂, ints, rows, rat, rats, toNat_cast]
  refine ⟨fun _ => trivial, fun hb1 => ?_⟩
  obtain ⟨hp1, hpb⟩ := budget_ok (n := p.length) (left := (budgetMat m 1048576)) (by omega) (by omega)
  have hp2 : p.length ≤ 1000000000000 := by omega
  refine CallW.res (laws_toInt64SS_ok m hm2 hmr2) [] rfl Try.call18 ?_ (.inl rfl) ?_
  · simp -implicitDefEqProofs only [Int.natCast_zero, Int.cast_ofNat_Int, Int.natCast_one, Nat.le_refl, Nat.reduceLeDiff, Nat.sub_self, Nat.reduceSub, List.getElem?_cons_zero, List.getElem?_cons_succ, vt_self, vaL, vtL, va, vt, vb, maT, List.cons_append, List.nil_append, List.append_nil, true_or, or_true, go_sem, List.reduceReplicate, Nat.reduceEqDiff, Nat.reduceAdd, Nat.reduceLeDiff, Nat.reduceMul, Nat.reduceSub, Nat.reduceDiv, Int.reduceToNat, Nat.reduceLT, Int.reduceLT, Int.reduceLE, ↓reduceIte, reduceCtorEq, ints, rows, rat, rats, ratsO, toShL_ratC, List.mem_cons, List.mem_nil_iff, List.not_mem_nil, or_false, false_or, exists_eq_left, exists_eq_left', exists_eq_right', Root.live.injEq, eq_self_iff_true, exists_eq, and_true, T.toSh, toShL_ints, toShL_intsO, intsO, rowsO]
  simp -implicitDefEqProofs only [List.append_nil, List.cons_append, Nat.reduceLeDiff, afterCall, absT_rowsO, absT_intsO, absT, absL, updL, updS, freeAll, rid, T.noSh, T.noShL, Nat.zero_le, go_sem, List.reduceReplicate, Nat.reduceEqDiff, Nat.reduceAdd, Nat.reduceLeDiff, Nat.reduceMul, Nat.reduceSub, Nat.reduceDiv, Int.reduceToNat, Nat.reduceLT, Int.reduceLT, Int.reduceLE, ↓reduceIte, reduceCtorEq, rat, forall_apply_eq_imp_iff₂, toNat_cast]
  refine CallW.res (laws_toRatioS_ok p (by omega)) [] rfl Try.call19 ?_ (.inl rfl) ?_
  · simp -implicitDefEqProofs only [Int.natCast_zero, Int.cast_ofNat_Int, Int.natCast_one, Nat.le_refl, Nat.reduceLeDiff, Nat.sub_self, Nat.reduceSub, List.getElem?_cons_zero, List.getElem?_cons_succ, vt_self, vaL, vtL, va, vt, vb, maT, List.cons_append, List.nil_append, List.append_nil, true_or, or_true, go_sem, List.reduceReplicate, Nat.reduceEqDiff, Nat.reduceAdd, Nat.reduceLeDiff, Nat.reduceMul, Nat.reduceSub, Nat.reduceDiv, Int.reduceToNat, Nat.reduceLT, Int.reduceLT, Int.reduceLE, ↓reduceIte, reduceCtorEq, ints, rows, rat, rats, ratsO, toShL_ratC, List.mem_cons, List.mem_nil_iff, List.not_mem_nil, or_false, false_or, exists_eq_left, exists_eq_left', exists_eq_right', Root.live.injEq, eq_self_iff_true, exists_eq, and_true, T.toSh, toShL_ints, toShL_intsO, intsO, rowsO]
  simp -implicitDefEqProofs only [List.append_nil, List.cons_append, Nat.reduceLeDiff, afterCall, absT_rowsO, absT_intsO, absT, absL, updL, updS, freeAll, rid, T.noSh, T.noShL, Nat.zero_le, go_sem, List.reduceReplicate, Nat.reduceEqDiff, Nat.reduceAdd, Nat.reduceLeDiff, Nat.reduceMul, Nat.reduceSub, Nat.reduceDiv, Int.reduceToNat, Nat.reduceLT, Int.reduceLT, Int.reduceLE, ↓reduceIte, reduceCtorEq, rat, forall_apply_eq_imp_iff₂, toNat_cast]
  refine CallW.res (spec_SecurityOf_ok m p (by omega)) [24, 26] rfl Try.call23 ?_ (.inr (redT_noSh _)) ?_
  · simp -implicitDefEqProofs only [Int.natCast_zero, Int.cast_ofNat_Int, Int.natCast_one, Nat.le_refl, Nat.reduceLeDiff, Nat.sub_self, Nat.reduceSub, List.getElem?_cons_zero, List.getElem?_cons_succ, vt_self, vaL, vtL, va, vt, vb, maT, List.cons_append, List.nil_append, List.append_nil, true_or, or_true, go_sem, List.reduceReplicate, Nat.reduceEqDiff, Nat.reduceAdd, Nat.reduceLeDiff, Nat.reduceMul, Nat.reduceSub, Nat.reduceDiv, Int.reduceToNat, Nat.reduceLT, Int.reduceLT, Int.reduceLE, ↓reduceIte, reduceCtorEq, ints, rows, rat, rats, ratsO, toShL_ratC, List.mem_cons, List.mem_nil_iff, List.not_mem_nil, or_false, false_or, exists_eq_left, exists_eq_left', exists_eq_right', Root.live.injEq, eq_self_iff_true, exists_eq, and_true, T.toSh, toShL_ints, toShL_intsO, intsO, rowsO]
  simp -implicitDefEqProofs only [List.append_nil, List.cons_append, Nat.reduceLeDiff, afterCall, absT_rowsO, absT_intsO, absT, absL, updL, updS, freeAll, rid, T.noSh, T.noShL, Nat.zero_le, go_sem, List.reduceReplicate, Nat.reduceEqDiff, Nat.reduceAdd, Nat.reduceLeDiff, Nat.reduceMul, Nat.reduceSub, Nat.reduceDiv, Int.reduceToNat, Nat.reduceLT, Int.reduceLT, Int.reduceLE, ↓reduceIte, reduceCtorEq, rat, forall_apply_eq_imp_iff₂, toNat_cast, redT, rat, not_true_eq_false, decide_false]
  refine CallW.res (laws_toInt64SS_ok m hm2 hmr2) [] rfl Try.call18 ?_ (.inl rfl) ?_
  · simp -implicitDefEqProofs only [Int.natCast_zero, Int.cast_ofNat_Int, Int.natCast_one, Nat.le_refl, Nat.reduceLeDiff, Nat.sub_self, Nat.reduceSub, List.getElem?_cons_zero, List.getElem?_cons_succ, vt_self, vaL, vtL, va, vt, vb, maT, List.cons_append, List.nil_append, List.append_nil, true_or, or_true, go_sem, List.reduceReplicate, Nat.reduceEqDiff, Nat.reduceAdd, Nat.reduceLeDiff, Nat.reduceMul, Nat.reduceSub, Nat.reduceDiv, Int.reduceToNat, Nat.reduceLT, Int.reduceLT, Int.reduceLE, ↓reduceIte, reduceCtorEq, ints, rows, rat, rats, ratsO, toShL_ratC, List.mem_cons, List.mem_nil_iff, List.not_mem_nil, or_false, false_or, exists_eq_left, exists_eq_left', exists_eq_right', Root.live.injEq, eq_self_iff_true, exists_eq, and_true, T.toSh, toShL_ints, toShL_intsO, intsO, rowsO]
  simp -implicitDefEqProofs only [List.append_nil, List.cons_append, Nat.reduceLeDiff, afterCall, absT_rowsO, absT_intsO, absT, absL, updL, updS, freeAll, rid, T.noSh, T.noShL, Nat.zero_le, go_sem, List.reduceReplicate, Nat.reduceEqDiff, Nat.reduceAdd, Nat.reduceLeDiff, Nat.reduceMul, Nat.reduceSub, Nat.reduceDiv, Int.reduceToNat, Nat.reduceLT, Int.reduceLT, Int.reduceLE, ↓reduceIte, reduceCtorEq, rat, forall_apply_eq_imp_iff₂, toNat_cast]
  refine CallW.res (laws_toRatioS_ok p (by omega)) [] rfl Try.call19 ?_ (.inl rfl) ?_
  · simp -implicitDefEqProofs only [Int.natCast_zero, Int.cast_ofNat_Int, Int.natCast_one, Nat.le_refl, Nat.reduceLeDiff, Nat.sub_self, Nat.reduceSub, List.getElem?_cons_zero, List.getElem?_cons_succ, vt_self, vaL, vtL, va, vt, vb, maT, List.cons_append, List.nil_append, List.append_nil, true_or, or_true, go_sem, List.reduceReplicate, Nat.reduceEqDiff, Nat.reduceAdd, Nat.reduceLeDiff, Nat.reduceMul, Nat.reduceSub, Nat.reduceDiv, Int.reduceToNat, Nat.reduceLT, Int.reduceLT, Int.reduceLE, ↓reduceIte, reduceCtorEq, ints, rows, rat, rats, ratsO, toShL_ratC, List.mem_cons, List.mem_nil_iff, List.not_mem_nil, or_false, false_or, exists_eq_left, exists_eq_left', exists_eq_right', Root.live.injEq, eq_self_iff_true, exists_eq, and_true, T.toSh, toShL_ints, toShL_intsO, intsO, rowsO]
  simp -implicitDefEqProofs only [List.append_nil, List.cons_append, Nat.reduceLeDiff, afterCall, absT_rowsO, absT_intsO, absT, absL, updL, updS, freeAll, rid, T.noSh, T.noShL, Nat.zero_le, go_sem, List.reduceReplicate, Nat.reduceEqDiff, Nat.reduceAdd, Nat.reduceLeDiff, Nat.reduceMul, Nat.reduceSub, Nat.reduceDiv, Int.reduceToNat, Nat.reduceLT, Int.reduceLT, Int.reduceLE, ↓reduceIte, reduceCtorEq, rat, forall_apply_eq_imp_iff₂, toNat_cast]
  refine CallW.res (impl_SecurityOf_ok m p (by omega) hmr3 (by omega)) [31, 33] rfl Try.call24 ?_ (.inr (redT_noSh _)) ?_
  · simp -implicitDefEqProofs only [Int.natCast_zero, Int.cast_ofNat_Int, Int.natCast_one, Nat.le_refl, Nat.reduceLeDiff, Nat.sub_self, Nat.reduceSub, List.getElem?_cons_zero, List.getElem?_cons_succ, vt_self, vaL, vtL, va, vt, vb, maT, List.cons_append, List.nil_append, List.append_nil, true_or, or_true, go_sem, List.reduceReplicate, Nat.reduceEqDiff, Nat.reduceAdd, Nat.reduceLeDiff, Nat.reduceMul, Nat.reduceSub, Nat.reduceDiv, Int.reduceToNat, Nat.reduceLT, Int.reduceLT, Int.reduceLE, ↓reduceIte, reduceCtorEq, ints, rows, rat, rats, ratsO, toShL_ratC, List.mem_cons, List.mem_nil_iff, List.not_mem_nil, or_false, false_or, exists_eq_left, exists_eq_left', exists_eq_right', Root.live.injEq, eq_self_iff_true, exists_eq, and_true, T.toSh, toShL_ints, toShL_intsO, intsO, rowsO]
  simp -implicitDefEqProofs only [List.append_nil, List.cons_append, Nat.reduceLeDiff, afterCall, absT_rowsO, absT_intsO, absT, absL, updL, updS, freeAll, rid, T.noSh, T.noShL, Nat.zero_le, go_sem, List.reduceReplicate, Nat.reduceEqDiff, Nat.reduceAdd, Nat.reduceLeDiff, Nat.reduceMul, Nat.reduceSub, Nat.reduceDiv, Int.reduceToNat, Nat.reduceLT, Int.reduceLT, Int.reduceLE, ↓reduceIte, reduceCtorEq, rat, forall_apply_eq_imp_iff₂, toNat_cast, redT, rat, not_true_eq_false, decide_false]
  refine CallW.pure (laws_eqRatio_ok (soRes m p).1 (soRes m p).1) [] rfl Try.call25 ?_ (by first | trivial | simp [T.noSh, T.noShL, rat]) rfl ?_
  · simp -implicitDefEqProofs only [Int.natCast_zero, Int.cast_ofNat_Int, Int.natCast_one, Nat.le_refl, Nat.reduceLeDiff, Nat.sub_self, Nat.reduceSub, List.getElem?_cons_zero, List.getElem?_cons_succ, vt_self, vaL, vtL, va, vt, vb, maT, List.cons_append, List.nil_append, List.append_nil, true_or, or_true, go_sem, List.reduceReplicate, Nat.reduceEqDiff, Nat.reduceAdd, Nat.reduceLeDiff, Nat.reduceMul, Nat.reduceSub, Nat.reduceDiv, Int.reduceToNat, Nat.reduceLT, Int.reduceLT, Int.reduceLE, ↓reduceIte, reduceCtorEq, ints, rows, rat, rats, ratsO, toShL_ratC, List.mem_cons, List.mem_nil_iff, List.not_mem_nil, or_false, false_or, exists_eq_left, exists_eq_left', exists_eq_right', Root.live.injEq, eq_self_iff_true, exists_eq, and_true, T.toSh, toShL_ints, toShL_intsO, intsO, rowsO]
  simp -implicitDefEqProofs only [go_sem, List.reduceReplicate, Nat.reduceEqDiff, Nat.reduceAdd, Nat.reduceLeDiff, Nat.reduceMul, Nat.reduceSub, Nat.reduceDiv, Int.reduceToNat, Nat.reduceLT, Int.reduceLT, Int.reduceLE, ↓reduceIte, reduceCtorEq, forall_apply_eq_imp_iff₂, ints, rows, rat, rats, toNat_cast]
  refine CallW.res (laws_toInt64SS_ok m hm2 hmr2) [] rfl Try.call18 ?_ (.inl rfl) ?_
  · simp -implicitDefEqProofs only [Int.natCast_zero, Int.cast_ofNat_Int, Int.natCast_one, Nat.le_refl, Nat.reduceLeDiff, Nat.sub_self, Nat.reduceSub, List.getElem?_cons_zero, List.getElem?_cons_succ, vt_self, vaL, vtL, va, vt, vb, maT, List.cons_append, List.nil_append, List.append_nil, true_or, or_true, go_sem, List.reduceReplicate, Nat.reduceEqDiff, Nat.reduceAdd, Nat.reduceLeDiff, Nat.reduceMul, Nat.reduceSub, Nat.reduceDiv, Int.reduceToNat, Nat.reduceLT, Int.reduceLT, Int.reduceLE, ↓reduceIte, reduceCtorEq, ints, rows, rat, rats, ratsO, toShL_ratC, List.mem_cons, List.mem_nil_iff, List.not_mem_nil, or_false, false_or, exists_eq_left, exists_eq_left', exists_eq_right', Root.live.injEq, eq_self_iff_true, exists_eq, and_true, T.toSh, toShL_ints, toShL_intsO, intsO, rowsO]
  simp -implicitDefEqProofs only [List.append_nil, List.cons_append, Nat.reduceLeDiff, afterCall, absT_rowsO, absT_intsO, absT, absL, updL, updS, freeAll, rid, T.noSh, T.noShL, Nat.zero_le, go_sem, List.reduceReplicate, Nat.reduceEqDiff, Nat.reduceAdd, Nat.reduceLeDiff, Nat.reduceMul, Nat.reduceSub, Nat.reduceDiv, Int.reduceToNat, Nat.reduceLT, Int.reduceLT, Int.reduceLE, ↓reduceIte, reduceCtorEq, rat, forall_apply_eq_imp_iff₂, toNat_cast]
  refine CallW.pure (laws_eqInt64SS_ok m m (by omega) (by omega) hmr3 hmr3) [31, 51] rfl Try.call21 ?_ (by first | trivial | simp [T.noSh, T.noShL, rat]) rfl ?_
  · simp -implicitDefEqProofs only [Int.natCast_zero, Int.cast_ofNat_Int, Int.natCast_one, Nat.le_refl, Nat.reduceLeDiff, Nat.sub_self, Nat.reduceSub, List.getElem?_cons_zero, List.getElem?_cons_succ, vt_self, vaL, vtL, va, vt, vb, maT, List.cons_append, List.nil_append, List.append_nil, true_or, or_true, go_sem, List.reduceReplicate, Nat.reduceEqDiff, Nat.reduceAdd, Nat.reduceLeDiff, Nat.reduceMul, Nat.reduceSub, Nat.reduceDiv, Int.reduceToNat, Nat.reduceLT, Int.reduceLT, Int.reduceLE, ↓reduceIte, reduceCtorEq, ints, rows, rat, rats, ratsO, toShL_ratC, List.mem_cons, List.mem_nil_iff, List.not_mem_nil, or_false, false_or, exists_eq_left, exists_eq_left', exists_eq_right', Root.live.injEq, eq_self_iff_true, exists_eq, and_true, T.toSh, toShL_ints, toShL_intsO, intsO, rowsO]
  simp -implicitDefEqProofs only [go_sem, List.reduceReplicate, Nat.reduceEqDiff, Nat.reduceAdd, Nat.reduceLeDiff, Nat.reduceMul, Nat.reduceSub, Nat.reduceDiv, Int.reduceToNat, Nat.reduceLT, Int.reduceLT, Int.reduceLE, ↓reduceIte, reduceCtorEq, forall_apply_eq_imp_iff₂, ints, rows, rat, rats, toNat_cast]
  refine CallW.res (laws_toRatioS_ok p (by omega)) [] rfl Try.call19 ?_ (.inl rfl) ?_
  · simp -implicitDefEqProofs only [Int.natCast_zero, Int.cast_ofNat_Int, Int.natCast_one, Nat.le_refl, Nat.reduceLeDiff, Nat.sub_self, Nat.reduceSub, List.getElem?_cons_zero, List.getElem?_cons_succ, vt_self, vaL, vtL, va, vt, vb, maT, List.cons_append, List.nil_append, List.append_nil, true_or, or_true, go_sem, List.reduceReplicate, Nat.reduceEqDiff, Nat.reduceAdd, Nat.reduceLeDiff, Nat.reduceMul, Nat.reduceSub, Nat.reduceDiv, Int.reduceToNat, Nat.reduceLT, Int.reduceLT, Int.reduceLE, ↓reduceIte, reduceCtorEq, ints, rows, rat, rats, ratsO, toShL_ratC, List.mem_cons, List.mem_nil_iff, List.not_mem_nil, or_false, false_or, exists_eq_left, exists_eq_left', exists_eq_right', Root.live.injEq, eq_self_iff_true, exists_eq, and_true, T.toSh, toShL_ints, toShL_intsO, intsO, rowsO]
  simp -implicitDefEqProofs only [List.append_nil, List.cons_append, Nat.reduceLeDiff, afterCall, absT_rowsO, absT_intsO, absT, absL, updL, updS, freeAll, rid, T.noSh, T.noShL, Nat.zero_le, go_sem, List.reduceReplicate, Nat.reduceEqDiff, Nat.reduceAdd, Nat.reduceLeDiff, Nat.reduceMul, Nat.reduceSub, Nat.reduceDiv, Int.reduceToNat, Nat.reduceLT, Int.reduceLT, Int.reduceLE, ↓reduceIte, reduceCtorEq, rat, forall_apply_eq_imp_iff₂, toNat_cast]
  refine CallW.pure (laws_eqRatioS_ok p p (by omega) (by omega)) [33, 56] rfl Try.call22 ?_ (by first | trivial | simp [T.noSh, T.noShL, rat]) rfl ?_
  · simp -implicitDefEqProofs only [Int.natCast_zero, Int.cast_ofNat_Int, Int.natCast_one, Nat.le_refl, Nat.reduceLeDiff, Nat.sub_self, Nat.reduceSub, List.getElem?_cons_zero, List.getElem?_cons_succ, vt_self, vaL, vtL, va, vt, vb, maT, List.cons_append, List.nil_append, List.append_nil, true_or, or_true, go_sem, List.reduceReplicate, Nat.reduceEqDiff, Nat.reduceAdd, Nat.reduceLeDiff, Nat.reduceMul, Nat.reduceSub, Nat.reduceDiv, Int.reduceToNat, Nat.reduceLT, Int.reduceLT, Int.reduceLE, ↓reduceIte, reduceCtorEq, ints, rows, rat, rats, ratsO, toShL_ratC, List.mem_cons, List.mem_nil_iff, List.not_mem_nil, or_false, false_or, exists_eq_left, exists_eq_left', exists_eq_right', Root.live.injEq, eq_self_iff_true, exists_eq, and_true, T.toSh, toShL_ints, toShL_intsO, intsO, rowsO]
  simp -implicitDefEqProofs only [go_sem, List.reduceReplicate, Nat.reduceEqDiff, Nat.reduceAdd, Nat.reduceLeDiff, Nat.reduceMul, Nat.reduceSub, Nat.reduceDiv, Int.reduceToNat, Nat.reduceLT, Int.reduceLT, Int.reduceLE, ↓reduceIte, reduceCtorEq, forall_apply_eq_imp_iff₂, ints, rows, rat, rats, toNat_cast]
end Go.Ab

set_option linter.unusedSimpArgs false
set_option linter.unusedVariables false
namespace Go.Proofs.Ytocaiefddkjiiaa
open Go.ChangeShapes Go.WideShapes Go.ChangeAt Go.RowKit Go.Ab

namespace fnExactSecurityOf
theorem said : ∀ xs, wtL [tyRows, tyRats] xs → Pure Try.prog 4 xs (.b true)
  | [x0, x1], h => by
    obtain ⟨m, rfl, hm, hmr⟩ := wt_rows h.1
    obtain ⟨p, rfl, hp⟩ := wt_rats h.2.1
    exact laws_FnExactSecurityOf_ok m (by omega) (fun r h => by have := (hmr r h).1; omega) p (by omega)
  | [], h => h.elim
  | [_], h => h.2.elim
  | _ :: _ :: _ :: _, h => h.2.2.elim

set_option maxRecDepth 100000 in
theorem lifted (os : Os) (started : os.Started) (H : Type) (enc : TypeId × Value → H) :
    ReturnsInHanded {} Try.checked os 4 .any (Rows.fnExactSecurityOfSpec.pre6 enc Try.prog Try.f4 Rows.fnExactSecurityOfRow.domain false) (Rows.fnExactSecurityOfSpec.post enc Try.prog Try.f4 false true false false) := by
  refine returnsInHanded_of_change (C := Try.checked) (by kernel_rfl) started (by kernel_rfl) Try.func4
    (ChangeSpec.witness6 (enc := enc) (C := Try.checked) false ⟨#[], #[.slice none 0 0, .slice none 0 0], []⟩ 8 (by kernel_rfl) (by kernel_rfl) (by kernel_rfl) (by kernel_rfl)) ?_
  intro W base args ds gs before hval hW _ _
  refine law_contract (tys := [tyRows, tyRats]) (by kernel_rfl) (by kernel_rfl) rfl (by kernel_rfl) rfl (fun ds h => ?_) said W base args ds gs before hval hW
  match ds, h with
  | [d0, d1], _ => rfl

theorem over : Rows.fnExactSecurityOfRow.holds Try.pinned (OpenSpec.ofChange Rows.fnExactSecurityOfSpec) :=
  OpenClaim.holds_of_wide 4 Try.f4 rfl rfl rfl rfl rfl rfl rfl ⟨rfl, rfl, rfl, rfl, rfl⟩ rfl rfl rfl rfl rfl (by kernel_rfl) Try.func4 (by kernel_rfl)
    (of_decide_eq_true (by kernel_rfl)) (by unfold Func.isWrapper; first | (rw [if_pos (by decide +kernel)]; kernel_rfl) | (rw [if_neg (by decide +kernel)]; exact ⟨rfl, rfl⟩))
    (fun os started H enc _ => lifted os started H enc)
end fnExactSecurityOf

theorem fnExactSecurityOf_holds : Rows.FnExactSecurityOfSaid := fnExactSecurityOf.over
#print axioms fnExactSecurityOf_holds
end Go.Proofs.Ytocaiefddkjiiaa
