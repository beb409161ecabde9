/- The program's IsMatrixSolution returns what the reference's returns, for all arguments: the law FnExactIsMatrixSolution returns true for every input. No conditions. -/
import Derived.Test.YtbnlplhpnbijhaaRows
import Derived.Test.YtbnlplhpnbijhaaQ3
/- Contracts: steps with a code. -/
set_option linter.unusedSimpArgs false
set_option linter.unusedVariables false
namespace Go.Ab
open Go.Proofs

/-- A step: nothing is done behind an error. -/
def stepA (c : Int) (a b : Int × Int) : (Int × Int) × Int := if c ≠ 0 then ((0, 1), c) else addR a b
def stepM (c : Int) (a b : Int × Int) : (Int × Int) × Int := if c ≠ 0 then ((0, 1), c) else mulR a b

theorem spec_l19Whole_ok (n : Int) : Pure Try.prog 125 [.i n] (rat (n, 1)) := by
  refine fun_spec_l19Whole (by simp) ?_
  simp -implicitDefEqProofs only [go_sem, List.reduceReplicate, Nat.reduceEqDiff, Nat.reduceAdd, Nat.reduceLeDiff, Nat.reduceMul, Nat.reduceSub, Nat.reduceDiv, Int.reduceToNat, Nat.reduceLT, Int.reduceLT, Int.reduceLE, ↓reduceIte, reduceCtorEq, forall_apply_eq_imp_iff₂, ints, rows, rat, rats, toNat_cast, c_spec_l19Whole]

theorem spec_l19Add_ok (c : Int) (a b : Int × Int) : Fun Try.prog 127 [.box [.i c]] [.own 1000000000, .t (rat a), .t (rat b)] fun o r => o = [.box [.i (stepA c a b).2]] ∧ r = rat (stepA c a b).1 := by
  refine fun_spec_l19Add (by simp) ?_
  simp -implicitDefEqProofs only [go_sem, List.reduceReplicate, Nat.reduceEqDiff, Nat.reduceAdd, Nat.reduceLeDiff, Nat.reduceMul, Nat.reduceSub, Nat.reduceDiv, Int.reduceToNat, Nat.reduceLT, Int.reduceLT, Int.reduceLE, ↓reduceIte, reduceCtorEq, forall_apply_eq_imp_iff₂, ints, rows, rat, rats, toNat_cast, c_spec_l19Add]
  refine ⟨fun h => ?_, fun h => ?_⟩
  · have h' : c ≠ 0 := by simpa using h
    rw [stepA, if_pos h']
    exact ⟨rfl, rfl⟩
  · have h' : c = 0 := by simpa using h
    subst h'
    refine CallW.res (spec_AddRatios_ok a b) [] rfl Try.call164 ?_ (.inl rfl) ?_
    · simp -implicitDefEqProofs only [Int.natCast_zero, Int.cast_ofNat_Int, Int.natCast_one, Nat.le_refl, Nat.reduceLeDiff, Nat.sub_self, Nat.reduceSub, List.getElem?_cons_zero, List.getElem?_cons_succ, vt_self, vaL, vtL, va, vt, vb, maT, List.cons_append, List.nil_append, List.append_nil, true_or, or_true, go_sem, List.reduceReplicate, Nat.reduceEqDiff, Nat.reduceAdd, Nat.reduceLeDiff, Nat.reduceMul, Nat.reduceSub, Nat.reduceDiv, Int.reduceToNat, Nat.reduceLT, Int.reduceLT, Int.reduceLE, ↓reduceIte, reduceCtorEq, ints, rows, rat, rats, ratsO, toShL_ratC, List.mem_cons, List.mem_nil_iff, List.not_mem_nil, or_false, false_or, exists_eq_left, exists_eq_left', exists_eq_right', Root.live.injEq, eq_self_iff_true, exists_eq, and_true, T.toSh, toShL_ints, toShL_intsO, intsO, rowsO]
    simp -implicitDefEqProofs only [List.append_nil, List.cons_append, Nat.reduceLeDiff, afterCall, absT_rowsO, absT_intsO, absT, absL, updL, updS, freeAll, rid, T.noSh, T.noShL, Nat.zero_le, go_sem, List.reduceReplicate, Nat.reduceEqDiff, Nat.reduceAdd, Nat.reduceLeDiff, Nat.reduceMul, Nat.reduceSub, Nat.reduceDiv, Int.reduceToNat, Nat.reduceLT, Int.reduceLT, Int.reduceLE, ↓reduceIte, reduceCtorEq, rat, forall_apply_eq_imp_iff₂, toNat_cast, redT, rat]
    exact ⟨rfl, rfl⟩

theorem spec_l19Times_ok (c : Int) (a b : Int × Int) : Fun Try.prog 167 [.box [.i c]] [.own 1000000000, .t (rat a), .t (rat b)] fun o r => o = [.box [.i (stepM c a b).2]] ∧ r = rat (stepM c a b).1 := by
  refine fun_spec_l19Times (by simp) ?_
  simp -implicitDefEqProofs only [go_sem, List.reduceReplicate, Nat.reduceEqDiff, Nat.reduceAdd, Nat.reduceLeDiff, Nat.reduceMul, Nat.reduceSub, Nat.reduceDiv, Int.reduceToNat, Nat.reduceLT, Int.reduceLT, Int.reduceLE, ↓reduceIte, reduceCtorEq, forall_apply_eq_imp_iff₂, ints, rows, rat, rats, toNat_cast, c_spec_l19Times]
  refine ⟨fun h => ?_, fun h => ?_⟩
  · have h' : c ≠ 0 := by simpa using h
    rw [stepM, if_pos h']
    exact ⟨rfl, rfl⟩
  · have h' : c = 0 := by simpa using h
    subst h'
    refine CallW.res (spec_MultiplyRatios_ok a b) [] rfl Try.call177 ?_ (.inl rfl) ?_
    · simp -implicitDefEqProofs only [Int.natCast_zero, Int.cast_ofNat_Int, Int.natCast_one, Nat.le_refl, Nat.reduceLeDiff, Nat.sub_self, Nat.reduceSub, List.getElem?_cons_zero, List.getElem?_cons_succ, vt_self, vaL, vtL, va, vt, vb, maT, List.cons_append, List.nil_append, List.append_nil, true_or, or_true, go_sem, List.reduceReplicate, Nat.reduceEqDiff, Nat.reduceAdd, Nat.reduceLeDiff, Nat.reduceMul, Nat.reduceSub, Nat.reduceDiv, Int.reduceToNat, Nat.reduceLT, Int.reduceLT, Int.reduceLE, ↓reduceIte, reduceCtorEq, ints, rows, rat, rats, ratsO, toShL_ratC, List.mem_cons, List.mem_nil_iff, List.not_mem_nil, or_false, false_or, exists_eq_left, exists_eq_left', exists_eq_right', Root.live.injEq, eq_self_iff_true, exists_eq, and_true, T.toSh, toShL_ints, toShL_intsO, intsO, rowsO]
    simp -implicitDefEqProofs only [List.append_nil, List.cons_append, Nat.reduceLeDiff, afterCall, absT_rowsO, absT_intsO, absT, absL, updL, updS, freeAll, rid, T.noSh, T.noShL, Nat.zero_le, go_sem, List.reduceReplicate, Nat.reduceEqDiff, Nat.reduceAdd, Nat.reduceLeDiff, Nat.reduceMul, Nat.reduceSub, Nat.reduceDiv, Int.reduceToNat, Nat.reduceLT, Int.reduceLT, Int.reduceLE, ↓reduceIte, reduceCtorEq, rat, forall_apply_eq_imp_iff₂, toNat_cast, redT, rat]
    exact ⟨rfl, rfl⟩
end Go.Ab

/- Contracts: mixes. -/
set_option linter.unusedSimpArgs false
set_option linter.unusedVariables false
namespace Go.Ab
open Go.Proofs

def mixGo : Int × Int → List (Int × Int) → Bool
  | s, [] => decide (s = (1, 1))
  | s, x :: l => isRat x && decide (0 ≤ x.1) && decide ((addR s x).2 = 0) && mixGo (addR s x).1 l
def mixSp : Int → Int × Int → List (Int × Int) → Bool
  | c, s, [] => decide (c = 0) && decide (s = (1, 1))
  | c, s, x :: l => isRat x && decide (0 ≤ x.1) && mixSp (stepA c s x).2 (stepA c s x).1 l
theorem mixSp_err : ∀ (l : List (Int × Int)) (c : Int) (s : Int × Int), c ≠ 0 → mixSp c s l = false
  | [], c, s, h => by simp [mixSp, h]
  | x :: l, c, s, h => by
    rw [mixSp, stepA, if_pos h]
    simp only []
    rw [mixSp_err l c _ h]; simp
theorem mixSp_eq : ∀ (l : List (Int × Int)) (s : Int × Int), mixSp 0 s l = mixGo s l
  | [], s => by simp [mixSp, mixGo]
  | x :: l, s => by
    rw [mixSp, mixGo, stepA, if_neg (by simp)]
    by_cases h : (addR s x).2 = 0
    · rw [h, mixSp_eq l]; simp
    · rw [mixSp_err l _ _ h]; simp [h]
/-- Is p a mix of n? -/
def isMixB (p : List (Int × Int)) (n : Int) : Bool := decide (1 ≤ n ∧ n ≤ 4) && decide ((p.length : Int) = n) && mixGo (0, 1) p

theorem impl_IsMix_ok (p : List (Int × Int)) (n : Int) (hp : p.length ≤ 1000000000000) : Pure Try.prog 41 [rats p, .i n] (.b (isMixB p n)) := by
  refine fun_impl_IsMix (by simp) ?_
  simp -implicitDefEqProofs only [go_sem, List.reduceReplicate, Nat.reduceEqDiff, Nat.reduceAdd, Nat.reduceLeDiff, Nat.reduceMul, Nat.reduceSub, Nat.reduceDiv, Int.reduceToNat, Nat.reduceLT, Int.reduceLT, Int.reduceLE, ↓reduceIte, reduceCtorEq, forall_apply_eq_imp_iff₂, ints, rows, rat, rats, toNat_cast, c_impl_IsMix]
  refine CallW.pure (impl_within_ok n 1 4) [] rfl Try.call97 ?_ (by first | trivial | simp [T.noSh, T.noShL, rat]) rfl ?_
  · simp -implicitDefEqProofs only [Int.natCast_zero, Int.cast_ofNat_Int, Int.natCast_one, Nat.le_refl, Nat.reduceLeDiff, Nat.sub_self, Nat.reduceSub, List.getElem?_cons_zero, List.getElem?_cons_succ, vt_self, vaL, vtL, va, vt, vb, maT, List.cons_append, List.nil_append, List.append_nil, true_or, or_true, go_sem, List.reduceReplicate, Nat.reduceEqDiff, Nat.reduceAdd, Nat.reduceLeDiff, Nat.reduceMul, Nat.reduceSub, Nat.reduceDiv, Int.reduceToNat, Nat.reduceLT, Int.reduceLT, Int.reduceLE, ↓reduceIte, reduceCtorEq, ints, rows, rat, rats, ratsO, toShL_ratC, List.mem_cons, List.mem_nil_iff, List.not_mem_nil, or_false, false_or, exists_eq_left, exists_eq_left', exists_eq_right', Root.live.injEq, eq_self_iff_true, exists_eq, and_true, T.toSh, toShL_ints, toShL_intsO, intsO, rowsO]
  simp -implicitDefEqProofs only [go_sem, List.reduceReplicate, Nat.reduceEqDiff, Nat.reduceAdd, Nat.reduceLeDiff, Nat.reduceMul, Nat.reduceSub, Nat.reduceDiv, Int.reduceToNat, Nat.reduceLT, Int.reduceLT, Int.reduceLE, ↓reduceIte, reduceCtorEq, forall_apply_eq_imp_iff₂, ints, rows, rat, rats, toNat_cast]
  refine ⟨fun h => ⟨fun h1 => ?_, fun h1 => ?_⟩, fun h => ?_⟩
  · rw [isMixB, decide_eq_false (p := (p.length : Int) = n) (by simpa using h1)]; simp
  · have hn : 1 ≤ n ∧ n ≤ 4 := by simpa using h
    have hl : (p.length : Int) = n := by simpa using h1
    refine SemC.loopR (σ := Nat × (Int × Int)) (fun s => St.of [(5, .own 5), (20, .t (rats p)), (21, .t (.i p.length)), (22, .t (.i s.1))] [(5, .box [.i s.2.1, .i s.2.2])]) (fun s => s.1 ≤ p.length ∧ mixGo s.2 (p.drop s.1) = mixGo (0, 1) p) (fun s => p.length - s.1) (0, (0, 1)) (Weak.of _ _ [some 5] (by simp) (by simp) ?_ ?_) ⟨by simp, rfl⟩ fun s hI R hn' hr he => ?_
    · simp -implicitDefEqProofs only [ints, rows, Nat.reduceBEq, Int.add_zero, envOK, maA, maT, upd_apply, Nat.reduceEqDiff, ↓reduceIte, and_true, true_or, or_true, List.map_cons, List.map_nil, Nat.zero_ne_one, and_self, true_and, Int.natCast_zero, Int.cast_ofNat_Int, Int.ofNat_zero, piOf, List.zip_cons_cons, List.zip_nil_right, List.lookup_cons, List.lookup_nil, beq_self_eq_true, rootsOK, mkRoots, mkEnv, rats]
    · exact ⟨⟨_, rfl, .refl _⟩, rfl, trivial⟩
    · obtain ⟨i, s1, s2⟩ := s
      obtain ⟨hi, hm⟩ := hI
      (try simp only [] at hi hm)
      simp -implicitDefEqProofs only [go_sem, List.reduceReplicate, Nat.reduceEqDiff, Nat.reduceAdd, Nat.reduceLeDiff, Nat.reduceMul, Nat.reduceSub, Nat.reduceDiv, Int.reduceToNat, Nat.reduceLT, Int.reduceLT, Int.reduceLE, ↓reduceIte, reduceCtorEq, forall_apply_eq_imp_iff₂, ints, rows, rat, rats, toNat_cast]
      refine ⟨fun h => ⟨by omega, by rw [ratC_length]; omega, by rw [ratC_length]; omega, ?_⟩, fun h => he _ _ ?_⟩
      · obtain ⟨x, hx⟩ : ∃ x, p[i]? = some x := ⟨_, List.getElem?_eq_getElem (by omega)⟩
        rw [ratC_at hx]
        simp -implicitDefEqProofs only [go_sem, List.reduceReplicate, Nat.reduceEqDiff, Nat.reduceAdd, Nat.reduceLeDiff, Nat.reduceMul, Nat.reduceSub, Nat.reduceDiv, Int.reduceToNat, Nat.reduceLT, Int.reduceLT, Int.reduceLE, ↓reduceIte, reduceCtorEq, forall_apply_eq_imp_iff₂, ints, rows, rat, rats, toNat_cast]
        rw [drop_of_get hx, mixGo] at hm
        have hmB : isMixB p n = mixGo (0, 1) p := by rw [isMixB, decide_eq_true hn, decide_eq_true hl]; simp
        refine CallW.pure (impl_IsRatio_ok x) [] rfl Try.call120 ?_ (by first | trivial | simp [T.noSh, T.noShL, rat]) rfl ?_
        · simp -implicitDefEqProofs only [Int.natCast_zero, Int.cast_ofNat_Int, Int.natCast_one, Nat.le_refl, Nat.reduceLeDiff, Nat.sub_self, Nat.reduceSub, List.getElem?_cons_zero, List.getElem?_cons_succ, vt_self, vaL, vtL, va, vt, vb, maT, List.cons_append, List.nil_append, List.append_nil, true_or, or_true, go_sem, List.reduceReplicate, Nat.reduceEqDiff, Nat.reduceAdd, Nat.reduceLeDiff, Nat.reduceMul, Nat.reduceSub, Nat.reduceDiv, Int.reduceToNat, Nat.reduceLT, Int.reduceLT, Int.reduceLE, ↓reduceIte, reduceCtorEq, ints, rows, rat, rats, ratsO, toShL_ratC, List.mem_cons, List.mem_nil_iff, List.not_mem_nil, or_false, false_or, exists_eq_left, exists_eq_left', exists_eq_right', Root.live.injEq, eq_self_iff_true, exists_eq, and_true, T.toSh, toShL_ints, toShL_intsO, intsO, rowsO]
        simp -implicitDefEqProofs only [go_sem, List.reduceReplicate, Nat.reduceEqDiff, Nat.reduceAdd, Nat.reduceLeDiff, Nat.reduceMul, Nat.reduceSub, Nat.reduceDiv, Int.reduceToNat, Nat.reduceLT, Int.reduceLT, Int.reduceLE, ↓reduceIte, reduceCtorEq, forall_apply_eq_imp_iff₂, ints, rows, rat, rats, toNat_cast]
        refine ⟨fun h1 => ⟨fun h2 => hr _ ?_, fun h2 => ?_⟩, fun h1 => hr _ ?_⟩
        · simp -implicitDefEqProofs only [go_sem, List.reduceReplicate, Nat.reduceEqDiff, Nat.reduceAdd, Nat.reduceLeDiff, Nat.reduceMul, Nat.reduceSub, Nat.reduceDiv, Int.reduceToNat, Nat.reduceLT, Int.reduceLT, Int.reduceLE, ↓reduceIte, reduceCtorEq, forall_apply_eq_imp_iff₂, ints, rows, rat, rats, toNat_cast]
          rw [hmB, ← hm, decide_eq_false (p := 0 ≤ x.1) (by omega)]; simp
        · refine CallW.res (impl_AddRatios_ok (s1, s2) x) [] rfl Try.call49 ?_ (.inl rfl) ?_
          · simp -implicitDefEqProofs only [Int.natCast_zero, Int.cast_ofNat_Int, Int.natCast_one, Nat.le_refl, Nat.reduceLeDiff, Nat.sub_self, Nat.reduceSub, List.getElem?_cons_zero, List.getElem?_cons_succ, vt_self, vaL, vtL, va, vt, vb, maT, List.cons_append, List.nil_append, List.append_nil, true_or, or_true, go_sem, List.reduceReplicate, Nat.reduceEqDiff, Nat.reduceAdd, Nat.reduceLeDiff, Nat.reduceMul, Nat.reduceSub, Nat.reduceDiv, Int.reduceToNat, Nat.reduceLT, Int.reduceLT, Int.reduceLE, ↓reduceIte, reduceCtorEq, ints, rows, rat, rats, ratsO, toShL_ratC, List.mem_cons, List.mem_nil_iff, List.not_mem_nil, or_false, false_or, exists_eq_left, exists_eq_left', exists_eq_right', Root.live.injEq, eq_self_iff_true, exists_eq, and_true, T.toSh, toShL_ints, toShL_intsO, intsO, rowsO]
          simp -implicitDefEqProofs only [List.append_nil, List.cons_append, Nat.reduceLeDiff, afterCall, absT_rowsO, absT_intsO, absT, absL, updL, updS, freeAll, rid, T.noSh, T.noShL, Nat.zero_le, go_sem, List.reduceReplicate, Nat.reduceEqDiff, Nat.reduceAdd, Nat.reduceLeDiff, Nat.reduceMul, Nat.reduceSub, Nat.reduceDiv, Int.reduceToNat, Nat.reduceLT, Int.reduceLT, Int.reduceLE, ↓reduceIte, reduceCtorEq, rat, forall_apply_eq_imp_iff₂, toNat_cast, redT, rat]
          refine ⟨fun h3 => hr _ ?_, fun h3 => ?_⟩
          · simp -implicitDefEqProofs only [go_sem, List.reduceReplicate, Nat.reduceEqDiff, Nat.reduceAdd, Nat.reduceLeDiff, Nat.reduceMul, Nat.reduceSub, Nat.reduceDiv, Int.reduceToNat, Nat.reduceLT, Int.reduceLT, Int.reduceLE, ↓reduceIte, reduceCtorEq, forall_apply_eq_imp_iff₂, ints, rows, rat, rats, toNat_cast]
            rw [hmB, ← hm, decide_eq_false (p := (addR (s1, s2) x).2 = 0) (by simpa using h3)]; simp
          · refine hn' _ (i + 1, (addR (s1, s2) x).1) (Weak.of _ _ [some 5] (by simp) (by simp) ?_ ?_) ⟨by simp only []; omega, ?_⟩ (by simp only []; omega)
            · simp -implicitDefEqProofs only [ints, rows, Nat.reduceBEq, Int.add_zero, envOK, maA, maT, upd_apply, Nat.reduceEqDiff, ↓reduceIte, and_true, true_or, or_true, List.map_cons, List.map_nil, Nat.zero_ne_one, and_self, true_and, Int.natCast_zero, Int.cast_ofNat_Int, Int.ofNat_zero, piOf, List.zip_cons_cons, List.zip_nil_right, List.lookup_cons, List.lookup_nil, beq_self_eq_true, rootsOK, mkRoots, mkEnv, rats, next64 (by omega : i < p.length) hp]
            · exact ⟨⟨_, rfl, .refl _⟩, rfl, trivial⟩
            · simp only []
              rw [← hm]
              have e1 : isRat x = true := by simpa using h1
              have e3 : (addR (s1, s2) x).2 = 0 := by simpa using h3
              rw [e1, e3, decide_eq_true (p := 0 ≤ x.1) (by omega)]; simp
        · simp -implicitDefEqProofs only [go_sem, List.reduceReplicate, Nat.reduceEqDiff, Nat.reduceAdd, Nat.reduceLeDiff, Nat.reduceMul, Nat.reduceSub, Nat.reduceDiv, Int.reduceToNat, Nat.reduceLT, Int.reduceLT, Int.reduceLE, ↓reduceIte, reduceCtorEq, forall_apply_eq_imp_iff₂, ints, rows, rat, rats, toNat_cast]
          rw [hmB, ← hm]
          have e1 : isRat x = false := by simpa using h1
          rw [e1]; simp
      · simp -implicitDefEqProofs only [go_sem, List.reduceReplicate, Nat.reduceEqDiff, Nat.reduceAdd, Nat.reduceLeDiff, Nat.reduceMul, Nat.reduceSub, Nat.reduceDiv, Int.reduceToNat, Nat.reduceLT, Int.reduceLT, Int.reduceLE, ↓reduceIte, reduceCtorEq, forall_apply_eq_imp_iff₂, ints, rows, rat, rats, toNat_cast]
        have hmB : isMixB p n = mixGo (0, 1) p := by rw [isMixB, decide_eq_true hn, decide_eq_true hl]; simp
        rw [hmB, ← hm, List.drop_of_length_le (by omega), mixGo]
        simp
  · rw [isMixB, decide_eq_false (p := 1 ≤ n ∧ n ≤ 4) (by simp at h; omega)]; simp

theorem spec_IsMix_ok (p : List (Int × Int)) (n : Int) (hp : p.length ≤ 1000000000000) : Pure Try.prog 48 [rats p, .i n] (.b (isMixB p n)) := by
  refine fun_spec_IsMix (by simp) ?_
  simp -implicitDefEqProofs only [go_sem, List.reduceReplicate, Nat.reduceEqDiff, Nat.reduceAdd, Nat.reduceLeDiff, Nat.reduceMul, Nat.reduceSub, Nat.reduceDiv, Int.reduceToNat, Nat.reduceLT, Int.reduceLT, Int.reduceLE, ↓reduceIte, reduceCtorEq, forall_apply_eq_imp_iff₂, ints, rows, rat, rats, toNat_cast, c_spec_IsMix]
  refine ⟨fun h => ?_, fun h => ?_⟩
  case refine_2 => rw [isMixB, decide_eq_false (p := (p.length : Int) = n) (by simpa using h)]; simp
  have hl : (p.length : Int) = n := by simpa using h
  refine CallW.pure (spec_l01In_ok n 1 4) [] rfl Try.call100 ?_ (by first | trivial | simp [T.noSh, T.noShL, rat]) rfl ?_
  · simp -implicitDefEqProofs only [Int.natCast_zero, Int.cast_ofNat_Int, Int.natCast_one, Nat.le_refl, Nat.reduceLeDiff, Nat.sub_self, Nat.reduceSub, List.getElem?_cons_zero, List.getElem?_cons_succ, vt_self, vaL, vtL, va, vt, vb, maT, List.cons_append, List.nil_append, List.append_nil, true_or, or_true, go_sem, List.reduceReplicate, Nat.reduceEqDiff, Nat.reduceAdd, Nat.reduceLeDiff, Nat.reduceMul, Nat.reduceSub, Nat.reduceDiv, Int.reduceToNat, Nat.reduceLT, Int.reduceLT, Int.reduceLE, ↓reduceIte, reduceCtorEq, ints, rows, rat, rats, ratsO, toShL_ratC, List.mem_cons, List.mem_nil_iff, List.not_mem_nil, or_false, false_or, exists_eq_left, exists_eq_left', exists_eq_right', Root.live.injEq, eq_self_iff_true, exists_eq, and_true, T.toSh, toShL_ints, toShL_intsO, intsO, rowsO]
  simp -implicitDefEqProofs only [go_sem, List.reduceReplicate, Nat.reduceEqDiff, Nat.reduceAdd, Nat.reduceLeDiff, Nat.reduceMul, Nat.reduceSub, Nat.reduceDiv, Int.reduceToNat, Nat.reduceLT, Int.reduceLT, Int.reduceLE, ↓reduceIte, reduceCtorEq, forall_apply_eq_imp_iff₂, ints, rows, rat, rats, toNat_cast]
  refine ⟨fun h => ?_, fun h => ?_⟩
  · rw [isMixB, decide_eq_false (p := 1 ≤ n ∧ n ≤ 4) (by simp at h; omega)]; simp
  have hn : 1 ≤ n ∧ n ≤ 4 := by simpa using h
  have hmB : isMixB p n = mixGo (0, 1) p := by rw [isMixB, decide_eq_true hn, decide_eq_true hl]; simp
  refine CallW.pure (spec_l19Whole_ok 0) [] rfl Try.call125 ?_ (by first | trivial | simp [T.noSh, T.noShL, rat]) rfl ?_
  · simp -implicitDefEqProofs only [Int.natCast_zero, Int.cast_ofNat_Int, Int.natCast_one, Nat.le_refl, Nat.reduceLeDiff, Nat.sub_self, Nat.reduceSub, List.getElem?_cons_zero, List.getElem?_cons_succ, vt_self, vaL, vtL, va, vt, vb, maT, List.cons_append, List.nil_append, List.append_nil, true_or, or_true, go_sem, List.reduceReplicate, Nat.reduceEqDiff, Nat.reduceAdd, Nat.reduceLeDiff, Nat.reduceMul, Nat.reduceSub, Nat.reduceDiv, Int.reduceToNat, Nat.reduceLT, Int.reduceLT, Int.reduceLE, ↓reduceIte, reduceCtorEq, ints, rows, rat, rats, ratsO, toShL_ratC, List.mem_cons, List.mem_nil_iff, List.not_mem_nil, or_false, false_or, exists_eq_left, exists_eq_left', exists_eq_right', Root.live.injEq, eq_self_iff_true, exists_eq, and_true, T.toSh, toShL_ints, toShL_intsO, intsO, rowsO]
  simp -implicitDefEqProofs only [go_sem, List.reduceReplicate, Nat.reduceEqDiff, Nat.reduceAdd, Nat.reduceLeDiff, Nat.reduceMul, Nat.reduceSub, Nat.reduceDiv, Int.reduceToNat, Nat.reduceLT, Int.reduceLT, Int.reduceLE, ↓reduceIte, reduceCtorEq, forall_apply_eq_imp_iff₂, ints, rows, rat, rats, toNat_cast]
  refine SemC.loopR (σ := Nat × Int × (Int × Int)) (fun s => St.of [(0, .t (rats p)), (5, .own 18), (6, .own 6), (7, .t (.i s.1))] [(6, .box [.i s.2.2.1, .i s.2.2.2]), (18, .box [.i s.2.1])]) (fun s => s.1 ≤ p.length ∧ mixSp s.2.1 s.2.2 (p.drop s.1) = mixSp 0 (0, 1) p) (fun s => p.length - s.1) (0, 0, (0, 1)) (Weak.of _ _ [some 6, some 18] (by simp) (by simp) ?_ ?_) ⟨by simp, rfl⟩ fun s hI R hn' hr he => ?_
  · simp -implicitDefEqProofs only [ints, rows, Nat.reduceBEq, Int.add_zero, envOK, maA, maT, upd_apply, Nat.reduceEqDiff, ↓reduceIte, and_true, true_or, or_true, List.map_cons, List.map_nil, Nat.zero_ne_one, and_self, true_and, Int.natCast_zero, Int.cast_ofNat_Int, Int.ofNat_zero, piOf, List.zip_cons_cons, List.zip_nil_right, List.lookup_cons, List.lookup_nil, beq_self_eq_true, rootsOK, mkRoots, mkEnv, rats]
  · exact ⟨⟨_, rfl, .refl _⟩, rfl, ⟨_, rfl, .refl _⟩, rfl, trivial⟩
  · obtain ⟨i, c, s1, s2⟩ := s
    obtain ⟨hi, hm⟩ := hI
    (try simp only [] at hi hm)
    rw [mixSp_eq, ← hmB] at hm
    simp -implicitDefEqProofs only [go_sem, List.reduceReplicate, Nat.reduceEqDiff, Nat.reduceAdd, Nat.reduceLeDiff, Nat.reduceMul, Nat.reduceSub, Nat.reduceDiv, Int.reduceToNat, Nat.reduceLT, Int.reduceLT, Int.reduceLE, ↓reduceIte, reduceCtorEq, forall_apply_eq_imp_iff₂, ints, rows, rat, rats, toNat_cast]
    refine ⟨fun h => ⟨by omega, by rw [ratC_length]; omega, by rw [ratC_length]; omega, ?_⟩, fun h => he _ _ ?_⟩
    · obtain ⟨x, hx⟩ : ∃ x, p[i]? = some x := ⟨_, List.getElem?_eq_getElem (by omega)⟩
      rw [ratC_at hx]
      rw [drop_of_get hx, mixSp] at hm
      refine CallW.pure (spec_IsRatio_ok x) [] rfl Try.call126 ?_ (by first | trivial | simp [T.noSh, T.noShL, rat]) rfl ?_
      · simp -implicitDefEqProofs only [Int.natCast_zero, Int.cast_ofNat_Int, Int.natCast_one, Nat.le_refl, Nat.reduceLeDiff, Nat.sub_self, Nat.reduceSub, List.getElem?_cons_zero, List.getElem?_cons_succ, vt_self, vaL, vtL, va, vt, vb, maT, List.cons_append, List.nil_append, List.append_nil, true_or, or_true, go_sem, List.reduceReplicate, Nat.reduceEqDiff, Nat.reduceAdd, Nat.reduceLeDiff, Nat.reduceMul, Nat.reduceSub, Nat.reduceDiv, Int.reduceToNat, Nat.reduceLT, Int.reduceLT, Int.reduceLE, ↓reduceIte, reduceCtorEq, ints, rows, rat, rats, ratsO, toShL_ratC, List.mem_cons, List.mem_nil_iff, List.not_mem_nil, or_false, false_or, exists_eq_left, exists_eq_left', exists_eq_right', Root.live.injEq, eq_self_iff_true, exists_eq, and_true, T.toSh, toShL_ints, toShL_intsO, intsO, rowsO]
      simp -implicitDefEqProofs only [go_sem, List.reduceReplicate, Nat.reduceEqDiff, Nat.reduceAdd, Nat.reduceLeDiff, Nat.reduceMul, Nat.reduceSub, Nat.reduceDiv, Int.reduceToNat, Nat.reduceLT, Int.reduceLT, Int.reduceLE, ↓reduceIte, reduceCtorEq, forall_apply_eq_imp_iff₂, ints, rows, rat, rats, toNat_cast, ratC_get1 hx]
      refine ⟨fun h1 => ⟨by omega, by rw [ratC_length]; omega, by rw [ratC_length]; omega, fun h2 => hr _ ?_, fun h2 => ?_⟩, fun h1 => hr _ ?_⟩
      · simp -implicitDefEqProofs only [go_sem, List.reduceReplicate, Nat.reduceEqDiff, Nat.reduceAdd, Nat.reduceLeDiff, Nat.reduceMul, Nat.reduceSub, Nat.reduceDiv, Int.reduceToNat, Nat.reduceLT, Int.reduceLT, Int.reduceLE, ↓reduceIte, reduceCtorEq, forall_apply_eq_imp_iff₂, ints, rows, rat, rats, toNat_cast]
        rw [← hm, decide_eq_false (p := 0 ≤ x.1) (by omega)]; simp
      · refine ⟨by omega, by rw [ratC_length]; omega, by rw [ratC_length]; omega, ?_⟩
        (try rw [ratC_at hx])
        refine CallH.ref (spec_l19Add_ok c (s1, s2) x) [18] [] rfl Try.call127 (by simp) ?_ (by simp) (fun e R' hR => ?_) (.inl rfl) ?_
        · simp -implicitDefEqProofs only [rootOf_arr, rootOf_box, rootOf_any, srcsOK, updL, updS, upd_apply, Nat.reduceEqDiff, ↓reduceIte, mkRoots, and_true, ints, rows, intsO, rowsO]
        · simp -implicitDefEqProofs only [Int.natCast_zero, Int.cast_ofNat_Int, Int.natCast_one, Nat.le_refl, Nat.reduceLeDiff, Nat.sub_self, Nat.reduceSub, List.getElem?_cons_zero, List.getElem?_cons_succ, vt_self, vaL, vtL, va, vt, vb, maT, List.cons_append, List.nil_append, List.append_nil, true_or, or_true, go_sem, List.reduceReplicate, Nat.reduceEqDiff, Nat.reduceAdd, Nat.reduceLeDiff, Nat.reduceMul, Nat.reduceSub, Nat.reduceDiv, Int.reduceToNat, Nat.reduceLT, Int.reduceLT, Int.reduceLE, ↓reduceIte, reduceCtorEq, ints, rows, rat, rats, ratsO, toShL_ratC, List.mem_cons, List.mem_nil_iff, List.not_mem_nil, or_false, false_or, exists_eq_left, exists_eq_left', exists_eq_right', Root.live.injEq, eq_self_iff_true, exists_eq, and_true, T.toSh, toShL_ints, toShL_intsO, intsO, rowsO]
        simp -implicitDefEqProofs only [List.append_nil, List.cons_append, Nat.reduceLeDiff, afterCall, absT_rowsO, absT_intsO, absT, absL, updL, updS, freeAll, rid, T.noSh, T.noShL, Nat.zero_le, go_sem, List.reduceReplicate, Nat.reduceEqDiff, Nat.reduceAdd, Nat.reduceLeDiff, Nat.reduceMul, Nat.reduceSub, Nat.reduceDiv, Int.reduceToNat, Nat.reduceLT, Int.reduceLT, Int.reduceLE, ↓reduceIte, reduceCtorEq, rat, forall_apply_eq_imp_iff₂, toNat_cast]
        refine hn' _ (i + 1, (stepA c (s1, s2) x).2, (stepA c (s1, s2) x).1) (Weak.of _ _ [some 6, some 18] (by simp) (by simp) ?_ ?_) ⟨by simp only []; omega, ?_⟩ (by simp only []; omega)
        · simp -implicitDefEqProofs only [ints, rows, Nat.reduceBEq, Int.add_zero, envOK, maA, maT, upd_apply, Nat.reduceEqDiff, ↓reduceIte, and_true, true_or, or_true, List.map_cons, List.map_nil, Nat.zero_ne_one, and_self, true_and, Int.natCast_zero, Int.cast_ofNat_Int, Int.ofNat_zero, piOf, List.zip_cons_cons, List.zip_nil_right, List.lookup_cons, List.lookup_nil, beq_self_eq_true, rootsOK, mkRoots, mkEnv, rats, next64 (by omega : i < p.length) hp]
        · exact ⟨⟨_, rfl, .refl _⟩, rfl, ⟨_, rfl, .refl _⟩, rfl, trivial⟩
        · simp only []
          rw [mixSp_eq, ← hmB, ← hm]
          have e1 : isRat x = true := by simpa using h1
          rw [e1, decide_eq_true (p := 0 ≤ x.1) (by omega)]; simp
      · simp -implicitDefEqProofs only [go_sem, List.reduceReplicate, Nat.reduceEqDiff, Nat.reduceAdd, Nat.reduceLeDiff, Nat.reduceMul, Nat.reduceSub, Nat.reduceDiv, Int.reduceToNat, Nat.reduceLT, Int.reduceLT, Int.reduceLE, ↓reduceIte, reduceCtorEq, forall_apply_eq_imp_iff₂, ints, rows, rat, rats, toNat_cast]
        rw [← hm]
        have e1 : isRat x = false := by simpa using h1
        rw [e1]; simp
    · simp -implicitDefEqProofs only [go_sem, List.reduceReplicate, Nat.reduceEqDiff, Nat.reduceAdd, Nat.reduceLeDiff, Nat.reduceMul, Nat.reduceSub, Nat.reduceDiv, Int.reduceToNat, Nat.reduceLT, Int.reduceLT, Int.reduceLE, ↓reduceIte, reduceCtorEq, forall_apply_eq_imp_iff₂, ints, rows, rat, rats, toNat_cast]
      rw [List.drop_of_length_le (by omega), mixSp] at hm
      refine ⟨fun h1 => ?_, fun h1 => ?_⟩
      · refine CallV.pure (spec_l19Whole_ok 1) [] rfl Try.call125 (fun e R' hR => ?_) (by first | trivial | simp [T.noSh, T.noShL, rat]) (fun _ => rfl) ?_
        · simp -implicitDefEqProofs only [Int.natCast_zero, Int.cast_ofNat_Int, Int.natCast_one, Nat.le_refl, Nat.reduceLeDiff, Nat.sub_self, Nat.reduceSub, List.getElem?_cons_zero, List.getElem?_cons_succ, vt_self, vaL, vtL, va, vt, vb, maT, List.cons_append, List.nil_append, List.append_nil, true_or, or_true, go_sem, List.reduceReplicate, Nat.reduceEqDiff, Nat.reduceAdd, Nat.reduceLeDiff, Nat.reduceMul, Nat.reduceSub, Nat.reduceDiv, Int.reduceToNat, Nat.reduceLT, Int.reduceLT, Int.reduceLE, ↓reduceIte, reduceCtorEq, ints, rows, rat, rats, ratsO, toShL_ratC, List.mem_cons, List.mem_nil_iff, List.not_mem_nil, or_false, false_or, exists_eq_left, exists_eq_left', exists_eq_right', Root.live.injEq, eq_self_iff_true, exists_eq, and_true, T.toSh, toShL_ints, toShL_intsO, intsO, rowsO]
        simp -implicitDefEqProofs only [go_sem, List.reduceReplicate, Nat.reduceEqDiff, Nat.reduceAdd, Nat.reduceLeDiff, Nat.reduceMul, Nat.reduceSub, Nat.reduceDiv, Int.reduceToNat, Nat.reduceLT, Int.reduceLT, Int.reduceLE, ↓reduceIte, reduceCtorEq, forall_apply_eq_imp_iff₂, ints, rows, rat, rats, toNat_cast]
        rw [← hm, decide_eq_true (p := c = 0) (by simpa using h1)]
        by_cases h : (s1, s2) = (1, 1) <;> simp_all
      · rw [← hm, decide_eq_false (p := c = 0) (by simpa using h1)]; simp
end Go.Ab

/- Contracts: lists of ratios in the laws; the law FnExactIsMix. -/
set_option linter.unusedSimpArgs false
set_option linter.unusedVariables false
namespace Go.Ab
open Go.Proofs

theorem laws_szRatioS_ok (l : List (Int × Int)) (left : Int) (hl : (l.length : Int) ≤ 9223372036854775807) (h0 : -1 ≤ left) (h1 : left ≤ 9223372036854775807) : Pure Try.prog 112 [rats l, .i left] (.i (budget l.length left)) := by
  refine fun_laws_szRatioS (by simp) ?_
  simp -implicitDefEqProofs only [go_sem, List.reduceReplicate, Nat.reduceEqDiff, Nat.reduceAdd, Nat.reduceLeDiff, Nat.reduceMul, Nat.reduceSub, Nat.reduceDiv, Int.reduceToNat, Nat.reduceLT, Int.reduceLT, Int.reduceLE, ↓reduceIte, reduceCtorEq, forall_apply_eq_imp_iff₂, ints, rows, rat, rats, toNat_cast, c_laws_szRatioS]
  rw [wrap64 (by omega) (by omega)]
  refine ⟨fun h => ?_, fun h => ?_⟩ <;> simp [budget, h]

theorem laws_toRatio_ok (r : Int × Int) : Pure Try.prog 116 [rat r] (rat r) := by
  refine fun_laws_toRatio (by simp) ?_
  simp -implicitDefEqProofs only [go_sem, List.reduceReplicate, Nat.reduceEqDiff, Nat.reduceAdd, Nat.reduceLeDiff, Nat.reduceMul, Nat.reduceSub, Nat.reduceDiv, Int.reduceToNat, Nat.reduceLT, Int.reduceLT, Int.reduceLE, ↓reduceIte, reduceCtorEq, forall_apply_eq_imp_iff₂, ints, rows, rat, rats, toNat_cast, c_laws_toRatio]

theorem laws_eqRatio_ok (a b : Int × Int) : Pure Try.prog 78 [rat a, rat b] (.b (decide (a = b))) := by
  obtain ⟨an, ad⟩ := a
  obtain ⟨bn, bd⟩ := b
  refine fun_laws_eqRatio (by simp) ?_
  simp -implicitDefEqProofs only [go_sem, List.reduceReplicate, Nat.reduceEqDiff, Nat.reduceAdd, Nat.reduceLeDiff, Nat.reduceMul, Nat.reduceSub, Nat.reduceDiv, Int.reduceToNat, Nat.reduceLT, Int.reduceLT, Int.reduceLE, ↓reduceIte, reduceCtorEq, forall_apply_eq_imp_iff₂, ints, rows, rat, rats, toNat_cast, c_laws_eqRatio]
  refine ⟨fun h => ?_, fun h => ⟨fun h' => ?_, fun h' => ?_⟩⟩
  · have : an ≠ bn := by simpa using h
    simp [this]
  · have : ad ≠ bd := by simpa using h'
    simp [this]
  · have e1 : an = bn := by simpa using h
    have e2 : ad = bd := by simpa using h'
    simp [e1, e2]

/-- A list of ratios that is half written. -/
def rfilled (l : List (Int × Int)) (i : Nat) : List (Int × Int) := l.take i ++ List.replicate (l.length - i) (0, 0)
theorem rfilled_length (l : List (Int × Int)) (i : Nat) (h : i ≤ l.length) : (rfilled l i).length = l.length := by simp [rfilled]; omega
theorem rfilled_all (l : List (Int × Int)) : rfilled l l.length = l := by simp [rfilled]
theorem ratC_replicate : ∀ (n : Nat), made [T.v (.int .i64 0), T.v (.int .i64 0)] n = ratC (List.replicate n (0, 0)) := by
  intro n
  refine List.ext_getElem? fun i => ?_
  have e : made [T.v (.int .i64 0), T.v (.int .i64 0)] n = (List.range (n * 2)).map fun i => [T.v (.int .i64 0), T.v (.int .i64 0)].getD (i % 2) .any := rfl
  rw [e]
  by_cases hi : i < n * 2
  · rw [List.getElem?_map, List.getElem?_range hi]
    have h2 : i / 2 < n := by omega
    have hx : (List.replicate n ((0 : Int), (0 : Int)))[i / 2]? = some (0, 0) := by rw [List.getElem?_replicate, if_pos h2]
    rcases Nat.mod_two_eq_zero_or_one i with h | h
    · have := ratC_get1 hx
      rw [show i / 2 * 2 = i by omega] at this
      rw [this, Option.map_some, h]; rfl
    · have := ratC_get2 hx
      rw [show i / 2 * 2 + 1 = i by omega] at this
      rw [this, Option.map_some, h]; rfl
  · rw [List.getElem?_eq_none (by simpa using hi), List.getElem?_eq_none (by rw [ratC_length]; simpa using hi)]
theorem ratC_set {l : List (Int × Int)} {i : Nat} (r : Int × Int) (h : i < l.length) : (ratC l).take (i * 2) ++ [T.i r.1, T.i r.2] ++ (ratC l).drop (i * 2 + 2) = ratC (l.set i r) := by
  rw [show i * 2 + 2 = (i + 1) * 2 by omega, ratC_take, ratC_drop, ← show ratC [r] = [T.i r.1, T.i r.2] from rfl, ← ratC_append, ← ratC_append]
  congr 1
  rw [List.set_eq_take_append_cons_drop, if_pos h]; simp
theorem rfilled_set {l : List (Int × Int)} {i : Nat} {x : Int × Int} (h : l[i]? = some x) : (rfilled l i).set i x = rfilled l (i + 1) := by
  obtain ⟨hi, rfl⟩ := List.getElem?_eq_some_iff.1 h
  rw [rfilled, rfilled, List.set_append_right _ _ (by simp; omega), List.take_succ_eq_append_getElem hi]
  have e : i - (l.take i).length = 0 := by simp; omega
  have e2 : l.length - i = (l.length - (i + 1)) + 1 := by omega
  rw [e, e2, List.replicate_succ, List.set_cons_zero]
  simp only [List.append_assoc, List.cons_append, List.nil_append]

theorem laws_toRatioS_ok (l : List (Int × Int)) (hl : (l.length : Int) ≤ 1000000000000) : Fun Try.prog 115 [] [.t (rats l)] fun o r => o = [] ∧ r = ratsO l := by
  refine fun_laws_toRatioS (by simp) ?_
  simp -implicitDefEqProofs only [go_sem, List.reduceReplicate, Nat.reduceEqDiff, Nat.reduceAdd, Nat.reduceLeDiff, Nat.reduceMul, Nat.reduceSub, Nat.reduceDiv, Int.reduceToNat, Nat.reduceLT, Int.reduceLT, Int.reduceLE, ↓reduceIte, reduceCtorEq, forall_apply_eq_imp_iff₂, ints, rows, rat, rats, toNat_cast, c_laws_toRatioS]
  refine ⟨by omega, by omega, ?_⟩
  refine SemC.loopR (σ := Nat) (fun i => St.of [(0, .t (rats l)), (3, .own 7), (4, .t (.i i))] [(7, .arr 2 (ratC (rfilled l i)))]) (fun i => i ≤ l.length) (fun i => l.length - i) 0 (Weak.of _ _ [some 7] (by simp) (by simp) ?_ ?_) (by simp) fun i hI R hn hr he => ?_
  · simp -implicitDefEqProofs only [ints, rows, Nat.reduceBEq, Int.add_zero, envOK, maA, maT, upd_apply, Nat.reduceEqDiff, ↓reduceIte, and_true, true_or, or_true, List.map_cons, List.map_nil, Nat.zero_ne_one, and_self, true_and, Int.natCast_zero, Int.cast_ofNat_Int, Int.ofNat_zero, piOf, List.zip_cons_cons, List.zip_nil_right, List.lookup_cons, List.lookup_nil, beq_self_eq_true, rootsOK, mkRoots, mkEnv, rats]
  · exact ⟨⟨_, rfl, by rw [ratC_replicate]; simp only [rfilled, List.take_zero, List.nil_append, Nat.sub_zero]; exact .refl _⟩, rfl, trivial⟩
  · have hlen := rfilled_length l i hI
    simp -implicitDefEqProofs only [go_sem, List.reduceReplicate, Nat.reduceEqDiff, Nat.reduceAdd, Nat.reduceLeDiff, Nat.reduceMul, Nat.reduceSub, Nat.reduceDiv, Int.reduceToNat, Nat.reduceLT, Int.reduceLT, Int.reduceLE, ↓reduceIte, reduceCtorEq, forall_apply_eq_imp_iff₂, ints, rows, rat, rats, toNat_cast]
    refine ⟨fun h => ⟨by omega, by rw [ratC_length]; omega, by rw [ratC_length]; omega, ?_⟩, fun h => he _ _ ?_⟩
    · obtain ⟨x, hx⟩ : ∃ x, l[i]? = some x := ⟨_, List.getElem?_eq_getElem (by omega)⟩
      rw [ratC_at hx]
      refine CallW.pure (laws_toRatio_ok x) [] rfl Try.call116 ?_ (by first | trivial | simp [T.noSh, T.noShL, rat]) rfl ?_
      · simp -implicitDefEqProofs only [Int.natCast_zero, Int.cast_ofNat_Int, Int.natCast_one, Nat.le_refl, Nat.reduceLeDiff, Nat.sub_self, Nat.reduceSub, List.getElem?_cons_zero, List.getElem?_cons_succ, vt_self, vaL, vtL, va, vt, vb, maT, List.cons_append, List.nil_append, List.append_nil, true_or, or_true, go_sem, List.reduceReplicate, Nat.reduceEqDiff, Nat.reduceAdd, Nat.reduceLeDiff, Nat.reduceMul, Nat.reduceSub, Nat.reduceDiv, Int.reduceToNat, Nat.reduceLT, Int.reduceLT, Int.reduceLE, ↓reduceIte, reduceCtorEq, ints, rows, rat, rats, ratsO, toShL_ratC, List.mem_cons, List.mem_nil_iff, List.not_mem_nil, or_false, false_or, exists_eq_left, exists_eq_left', exists_eq_right', Root.live.injEq, eq_self_iff_true, exists_eq, and_true, T.toSh, toShL_ints, toShL_intsO, intsO, rowsO]
      simp -implicitDefEqProofs only [go_sem, List.reduceReplicate, Nat.reduceEqDiff, Nat.reduceAdd, Nat.reduceLeDiff, Nat.reduceMul, Nat.reduceSub, Nat.reduceDiv, Int.reduceToNat, Nat.reduceLT, Int.reduceLT, Int.reduceLE, ↓reduceIte, reduceCtorEq, forall_apply_eq_imp_iff₂, ints, rows, rat, rats, toNat_cast]
      refine ⟨by omega, by rw [ratC_length]; omega, by rw [ratC_length]; omega, hn _ (i + 1) (Weak.of _ _ [some 7] (by simp) (by simp) ?_ ?_) (by omega) (by omega)⟩
      · simp -implicitDefEqProofs only [ints, rows, Nat.reduceBEq, Int.add_zero, envOK, maA, maT, upd_apply, Nat.reduceEqDiff, ↓reduceIte, and_true, true_or, or_true, List.map_cons, List.map_nil, Nat.zero_ne_one, and_self, true_and, Int.natCast_zero, Int.cast_ofNat_Int, Int.ofNat_zero, piOf, List.zip_cons_cons, List.zip_nil_right, List.lookup_cons, List.lookup_nil, beq_self_eq_true, rootsOK, mkRoots, mkEnv, rats, next64 (by omega : i < l.length) (by omega)]
      · refine ⟨⟨_, rfl, ?_⟩, rfl, trivial⟩
        (try simp only [List.cons_append, List.nil_append, List.append_assoc])
        have := ratC_set (l := rfilled l i) (i := i) x (by omega)
        simp only [List.append_assoc, List.cons_append, List.nil_append] at this
        rw [this, rfilled_set hx]; exact .refl _
    · simp -implicitDefEqProofs only [go_sem, List.reduceReplicate, Nat.reduceEqDiff, Nat.reduceAdd, Nat.reduceLeDiff, Nat.reduceMul, Nat.reduceSub, Nat.reduceDiv, Int.reduceToNat, Nat.reduceLT, Int.reduceLT, Int.reduceLE, ↓reduceIte, reduceCtorEq, forall_apply_eq_imp_iff₂, ints, rows, rat, rats, toNat_cast]
      have : i = l.length := by omega
      rw [this, rfilled_all]; rfl

theorem laws_eqRatioS_ok (a b : List (Int × Int)) (ha : a.length ≤ 1000000000000) (hb : b.length ≤ 1000000000000) : Pure Try.prog 118 [rats a, rats b] (.b (decide (a = b))) := by
  refine fun_laws_eqRatioS (by simp) ?_
  simp -implicitDefEqProofs only [go_sem, List.reduceReplicate, Nat.reduceEqDiff, Nat.reduceAdd, Nat.reduceLeDiff, Nat.reduceMul, Nat.reduceSub, Nat.reduceDiv, Int.reduceToNat, Nat.reduceLT, Int.reduceLT, Int.reduceLE, ↓reduceIte, reduceCtorEq, forall_apply_eq_imp_iff₂, ints, rows, rat, rats, toNat_cast, c_laws_eqRatioS]
  refine ⟨fun h => ?_, fun h => ?_⟩
  · have : a ≠ b := by rintro rfl; simp at h
    simp [this]
  · have hab : a.length = b.length := by simp at h; omega
    refine SemC.loopR (σ := Nat) (fun i => St.of [(0, .t (rats a)), (1, .t (rats b)), (5, .t (.i i))] []) (fun i => i ≤ a.length ∧ ∀ j, j < i → a[j]? = b[j]?) (fun i => a.length - i) 0 (Weak.of _ [] [] (by simp) (by simp) ?_ trivial) ⟨by simp, fun j hj => by omega⟩ fun i hI R hn hr he => ?_
    · simp -implicitDefEqProofs only [ints, rows, Int.add_zero, envOK, maA, maT, upd_apply, Nat.reduceEqDiff, ↓reduceIte, and_true, true_or, or_true, List.map_cons, List.map_nil, Nat.zero_ne_one, and_self, true_and, Int.natCast_zero, Int.cast_ofNat_Int, Int.ofNat_zero, rats]
    · simp -implicitDefEqProofs only [go_sem, List.reduceReplicate, Nat.reduceEqDiff, Nat.reduceAdd, Nat.reduceLeDiff, Nat.reduceMul, Nat.reduceSub, Nat.reduceDiv, Int.reduceToNat, Nat.reduceLT, Int.reduceLT, Int.reduceLE, ↓reduceIte, reduceCtorEq, forall_apply_eq_imp_iff₂, ints, rows, rat, rats, toNat_cast]
      refine ⟨fun h => ⟨by omega, by rw [ratC_length]; omega, by rw [ratC_length]; omega, by omega, by rw [ratC_length]; omega, by rw [ratC_length]; omega, ?_⟩, fun h => he _ _ ?_⟩
      · obtain ⟨x, hx⟩ : ∃ x, a[i]? = some x := ⟨_, List.getElem?_eq_getElem (by omega)⟩
        obtain ⟨y, hy⟩ : ∃ y, b[i]? = some y := ⟨_, List.getElem?_eq_getElem (by omega)⟩
        rw [ratC_at hx, ratC_at hy]
        refine CallV.pure (laws_eqRatio_ok x y) [] rfl Try.call78 (fun e R' hR => ?_) (by first | trivial | simp [T.noSh, T.noShL, rat]) (fun _ => rfl) ?_
        · simp -implicitDefEqProofs only [Int.natCast_zero, Int.cast_ofNat_Int, Int.natCast_one, Nat.le_refl, Nat.reduceLeDiff, Nat.sub_self, Nat.reduceSub, List.getElem?_cons_zero, List.getElem?_cons_succ, vt_self, vaL, vtL, va, vt, vb, maT, List.cons_append, List.nil_append, List.append_nil, true_or, or_true, go_sem, List.reduceReplicate, Nat.reduceEqDiff, Nat.reduceAdd, Nat.reduceLeDiff, Nat.reduceMul, Nat.reduceSub, Nat.reduceDiv, Int.reduceToNat, Nat.reduceLT, Int.reduceLT, Int.reduceLE, ↓reduceIte, reduceCtorEq, ints, rows, rat, rats, ratsO, toShL_ratC, List.mem_cons, List.mem_nil_iff, List.not_mem_nil, or_false, false_or, exists_eq_left, exists_eq_left', exists_eq_right', Root.live.injEq, eq_self_iff_true, exists_eq, and_true, T.toSh, toShL_ints, toShL_intsO, intsO, rowsO]
        simp -implicitDefEqProofs only [go_sem, List.reduceReplicate, Nat.reduceEqDiff, Nat.reduceAdd, Nat.reduceLeDiff, Nat.reduceMul, Nat.reduceSub, Nat.reduceDiv, Int.reduceToNat, Nat.reduceLT, Int.reduceLT, Int.reduceLE, ↓reduceIte, reduceCtorEq, forall_apply_eq_imp_iff₂, ints, rows, rat, rats, toNat_cast]
        refine ⟨fun h1 => hr _ ?_, fun h1 => hn _ (i + 1) (Weak.of _ [] [] (by simp) (by simp) ?_ trivial) ⟨by omega, fun j hj => ?_⟩ (by omega)⟩
        · simp -implicitDefEqProofs only [go_sem, List.reduceReplicate, Nat.reduceEqDiff, Nat.reduceAdd, Nat.reduceLeDiff, Nat.reduceMul, Nat.reduceSub, Nat.reduceDiv, Int.reduceToNat, Nat.reduceLT, Int.reduceLT, Int.reduceLE, ↓reduceIte, reduceCtorEq, forall_apply_eq_imp_iff₂, ints, rows, rat, rats, toNat_cast]
          have : a ≠ b := by rintro rfl; rw [hx] at hy; cases hy; simp at h1
          simp [this]
        · simp -implicitDefEqProofs only [ints, rows, Int.add_zero, envOK, maA, maT, upd_apply, Nat.reduceEqDiff, ↓reduceIte, and_true, true_or, or_true, List.map_cons, List.map_nil, Nat.zero_ne_one, and_self, true_and, Int.natCast_zero, Int.cast_ofNat_Int, Int.ofNat_zero, rats, next64 (by omega : i < a.length) ha]
        · rcases Nat.lt_or_ge j i with h | h
          · exact hI.2 j h
          · have : j = i := by omega
            subst this
            rw [hx, hy]; simpa using h1
      · simp -implicitDefEqProofs only [go_sem, List.reduceReplicate, Nat.reduceEqDiff, Nat.reduceAdd, Nat.reduceLeDiff, Nat.reduceMul, Nat.reduceSub, Nat.reduceDiv, Int.reduceToNat, Nat.reduceLT, Int.reduceLT, Int.reduceLE, ↓reduceIte, reduceCtorEq, forall_apply_eq_imp_iff₂, ints, rows, rat, rats, toNat_cast]
        have : a = b := by
          refine List.ext_getElem? fun j => ?_
          rcases Nat.lt_or_ge j i with h | h
          · exact hI.2 j h
          · rw [List.getElem?_eq_none (by omega), List.getElem?_eq_none (by omega)]
        simp [this]

end Go.Ab

/- Contracts: the turned matrix. -/
set_option linter.unusedSimpArgs false
set_option linter.unusedVariables false
namespace Go.Ab
open Go.Proofs

/-- A column of the first i rows. -/
def colI (m : List (List Int)) (k i : Nat) : List Int := (m.take i).map fun r => r.getD k 0
def colOf (m : List (List Int)) (k : Nat) : List Int := m.map fun r => r.getD k 0
def tr (m : List (List Int)) (c : Nat) : List (List Int) := (List.range c).map (colOf m)
/-- All rows have c numbers. -/
def rect (m : List (List Int)) (c : Nat) : Prop := ∀ r ∈ m, r.length = c
def tpart (m : List (List Int)) (c k i : Nat) : List (List Int) := (List.range c).map fun j => if j < k then colOf m j else if j = k then colI m j i else []
theorem tpart_length (m : List (List Int)) (c k i : Nat) : (tpart m c k i).length = c := by simp [tpart]
theorem tpart_get {m : List (List Int)} {c k i : Nat} (h : k < c) : (tpart m c k i)[k]? = some (colI m k i) := by simp [tpart, h]
theorem tpart_set {m : List (List Int)} {c k i : Nat} (h : k < c) {r : List Int} (hr : m[i]? = some r) : (tpart m c k i).set k (colI m k i ++ [r.getD k 0]) = tpart m c k (i + 1) := by
  refine List.ext_getElem? fun j => ?_
  rw [List.getElem?_set]
  by_cases hj : k = j
  · subst hj
    rw [if_pos rfl, if_pos (by rw [tpart_length]; exact h), tpart_get h, colI, colI, take_snoc hr]; simp
  · rw [if_neg hj]
    simp only [tpart, List.getElem?_map]
    by_cases hjc : j < c
    · rw [List.getElem?_range hjc]; simp only [Option.map_some, if_neg (Ne.symm hj)]
    · rw [List.getElem?_eq_none (by simpa using hjc)]; rfl
theorem tpart_zero (m : List (List Int)) (c : Nat) : tpart m c 0 0 = List.replicate c [] := by
  refine List.ext_getElem? fun j => ?_
  simp only [tpart, List.getElem?_map, List.getElem?_replicate]
  by_cases hjc : j < c
  · rw [List.getElem?_range hjc, if_pos hjc]; simp [colI]
  · rw [List.getElem?_eq_none (by simpa using hjc), if_neg hjc]; rfl
theorem tpart_next {m : List (List Int)} {c k : Nat} : tpart m c k m.length = tpart m c (k + 1) 0 := by
  refine List.map_congr_left fun j _ => ?_
  by_cases h1 : j < k
  · rw [if_pos h1, if_pos (by omega)]
  · by_cases h2 : j = k
    · rw [if_neg h1, if_pos h2, if_pos (by omega), colI, List.take_length]; rfl
    · rw [if_neg h1, if_neg h2, if_neg (by omega)]
      split
      · simp [colI]
      · rfl
theorem tpart_all (m : List (List Int)) (c : Nat) : tpart m c c 0 = tr m c := by
  refine List.map_congr_left fun j hj => ?_
  rw [if_pos (by simpa using hj)]

theorem le_nils (n : Nat) : Le (.arr 1 (List.replicate n (.v (.slice none 0 0)))) (.arr 1 ((List.replicate n ([] : List Int)).map intsO)) :=
  .arr 1 (by simp) fun i h h' => by simp [intsO]; exact .nilArr 1

theorem impl_turned_ok (m : List (List Int)) (c : Nat) (hm : m ≠ []) (hr : rect m c) (hml : m.length ≤ 1000000) (hcl : c ≤ 1000000) : Fun Try.prog 137 [] [.t (rows m)] fun o r => o = [] ∧ r = rowsO (tr m c) := by
  have hpos : 0 < m.length := List.length_pos_iff.2 hm
  refine fun_impl_turned (by simp) ?_
  simp -implicitDefEqProofs only [go_sem, List.reduceReplicate, Nat.reduceEqDiff, Nat.reduceAdd, Nat.reduceLeDiff, Nat.reduceMul, Nat.reduceSub, Nat.reduceDiv, Int.reduceToNat, Nat.reduceLT, Int.reduceLT, Int.reduceLE, ↓reduceIte, reduceCtorEq, forall_apply_eq_imp_iff₂, ints, rows, rat, rats, toNat_cast, c_impl_turned]
  refine ⟨by omega, by omega, fun r0 h0 => ?_⟩
  have hc0 : r0.length = c := hr r0 (List.mem_of_getElem? h0)
  rw [hc0]
  refine ⟨by omega, by omega, ?_⟩
  refine SemC.loopR (σ := Nat) (fun k => St.of [(0, .t (rows m)), (3, .own 11), (13, .t (.i c)), (14, .t (.i k))] [(11, .arr 1 ((tpart m c k 0).map intsO))]) (fun k => k ≤ c) (fun k => c - k) 0 (Weak.of _ _ [some 11] (by simp) (by simp) ?_ ?_) (by simp) fun k hk R hn hr' he => ?_
  · simp -implicitDefEqProofs only [ints, rows, Nat.reduceBEq, Int.add_zero, envOK, maA, maT, upd_apply, Nat.reduceEqDiff, ↓reduceIte, and_true, true_or, or_true, List.map_cons, List.map_nil, Nat.zero_ne_one, and_self, true_and, Int.natCast_zero, Int.cast_ofNat_Int, Int.ofNat_zero, piOf, List.zip_cons_cons, List.zip_nil_right, List.lookup_cons, List.lookup_nil, beq_self_eq_true, rootsOK, mkRoots, mkEnv, made_one, List.length_replicate]
  · exact ⟨⟨_, rfl, by rw [made_one, tpart_zero]; exact le_nils _⟩, rfl, trivial⟩
  · simp -implicitDefEqProofs only [go_sem, List.reduceReplicate, Nat.reduceEqDiff, Nat.reduceAdd, Nat.reduceLeDiff, Nat.reduceMul, Nat.reduceSub, Nat.reduceDiv, Int.reduceToNat, Nat.reduceLT, Int.reduceLT, Int.reduceLE, ↓reduceIte, reduceCtorEq, forall_apply_eq_imp_iff₂, ints, rows, rat, rats, toNat_cast]
    refine ⟨fun h => ?_, fun h => he _ _ ?_⟩
    · refine SemC.loopR (σ := Nat) (fun i => St.of [(0, .t (rows m)), (3, .own 11), (4, .t (.i k)), (13, .t (.i c)), (14, .t (.i k)), (17, .t (rows m)), (18, .t (.i m.length)), (19, .t (.i i))] [(11, .arr 1 ((tpart m c k i).map intsO))]) (fun i => i ≤ m.length) (fun i => m.length - i) 0 (Weak.of _ _ [some 11] (by simp) (by simp) ?_ ?_) (by simp) fun i hi R2 hn2 hr2 he2 => ?_
      · simp -implicitDefEqProofs only [ints, rows, Nat.reduceBEq, Int.add_zero, envOK, maA, maT, upd_apply, Nat.reduceEqDiff, ↓reduceIte, and_true, true_or, or_true, List.map_cons, List.map_nil, Nat.zero_ne_one, and_self, true_and, Int.natCast_zero, Int.cast_ofNat_Int, Int.ofNat_zero, piOf, List.zip_cons_cons, List.zip_nil_right, List.lookup_cons, List.lookup_nil, beq_self_eq_true, rootsOK, mkRoots, mkEnv]
      · exact ⟨⟨_, rfl, .refl _⟩, rfl, trivial⟩
      · have hlen := tpart_length m c k i
        simp -implicitDefEqProofs only [go_sem, List.reduceReplicate, Nat.reduceEqDiff, Nat.reduceAdd, Nat.reduceLeDiff, Nat.reduceMul, Nat.reduceSub, Nat.reduceDiv, Int.reduceToNat, Nat.reduceLT, Int.reduceLT, Int.reduceLE, ↓reduceIte, reduceCtorEq, forall_apply_eq_imp_iff₂, ints, rows, rat, rats, toNat_cast, hlen, intsO]
        refine ⟨fun h1 => ⟨by omega, by omega, by omega, fun r hrow => ⟨by omega, by omega, by omega, fun q hq => ?_⟩⟩, fun h1 => he2 _ _ ?_⟩
        · have hkc : k < c := by omega
          rw [tpart_get hkc] at hq; cases hq
          have hrl := hr r (List.mem_of_getElem? hrow)
          refine ⟨by omega, by omega, by omega, fun x hx => ⟨?_, by omega, by omega, by omega, hn2 _ (i + 1) (Weak.of _ _ [some 11] (by simp) (by simp) ?_ ?_) (by omega) (by omega)⟩⟩
          · simp [colI]; omega
          · simp -implicitDefEqProofs only [ints, rows, Nat.reduceBEq, Int.add_zero, envOK, maA, maT, upd_apply, Nat.reduceEqDiff, ↓reduceIte, and_true, true_or, or_true, List.map_cons, List.map_nil, Nat.zero_ne_one, and_self, true_and, Int.natCast_zero, Int.cast_ofNat_Int, Int.ofNat_zero, piOf, List.zip_cons_cons, List.zip_nil_right, List.lookup_cons, List.lookup_nil, beq_self_eq_true, rootsOK, mkRoots, mkEnv, next64 (by omega : i < m.length) (by omega)]
          · refine ⟨⟨_, rfl, ?_⟩, rfl, trivial⟩
            have e := tpart_set hkc hrow
            have hxk : r.getD k 0 = x := by rw [List.getD_eq_getElem?_getD, hx]; rfl
            rw [hxk] at e
            rw [← e, List.map_set]
            simp only [intsO, List.map_append, List.map_cons, List.map_nil]
            exact .refl _
        · simp -implicitDefEqProofs only [go_sem, List.reduceReplicate, Nat.reduceEqDiff, Nat.reduceAdd, Nat.reduceLeDiff, Nat.reduceMul, Nat.reduceSub, Nat.reduceDiv, Int.reduceToNat, Nat.reduceLT, Int.reduceLT, Int.reduceLE, ↓reduceIte, reduceCtorEq, forall_apply_eq_imp_iff₂, ints, rows, rat, rats, toNat_cast]
          have : i = m.length := by omega
          subst this
          refine hn _ (k + 1) (Weak.of _ _ [some 11] (by simp) (by simp) ?_ ?_) (by omega) (by omega)
          · simp -implicitDefEqProofs only [ints, rows, Nat.reduceBEq, Int.add_zero, envOK, maA, maT, upd_apply, Nat.reduceEqDiff, ↓reduceIte, and_true, true_or, or_true, List.map_cons, List.map_nil, Nat.zero_ne_one, and_self, true_and, Int.natCast_zero, Int.cast_ofNat_Int, Int.ofNat_zero, piOf, List.zip_cons_cons, List.zip_nil_right, List.lookup_cons, List.lookup_nil, beq_self_eq_true, rootsOK, mkRoots, mkEnv, next64 (by omega : k < c) (by omega)]
          · exact ⟨⟨_, rfl, by rw [tpart_next]; exact .refl _⟩, rfl, trivial⟩
    · simp -implicitDefEqProofs only [go_sem, List.reduceReplicate, Nat.reduceEqDiff, Nat.reduceAdd, Nat.reduceLeDiff, Nat.reduceMul, Nat.reduceSub, Nat.reduceDiv, Int.reduceToNat, Nat.reduceLT, Int.reduceLT, Int.reduceLE, ↓reduceIte, reduceCtorEq, forall_apply_eq_imp_iff₂, ints, rows, rat, rats, toNat_cast]
      have : k = c := by omega
      subst this
      rw [tpart_all]; rfl
end Go.Ab

/- Contracts: saddle points. -/
set_option linter.unusedSimpArgs false
set_option linter.unusedVariables false
namespace Go.Ab
open Go.Proofs

theorem isMat_spec {m : List (List Int)} (h : isMat m = true) : 1 ≤ m.length ∧ m.length ≤ 4 ∧ 1 ≤ (m.headD []).length ∧ (m.headD []).length ≤ 4 ∧ rect m (m.headD []).length ∧ ∀ r ∈ m, ∀ x ∈ r, -20 ≤ x ∧ x ≤ 20 := by
  simp only [isMat, Bool.and_eq_true, decide_eq_true_eq, List.all_eq_true, rowOK] at h
  exact ⟨h.1.1.1, h.1.1.2, h.1.2.1, h.1.2.2, fun r hr => (h.2 r hr).1, fun r hr x hx => (h.2 r hr).2 x hx⟩
end Go.Ab

/- The law FnExactSaddlePoint, as a contract. -/
set_option linter.unusedSimpArgs false
set_option linter.unusedVariables false
namespace Go.Ab
open Go.Proofs

end Go.Ab

/- Contracts: the flipped matrix, the reference. -/
set_option linter.unusedSimpArgs false
set_option linter.unusedVariables false
namespace Go.Ab
open Go.Proofs

def neg (l : List Int) : List Int := l.map fun x => -x
end Go.Ab

/- Contracts: a matrix without a row and a column. -/
set_option linter.unusedSimpArgs false
set_option linter.unusedVariables false
namespace Go.Ab
open Go.Proofs

def without (m : List (List Int)) (r c : Nat) : List (List Int) := (m.eraseIdx r).map fun l => l.eraseIdx c
end Go.Ab

/- Contracts: adjugates. -/
set_option linter.unusedSimpArgs false
set_option linter.unusedVariables false
namespace Go.Ab
open Go.Proofs

/-- Rows that are filled one after the other: the first i are full, the next one holds cur. -/
def parts (full : Nat → List Int) (cur : List Int) (n i : Nat) : List (List Int) := (List.range n).map fun j => if j < i then full j else if j = i then cur else []
end Go.Ab

/- Contracts: Determinant and Adjugate; the law FnExactDeterminant. -/
set_option linter.unusedSimpArgs false
set_option linter.unusedVariables false
namespace Go.Ab
open Go.Proofs

theorem headD_get {m : List (List Int)} {r : List Int} (h : m[0]? = some r) : m.headD [] = r := by
  cases m with
  | nil => simp at h
  | cons a m => simpa using h
end Go.Ab

/- Contracts: sums of products of ratios, gains; the program's. -/
set_option linter.unusedSimpArgs false
set_option linter.unusedVariables false
namespace Go.Ab
open Go.Proofs

theorem impl_MultiplyRatios_p (a b : Int × Int) : Pure Try.prog 166 [rat a, rat b] (redT (mulR a b)) := impl_MultiplyRatios_ok a b
theorem impl_AddRatios_p (a b : Int × Int) : Pure Try.prog 49 [rat a, rat b] (redT (addR a b)) := impl_AddRatios_ok a b

/-- The sum of products, formed in order, or the first error. -/
def spGo : Int × Int → List ((Int × Int) × (Int × Int)) → (Int × Int) × Int
  | s, [] => (s, 0)
  | s, x :: l => if (mulR x.1 x.2).2 ≠ 0 then ((0, 0), (mulR x.1 x.2).2) else if (addR s (mulR x.1 x.2).1).2 ≠ 0 then ((0, 0), (addR s (mulR x.1 x.2).1).2) else spGo (addR s (mulR x.1 x.2).1).1 l
def spR (a b : List (Int × Int)) : (Int × Int) × Int := spGo (0, 1) (a.zip b)
theorem zip_get {α β : Type} {a : List α} {b : List β} {i : Nat} {x : α} {y : β} (hx : a[i]? = some x) (hy : b[i]? = some y) : (a.zip b)[i]? = some (x, y) := by
  rw [List.getElem?_zip_eq_some]; exact ⟨hx, hy⟩

theorem impl_sumOfProducts_ok (a b : List (Int × Int)) (hab : a.length ≤ b.length) (ha : a.length ≤ 1000000000000) : Pure Try.prog 134 [rats a, rats b] (redT (spR a b)) := by
  refine fun_impl_sumOfProducts (by simp) ?_
  simp -implicitDefEqProofs only [go_sem, List.reduceReplicate, Nat.reduceEqDiff, Nat.reduceAdd, Nat.reduceLeDiff, Nat.reduceMul, Nat.reduceSub, Nat.reduceDiv, Int.reduceToNat, Nat.reduceLT, Int.reduceLT, Int.reduceLE, ↓reduceIte, reduceCtorEq, forall_apply_eq_imp_iff₂, ints, rows, rat, rats, toNat_cast, c_impl_sumOfProducts]
  refine SemC.loopR (σ := Nat × (Int × Int)) (fun s => St.of [(0, .t (rats a)), (1, .t (rats b)), (4, .own 4), (6, .own 6), (12, .t (.i a.length)), (13, .t (.i s.1))] [(4, .box [.i 0, .i 0]), (6, .box [.i s.2.1, .i s.2.2])]) (fun s => s.1 ≤ a.length ∧ spGo s.2 ((a.zip b).drop s.1) = spR a b) (fun s => a.length - s.1) (0, (0, 1)) (Weak.of _ _ [some 4, some 6] (by simp) (by simp) ?_ ?_) ⟨by simp, rfl⟩ fun s hI R hn hr he => ?_
  · simp -implicitDefEqProofs only [ints, rows, Nat.reduceBEq, Int.add_zero, envOK, maA, maT, upd_apply, Nat.reduceEqDiff, ↓reduceIte, and_true, true_or, or_true, List.map_cons, List.map_nil, Nat.zero_ne_one, and_self, true_and, Int.natCast_zero, Int.cast_ofNat_Int, Int.ofNat_zero, piOf, List.zip_cons_cons, List.zip_nil_right, List.lookup_cons, List.lookup_nil, beq_self_eq_true, rootsOK, mkRoots, mkEnv, rats]
  · exact ⟨⟨_, rfl, .refl _⟩, rfl, ⟨_, rfl, .refl _⟩, rfl, trivial⟩
  · obtain ⟨i, s1, s2⟩ := s
    obtain ⟨hi, hm⟩ := hI
    (try simp only [] at hi hm)
    simp -implicitDefEqProofs only [go_sem, List.reduceReplicate, Nat.reduceEqDiff, Nat.reduceAdd, Nat.reduceLeDiff, Nat.reduceMul, Nat.reduceSub, Nat.reduceDiv, Int.reduceToNat, Nat.reduceLT, Int.reduceLT, Int.reduceLE, ↓reduceIte, reduceCtorEq, forall_apply_eq_imp_iff₂, ints, rows, rat, rats, toNat_cast]
    refine ⟨fun h => ?_, fun h => he _ _ ?_⟩
    · obtain ⟨x, hx⟩ : ∃ x, a[i]? = some x := ⟨_, List.getElem?_eq_getElem (by omega)⟩
      obtain ⟨y, hy⟩ : ∃ y, b[i]? = some y := ⟨_, List.getElem?_eq_getElem (by omega)⟩
      refine ⟨by omega, by rw [ratC_length]; omega, by rw [ratC_length]; omega, by omega, by rw [ratC_length]; omega, by rw [ratC_length]; omega, ?_⟩
      rw [ratC_at hx, ratC_at hy]
      rw [drop_of_get (zip_get hx hy), spGo] at hm
      refine CallV.pure (impl_MultiplyRatios_p x y) [] rfl Try.call166 (fun e R' hR => ?_) (by first | trivial | simp [T.noSh, T.noShL, rat]) (fun _ => rfl) ?_
      · simp -implicitDefEqProofs only [Int.natCast_zero, Int.cast_ofNat_Int, Int.natCast_one, Nat.le_refl, Nat.reduceLeDiff, Nat.sub_self, Nat.reduceSub, List.getElem?_cons_zero, List.getElem?_cons_succ, vt_self, vaL, vtL, va, vt, vb, maT, List.cons_append, List.nil_append, List.append_nil, true_or, or_true, go_sem, List.reduceReplicate, Nat.reduceEqDiff, Nat.reduceAdd, Nat.reduceLeDiff, Nat.reduceMul, Nat.reduceSub, Nat.reduceDiv, Int.reduceToNat, Nat.reduceLT, Int.reduceLT, Int.reduceLE, ↓reduceIte, reduceCtorEq, ints, rows, rat, rats, ratsO, toShL_ratC, List.mem_cons, List.mem_nil_iff, List.not_mem_nil, or_false, false_or, exists_eq_left, exists_eq_left', exists_eq_right', Root.live.injEq, eq_self_iff_true, exists_eq, and_true, T.toSh, toShL_ints, toShL_intsO, intsO, rowsO]
      simp -implicitDefEqProofs only [go_sem, List.reduceReplicate, Nat.reduceEqDiff, Nat.reduceAdd, Nat.reduceLeDiff, Nat.reduceMul, Nat.reduceSub, Nat.reduceDiv, Int.reduceToNat, Nat.reduceLT, Int.reduceLT, Int.reduceLE, ↓reduceIte, reduceCtorEq, forall_apply_eq_imp_iff₂, ints, rows, rat, rats, toNat_cast, redT, rat]
      refine ⟨fun h1 => hr _ ?_, fun h1 => ?_⟩
      · have h1 : (mulR x y).2 ≠ 0 := by simpa using h1
        simp -implicitDefEqProofs only [go_sem, List.reduceReplicate, Nat.reduceEqDiff, Nat.reduceAdd, Nat.reduceLeDiff, Nat.reduceMul, Nat.reduceSub, Nat.reduceDiv, Int.reduceToNat, Nat.reduceLT, Int.reduceLT, Int.reduceLE, ↓reduceIte, reduceCtorEq, forall_apply_eq_imp_iff₂, ints, rows, rat, rats, toNat_cast]
        rw [← hm, if_pos h1]; rfl
      · have h1 : (mulR x y).2 = 0 := by simpa using h1
        rw [if_neg (by simp [h1])] at hm
        refine CallW.pure (impl_AddRatios_p (s1, s2) (mulR x y).1) [] rfl Try.call49 ?_ (by first | trivial | simp [T.noSh, T.noShL, rat]) rfl ?_
        · simp -implicitDefEqProofs only [Int.natCast_zero, Int.cast_ofNat_Int, Int.natCast_one, Nat.le_refl, Nat.reduceLeDiff, Nat.sub_self, Nat.reduceSub, List.getElem?_cons_zero, List.getElem?_cons_succ, vt_self, vaL, vtL, va, vt, vb, maT, List.cons_append, List.nil_append, List.append_nil, true_or, or_true, go_sem, List.reduceReplicate, Nat.reduceEqDiff, Nat.reduceAdd, Nat.reduceLeDiff, Nat.reduceMul, Nat.reduceSub, Nat.reduceDiv, Int.reduceToNat, Nat.reduceLT, Int.reduceLT, Int.reduceLE, ↓reduceIte, reduceCtorEq, ints, rows, rat, rats, ratsO, toShL_ratC, List.mem_cons, List.mem_nil_iff, List.not_mem_nil, or_false, false_or, exists_eq_left, exists_eq_left', exists_eq_right', Root.live.injEq, eq_self_iff_true, exists_eq, and_true, T.toSh, toShL_ints, toShL_intsO, intsO, rowsO]
        simp -implicitDefEqProofs only [go_sem, List.reduceReplicate, Nat.reduceEqDiff, Nat.reduceAdd, Nat.reduceLeDiff, Nat.reduceMul, Nat.reduceSub, Nat.reduceDiv, Int.reduceToNat, Nat.reduceLT, Int.reduceLT, Int.reduceLE, ↓reduceIte, reduceCtorEq, forall_apply_eq_imp_iff₂, ints, rows, rat, rats, toNat_cast, redT, rat]
        refine ⟨fun h2 => hr _ ?_, fun h2 => ?_⟩
        · have h2 : (addR (s1, s2) (mulR x y).1).2 ≠ 0 := by simpa using h2
          simp -implicitDefEqProofs only [go_sem, List.reduceReplicate, Nat.reduceEqDiff, Nat.reduceAdd, Nat.reduceLeDiff, Nat.reduceMul, Nat.reduceSub, Nat.reduceDiv, Int.reduceToNat, Nat.reduceLT, Int.reduceLT, Int.reduceLE, ↓reduceIte, reduceCtorEq, forall_apply_eq_imp_iff₂, ints, rows, rat, rats, toNat_cast]
          rw [← hm, if_pos h2]; rfl
        · have h2 : (addR (s1, s2) (mulR x y).1).2 = 0 := by simpa using h2
          rw [if_neg (by simp [h2])] at hm
          refine hn _ (i + 1, (addR (s1, s2) (mulR x y).1).1) (Weak.of _ _ [some 4, some 6] (by simp) (by simp) ?_ ?_) ⟨by simp only []; omega, hm⟩ (by simp only []; omega)
          · simp -implicitDefEqProofs only [ints, rows, Nat.reduceBEq, Int.add_zero, envOK, maA, maT, upd_apply, Nat.reduceEqDiff, ↓reduceIte, and_true, true_or, or_true, List.map_cons, List.map_nil, Nat.zero_ne_one, and_self, true_and, Int.natCast_zero, Int.cast_ofNat_Int, Int.ofNat_zero, piOf, List.zip_cons_cons, List.zip_nil_right, List.lookup_cons, List.lookup_nil, beq_self_eq_true, rootsOK, mkRoots, mkEnv, rats, next64 (by omega : i < a.length) ha]
          · exact ⟨⟨_, rfl, .refl _⟩, rfl, ⟨_, rfl, .refl _⟩, rfl, trivial⟩
    · simp -implicitDefEqProofs only [go_sem, List.reduceReplicate, Nat.reduceEqDiff, Nat.reduceAdd, Nat.reduceLeDiff, Nat.reduceMul, Nat.reduceSub, Nat.reduceDiv, Int.reduceToNat, Nat.reduceLT, Int.reduceLT, Int.reduceLE, ↓reduceIte, reduceCtorEq, forall_apply_eq_imp_iff₂, ints, rows, rat, rats, toNat_cast]
      rw [List.drop_of_length_le (by rw [List.length_zip]; omega), spGo] at hm
      rw [← hm]; rfl
end Go.Ab

/- Contracts: sums of products of ratios, gains; the reference's. -/
set_option linter.unusedSimpArgs false
set_option linter.unusedVariables false
namespace Go.Ab
open Go.Proofs

/-- The same with a code that stops all. -/
def gainGo : Int → Int × Int → List ((Int × Int) × (Int × Int)) → (Int × Int) × Int
  | c, s, [] => (s, c)
  | c, s, x :: l => gainGo (stepA (stepM c x.1 x.2).2 s (stepM c x.1 x.2).1).2 (stepA (stepM c x.1 x.2).2 s (stepM c x.1 x.2).1).1 l
theorem stepA_err {c : Int} (h : c ≠ 0) (a b : Int × Int) : stepA c a b = ((0, 1), c) := if_pos h
theorem stepM_err {c : Int} (h : c ≠ 0) (a b : Int × Int) : stepM c a b = ((0, 1), c) := if_pos h
theorem stepA_zero (a b : Int × Int) : stepA 0 a b = addR a b := if_neg (by simp)
theorem stepM_zero (a b : Int × Int) : stepM 0 a b = mulR a b := if_neg (by simp)
theorem gainGo_err : ∀ (l : List ((Int × Int) × (Int × Int))) (c : Int) (s : Int × Int), c ≠ 0 → (gainGo c s l).2 = c
  | [], c, s, h => rfl
  | x :: l, c, s, h => by rw [gainGo, stepM_err h, stepA_err h]; exact gainGo_err l c _ h
theorem gainGo_spec : ∀ (l : List ((Int × Int) × (Int × Int))) (s : Int × Int), (gainGo 0 s l).2 = (spGo s l).2 ∧ ((spGo s l).2 = 0 → (gainGo 0 s l).1 = (spGo s l).1)
  | [], s => ⟨rfl, fun _ => rfl⟩
  | x :: l, s => by
    rw [gainGo, spGo, stepM_zero]
    by_cases h1 : (mulR x.1 x.2).2 = 0
    · rw [h1, stepA_zero, if_neg (by simp)]
      by_cases h2 : (addR s (mulR x.1 x.2).1).2 = 0
      · rw [h2, if_neg (by simp)]; exact gainGo_spec l _
      · rw [if_pos h2]; exact ⟨gainGo_err l _ _ h2, fun h => absurd h h2⟩
    · rw [if_pos h1, stepA_err h1]; exact ⟨gainGo_err l _ _ h1, fun h => absurd h h1⟩

def ones (r : List Int) : List (Int × Int) := r.map fun x => (x, 1)
theorem ones_length (r : List Int) : (ones r).length = r.length := by simp [ones]
theorem ones_get {r : List Int} {i : Nat} {x : Int} (h : r[i]? = some x) : (ones r)[i]? = some (x, 1) := by simp [ones, h]
def gainC (c : Int) (q : List (Int × Int)) (r : List Int) : (Int × Int) × Int := gainGo c (0, 1) (q.zip (ones r))

theorem spec_l26Gain_ok (c : Int) (q : List (Int × Int)) (r : List Int) (hqr : q.length ≤ r.length) (hq : q.length ≤ 1000000000000) : Fun Try.prog 165 [.box [.i c]] [.own 1000000000, .t (rats q), .t (ints r)] fun o res => o = [.box [.i (gainC c q r).2]] ∧ res = rat (gainC c q r).1 := by
  refine fun_spec_l26Gain (by simp) ?_
  simp -implicitDefEqProofs only [go_sem, List.reduceReplicate, Nat.reduceEqDiff, Nat.reduceAdd, Nat.reduceLeDiff, Nat.reduceMul, Nat.reduceSub, Nat.reduceDiv, Int.reduceToNat, Nat.reduceLT, Int.reduceLT, Int.reduceLE, ↓reduceIte, reduceCtorEq, forall_apply_eq_imp_iff₂, ints, rows, rat, rats, toNat_cast, c_spec_l26Gain]
  refine CallW.pure (spec_l19Whole_ok 0) [] rfl Try.call125 ?_ (by first | trivial | simp [T.noSh, T.noShL, rat]) rfl ?_
  · simp -implicitDefEqProofs only [Int.natCast_zero, Int.cast_ofNat_Int, Int.natCast_one, Nat.le_refl, Nat.reduceLeDiff, Nat.sub_self, Nat.reduceSub, List.getElem?_cons_zero, List.getElem?_cons_succ, vt_self, vaL, vtL, va, vt, vb, maT, List.cons_append, List.nil_append, List.append_nil, true_or, or_true, go_sem, List.reduceReplicate, Nat.reduceEqDiff, Nat.reduceAdd, Nat.reduceLeDiff, Nat.reduceMul, Nat.reduceSub, Nat.reduceDiv, Int.reduceToNat, Nat.reduceLT, Int.reduceLT, Int.reduceLE, ↓reduceIte, reduceCtorEq, ints, rows, rat, rats, ratsO, toShL_ratC, List.mem_cons, List.mem_nil_iff, List.not_mem_nil, or_false, false_or, exists_eq_left, exists_eq_left', exists_eq_right', Root.live.injEq, eq_self_iff_true, exists_eq, and_true, T.toSh, toShL_ints, toShL_intsO, intsO, rowsO]
  simp -implicitDefEqProofs only [go_sem, List.reduceReplicate, Nat.reduceEqDiff, Nat.reduceAdd, Nat.reduceLeDiff, Nat.reduceMul, Nat.reduceSub, Nat.reduceDiv, Int.reduceToNat, Nat.reduceLT, Int.reduceLT, Int.reduceLE, ↓reduceIte, reduceCtorEq, forall_apply_eq_imp_iff₂, ints, rows, rat, rats, toNat_cast]
  refine SemC.loopR (σ := Nat × Int × (Int × Int)) (fun s => St.of [(0, .own 1000000000), (1, .t (rats q)), (2, .t (ints r)), (6, .own 6), (7, .own 7), (8, .t (.i s.1))] [(6, .box [.i 0, .i 0]), (7, .box [.i s.2.2.1, .i s.2.2.2]), (1000000000, .box [.i s.2.1])]) (fun s => s.1 ≤ q.length ∧ gainGo s.2.1 s.2.2 ((q.zip (ones r)).drop s.1) = gainC c q r) (fun s => q.length - s.1) (0, c, (0, 1)) (Weak.of _ _ [some 6, some 7, some 1000000000] (by simp) (by simp) ?_ ?_) ⟨by simp, rfl⟩ fun s hI R hn' hr he => ?_
  · simp -implicitDefEqProofs only [ints, rows, Nat.reduceBEq, Int.add_zero, envOK, maA, maT, upd_apply, Nat.reduceEqDiff, ↓reduceIte, and_true, true_or, or_true, List.map_cons, List.map_nil, Nat.zero_ne_one, and_self, true_and, Int.natCast_zero, Int.cast_ofNat_Int, Int.ofNat_zero, piOf, List.zip_cons_cons, List.zip_nil_right, List.lookup_cons, List.lookup_nil, beq_self_eq_true, rootsOK, mkRoots, mkEnv, rats]
  · exact ⟨⟨_, rfl, .refl _⟩, rfl, ⟨_, rfl, .refl _⟩, rfl, ⟨_, rfl, .refl _⟩, rfl, trivial⟩
  · obtain ⟨i, c', s1, s2⟩ := s
    obtain ⟨hi, hm⟩ := hI
    (try simp only [] at hi hm)
    simp -implicitDefEqProofs only [go_sem, List.reduceReplicate, Nat.reduceEqDiff, Nat.reduceAdd, Nat.reduceLeDiff, Nat.reduceMul, Nat.reduceSub, Nat.reduceDiv, Int.reduceToNat, Nat.reduceLT, Int.reduceLT, Int.reduceLE, ↓reduceIte, reduceCtorEq, forall_apply_eq_imp_iff₂, ints, rows, rat, rats, toNat_cast]
    refine ⟨fun h => ?_, fun h => he _ _ ?_⟩
    · obtain ⟨x, hx⟩ : ∃ x, q[i]? = some x := ⟨_, List.getElem?_eq_getElem (by omega)⟩
      obtain ⟨y, hy⟩ : ∃ y, r[i]? = some y := ⟨_, List.getElem?_eq_getElem (by omega)⟩
      rw [drop_of_get (zip_get hx (ones_get hy)), gainGo] at hm
      refine ⟨by omega, by rw [ratC_length]; omega, by rw [ratC_length]; omega, by omega, by omega, by omega, fun y' hy' => ?_⟩
      rw [hy] at hy'; cases hy'
      rw [ratC_at hx]
      refine CallV.pure (spec_l19Whole_ok y) [] rfl Try.call125 (fun e R' hR => ?_) (by first | trivial | simp [T.noSh, T.noShL, rat]) (fun _ => rfl) ?_
      · simp -implicitDefEqProofs only [Int.natCast_zero, Int.cast_ofNat_Int, Int.natCast_one, Nat.le_refl, Nat.reduceLeDiff, Nat.sub_self, Nat.reduceSub, List.getElem?_cons_zero, List.getElem?_cons_succ, vt_self, vaL, vtL, va, vt, vb, maT, List.cons_append, List.nil_append, List.append_nil, true_or, or_true, go_sem, List.reduceReplicate, Nat.reduceEqDiff, Nat.reduceAdd, Nat.reduceLeDiff, Nat.reduceMul, Nat.reduceSub, Nat.reduceDiv, Int.reduceToNat, Nat.reduceLT, Int.reduceLT, Int.reduceLE, ↓reduceIte, reduceCtorEq, ints, rows, rat, rats, ratsO, toShL_ratC, List.mem_cons, List.mem_nil_iff, List.not_mem_nil, or_false, false_or, exists_eq_left, exists_eq_left', exists_eq_right', Root.live.injEq, eq_self_iff_true, exists_eq, and_true, T.toSh, toShL_ints, toShL_intsO, intsO, rowsO]
      simp -implicitDefEqProofs only [go_sem, List.reduceReplicate, Nat.reduceEqDiff, Nat.reduceAdd, Nat.reduceLeDiff, Nat.reduceMul, Nat.reduceSub, Nat.reduceDiv, Int.reduceToNat, Nat.reduceLT, Int.reduceLT, Int.reduceLE, ↓reduceIte, reduceCtorEq, forall_apply_eq_imp_iff₂, ints, rows, rat, rats, toNat_cast]
      refine CallH.ref (spec_l19Times_ok c' x (y, 1)) [1000000000] [] rfl Try.call167 (by simp) ?_ (by simp) (fun e R' hR => ?_) (.inl rfl) ?_
      · simp -implicitDefEqProofs only [rootOf_arr, rootOf_box, rootOf_any, srcsOK, updL, updS, upd_apply, Nat.reduceEqDiff, ↓reduceIte, mkRoots, and_true, ints, rows, intsO, rowsO]
      · simp -implicitDefEqProofs only [Int.natCast_zero, Int.cast_ofNat_Int, Int.natCast_one, Nat.le_refl, Nat.reduceLeDiff, Nat.sub_self, Nat.reduceSub, List.getElem?_cons_zero, List.getElem?_cons_succ, vt_self, vaL, vtL, va, vt, vb, maT, List.cons_append, List.nil_append, List.append_nil, true_or, or_true, go_sem, List.reduceReplicate, Nat.reduceEqDiff, Nat.reduceAdd, Nat.reduceLeDiff, Nat.reduceMul, Nat.reduceSub, Nat.reduceDiv, Int.reduceToNat, Nat.reduceLT, Int.reduceLT, Int.reduceLE, ↓reduceIte, reduceCtorEq, ints, rows, rat, rats, ratsO, toShL_ratC, List.mem_cons, List.mem_nil_iff, List.not_mem_nil, or_false, false_or, exists_eq_left, exists_eq_left', exists_eq_right', Root.live.injEq, eq_self_iff_true, exists_eq, and_true, T.toSh, toShL_ints, toShL_intsO, intsO, rowsO]
      simp -implicitDefEqProofs only [List.append_nil, List.cons_append, Nat.reduceLeDiff, afterCall, absT_rowsO, absT_intsO, absT, absL, updL, updS, freeAll, rid, T.noSh, T.noShL, Nat.zero_le, go_sem, List.reduceReplicate, Nat.reduceEqDiff, Nat.reduceAdd, Nat.reduceLeDiff, Nat.reduceMul, Nat.reduceSub, Nat.reduceDiv, Int.reduceToNat, Nat.reduceLT, Int.reduceLT, Int.reduceLE, ↓reduceIte, reduceCtorEq, rat, forall_apply_eq_imp_iff₂, toNat_cast]
      refine ⟨?_, (frameOK.refl _ _ _).upd _ (.inl (by simp))⟩
      refine CallH.ref (spec_l19Add_ok (stepM c' x (y, 1)).2 (s1, s2) (stepM c' x (y, 1)).1) [1000000000] [] rfl Try.call127 (by simp) ?_ (by simp) (fun e R' hR => ?_) (.inl rfl) ?_
      · simp -implicitDefEqProofs only [rootOf_arr, rootOf_box, rootOf_any, srcsOK, updL, updS, upd_apply, Nat.reduceEqDiff, ↓reduceIte, mkRoots, and_true, ints, rows, intsO, rowsO]
      · simp -implicitDefEqProofs only [Int.natCast_zero, Int.cast_ofNat_Int, Int.natCast_one, Nat.le_refl, Nat.reduceLeDiff, Nat.sub_self, Nat.reduceSub, List.getElem?_cons_zero, List.getElem?_cons_succ, vt_self, vaL, vtL, va, vt, vb, maT, List.cons_append, List.nil_append, List.append_nil, true_or, or_true, go_sem, List.reduceReplicate, Nat.reduceEqDiff, Nat.reduceAdd, Nat.reduceLeDiff, Nat.reduceMul, Nat.reduceSub, Nat.reduceDiv, Int.reduceToNat, Nat.reduceLT, Int.reduceLT, Int.reduceLE, ↓reduceIte, reduceCtorEq, ints, rows, rat, rats, ratsO, toShL_ratC, List.mem_cons, List.mem_nil_iff, List.not_mem_nil, or_false, false_or, exists_eq_left, exists_eq_left', exists_eq_right', Root.live.injEq, eq_self_iff_true, exists_eq, and_true, T.toSh, toShL_ints, toShL_intsO, intsO, rowsO]
      simp -implicitDefEqProofs only [List.append_nil, List.cons_append, Nat.reduceLeDiff, afterCall, absT_rowsO, absT_intsO, absT, absL, updL, updS, freeAll, rid, T.noSh, T.noShL, Nat.zero_le, go_sem, List.reduceReplicate, Nat.reduceEqDiff, Nat.reduceAdd, Nat.reduceLeDiff, Nat.reduceMul, Nat.reduceSub, Nat.reduceDiv, Int.reduceToNat, Nat.reduceLT, Int.reduceLT, Int.reduceLE, ↓reduceIte, reduceCtorEq, rat, forall_apply_eq_imp_iff₂, toNat_cast]
      refine hn' _ (i + 1, (stepA (stepM c' x (y, 1)).2 (s1, s2) (stepM c' x (y, 1)).1).2, (stepA (stepM c' x (y, 1)).2 (s1, s2) (stepM c' x (y, 1)).1).1) (Weak.of _ _ [some 6, some 7, some 1000000000] (by simp) (by simp) ?_ ?_) ⟨by simp only []; omega, hm⟩ (by simp only []; omega)
      · simp -implicitDefEqProofs only [ints, rows, Nat.reduceBEq, Int.add_zero, envOK, maA, maT, upd_apply, Nat.reduceEqDiff, ↓reduceIte, and_true, true_or, or_true, List.map_cons, List.map_nil, Nat.zero_ne_one, and_self, true_and, Int.natCast_zero, Int.cast_ofNat_Int, Int.ofNat_zero, piOf, List.zip_cons_cons, List.zip_nil_right, List.lookup_cons, List.lookup_nil, beq_self_eq_true, rootsOK, mkRoots, mkEnv, rats, next64 (by omega : i < q.length) hq]
      · exact ⟨⟨_, rfl, .refl _⟩, rfl, ⟨_, rfl, .refl _⟩, rfl, ⟨_, rfl, .refl _⟩, rfl, trivial⟩
    · simp -implicitDefEqProofs only [go_sem, List.reduceReplicate, Nat.reduceEqDiff, Nat.reduceAdd, Nat.reduceLeDiff, Nat.reduceMul, Nat.reduceSub, Nat.reduceDiv, Int.reduceToNat, Nat.reduceLT, Int.reduceLT, Int.reduceLE, ↓reduceIte, reduceCtorEq, forall_apply_eq_imp_iff₂, ints, rows, rat, rats, toNat_cast]
      rw [List.drop_of_length_le (by rw [List.length_zip, ones_length]; omega), gainGo] at hm
      rw [← hm]; exact ⟨rfl, rfl⟩
end Go.Ab

/- Contracts: gains of all rows; the program's. -/
set_option linter.unusedSimpArgs false
set_option linter.unusedVariables false
namespace Go.Ab
open Go.Proofs

def gainsGo (q : List (Int × Int)) : List (List Int) → List (Int × Int) × Int
  | [] => ([], 0)
  | r :: m => if (spR q (ones r)).2 ≠ 0 then ([], (spR q (ones r)).2) else if (gainsGo q m).2 ≠ 0 then ([], (gainsGo q m).2) else ((spR q (ones r)).1 :: (gainsGo q m).1, 0)
def gjoin (g : List (Int × Int)) (x : List (Int × Int) × Int) : List (Int × Int) × Int := if x.2 ≠ 0 then ([], x.2) else (g ++ x.1, 0)
theorem gainsGo_err (q : List (Int × Int)) : ∀ (m : List (List Int)), (gainsGo q m).2 ≠ 0 → (gainsGo q m).1 = []
  | [], h => absurd rfl h
  | r :: m, h => by
    rw [gainsGo] at h ⊢
    split
    · rfl
    · rename_i h1
      rw [if_neg h1] at h
      split
      · rfl
      · rename_i h2; rw [if_neg h2] at h; exact absurd rfl h
theorem gjoin_nil (q : List (Int × Int)) (m : List (List Int)) : gjoin [] (gainsGo q m) = gainsGo q m := by
  rw [gjoin]; split
  · rename_i h; rw [← gainsGo_err q m h]
  · rename_i h
    have : (gainsGo q m).2 = 0 := by omega
    rw [List.nil_append, ← this]
theorem gainsGo_length (q : List (Int × Int)) : ∀ (m : List (List Int)), (gainsGo q m).2 = 0 → (gainsGo q m).1.length = m.length
  | [], h => rfl
  | r :: m, h => by
    rw [gainsGo] at h ⊢
    split at h
    · rename_i h1; exact absurd h h1
    · rename_i h1
      rw [if_neg h1]
      split at h
      · rename_i h2; exact absurd h h2
      · rename_i h2
        rw [if_neg h2, List.length_cons, List.length_cons, gainsGo_length q m (by omega)]
def gT (x : List (Int × Int) × Int) : T := .tup [ratsO x.1, .i x.2]
theorem gT_noSh (x : List (Int × Int) × Int) : (gT x).noSh := ⟨ratsO_noSh _, trivial, trivial⟩
theorem Fun.gT_nil {P : Program} {f : FuncId} {rin : List T} {args : List A} {x : List (Int × Int) × Int} {o0 : List T} (h : Fun P f rin args fun o r => o = o0 ∧ (r = gT x ∨ (x.1 = [] ∧ r = .tup [.v (.slice none 0 0), .i x.2]))) : Fun P f rin args fun o r => o = o0 ∧ r = gT x := by
  refine Fun.le h ?_
  rintro o r ⟨rfl, rfl | ⟨h, rfl⟩⟩
  · exact ⟨_, .refl _, rfl, rfl⟩
  · refine ⟨_, ?_, rfl, rfl⟩
    rw [gT, h]
    exact .tup2 (.nilArr 2) (.refl _)

theorem impl_gainsOf_ok (m : List (List Int)) (q : List (Int × Int)) (hq : q.length ≤ 1000000) (hm : m.length ≤ 1000000) (hr : ∀ r ∈ m, q.length ≤ r.length ∧ r.length ≤ 1000000) : Fun Try.prog 129 [] [.t (rows m), .t (rats q)] fun o r => o = [] ∧ r = gT (gainsGo q m) := by
  refine Fun.gT_nil ?_
  refine fun_impl_gainsOf (by simp) ?_
  simp -implicitDefEqProofs only [go_sem, List.reduceReplicate, Nat.reduceEqDiff, Nat.reduceAdd, Nat.reduceLeDiff, Nat.reduceMul, Nat.reduceSub, Nat.reduceDiv, Int.reduceToNat, Nat.reduceLT, Int.reduceLT, Int.reduceLE, ↓reduceIte, reduceCtorEq, forall_apply_eq_imp_iff₂, ints, rows, rat, rats, toNat_cast, c_impl_gainsOf]
  refine SemC.loopR (σ := Nat × List (Int × Int)) (fun s => St.of [(0, .t (rows m)), (1, .t (rats q)), (6, .own 77), (14, .t (rows m)), (15, .t (.i m.length)), (16, .t (.i s.1))] [(77, .arr 2 (ratC s.2))]) (fun s => s.1 ≤ m.length ∧ s.2.length = s.1 ∧ gjoin s.2 (gainsGo q (m.drop s.1)) = gainsGo q m) (fun s => m.length - s.1) (0, []) (Weak.of _ _ [none] (by simp) (by simp) ?_ ?_) ⟨by simp, rfl, gjoin_nil q m⟩ fun s hI R hn hr0 he => ?_
  · simp -implicitDefEqProofs only [ints, rows, Nat.reduceBEq, Int.add_zero, envOK, maA, maT, upd_apply, Nat.reduceEqDiff, ↓reduceIte, and_true, true_or, or_true, List.map_cons, List.map_nil, Nat.zero_ne_one, and_self, true_and, Int.natCast_zero, Int.cast_ofNat_Int, Int.ofNat_zero, piOf, List.zip_cons_cons, List.zip_nil_right, List.lookup_cons, List.lookup_nil, beq_self_eq_true, rootsOK, mkRoots, mkEnv, rats]
  · exact ⟨⟨2, rfl⟩, trivial⟩
  · obtain ⟨i, g⟩ := s
    obtain ⟨hi, hgl, hg⟩ := hI
    (try simp only [] at hi hgl hg)
    simp -implicitDefEqProofs only [go_sem, List.reduceReplicate, Nat.reduceEqDiff, Nat.reduceAdd, Nat.reduceLeDiff, Nat.reduceMul, Nat.reduceSub, Nat.reduceDiv, Int.reduceToNat, Nat.reduceLT, Int.reduceLT, Int.reduceLE, ↓reduceIte, reduceCtorEq, forall_apply_eq_imp_iff₂, ints, rows, rat, rats, toNat_cast]
    refine ⟨fun h => ⟨by omega, by omega, by omega, fun r hrow => ?_⟩, fun h => he _ _ ?_⟩
    · obtain ⟨hrl, hrl2⟩ := hr r (List.mem_of_getElem? hrow)
      rw [drop_of_get hrow, gainsGo] at hg
      refine ⟨by omega, by omega, ?_⟩
      have hol := ones_length r
      refine SemC.loopR (σ := Nat) (fun j => St.of [(0, .t (rows m)), (1, .t (rats q)), (6, .own 77), (8, .t (ints r)), (9, .own 22), (14, .t (rows m)), (15, .t (.i m.length)), (16, .t (.i i)), (23, .t (ints r)), (24, .t (.i r.length)), (25, .t (.i j))] [(77, .arr 2 (ratC g)), (22, .arr 2 (ratC (rfilled (ones r) j)))]) (fun j => j ≤ r.length) (fun j => r.length - j) 0 (Weak.of _ _ [some 77, some 22] (by simp) (by simp) ?_ ?_) (by simp) fun j hj R2 hn2 hr2 he2 => ?_
      · simp -implicitDefEqProofs only [ints, rows, Nat.reduceBEq, Int.add_zero, envOK, maA, maT, upd_apply, Nat.reduceEqDiff, ↓reduceIte, and_true, true_or, or_true, List.map_cons, List.map_nil, Nat.zero_ne_one, and_self, true_and, Int.natCast_zero, Int.cast_ofNat_Int, Int.ofNat_zero, piOf, List.zip_cons_cons, List.zip_nil_right, List.lookup_cons, List.lookup_nil, beq_self_eq_true, rootsOK, mkRoots, mkEnv, rats]
      · exact ⟨⟨_, rfl, .refl _⟩, rfl, ⟨_, rfl, by rw [ratC_replicate]; simp only [rfilled, List.take_zero, List.nil_append, Nat.sub_zero, hol]; exact .refl _⟩, rfl, trivial⟩
      · have hlen := rfilled_length (ones r) j (by omega)
        simp -implicitDefEqProofs only [go_sem, List.reduceReplicate, Nat.reduceEqDiff, Nat.reduceAdd, Nat.reduceLeDiff, Nat.reduceMul, Nat.reduceSub, Nat.reduceDiv, Int.reduceToNat, Nat.reduceLT, Int.reduceLT, Int.reduceLE, ↓reduceIte, reduceCtorEq, forall_apply_eq_imp_iff₂, ints, rows, rat, rats, toNat_cast]
        refine ⟨fun h1 => ⟨by omega, by omega, by omega, fun x hx => ⟨by omega, by rw [ratC_length]; omega, by rw [ratC_length]; omega, hn2 _ (j + 1) (Weak.of _ _ [some 77, some 22] (by simp) (by simp) ?_ ?_) (by omega) (by omega)⟩⟩, fun h1 => he2 _ _ ?_⟩
        · simp -implicitDefEqProofs only [ints, rows, Nat.reduceBEq, Int.add_zero, envOK, maA, maT, upd_apply, Nat.reduceEqDiff, ↓reduceIte, and_true, true_or, or_true, List.map_cons, List.map_nil, Nat.zero_ne_one, and_self, true_and, Int.natCast_zero, Int.cast_ofNat_Int, Int.ofNat_zero, piOf, List.zip_cons_cons, List.zip_nil_right, List.lookup_cons, List.lookup_nil, beq_self_eq_true, rootsOK, mkRoots, mkEnv, rats, next64 (by omega : j < r.length) (by omega)]
        · refine ⟨⟨_, rfl, .refl _⟩, rfl, ⟨_, rfl, ?_⟩, rfl, trivial⟩
          (try simp only [List.cons_append, List.nil_append, List.append_assoc])
          have := ratC_set (l := rfilled (ones r) j) (i := j) (x, 1) (by omega)
          simp only [List.append_assoc, List.cons_append, List.nil_append] at this
          rw [this, rfilled_set (ones_get hx)]; exact .refl _
        · have hje : j = (ones r).length := by omega
          rw [hje, rfilled_all]
          simp -implicitDefEqProofs only [go_sem, List.reduceReplicate, Nat.reduceEqDiff, Nat.reduceAdd, Nat.reduceLeDiff, Nat.reduceMul, Nat.reduceSub, Nat.reduceDiv, Int.reduceToNat, Nat.reduceLT, Int.reduceLT, Int.reduceLE, ↓reduceIte, reduceCtorEq, forall_apply_eq_imp_iff₂, ints, rows, rat, rats, toNat_cast]
          refine CallW.pure (impl_sumOfProducts_ok q (ones r) (by omega) (by omega)) [22] rfl Try.call134 ?_ (by first | trivial | simp [T.noSh, T.noShL, rat]) rfl ?_
          · simp -implicitDefEqProofs only [Int.natCast_zero, Int.cast_ofNat_Int, Int.natCast_one, Nat.le_refl, Nat.reduceLeDiff, Nat.sub_self, Nat.reduceSub, List.getElem?_cons_zero, List.getElem?_cons_succ, vt_self, vaL, vtL, va, vt, vb, maT, List.cons_append, List.nil_append, List.append_nil, true_or, or_true, go_sem, List.reduceReplicate, Nat.reduceEqDiff, Nat.reduceAdd, Nat.reduceLeDiff, Nat.reduceMul, Nat.reduceSub, Nat.reduceDiv, Int.reduceToNat, Nat.reduceLT, Int.reduceLT, Int.reduceLE, ↓reduceIte, reduceCtorEq, ints, rows, rat, rats, ratsO, toShL_ratC, List.mem_cons, List.mem_nil_iff, List.not_mem_nil, or_false, false_or, exists_eq_left, exists_eq_left', exists_eq_right', Root.live.injEq, eq_self_iff_true, exists_eq, and_true, T.toSh, toShL_ints, toShL_intsO, intsO, rowsO]
          simp -implicitDefEqProofs only [go_sem, List.reduceReplicate, Nat.reduceEqDiff, Nat.reduceAdd, Nat.reduceLeDiff, Nat.reduceMul, Nat.reduceSub, Nat.reduceDiv, Int.reduceToNat, Nat.reduceLT, Int.reduceLT, Int.reduceLE, ↓reduceIte, reduceCtorEq, forall_apply_eq_imp_iff₂, ints, rows, rat, rats, toNat_cast, redT, rat]
          refine ⟨fun h2 => hr0 _ ?_, fun h2 => ?_⟩
          · have h2 : (spR q (ones r)).2 ≠ 0 := by simpa using h2
            rw [if_pos h2, gjoin, if_pos h2] at hg
            simp -implicitDefEqProofs only [go_sem, List.reduceReplicate, Nat.reduceEqDiff, Nat.reduceAdd, Nat.reduceLeDiff, Nat.reduceMul, Nat.reduceSub, Nat.reduceDiv, Int.reduceToNat, Nat.reduceLT, Int.reduceLT, Int.reduceLE, ↓reduceIte, reduceCtorEq, forall_apply_eq_imp_iff₂, ints, rows, rat, rats, toNat_cast]
            exact .inr ⟨by rw [← hg], by rw [← hg]⟩
          · have h2 : (spR q (ones r)).2 = 0 := by simpa using h2
            rw [if_neg (by simp [h2])] at hg
            refine ⟨by rw [ratC_length]; omega, hn _ (i + 1, g ++ [(spR q (ones r)).1]) (Weak.of _ _ [some 48] (by simp) (by simp) ?_ ?_) ⟨by simp only []; omega, by simp; omega, ?_⟩ (by simp only []; omega)⟩
            · simp -implicitDefEqProofs only [ints, rows, Nat.reduceBEq, Int.add_zero, envOK, maA, maT, upd_apply, Nat.reduceEqDiff, ↓reduceIte, and_true, true_or, or_true, List.map_cons, List.map_nil, Nat.zero_ne_one, and_self, true_and, Int.natCast_zero, Int.cast_ofNat_Int, Int.ofNat_zero, piOf, List.zip_cons_cons, List.zip_nil_right, List.lookup_cons, List.lookup_nil, beq_self_eq_true, rootsOK, mkRoots, mkEnv, rats, next64 (by omega : i < m.length) (by omega)]
            · refine ⟨⟨_, rfl, ?_⟩, rfl, trivial⟩
              rw [ratC_append]; exact .refl _
            · simp only []
              rw [← hg]
              by_cases h3 : (gainsGo q (m.drop (i + 1))).2 = 0
              · rw [if_neg (by simp [h3]), gjoin, gjoin, if_neg (by simp [h3]), if_neg (by simp)]; simp
              · rw [if_pos h3, gjoin, gjoin, if_pos h3, if_pos h3]
    · simp -implicitDefEqProofs only [go_sem, List.reduceReplicate, Nat.reduceEqDiff, Nat.reduceAdd, Nat.reduceLeDiff, Nat.reduceMul, Nat.reduceSub, Nat.reduceDiv, Int.reduceToNat, Nat.reduceLT, Int.reduceLT, Int.reduceLE, ↓reduceIte, reduceCtorEq, forall_apply_eq_imp_iff₂, ints, rows, rat, rats, toNat_cast]
      have : i = m.length := by omega
      rw [List.drop_of_length_le (by omega), gainsGo, gjoin] at hg
      left
      rw [← hg]; simp [gT, ratsO]
end Go.Ab

/- Contracts: gains of all rows and of all columns; the reference's. -/
set_option linter.unusedSimpArgs false
set_option linter.unusedVariables false
namespace Go.Ab
open Go.Proofs

theorem spec_l26Column_ok (m : List (List Int)) (k : Nat) (hm : m.length ≤ 1000000) (hr : ∀ r ∈ m, k < r.length ∧ r.length ≤ 1000000) : Fun Try.prog 168 [] [.t (rows m), .t (.i k)] fun o r => o = [] ∧ r = intsO (colOf m k) := by
  refine fun_spec_l26Column (by simp) ?_
  simp -implicitDefEqProofs only [go_sem, List.reduceReplicate, Nat.reduceEqDiff, Nat.reduceAdd, Nat.reduceLeDiff, Nat.reduceMul, Nat.reduceSub, Nat.reduceDiv, Int.reduceToNat, Nat.reduceLT, Int.reduceLT, Int.reduceLE, ↓reduceIte, reduceCtorEq, forall_apply_eq_imp_iff₂, ints, rows, rat, rats, toNat_cast, c_spec_l26Column]
  refine SemC.loopR (σ := Nat) (fun i => St.of [(0, .t (rows m)), (1, .t (.i k)), (5, .own 77), (6, .t (.i i))] [(77, .arr 1 ((colI m k i).map T.i))]) (fun i => i ≤ m.length) (fun i => m.length - i) 0 (Weak.of _ _ [some 7] (by simp) (by simp) ?_ ?_) (by simp) fun i hi R hn hr' he => ?_
  · simp -implicitDefEqProofs only [ints, rows, Nat.reduceBEq, Int.add_zero, envOK, maA, maT, upd_apply, Nat.reduceEqDiff, ↓reduceIte, and_true, true_or, or_true, List.map_cons, List.map_nil, Nat.zero_ne_one, and_self, true_and, Int.natCast_zero, Int.cast_ofNat_Int, Int.ofNat_zero, piOf, List.zip_cons_cons, List.zip_nil_right, List.lookup_cons, List.lookup_nil, beq_self_eq_true, rootsOK, mkRoots, mkEnv]
  · exact ⟨⟨_, rfl, .refl _⟩, rfl, trivial⟩
  · simp -implicitDefEqProofs only [go_sem, List.reduceReplicate, Nat.reduceEqDiff, Nat.reduceAdd, Nat.reduceLeDiff, Nat.reduceMul, Nat.reduceSub, Nat.reduceDiv, Int.reduceToNat, Nat.reduceLT, Int.reduceLT, Int.reduceLE, ↓reduceIte, reduceCtorEq, forall_apply_eq_imp_iff₂, ints, rows, rat, rats, toNat_cast]
    refine ⟨fun h => ⟨by omega, by omega, by omega, fun r hrow => ?_⟩, fun h => he _ _ ?_⟩
    · have hrl := hr r (List.mem_of_getElem? hrow)
      refine ⟨by omega, by omega, by omega, fun x hx => ?_⟩
      have hcl : (colI m k i).length ≤ 1000000 := by simp [colI]; omega
      refine ⟨by omega, hn _ (i + 1) (Weak.of _ _ [some 23] (by simp) (by simp) ?_ ?_) (by omega) (by omega)⟩
      · simp -implicitDefEqProofs only [ints, rows, Nat.reduceBEq, Int.add_zero, envOK, maA, maT, upd_apply, Nat.reduceEqDiff, ↓reduceIte, and_true, true_or, or_true, List.map_cons, List.map_nil, Nat.zero_ne_one, and_self, true_and, Int.natCast_zero, Int.cast_ofNat_Int, Int.ofNat_zero, piOf, List.zip_cons_cons, List.zip_nil_right, List.lookup_cons, List.lookup_nil, beq_self_eq_true, rootsOK, mkRoots, mkEnv, next64 (by omega : i < m.length) (by omega)]
      · refine ⟨⟨_, rfl, ?_⟩, rfl, trivial⟩
        have e : colI m k (i + 1) = colI m k i ++ [x] := by
          rw [colI, take_snoc hrow]
          simp only [colI, List.map_append, List.map_cons, List.map_nil]
          rw [List.getD_eq_getElem?_getD, hx]; rfl
        rw [e]
        simp only [List.map_append, List.map_cons, List.map_nil]
        exact .refl _
    · simp -implicitDefEqProofs only [go_sem, List.reduceReplicate, Nat.reduceEqDiff, Nat.reduceAdd, Nat.reduceLeDiff, Nat.reduceMul, Nat.reduceSub, Nat.reduceDiv, Int.reduceToNat, Nat.reduceLT, Int.reduceLT, Int.reduceLE, ↓reduceIte, reduceCtorEq, forall_apply_eq_imp_iff₂, ints, rows, rat, rats, toNat_cast]
      have : i = m.length := by omega
      rw [this, colI, List.take_length]; rfl

def rowsGo (q : List (Int × Int)) : Int → List (List Int) → List (Int × Int) × Int
  | c, [] => ([], c)
  | c, r :: m => ((gainC c q r).1 :: (rowsGo q (gainC c q r).2 m).1, (rowsGo q (gainC c q r).2 m).2)
def rjoin (g : List (Int × Int)) (x : List (Int × Int) × Int) : List (Int × Int) × Int := (g ++ x.1, x.2)
theorem rjoin_cons (q : List (Int × Int)) (g : List (Int × Int)) (c : Int) (r : List Int) (m : List (List Int)) : rjoin g (rowsGo q c (r :: m)) = rjoin (g ++ [(gainC c q r).1]) (rowsGo q (gainC c q r).2 m) := by
  simp [rjoin, rowsGo]
theorem rowsGo_err (q : List (Int × Int)) : ∀ (m : List (List Int)) (c : Int), c ≠ 0 → (rowsGo q c m).2 = c
  | [], c, h => rfl
  | r :: m, c, h => by
    have : (gainC c q r).2 = c := gainGo_err _ _ _ h
    rw [rowsGo]; simp only []
    rw [this]; exact rowsGo_err q m c h
/-- Both ways of gathering gains. -/
theorem rowsGo_spec (q : List (Int × Int)) : ∀ (m : List (List Int)), (rowsGo q 0 m).2 = (gainsGo q m).2 ∧ ((gainsGo q m).2 = 0 → (rowsGo q 0 m).1 = (gainsGo q m).1)
  | [] => ⟨rfl, fun _ => rfl⟩
  | r :: m => by
    have hg : (gainC 0 q r).2 = (spR q (ones r)).2 ∧ ((spR q (ones r)).2 = 0 → (gainC 0 q r).1 = (spR q (ones r)).1) := gainGo_spec _ _
    rw [rowsGo, gainsGo]
    simp only []
    by_cases h1 : (spR q (ones r)).2 = 0
    · rw [hg.1, h1, if_neg (by simp)]
      obtain ⟨h2, h3⟩ := rowsGo_spec q m
      by_cases h4 : (gainsGo q m).2 = 0
      · rw [h4, if_neg (by simp)]
        exact ⟨by rw [h2, h4], fun _ => by rw [h3 h4, hg.2 h1]⟩
      · rw [if_pos h4]
        exact ⟨h2, fun h => absurd h h4⟩
    · rw [hg.1, if_pos h1]
      exact ⟨rowsGo_err q m _ h1, fun h => absurd h h1⟩

theorem spec_l26Rows_ok (c : Int) (m : List (List Int)) (q : List (Int × Int)) (hq : q.length ≤ 1000000) (hm : m.length ≤ 1000000) (hr : ∀ r ∈ m, q.length ≤ r.length) : Fun Try.prog 131 [.box [.i c]] [.own 1000000000, .t (rows m), .t (rats q)] fun o r => o = [.box [.i (rowsGo q c m).2]] ∧ r = ratsO (rowsGo q c m).1 := by
  refine fun_spec_l26Rows (by simp) ?_
  simp -implicitDefEqProofs only [go_sem, List.reduceReplicate, Nat.reduceEqDiff, Nat.reduceAdd, Nat.reduceLeDiff, Nat.reduceMul, Nat.reduceSub, Nat.reduceDiv, Int.reduceToNat, Nat.reduceLT, Int.reduceLT, Int.reduceLE, ↓reduceIte, reduceCtorEq, forall_apply_eq_imp_iff₂, ints, rows, rat, rats, toNat_cast, c_spec_l26Rows]
  refine SemC.loopR (σ := Nat × Int × List (Int × Int)) (fun s => St.of [(0, .own 1000000000), (1, .t (rows m)), (2, .t (rats q)), (7, .own 77), (8, .t (.i s.1))] [(77, .arr 2 (ratC s.2.2)), (1000000000, .box [.i s.2.1])]) (fun s => s.1 ≤ m.length ∧ s.2.2.length = s.1 ∧ rjoin s.2.2 (rowsGo q s.2.1 (m.drop s.1)) = rowsGo q c m) (fun s => m.length - s.1) (0, c, []) (Weak.of _ _ [some 9, some 1000000000] (by simp) (by simp) ?_ ?_) ⟨by simp, rfl, rfl⟩ fun s hI R hn hr0 he => ?_
  · simp -implicitDefEqProofs only [ints, rows, Nat.reduceBEq, Int.add_zero, envOK, maA, maT, upd_apply, Nat.reduceEqDiff, ↓reduceIte, and_true, true_or, or_true, List.map_cons, List.map_nil, Nat.zero_ne_one, and_self, true_and, Int.natCast_zero, Int.cast_ofNat_Int, Int.ofNat_zero, piOf, List.zip_cons_cons, List.zip_nil_right, List.lookup_cons, List.lookup_nil, beq_self_eq_true, rootsOK, mkRoots, mkEnv, rats]
  · exact ⟨⟨_, rfl, .refl _⟩, rfl, ⟨_, rfl, .refl _⟩, rfl, trivial⟩
  · obtain ⟨i, c', g⟩ := s
    obtain ⟨hi, hgl, hg⟩ := hI
    (try simp only [] at hi hgl hg)
    simp -implicitDefEqProofs only [go_sem, List.reduceReplicate, Nat.reduceEqDiff, Nat.reduceAdd, Nat.reduceLeDiff, Nat.reduceMul, Nat.reduceSub, Nat.reduceDiv, Int.reduceToNat, Nat.reduceLT, Int.reduceLT, Int.reduceLE, ↓reduceIte, reduceCtorEq, forall_apply_eq_imp_iff₂, ints, rows, rat, rats, toNat_cast]
    refine ⟨fun h => ⟨by omega, by omega, by omega, fun r hrow => ?_⟩, fun h => he _ _ ?_⟩
    · rw [drop_of_get hrow, rjoin_cons] at hg
      refine CallW.ref (spec_l26Gain_ok c' q r (hr r (List.mem_of_getElem? hrow)) (by omega)) [1000000000] [] rfl Try.call165 (by simp) ?_ (by simp) ?_ (.inl rfl) ?_
      · simp -implicitDefEqProofs only [rootOf_arr, rootOf_box, rootOf_any, srcsOK, updL, updS, upd_apply, Nat.reduceEqDiff, ↓reduceIte, mkRoots, and_true, ints, rows, intsO, rowsO]
      · simp -implicitDefEqProofs only [Int.natCast_zero, Int.cast_ofNat_Int, Int.natCast_one, Nat.le_refl, Nat.reduceLeDiff, Nat.sub_self, Nat.reduceSub, List.getElem?_cons_zero, List.getElem?_cons_succ, vt_self, vaL, vtL, va, vt, vb, maT, List.cons_append, List.nil_append, List.append_nil, true_or, or_true, go_sem, List.reduceReplicate, Nat.reduceEqDiff, Nat.reduceAdd, Nat.reduceLeDiff, Nat.reduceMul, Nat.reduceSub, Nat.reduceDiv, Int.reduceToNat, Nat.reduceLT, Int.reduceLT, Int.reduceLE, ↓reduceIte, reduceCtorEq, ints, rows, rat, rats, ratsO, toShL_ratC, List.mem_cons, List.mem_nil_iff, List.not_mem_nil, or_false, false_or, exists_eq_left, exists_eq_left', exists_eq_right', Root.live.injEq, eq_self_iff_true, exists_eq, and_true, T.toSh, toShL_ints, toShL_intsO, intsO, rowsO]
      simp -implicitDefEqProofs only [List.append_nil, List.cons_append, Nat.reduceLeDiff, afterCall, absT_rowsO, absT_intsO, absT, absL, updL, updS, freeAll, rid, T.noSh, T.noShL, Nat.zero_le, go_sem, List.reduceReplicate, Nat.reduceEqDiff, Nat.reduceAdd, Nat.reduceLeDiff, Nat.reduceMul, Nat.reduceSub, Nat.reduceDiv, Int.reduceToNat, Nat.reduceLT, Int.reduceLT, Int.reduceLE, ↓reduceIte, reduceCtorEq, rat, forall_apply_eq_imp_iff₂, toNat_cast, rat]
      refine ⟨by rw [ratC_length]; omega, hn _ (i + 1, (gainC c' q r).2, g ++ [(gainC c' q r).1]) (Weak.of _ _ [some 25, some 1000000000] (by simp) (by simp) ?_ ?_) ⟨by simp only []; omega, by simp; omega, hg⟩ (by simp only []; omega)⟩
      · simp -implicitDefEqProofs only [ints, rows, Nat.reduceBEq, Int.add_zero, envOK, maA, maT, upd_apply, Nat.reduceEqDiff, ↓reduceIte, and_true, true_or, or_true, List.map_cons, List.map_nil, Nat.zero_ne_one, and_self, true_and, Int.natCast_zero, Int.cast_ofNat_Int, Int.ofNat_zero, piOf, List.zip_cons_cons, List.zip_nil_right, List.lookup_cons, List.lookup_nil, beq_self_eq_true, rootsOK, mkRoots, mkEnv, rats, next64 (by omega : i < m.length) (by omega)]
      · refine ⟨⟨_, rfl, ?_⟩, rfl, ⟨_, rfl, .refl _⟩, rfl, trivial⟩
        rw [ratC_append]; exact .refl _
    · simp -implicitDefEqProofs only [go_sem, List.reduceReplicate, Nat.reduceEqDiff, Nat.reduceAdd, Nat.reduceLeDiff, Nat.reduceMul, Nat.reduceSub, Nat.reduceDiv, Int.reduceToNat, Nat.reduceLT, Int.reduceLT, Int.reduceLE, ↓reduceIte, reduceCtorEq, forall_apply_eq_imp_iff₂, ints, rows, rat, rats, toNat_cast]
      have : i = m.length := by omega
      rw [List.drop_of_length_le (by omega), rowsGo, rjoin, List.append_nil] at hg
      rw [← hg]; exact ⟨rfl, rfl⟩
end Go.Ab

/- Contracts: RowGains and ColumnGains. -/
set_option linter.unusedSimpArgs false
set_option linter.unusedVariables false
namespace Go.Ab
open Go.Proofs

theorem tr_drop {m : List (List Int)} {c k : Nat} (h : k < c) : (tr m c)[k]? = some (colOf m k) := by simp [tr, h]
theorem spec_l26Columns_ok (c : Int) (m : List (List Int)) (n : Nat) (q : List (Int × Int)) (hm0 : m ≠ []) (hq : q.length = m.length) (hm : m.length ≤ 1000000) (hn0 : n ≤ 1000000) (hr : rect m n) : Fun Try.prog 138 [.box [.i c]] [.own 1000000000, .t (rows m), .t (rats q)] fun o r => o = [.box [.i (rowsGo q c (tr m n)).2]] ∧ r = ratsO (rowsGo q c (tr m n)).1 := by
  have hpos : 0 < m.length := List.length_pos_iff.2 hm0
  refine fun_spec_l26Columns (by simp) ?_
  simp -implicitDefEqProofs only [go_sem, List.reduceReplicate, Nat.reduceEqDiff, Nat.reduceAdd, Nat.reduceLeDiff, Nat.reduceMul, Nat.reduceSub, Nat.reduceDiv, Int.reduceToNat, Nat.reduceLT, Int.reduceLT, Int.reduceLE, ↓reduceIte, reduceCtorEq, forall_apply_eq_imp_iff₂, ints, rows, rat, rats, toNat_cast, c_spec_l26Columns]
  have htl : (tr m n).length = n := by simp [tr]
  refine SemC.loopR (σ := Nat × Int × List (Int × Int)) (fun s => St.of [(0, .own 1000000000), (1, .t (rows m)), (2, .t (rats q)), (7, .own 77), (8, .t (.i s.1))] [(77, .arr 2 (ratC s.2.2)), (1000000000, .box [.i s.2.1])]) (fun s => s.1 ≤ n ∧ s.2.2.length = s.1 ∧ rjoin s.2.2 (rowsGo q s.2.1 ((tr m n).drop s.1)) = rowsGo q c (tr m n)) (fun s => n - s.1) (0, c, []) (Weak.of _ _ [some 9, some 1000000000] (by simp) (by simp) ?_ ?_) ⟨by simp, rfl, rfl⟩ fun s hI R hn hr0 he => ?_
  · simp -implicitDefEqProofs only [ints, rows, Nat.reduceBEq, Int.add_zero, envOK, maA, maT, upd_apply, Nat.reduceEqDiff, ↓reduceIte, and_true, true_or, or_true, List.map_cons, List.map_nil, Nat.zero_ne_one, and_self, true_and, Int.natCast_zero, Int.cast_ofNat_Int, Int.ofNat_zero, piOf, List.zip_cons_cons, List.zip_nil_right, List.lookup_cons, List.lookup_nil, beq_self_eq_true, rootsOK, mkRoots, mkEnv, rats]
  · exact ⟨⟨_, rfl, .refl _⟩, rfl, ⟨_, rfl, .refl _⟩, rfl, trivial⟩
  · obtain ⟨i, c', g⟩ := s
    obtain ⟨hi, hgl, hg⟩ := hI
    (try simp only [] at hi hgl hg)
    simp -implicitDefEqProofs only [go_sem, List.reduceReplicate, Nat.reduceEqDiff, Nat.reduceAdd, Nat.reduceLeDiff, Nat.reduceMul, Nat.reduceSub, Nat.reduceDiv, Int.reduceToNat, Nat.reduceLT, Int.reduceLT, Int.reduceLE, ↓reduceIte, reduceCtorEq, forall_apply_eq_imp_iff₂, ints, rows, rat, rats, toNat_cast]
    refine ⟨by omega, by omega, fun r0 h0 => ?_⟩
    have hr0l := hr r0 (List.mem_of_getElem? h0)
    rw [hr0l]
    refine ⟨fun h => ?_, fun h => he _ _ ?_⟩
    · have hin : i < n := by omega
      rw [drop_of_get (tr_drop hin), rjoin_cons] at hg
      refine CallW.res (spec_l26Column_ok m i hm (fun r hr1 => by have := hr r hr1; omega)) [] rfl Try.call168 ?_ (.inl rfl) ?_
      · simp -implicitDefEqProofs only [Int.natCast_zero, Int.cast_ofNat_Int, Int.natCast_one, Nat.le_refl, Nat.reduceLeDiff, Nat.sub_self, Nat.reduceSub, List.getElem?_cons_zero, List.getElem?_cons_succ, vt_self, vaL, vtL, va, vt, vb, maT, List.cons_append, List.nil_append, List.append_nil, true_or, or_true, go_sem, List.reduceReplicate, Nat.reduceEqDiff, Nat.reduceAdd, Nat.reduceLeDiff, Nat.reduceMul, Nat.reduceSub, Nat.reduceDiv, Int.reduceToNat, Nat.reduceLT, Int.reduceLT, Int.reduceLE, ↓reduceIte, reduceCtorEq, ints, rows, rat, rats, ratsO, toShL_ratC, List.mem_cons, List.mem_nil_iff, List.not_mem_nil, or_false, false_or, exists_eq_left, exists_eq_left', exists_eq_right', Root.live.injEq, eq_self_iff_true, exists_eq, and_true, T.toSh, toShL_ints, toShL_intsO, intsO, rowsO]
      simp -implicitDefEqProofs only [List.append_nil, List.cons_append, Nat.reduceLeDiff, afterCall, absT_rowsO, absT_intsO, absT, absL, updL, updS, freeAll, rid, T.noSh, T.noShL, Nat.zero_le, go_sem, List.reduceReplicate, Nat.reduceEqDiff, Nat.reduceAdd, Nat.reduceLeDiff, Nat.reduceMul, Nat.reduceSub, Nat.reduceDiv, Int.reduceToNat, Nat.reduceLT, Int.reduceLT, Int.reduceLE, ↓reduceIte, reduceCtorEq, rat, forall_apply_eq_imp_iff₂, toNat_cast]
      refine CallW.ref (spec_l26Gain_ok c' q (colOf m i) (by simp [colOf]; omega) (by omega)) [1000000000] [23] rfl Try.call165 (by simp) ?_ (by simp) ?_ (.inr ⟨⟨trivial, trivial, trivial⟩, ⟨trivial, trivial⟩, trivial⟩) ?_
      · simp -implicitDefEqProofs only [rootOf_arr, rootOf_box, rootOf_any, srcsOK, updL, updS, upd_apply, Nat.reduceEqDiff, ↓reduceIte, mkRoots, and_true, ints, rows, intsO, rowsO]
      · simp -implicitDefEqProofs only [Int.natCast_zero, Int.cast_ofNat_Int, Int.natCast_one, Nat.le_refl, Nat.reduceLeDiff, Nat.sub_self, Nat.reduceSub, List.getElem?_cons_zero, List.getElem?_cons_succ, vt_self, vaL, vtL, va, vt, vb, maT, List.cons_append, List.nil_append, List.append_nil, true_or, or_true, go_sem, List.reduceReplicate, Nat.reduceEqDiff, Nat.reduceAdd, Nat.reduceLeDiff, Nat.reduceMul, Nat.reduceSub, Nat.reduceDiv, Int.reduceToNat, Nat.reduceLT, Int.reduceLT, Int.reduceLE, ↓reduceIte, reduceCtorEq, ints, rows, rat, rats, ratsO, toShL_ratC, List.mem_cons, List.mem_nil_iff, List.not_mem_nil, or_false, false_or, exists_eq_left, exists_eq_left', exists_eq_right', Root.live.injEq, eq_self_iff_true, exists_eq, and_true, T.toSh, toShL_ints, toShL_intsO, intsO, rowsO]
      simp -implicitDefEqProofs only [List.append_nil, List.cons_append, Nat.reduceLeDiff, afterCall, absT_rowsO, absT_intsO, absT, absL, updL, updS, freeAll, rid, T.noSh, T.noShL, Nat.zero_le, go_sem, List.reduceReplicate, Nat.reduceEqDiff, Nat.reduceAdd, Nat.reduceLeDiff, Nat.reduceMul, Nat.reduceSub, Nat.reduceDiv, Int.reduceToNat, Nat.reduceLT, Int.reduceLT, Int.reduceLE, ↓reduceIte, reduceCtorEq, rat, forall_apply_eq_imp_iff₂, toNat_cast, rat]
      refine ⟨by rw [ratC_length]; omega, hn _ (i + 1, (gainC c' q (colOf m i)).2, g ++ [(gainC c' q (colOf m i)).1]) (Weak.of _ _ [some 26, some 1000000000] (by simp) (by simp) ?_ ?_) ⟨by simp only []; omega, by simp; omega, hg⟩ (by simp only []; omega)⟩
      · simp -implicitDefEqProofs only [ints, rows, Nat.reduceBEq, Int.add_zero, envOK, maA, maT, upd_apply, Nat.reduceEqDiff, ↓reduceIte, and_true, true_or, or_true, List.map_cons, List.map_nil, Nat.zero_ne_one, and_self, true_and, Int.natCast_zero, Int.cast_ofNat_Int, Int.ofNat_zero, piOf, List.zip_cons_cons, List.zip_nil_right, List.lookup_cons, List.lookup_nil, beq_self_eq_true, rootsOK, mkRoots, mkEnv, rats, next64 (by omega : i < n) (by omega)]
      · refine ⟨⟨_, rfl, ?_⟩, rfl, ⟨_, rfl, .refl _⟩, rfl, trivial⟩
        rw [ratC_append]; exact .refl _
    · simp -implicitDefEqProofs only [go_sem, List.reduceReplicate, Nat.reduceEqDiff, Nat.reduceAdd, Nat.reduceLeDiff, Nat.reduceMul, Nat.reduceSub, Nat.reduceDiv, Int.reduceToNat, Nat.reduceLT, Int.reduceLT, Int.reduceLE, ↓reduceIte, reduceCtorEq, forall_apply_eq_imp_iff₂, ints, rows, rat, rats, toNat_cast]
      have : i = n := by omega
      rw [List.drop_of_length_le (by omega), rowsGo, rjoin, List.append_nil] at hg
      rw [← hg]; exact ⟨rfl, rfl⟩

end Go.Ab

/- Contracts: marks of lists of ratios. -/
set_option linter.unusedSimpArgs false
set_option linter.unusedVariables false
namespace Go.Ab
open Go.Proofs

theorem budget_ok {n : Nat} {left : Int} (h0 : 0 ≤ left) (h : 0 ≤ budget n left) : (n : Int) ≤ left ∧ budget n left ≤ left := by
  simp only [budget] at h ⊢
  split at h <;> split <;> omega
theorem budgetRows_le : ∀ (m : List (List Int)) {left : Int}, 0 ≤ left → budgetRows m left ≤ left
  | [], left, h => by simp [budgetRows]
  | r :: m, left, h => by
    rw [budgetRows]
    split
    · omega
    · have := budgetRows_le m (left := left - r.length) (by omega); omega
theorem budgetMat_le {m : List (List Int)} {left : Int} (h : 0 ≤ left) : budgetMat m left ≤ left := by
  rw [budgetMat]; split
  · omega
  · have := budgetRows_le m (left := left - m.length) (by omega); omega
end Go.Ab

/- Contracts: MatrixValue. -/
set_option linter.unusedSimpArgs false
set_option linter.unusedVariables false
namespace Go.Ab
open Go.Proofs

theorem ratC_cut_flat (l : List (Int × Int)) (a b : Nat) : (((ratC l).drop a).take b).all T.flat = true := by
  have h := ratC_all_flat l
  rw [List.all_eq_true] at h ⊢
  intro x hx
  exact h x (List.mem_of_mem_drop (List.mem_of_mem_take hx))
attribute [go_sem] ratC_cut_flat
end Go.Ab

/- The order of ratios; valid sums. -/
set_option linter.unusedSimpArgs false
set_option linter.unusedVariables false
namespace Go.Ab
open Go.Proofs

def cmpR (a b : Int × Int) : Int := if a.1 * b.2 < b.1 * a.2 then -1 else if b.1 * a.2 < a.1 * b.2 then 1 else 0
/-- a is at most b. -/
def leR (a b : Int × Int) : Prop := a.1 * b.2 ≤ b.1 * a.2
theorem cmpR_le {a b : Int × Int} : cmpR a b ≤ 0 ↔ leR a b := by
  unfold cmpR leR; split
  · omega
  · split <;> omega
theorem cmpR_ge {a b : Int × Int} : 0 ≤ cmpR a b ↔ leR b a := by
  unfold cmpR leR; split
  · omega
  · split <;> omega
theorem cmpR_gt {a b : Int × Int} : 0 < cmpR a b ↔ ¬ leR a b := by
  unfold cmpR leR; split
  · omega
  · split <;> omega
theorem cmpR_lt {a b : Int × Int} : cmpR a b < 0 ↔ ¬ leR b a := by
  unfold cmpR leR; split
  · omega
  · split <;> omega
theorem leR_refl (a : Int × Int) : leR a a := Int.le_refl _
theorem leR_total (a b : Int × Int) : leR a b ∨ leR b a := by unfold leR; omega
theorem leR_trans {a b c : Int × Int} (ha : 1 ≤ a.2) (hb : 1 ≤ b.2) (hc : 1 ≤ c.2) (h1 : leR a b) (h2 : leR b c) : leR a c := by
  unfold leR at *
  have e1 : a.1 * b.2 * c.2 ≤ b.1 * a.2 * c.2 := Int.mul_le_mul_of_nonneg_right h1 (by omega)
  have e2 : b.1 * c.2 * a.2 ≤ c.1 * b.2 * a.2 := Int.mul_le_mul_of_nonneg_right h2 (by omega)
  have e3 : b.1 * a.2 * c.2 = b.1 * c.2 * a.2 := by rw [Int.mul_assoc, Int.mul_comm a.2, ← Int.mul_assoc]
  have e4 : a.1 * c.2 * b.2 ≤ c.1 * a.2 * b.2 := by
    rw [Int.mul_assoc, Int.mul_comm c.2, ← Int.mul_assoc, Int.mul_assoc c.1, Int.mul_comm a.2, ← Int.mul_assoc]
    omega
  exact Int.le_of_mul_le_mul_right e4 (by omega)
theorem redR_valid {n d : Int} (h : (redR n d).2 = 0) : isRat (redR n d).1 = true := by
  unfold redR at h ⊢
  split
  · rename_i h1; exact h1
  · rename_i h1; rw [if_neg h1] at h; simp at h
theorem addR_valid {a b : Int × Int} (h : (addR a b).2 = 0) : isRat (addR a b).1 = true := by
  unfold addR at h ⊢
  split
  · rename_i h1; rw [if_pos h1] at h; exact redR_valid h
  · rename_i h1; rw [if_neg h1] at h; simp at h
theorem spGo_valid : ∀ (l : List ((Int × Int) × (Int × Int))) (s : Int × Int), isRat s = true → (spGo s l).2 = 0 → isRat (spGo s l).1 = true
  | [], s, hs, _ => hs
  | x :: l, s, hs, h => by
    rw [spGo] at h ⊢
    split
    · rename_i h1; rw [if_pos h1] at h; exact absurd h h1
    · rename_i h1
      rw [if_neg h1] at h
      split
      · rename_i h2; rw [if_pos h2] at h; exact absurd h h2
      · rename_i h2; rw [if_neg h2] at h; exact spGo_valid l _ (addR_valid (by omega)) h
theorem gainsGo_valid (q : List (Int × Int)) : ∀ (m : List (List Int)), ∀ x ∈ (gainsGo q m).1, isRat x = true
  | [], x, hx => by simp [gainsGo] at hx
  | r :: m, x, hx => by
    rw [gainsGo] at hx
    split at hx
    · simp at hx
    · rename_i h1
      split at hx
      · simp at hx
      · rcases List.mem_cons.1 hx with rfl | hx
        · exact spGo_valid _ _ (by decide) (by have h1 : (spR q (ones r)).2 = 0 := by simpa using h1
                                               exact h1)
        · exact gainsGo_valid q m x hx

/-- The first greatest and the first least of ratios; the index of the first greatest one. -/
def maxR (l : List (Int × Int)) : Int × Int := l.tail.foldl (fun m x => if 0 < cmpR x m then x else m) (l.headD (0, 0))
def minR (l : List (Int × Int)) : Int × Int := l.tail.foldl (fun m x => if cmpR x m < 0 then x else m) (l.headD (0, 0))
theorem maxR_snoc {l : List (Int × Int)} (h : l ≠ []) (x : Int × Int) : maxR (l ++ [x]) = if 0 < cmpR x (maxR l) then x else maxR l := by
  cases l with
  | nil => exact absurd rfl h
  | cons a l => simp [maxR, List.foldl_append]
theorem minR_snoc {l : List (Int × Int)} (h : l ≠ []) (x : Int × Int) : minR (l ++ [x]) = if cmpR x (minR l) < 0 then x else minR l := by
  cases l with
  | nil => exact absurd rfl h
  | cons a l => simp [minR, List.foldl_append]
theorem maxR_spec : ∀ (l : List (Int × Int)) (a : Int × Int), (∀ x ∈ a :: l, isRat x = true) → (∀ x ∈ a :: l, leR x (maxR (a :: l))) ∧ maxR (a :: l) ∈ a :: l := by
  intro l a
  show _ → (∀ x ∈ a :: l, leR x (l.foldl (fun m x => if 0 < cmpR x m then x else m) a)) ∧ (l.foldl (fun m x => if 0 < cmpR x m then x else m) a) ∈ a :: l
  induction l generalizing a with
  | nil => intro _; exact ⟨fun x hx => by simp at hx; rw [hx]; exact leR_refl _, by simp⟩
  | cons b l ih =>
    intro hv
    rw [List.foldl_cons]
    have den : ∀ x ∈ a :: b :: l, 1 ≤ x.2 := fun x hx => (isRat_spec (hv x hx)).2.2.1
    by_cases h : 0 < cmpR b a
    · rw [if_pos h]
      obtain ⟨h1, h2⟩ := ih b fun x hx => hv x (List.mem_cons_of_mem _ hx)
      have hab : leR a b := (leR_total a b).resolve_right (fun h' => (cmpR_gt.1 h) h')
      refine ⟨fun x hx => ?_, List.mem_cons_of_mem _ h2⟩
      rcases List.mem_cons.1 hx with rfl | hx
      · exact leR_trans (den _ (by simp)) (den b (by simp)) (den _ (List.mem_cons_of_mem _ h2)) hab (h1 b (by simp))
      · exact h1 x hx
    · rw [if_neg h]
      obtain ⟨h1, h2⟩ := ih a fun x hx => hv x (by rcases List.mem_cons.1 hx with rfl | hx <;> simp [*])
      have hba : leR b a := cmpR_le.1 (by omega)
      have hmem : l.foldl (fun m x => if 0 < cmpR x m then x else m) a ∈ a :: b :: l := by
        rcases List.mem_cons.1 h2 with h3 | h3
        · rw [h3]; simp
        · exact List.mem_cons_of_mem _ (List.mem_cons_of_mem _ h3)
      refine ⟨fun x hx => ?_, hmem⟩
      rcases List.mem_cons.1 hx with rfl | hx
      · exact h1 _ (by simp)
      · rcases List.mem_cons.1 hx with rfl | hx
        · exact leR_trans (den _ (by simp)) (den a (by simp)) (den _ hmem) hba (h1 a (by simp))
        · exact h1 x (by simp [hx])
theorem minR_spec : ∀ (l : List (Int × Int)) (a : Int × Int), (∀ x ∈ a :: l, isRat x = true) → (∀ x ∈ a :: l, leR (minR (a :: l)) x) ∧ minR (a :: l) ∈ a :: l := by
  intro l a
  show _ → (∀ x ∈ a :: l, leR (l.foldl (fun m x => if cmpR x m < 0 then x else m) a) x) ∧ (l.foldl (fun m x => if cmpR x m < 0 then x else m) a) ∈ a :: l
  induction l generalizing a with
  | nil => intro _; exact ⟨fun x hx => by simp at hx; rw [hx]; exact leR_refl _, by simp⟩
  | cons b l ih =>
    intro hv
    rw [List.foldl_cons]
    have den : ∀ x ∈ a :: b :: l, 1 ≤ x.2 := fun x hx => (isRat_spec (hv x hx)).2.2.1
    by_cases h : cmpR b a < 0
    · rw [if_pos h]
      obtain ⟨h1, h2⟩ := ih b fun x hx => hv x (List.mem_cons_of_mem _ hx)
      have hab : leR b a := (leR_total b a).resolve_right (fun h' => (cmpR_lt.1 h) h')
      refine ⟨fun x hx => ?_, List.mem_cons_of_mem _ h2⟩
      rcases List.mem_cons.1 hx with rfl | hx
      · exact leR_trans (den _ (List.mem_cons_of_mem _ h2)) (den b (by simp)) (den _ (by simp)) (h1 b (by simp)) hab
      · exact h1 x hx
    · rw [if_neg h]
      obtain ⟨h1, h2⟩ := ih a fun x hx => hv x (by rcases List.mem_cons.1 hx with rfl | hx <;> simp [*])
      have hba : leR a b := cmpR_ge.1 (by omega)
      have hmem : l.foldl (fun m x => if cmpR x m < 0 then x else m) a ∈ a :: b :: l := by
        rcases List.mem_cons.1 h2 with h3 | h3
        · rw [h3]; simp
        · exact List.mem_cons_of_mem _ (List.mem_cons_of_mem _ h3)
      refine ⟨fun x hx => ?_, hmem⟩
      rcases List.mem_cons.1 hx with rfl | hx
      · exact h1 _ (by simp)
      · rcases List.mem_cons.1 hx with rfl | hx
        · exact leR_trans (den _ hmem) (den a (by simp)) (den _ (by simp)) (h1 a (by simp)) hba
        · exact h1 x (by simp [hx])
end Go.Ab

/- Contracts: comparison of ratios; the least and the greatest of ratios. -/
set_option linter.unusedSimpArgs false
set_option linter.unusedVariables false
namespace Go.Ab
open Go.Proofs

theorem cmp_isNaN_ok (x : Int) : Pure Try.prog 176 [.i x] (.b false) := by
  refine fun_cmp_isNaN_int64_ (by simp) ?_
  simp -implicitDefEqProofs only [go_sem, List.reduceReplicate, Nat.reduceEqDiff, Nat.reduceAdd, Nat.reduceLeDiff, Nat.reduceMul, Nat.reduceSub, Nat.reduceDiv, Int.reduceToNat, Nat.reduceLT, Int.reduceLT, Int.reduceLE, ↓reduceIte, reduceCtorEq, forall_apply_eq_imp_iff₂, ints, rows, rat, rats, toNat_cast, c_cmp_isNaN_int64_]
theorem cmp_Compare_ok (x y : Int) : Pure Try.prog 161 [.i x, .i y] (.i (if x < y then -1 else if y < x then 1 else 0)) := by
  refine fun_cmp_Compare_int64_ (by simp) ?_
  simp -implicitDefEqProofs only [go_sem, List.reduceReplicate, Nat.reduceEqDiff, Nat.reduceAdd, Nat.reduceLeDiff, Nat.reduceMul, Nat.reduceSub, Nat.reduceDiv, Int.reduceToNat, Nat.reduceLT, Int.reduceLT, Int.reduceLE, ↓reduceIte, reduceCtorEq, forall_apply_eq_imp_iff₂, ints, rows, rat, rats, toNat_cast, c_cmp_Compare_int64_]
  refine CallW.pure (cmp_isNaN_ok x) [] rfl Try.call176 ?_ (by first | trivial | simp [T.noSh, T.noShL, rat]) rfl ?_
  · simp -implicitDefEqProofs only [Int.natCast_zero, Int.cast_ofNat_Int, Int.natCast_one, Nat.le_refl, Nat.reduceLeDiff, Nat.sub_self, Nat.reduceSub, List.getElem?_cons_zero, List.getElem?_cons_succ, vt_self, vaL, vtL, va, vt, vb, maT, List.cons_append, List.nil_append, List.append_nil, true_or, or_true, go_sem, List.reduceReplicate, Nat.reduceEqDiff, Nat.reduceAdd, Nat.reduceLeDiff, Nat.reduceMul, Nat.reduceSub, Nat.reduceDiv, Int.reduceToNat, Nat.reduceLT, Int.reduceLT, Int.reduceLE, ↓reduceIte, reduceCtorEq, ints, rows, rat, rats, ratsO, toShL_ratC, List.mem_cons, List.mem_nil_iff, List.not_mem_nil, or_false, false_or, exists_eq_left, exists_eq_left', exists_eq_right', Root.live.injEq, eq_self_iff_true, exists_eq, and_true, T.toSh, toShL_ints, toShL_intsO, intsO, rowsO]
  simp -implicitDefEqProofs only [go_sem, List.reduceReplicate, Nat.reduceEqDiff, Nat.reduceAdd, Nat.reduceLeDiff, Nat.reduceMul, Nat.reduceSub, Nat.reduceDiv, Int.reduceToNat, Nat.reduceLT, Int.reduceLT, Int.reduceLE, ↓reduceIte, reduceCtorEq, forall_apply_eq_imp_iff₂, ints, rows, rat, rats, toNat_cast]
  refine CallW.pure (cmp_isNaN_ok y) [] rfl Try.call176 ?_ (by first | trivial | simp [T.noSh, T.noShL, rat]) rfl ?_
  · simp -implicitDefEqProofs only [Int.natCast_zero, Int.cast_ofNat_Int, Int.natCast_one, Nat.le_refl, Nat.reduceLeDiff, Nat.sub_self, Nat.reduceSub, List.getElem?_cons_zero, List.getElem?_cons_succ, vt_self, vaL, vtL, va, vt, vb, maT, List.cons_append, List.nil_append, List.append_nil, true_or, or_true, go_sem, List.reduceReplicate, Nat.reduceEqDiff, Nat.reduceAdd, Nat.reduceLeDiff, Nat.reduceMul, Nat.reduceSub, Nat.reduceDiv, Int.reduceToNat, Nat.reduceLT, Int.reduceLT, Int.reduceLE, ↓reduceIte, reduceCtorEq, ints, rows, rat, rats, ratsO, toShL_ratC, List.mem_cons, List.mem_nil_iff, List.not_mem_nil, or_false, false_or, exists_eq_left, exists_eq_left', exists_eq_right', Root.live.injEq, eq_self_iff_true, exists_eq, and_true, T.toSh, toShL_ints, toShL_intsO, intsO, rowsO]
  simp -implicitDefEqProofs only [go_sem, List.reduceReplicate, Nat.reduceEqDiff, Nat.reduceAdd, Nat.reduceLeDiff, Nat.reduceMul, Nat.reduceSub, Nat.reduceDiv, Int.reduceToNat, Nat.reduceLT, Int.reduceLT, Int.reduceLE, ↓reduceIte, reduceCtorEq, forall_apply_eq_imp_iff₂, ints, rows, rat, rats, toNat_cast]
  refine ⟨fun h => by rw [if_pos h], fun h => ⟨fun h' => by rw [if_neg h, if_pos (by omega)], fun h' => by rw [if_neg h, if_neg (by omega)]⟩⟩
theorem impl_compareRatios_ok (a b : Int × Int) (ha : isRat a = true) (hb : isRat b = true) : Pure Try.prog 121 [rat a, rat b] (.i (cmpR a b)) := by
  refine fun_impl_compareRatios (by simp) ?_
  simp -implicitDefEqProofs only [go_sem, List.reduceReplicate, Nat.reduceEqDiff, Nat.reduceAdd, Nat.reduceLeDiff, Nat.reduceMul, Nat.reduceSub, Nat.reduceDiv, Int.reduceToNat, Nat.reduceLT, Int.reduceLT, Int.reduceLE, ↓reduceIte, reduceCtorEq, forall_apply_eq_imp_iff₂, ints, rows, rat, rats, toNat_cast, c_impl_compareRatios]
  obtain ⟨a1, a2, a3, a4⟩ := isRat_spec ha
  obtain ⟨b1, b2, b3, b4⟩ := isRat_spec hb
  have p1 := mul_bound a1 a2 b3 b4
  have p2 := mul_bound b1 b2 a3 a4
  rw [wrap64 (n := a.1 * b.2) (by omega) (by omega), wrap64 (n := b.1 * a.2) (by omega) (by omega)]
  refine CallW.pure (cmp_Compare_ok (a.1 * b.2) (b.1 * a.2)) [] rfl Try.call161 ?_ (by first | trivial | simp [T.noSh, T.noShL, rat]) rfl ?_
  · simp -implicitDefEqProofs only [Int.natCast_zero, Int.cast_ofNat_Int, Int.natCast_one, Nat.le_refl, Nat.reduceLeDiff, Nat.sub_self, Nat.reduceSub, List.getElem?_cons_zero, List.getElem?_cons_succ, vt_self, vaL, vtL, va, vt, vb, maT, List.cons_append, List.nil_append, List.append_nil, true_or, or_true, go_sem, List.reduceReplicate, Nat.reduceEqDiff, Nat.reduceAdd, Nat.reduceLeDiff, Nat.reduceMul, Nat.reduceSub, Nat.reduceDiv, Int.reduceToNat, Nat.reduceLT, Int.reduceLT, Int.reduceLE, ↓reduceIte, reduceCtorEq, ints, rows, rat, rats, ratsO, toShL_ratC, List.mem_cons, List.mem_nil_iff, List.not_mem_nil, or_false, false_or, exists_eq_left, exists_eq_left', exists_eq_right', Root.live.injEq, eq_self_iff_true, exists_eq, and_true, T.toSh, toShL_ints, toShL_intsO, intsO, rowsO]
  simp -implicitDefEqProofs only [go_sem, List.reduceReplicate, Nat.reduceEqDiff, Nat.reduceAdd, Nat.reduceLeDiff, Nat.reduceMul, Nat.reduceSub, Nat.reduceDiv, Int.reduceToNat, Nat.reduceLT, Int.reduceLT, Int.reduceLE, ↓reduceIte, reduceCtorEq, forall_apply_eq_imp_iff₂, ints, rows, rat, rats, toNat_cast]
  rfl
theorem spec_l01Compare_ok (a b : Int × Int) (ha : isRat a = true) (hb : isRat b = true) : Pure Try.prog 122 [rat a, rat b] (.i (cmpR a b)) := by
  refine fun_spec_l01Compare (by simp) ?_
  simp -implicitDefEqProofs only [go_sem, List.reduceReplicate, Nat.reduceEqDiff, Nat.reduceAdd, Nat.reduceLeDiff, Nat.reduceMul, Nat.reduceSub, Nat.reduceDiv, Int.reduceToNat, Nat.reduceLT, Int.reduceLT, Int.reduceLE, ↓reduceIte, reduceCtorEq, forall_apply_eq_imp_iff₂, ints, rows, rat, rats, toNat_cast, c_spec_l01Compare]
  obtain ⟨a1, a2, a3, a4⟩ := isRat_spec ha
  obtain ⟨b1, b2, b3, b4⟩ := isRat_spec hb
  have p1 := mul_bound a1 a2 b3 b4
  have p2 := mul_bound b1 b2 a3 a4
  rw [wrap64 (n := a.1 * b.2) (by omega) (by omega), wrap64 (n := b.1 * a.2) (by omega) (by omega)]
  unfold cmpR
  refine ⟨fun h => by rw [if_pos h], fun h => ⟨fun h' => by rw [if_neg h, if_pos (by omega)], fun h' => by rw [if_neg h, if_neg (by omega)]⟩⟩
end Go.Ab

/- Contracts: the least and the greatest of ratios. -/
set_option linter.unusedSimpArgs false
set_option linter.unusedVariables false
namespace Go.Ab
open Go.Proofs

theorem mm_mem {f : (Int × Int) → (Int × Int) → Prop} [∀ a b, Decidable (f a b)] : ∀ (l : List (Int × Int)) (a : Int × Int), l.foldl (fun m x => if f m x then x else m) a ∈ a :: l := by
  intro l
  induction l with
  | nil => intro a; simp
  | cons b l ih =>
    intro a
    rw [List.foldl_cons]
    have := ih (if f a b then b else a)
    rcases List.mem_cons.1 this with h | h
    · rw [h]; split <;> simp
    · simp [h]
theorem minR_mem {l : List (Int × Int)} (h : l ≠ []) : minR l ∈ l := by
  cases l with
  | nil => exact absurd rfl h
  | cons a l => exact mm_mem (f := fun m x => cmpR x m < 0) l a
theorem maxR_mem {l : List (Int × Int)} (h : l ≠ []) : maxR l ∈ l := by
  cases l with
  | nil => exact absurd rfl h
  | cons a l => exact mm_mem (f := fun m x => 0 < cmpR x m) l a
theorem take_ne {l : List (Int × Int)} {i : Nat} (h : 1 ≤ i) (h' : i ≤ l.length) : l.take i ≠ [] := by
  intro e
  have := congrArg List.length e
  simp at this
  rcases this with h | h
  · omega
  · rw [h] at h'; simp at h'; omega
theorem take_mem {l : List (Int × Int)} {i : Nat} {x : Int × Int} (h : x ∈ l.take i) : x ∈ l := List.mem_of_mem_take h

theorem ratC_take2 {l : List (Int × Int)} {x : Int × Int} (h : l[0]? = some x) : (ratC l).take 2 = [T.i x.1, T.i x.2] := by
  have := ratC_at h
  simpa using this
theorem slices_MinFunc_ok (l : List (Int × Int)) (hv : ∀ x ∈ l, isRat x = true) (h0 : 1 ≤ l.length) (h1 : l.length ≤ 1000000000) : Pure Try.prog 123 [rats l, .fn 121 []] (rat (minR l)) := by
  obtain ⟨x0, hx0⟩ : ∃ x, l[0]? = some x := ⟨_, List.getElem?_eq_getElem (by omega)⟩
  refine fun_slices_MinFunc___impl_Ratio_impl_Ratio_ (by simp) ?_
  simp -implicitDefEqProofs only [go_sem, List.reduceReplicate, Nat.reduceEqDiff, Nat.reduceAdd, Nat.reduceLeDiff, Nat.reduceMul, Nat.reduceSub, Nat.reduceDiv, Int.reduceToNat, Nat.reduceLT, Int.reduceLT, Int.reduceLE, ↓reduceIte, reduceCtorEq, forall_apply_eq_imp_iff₂, ints, rows, rat, rats, toNat_cast, c_slices_MinFunc___impl_Ratio_impl_Ratio_]
  refine ⟨fun h => by omega, fun _ => ⟨by rw [ratC_length]; omega, by rw [ratC_length]; omega, by rw [ratC_take2 hx0]; rfl, ?_⟩⟩
  rw [ratC_take2 hx0]
  simp -implicitDefEqProofs only [go_sem, List.reduceReplicate, Nat.reduceEqDiff, Nat.reduceAdd, Nat.reduceLeDiff, Nat.reduceMul, Nat.reduceSub, Nat.reduceDiv, Int.reduceToNat, Nat.reduceLT, Int.reduceLT, Int.reduceLE, ↓reduceIte, reduceCtorEq, forall_apply_eq_imp_iff₂, ints, rows, rat, rats, toNat_cast]
  have t1 : l.take 1 = [x0] := by
    cases l with
    | nil => simp at h0
    | cons a l => simp at hx0; simp [hx0]
  refine SemC.loopR (σ := Nat) (fun i => St.of [(0, .t (rats l)), (1, .t (.fn 121 [])), (4, .own 4), (5, .own 5), (6, .t (.i i))] [(4, .box [.i 0, .i 0]), (5, .box [.i (minR (l.take i)).1, .i (minR (l.take i)).2])]) (fun i => 1 ≤ i ∧ i ≤ l.length) (fun i => l.length - i) 1 (Weak.of _ _ [some 4, some 5] (by simp) (by simp) ?_ ?_) ⟨by omega, by omega⟩ fun i hI R hn hr he => ?_
  · simp -implicitDefEqProofs only [ints, rows, Nat.reduceBEq, Int.add_zero, envOK, maA, maT, upd_apply, Nat.reduceEqDiff, ↓reduceIte, and_true, true_or, or_true, List.map_cons, List.map_nil, Nat.zero_ne_one, and_self, true_and, Int.natCast_zero, Int.cast_ofNat_Int, Int.ofNat_zero, piOf, List.zip_cons_cons, List.zip_nil_right, List.lookup_cons, List.lookup_nil, beq_self_eq_true, rootsOK, mkRoots, mkEnv, rats]
  · exact ⟨⟨_, rfl, .refl _⟩, rfl, ⟨_, rfl, by rw [t1]; exact .refl _⟩, rfl, trivial⟩
  · simp -implicitDefEqProofs only [go_sem, List.reduceReplicate, Nat.reduceEqDiff, Nat.reduceAdd, Nat.reduceLeDiff, Nat.reduceMul, Nat.reduceSub, Nat.reduceDiv, Int.reduceToNat, Nat.reduceLT, Int.reduceLT, Int.reduceLE, ↓reduceIte, reduceCtorEq, forall_apply_eq_imp_iff₂, ints, rows, rat, rats, toNat_cast]
    refine ⟨fun h => ?_, fun h => he _ _ ?_⟩
    · have hil : i < l.length := by omega
      obtain ⟨x, hx⟩ : ∃ x, l[i]? = some x := ⟨_, List.getElem?_eq_getElem hil⟩
      have hm := minR_mem (take_ne hI.1 hI.2)
      have hs := take_snoc hx
      have hss := minR_snoc (take_ne hI.1 hI.2) x
      rw [← hs] at hss
      have hxv := hv x (List.mem_of_getElem? hx)
      generalize hmm : minR (l.take i) = mm at hm hss
      have hmv := hv mm (take_mem hm)
      refine ⟨by omega, by rw [ratC_length]; omega, by rw [ratC_length]; omega, ?_⟩
      rw [ratC_at hx]
      refine CallV.pure (impl_compareRatios_ok x mm hxv hmv) [] rfl Try.call121 (fun e R' hR => ?_) (by first | trivial | simp [T.noSh, T.noShL, rat]) (fun _ => rfl) ?_
      · simp -implicitDefEqProofs only [Int.natCast_zero, Int.cast_ofNat_Int, Int.natCast_one, Nat.le_refl, Nat.reduceLeDiff, Nat.sub_self, Nat.reduceSub, List.getElem?_cons_zero, List.getElem?_cons_succ, vt_self, vaL, vtL, va, vt, vb, maT, List.cons_append, List.nil_append, List.append_nil, true_or, or_true, go_sem, List.reduceReplicate, Nat.reduceEqDiff, Nat.reduceAdd, Nat.reduceLeDiff, Nat.reduceMul, Nat.reduceSub, Nat.reduceDiv, Int.reduceToNat, Nat.reduceLT, Int.reduceLT, Int.reduceLE, ↓reduceIte, reduceCtorEq, ints, rows, rat, rats, ratsO, toShL_ratC, List.mem_cons, List.mem_nil_iff, List.not_mem_nil, or_false, false_or, exists_eq_left, exists_eq_left', exists_eq_right', Root.live.injEq, eq_self_iff_true, exists_eq, and_true, T.toSh, toShL_ints, toShL_intsO, intsO, rowsO]
      simp -implicitDefEqProofs only [go_sem, List.reduceReplicate, Nat.reduceEqDiff, Nat.reduceAdd, Nat.reduceLeDiff, Nat.reduceMul, Nat.reduceSub, Nat.reduceDiv, Int.reduceToNat, Nat.reduceLT, Int.reduceLT, Int.reduceLE, ↓reduceIte, reduceCtorEq, forall_apply_eq_imp_iff₂, ints, rows, rat, rats, toNat_cast]
      refine ⟨fun hc => ?_, fun hc => ?_⟩
      · rw [if_pos (by omega)] at hss
        refine ⟨by omega, by rw [ratC_length]; omega, by rw [ratC_length]; omega, by rw [ratC_at hx]; rfl, ?_⟩
        rw [ratC_at hx]
        simp -implicitDefEqProofs only [go_sem, List.reduceReplicate, Nat.reduceEqDiff, Nat.reduceAdd, Nat.reduceLeDiff, Nat.reduceMul, Nat.reduceSub, Nat.reduceDiv, Int.reduceToNat, Nat.reduceLT, Int.reduceLT, Int.reduceLE, ↓reduceIte, reduceCtorEq, forall_apply_eq_imp_iff₂, ints, rows, rat, rats, toNat_cast]
        refine hn _ (i + 1) (Weak.of _ _ [some 4, some 5] (by simp) (by simp) ?_ ?_) ⟨by omega, by omega⟩ (by omega)
        · simp -implicitDefEqProofs only [ints, rows, Nat.reduceBEq, Int.add_zero, envOK, maA, maT, upd_apply, Nat.reduceEqDiff, ↓reduceIte, and_true, true_or, or_true, List.map_cons, List.map_nil, Nat.zero_ne_one, and_self, true_and, Int.natCast_zero, Int.cast_ofNat_Int, Int.ofNat_zero, piOf, List.zip_cons_cons, List.zip_nil_right, List.lookup_cons, List.lookup_nil, beq_self_eq_true, rootsOK, mkRoots, mkEnv, rats, next64 hil (by omega)]
        · exact ⟨⟨_, rfl, .refl _⟩, rfl, ⟨_, rfl, by rw [hss]; exact .refl _⟩, rfl, trivial⟩
      · rw [if_neg (by omega)] at hss
        refine hn _ (i + 1) (Weak.of _ _ [some 4, some 5] (by simp) (by simp) ?_ ?_) ⟨by omega, by omega⟩ (by omega)
        · simp -implicitDefEqProofs only [ints, rows, Nat.reduceBEq, Int.add_zero, envOK, maA, maT, upd_apply, Nat.reduceEqDiff, ↓reduceIte, and_true, true_or, or_true, List.map_cons, List.map_nil, Nat.zero_ne_one, and_self, true_and, Int.natCast_zero, Int.cast_ofNat_Int, Int.ofNat_zero, piOf, List.zip_cons_cons, List.zip_nil_right, List.lookup_cons, List.lookup_nil, beq_self_eq_true, rootsOK, mkRoots, mkEnv, rats, next64 hil (by omega)]
        · exact ⟨⟨_, rfl, .refl _⟩, rfl, ⟨_, rfl, by rw [hss]; exact .refl _⟩, rfl, trivial⟩
    · simp -implicitDefEqProofs only [go_sem, List.reduceReplicate, Nat.reduceEqDiff, Nat.reduceAdd, Nat.reduceLeDiff, Nat.reduceMul, Nat.reduceSub, Nat.reduceDiv, Int.reduceToNat, Nat.reduceLT, Int.reduceLT, Int.reduceLE, ↓reduceIte, reduceCtorEq, forall_apply_eq_imp_iff₂, ints, rows, rat, rats, toNat_cast]
      have e : l.take i = l := List.take_of_length_le (by omega)
      rw [e]
theorem slices_MaxFunc_ok (l : List (Int × Int)) (hv : ∀ x ∈ l, isRat x = true) (h0 : 1 ≤ l.length) (h1 : l.length ≤ 1000000000) : Pure Try.prog 157 [rats l, .fn 121 []] (rat (maxR l)) := by
  obtain ⟨x0, hx0⟩ : ∃ x, l[0]? = some x := ⟨_, List.getElem?_eq_getElem (by omega)⟩
  refine fun_slices_MaxFunc___impl_Ratio_impl_Ratio_ (by simp) ?_
  simp -implicitDefEqProofs only [go_sem, List.reduceReplicate, Nat.reduceEqDiff, Nat.reduceAdd, Nat.reduceLeDiff, Nat.reduceMul, Nat.reduceSub, Nat.reduceDiv, Int.reduceToNat, Nat.reduceLT, Int.reduceLT, Int.reduceLE, ↓reduceIte, reduceCtorEq, forall_apply_eq_imp_iff₂, ints, rows, rat, rats, toNat_cast, c_slices_MaxFunc___impl_Ratio_impl_Ratio_]
  refine ⟨fun h => by omega, fun _ => ⟨by rw [ratC_length]; omega, by rw [ratC_length]; omega, by rw [ratC_take2 hx0]; rfl, ?_⟩⟩
  rw [ratC_take2 hx0]
  simp -implicitDefEqProofs only [go_sem, List.reduceReplicate, Nat.reduceEqDiff, Nat.reduceAdd, Nat.reduceLeDiff, Nat.reduceMul, Nat.reduceSub, Nat.reduceDiv, Int.reduceToNat, Nat.reduceLT, Int.reduceLT, Int.reduceLE, ↓reduceIte, reduceCtorEq, forall_apply_eq_imp_iff₂, ints, rows, rat, rats, toNat_cast]
  have t1 : l.take 1 = [x0] := by
    cases l with
    | nil => simp at h0
    | cons a l => simp at hx0; simp [hx0]
  refine SemC.loopR (σ := Nat) (fun i => St.of [(0, .t (rats l)), (1, .t (.fn 121 [])), (4, .own 4), (5, .own 5), (6, .t (.i i))] [(4, .box [.i 0, .i 0]), (5, .box [.i (maxR (l.take i)).1, .i (maxR (l.take i)).2])]) (fun i => 1 ≤ i ∧ i ≤ l.length) (fun i => l.length - i) 1 (Weak.of _ _ [some 4, some 5] (by simp) (by simp) ?_ ?_) ⟨by omega, by omega⟩ fun i hI R hn hr he => ?_
  · simp -implicitDefEqProofs only [ints, rows, Nat.reduceBEq, Int.add_zero, envOK, maA, maT, upd_apply, Nat.reduceEqDiff, ↓reduceIte, and_true, true_or, or_true, List.map_cons, List.map_nil, Nat.zero_ne_one, and_self, true_and, Int.natCast_zero, Int.cast_ofNat_Int, Int.ofNat_zero, piOf, List.zip_cons_cons, List.zip_nil_right, List.lookup_cons, List.lookup_nil, beq_self_eq_true, rootsOK, mkRoots, mkEnv, rats]
  · exact ⟨⟨_, rfl, .refl _⟩, rfl, ⟨_, rfl, by rw [t1]; exact .refl _⟩, rfl, trivial⟩
  · simp -implicitDefEqProofs only [go_sem, List.reduceReplicate, Nat.reduceEqDiff, Nat.reduceAdd, Nat.reduceLeDiff, Nat.reduceMul, Nat.reduceSub, Nat.reduceDiv, Int.reduceToNat, Nat.reduceLT, Int.reduceLT, Int.reduceLE, ↓reduceIte, reduceCtorEq, forall_apply_eq_imp_iff₂, ints, rows, rat, rats, toNat_cast]
    refine ⟨fun h => ?_, fun h => he _ _ ?_⟩
    · have hil : i < l.length := by omega
      obtain ⟨x, hx⟩ : ∃ x, l[i]? = some x := ⟨_, List.getElem?_eq_getElem hil⟩
      have hm := maxR_mem (take_ne hI.1 hI.2)
      have hs := take_snoc hx
      have hss := maxR_snoc (take_ne hI.1 hI.2) x
      rw [← hs] at hss
      have hxv := hv x (List.mem_of_getElem? hx)
      generalize hmm : maxR (l.take i) = mm at hm hss
      have hmv := hv mm (take_mem hm)
      refine ⟨by omega, by rw [ratC_length]; omega, by rw [ratC_length]; omega, ?_⟩
      rw [ratC_at hx]
      refine CallV.pure (impl_compareRatios_ok x mm hxv hmv) [] rfl Try.call121 (fun e R' hR => ?_) (by first | trivial | simp [T.noSh, T.noShL, rat]) (fun _ => rfl) ?_
      · simp -implicitDefEqProofs only [Int.natCast_zero, Int.cast_ofNat_Int, Int.natCast_one, Nat.le_refl, Nat.reduceLeDiff, Nat.sub_self, Nat.reduceSub, List.getElem?_cons_zero, List.getElem?_cons_succ, vt_self, vaL, vtL, va, vt, vb, maT, List.cons_append, List.nil_append, List.append_nil, true_or, or_true, go_sem, List.reduceReplicate, Nat.reduceEqDiff, Nat.reduceAdd, Nat.reduceLeDiff, Nat.reduceMul, Nat.reduceSub, Nat.reduceDiv, Int.reduceToNat, Nat.reduceLT, Int.reduceLT, Int.reduceLE, ↓reduceIte, reduceCtorEq, ints, rows, rat, rats, ratsO, toShL_ratC, List.mem_cons, List.mem_nil_iff, List.not_mem_nil, or_false, false_or, exists_eq_left, exists_eq_left', exists_eq_right', Root.live.injEq, eq_self_iff_true, exists_eq, and_true, T.toSh, toShL_ints, toShL_intsO, intsO, rowsO]
      simp -implicitDefEqProofs only [go_sem, List.reduceReplicate, Nat.reduceEqDiff, Nat.reduceAdd, Nat.reduceLeDiff, Nat.reduceMul, Nat.reduceSub, Nat.reduceDiv, Int.reduceToNat, Nat.reduceLT, Int.reduceLT, Int.reduceLE, ↓reduceIte, reduceCtorEq, forall_apply_eq_imp_iff₂, ints, rows, rat, rats, toNat_cast]
      refine ⟨fun hc => ?_, fun hc => ?_⟩
      · rw [if_pos (by omega)] at hss
        refine ⟨by omega, by rw [ratC_length]; omega, by rw [ratC_length]; omega, by rw [ratC_at hx]; rfl, ?_⟩
        rw [ratC_at hx]
        simp -implicitDefEqProofs only [go_sem, List.reduceReplicate, Nat.reduceEqDiff, Nat.reduceAdd, Nat.reduceLeDiff, Nat.reduceMul, Nat.reduceSub, Nat.reduceDiv, Int.reduceToNat, Nat.reduceLT, Int.reduceLT, Int.reduceLE, ↓reduceIte, reduceCtorEq, forall_apply_eq_imp_iff₂, ints, rows, rat, rats, toNat_cast]
        refine hn _ (i + 1) (Weak.of _ _ [some 4, some 5] (by simp) (by simp) ?_ ?_) ⟨by omega, by omega⟩ (by omega)
        · simp -implicitDefEqProofs only [ints, rows, Nat.reduceBEq, Int.add_zero, envOK, maA, maT, upd_apply, Nat.reduceEqDiff, ↓reduceIte, and_true, true_or, or_true, List.map_cons, List.map_nil, Nat.zero_ne_one, and_self, true_and, Int.natCast_zero, Int.cast_ofNat_Int, Int.ofNat_zero, piOf, List.zip_cons_cons, List.zip_nil_right, List.lookup_cons, List.lookup_nil, beq_self_eq_true, rootsOK, mkRoots, mkEnv, rats, next64 hil (by omega)]
        · exact ⟨⟨_, rfl, .refl _⟩, rfl, ⟨_, rfl, by rw [hss]; exact .refl _⟩, rfl, trivial⟩
      · rw [if_neg (by omega)] at hss
        refine hn _ (i + 1) (Weak.of _ _ [some 4, some 5] (by simp) (by simp) ?_ ?_) ⟨by omega, by omega⟩ (by omega)
        · simp -implicitDefEqProofs only [ints, rows, Nat.reduceBEq, Int.add_zero, envOK, maA, maT, upd_apply, Nat.reduceEqDiff, ↓reduceIte, and_true, true_or, or_true, List.map_cons, List.map_nil, Nat.zero_ne_one, and_self, true_and, Int.natCast_zero, Int.cast_ofNat_Int, Int.ofNat_zero, piOf, List.zip_cons_cons, List.zip_nil_right, List.lookup_cons, List.lookup_nil, beq_self_eq_true, rootsOK, mkRoots, mkEnv, rats, next64 hil (by omega)]
        · exact ⟨⟨_, rfl, .refl _⟩, rfl, ⟨_, rfl, by rw [hss]; exact .refl _⟩, rfl, trivial⟩
    · simp -implicitDefEqProofs only [go_sem, List.reduceReplicate, Nat.reduceEqDiff, Nat.reduceAdd, Nat.reduceLeDiff, Nat.reduceMul, Nat.reduceSub, Nat.reduceDiv, Int.reduceToNat, Nat.reduceLT, Int.reduceLT, Int.reduceLE, ↓reduceIte, reduceCtorEq, forall_apply_eq_imp_iff₂, ints, rows, rat, rats, toNat_cast]
      have e : l.take i = l := List.take_of_length_le (by omega)
      rw [e]
end Go.Ab

/- Ratios as rational numbers: sums, mixes, gains and values, exactly. -/
set_option linter.unusedSimpArgs false
set_option linter.unusedVariables false
namespace Go.Ab

/-- The value of a ratio. -/
def rv (a : Int × Int) : Rat := (a.1 : Rat) / (a.2 : Rat)
theorem cast_pos {d : Int} (h : 0 < d) : (0 : Rat) < (d : Rat) := by exact_mod_cast h
theorem rv_redR {n d : Int} (hd : 0 < d) (h : (redR n d).2 = 0) : rv (redR n d).1 = (n : Rat) / (d : Rat) := by
  unfold redR at h ⊢
  split
  · rename_i h1
    obtain ⟨a, ha⟩ := gcdI_dvd_left n d
    obtain ⟨b, hb⟩ := gcdI_dvd_right n d
    have hg := gcdI_pos n d hd
    have hg' : (gcdI n d : Int) ≠ 0 := by omega
    have e1 : n.tdiv (gcdI n d) = a := by
      generalize (gcdI n d : Int) = g at ha hg'
      rw [ha]; exact Int.mul_tdiv_cancel_left _ hg'
    have e2 : d.tdiv (gcdI n d) = b := by
      generalize (gcdI n d : Int) = g at hb hg'
      rw [hb]; exact Int.mul_tdiv_cancel_left _ hg'
    simp only [rv, e1, e2]
    have hb0 : (b : Rat) ≠ 0 := by
      intro h0
      have : b = 0 := by exact_mod_cast h0
      rw [this, Int.mul_zero] at hb; omega
    have hgr : ((gcdI n d : Int) : Rat) ≠ 0 := by
      intro h0
      exact hg' (by exact_mod_cast h0)
    have e3 : (n : Rat) = ((gcdI n d : Int) : Rat) * (a : Rat) := by rw [← Rat.intCast_mul, ← ha]
    have e4 : (d : Rat) = ((gcdI n d : Int) : Rat) * (b : Rat) := by rw [← Rat.intCast_mul, ← hb]
    rw [e3, e4]
    generalize ((gcdI n d : Int) : Rat) = g at *
    generalize (a : Rat) = a' at *
    generalize (b : Rat) = b' at *
    clear e1 e2 e3 e4 ha hb h1 h
    grind
  · rename_i h1; rw [if_neg h1] at h; simp at h
theorem den_ne {a : Int × Int} (h : isRat a = true) : (a.2 : Rat) ≠ 0 := by
  have := (isRat_spec h).2.2.1
  have h2 := cast_pos (d := a.2) (by omega)
  grind
theorem addR_both {a b : Int × Int} (h : (addR a b).2 = 0) : isRat a = true ∧ isRat b = true := by
  unfold addR at h
  split at h
  · rename_i h1; simpa using h1
  · simp at h
theorem rv_addR {a b : Int × Int} (h : (addR a b).2 = 0) : rv (addR a b).1 = rv a + rv b := by
  obtain ⟨h1, h2⟩ := addR_both h
  have d1 := (isRat_spec h1).2.2.1
  have d2 := (isRat_spec h2).2.2.1
  have n1 := den_ne h1
  have n2 := den_ne h2
  unfold addR at h ⊢
  rw [if_pos (by simp [h1, h2])] at h ⊢
  rw [rv_redR (Int.mul_pos (by omega) (by omega)) h]
  simp only [rv, Rat.intCast_add, Rat.intCast_mul]
  generalize (a.1 : Rat) = x at *
  generalize (a.2 : Rat) = y at *
  generalize (b.1 : Rat) = z at *
  generalize (b.2 : Rat) = w at *
  clear h h1 h2 d1 d2
  grind
def sumF (f : Nat → Rat) : Nat → Rat
  | 0 => 0
  | n + 1 => sumF f n + f n
theorem sumF_front (f : Nat → Rat) : ∀ n, sumF f (n + 1) = f 0 + sumF (fun i => f (i + 1)) n
  | 0 => by simp only [sumF]; grind
  | n + 1 => by rw [sumF, sumF_front f n, sumF]; grind
/-- The values of a list of ratios; the entries of a matrix. -/
def rvL (l : List (Int × Int)) (i : Nat) : Rat := rv (l.getD i (0, 1))
theorem rvL_cons (x : Int × Int) (l : List (Int × Int)) (i : Nat) : rvL (x :: l) (i + 1) = rvL l i := rfl
theorem rv_one (x : Int) : rv (x, 1) = (x : Rat) := by
  have : (x : Rat) / 1 = x := by grind
  exact this
theorem rv_zero : rv (0, 1) = 0 := rv_one 0
theorem mixGo_spec : ∀ (l : List (Int × Int)) (s : Int × Int), mixGo s l = true → (∀ x ∈ l, isRat x = true ∧ 0 ≤ x.1) ∧ rv s + sumF (rvL l) l.length = 1
  | [], s, h => by
    simp only [mixGo, decide_eq_true_eq] at h
    subst h
    refine ⟨by simp, ?_⟩
    simp only [List.length_nil, sumF, rv_one]
    have : ((1 : Int) : Rat) = 1 := rfl
    rw [this]; grind
  | x :: l, s, h => by
    simp only [mixGo, Bool.and_eq_true, decide_eq_true_eq] at h
    obtain ⟨⟨⟨h1, h2⟩, h3⟩, h4⟩ := h
    obtain ⟨h5, h6⟩ := mixGo_spec l _ h4
    rw [rv_addR h3] at h6
    refine ⟨fun y hy => ?_, ?_⟩
    · rcases List.mem_cons.1 hy with rfl | hy
      · exact ⟨h1, h2⟩
      · exact h5 y hy
    · have e0 : rvL (x :: l) 0 = rv x := rfl
      rw [List.length_cons, sumF_front, e0]
      simp only [rvL_cons]
      have e1 : sumF (fun i => rvL l i) l.length = sumF (rvL l) l.length := rfl
      rw [e1]; grind
theorem rv_nonneg {x : Int × Int} (h : isRat x = true) (h' : 0 ≤ x.1) : 0 ≤ rv x := by
  have d := cast_pos (d := x.2) (by have := (isRat_spec h).2.2.1; omega)
  have n : (0 : Rat) ≤ (x.1 : Rat) := by exact_mod_cast h'
  unfold rv
  rw [Rat.div_def]
  exact Rat.mul_nonneg n (Rat.le_of_lt (Rat.inv_pos.2 d))
theorem mix_spec {p : List (Int × Int)} {n : Nat} (h : isMixB p n = true) : p.length = n ∧ (∀ x ∈ p, isRat x = true) ∧ (∀ i, i < n → 0 ≤ rvL p i) ∧ sumF (rvL p) n = 1 := by
  simp only [isMixB, Bool.and_eq_true, decide_eq_true_eq] at h
  obtain ⟨⟨_, h1⟩, h2⟩ := h
  obtain ⟨h3, h4⟩ := mixGo_spec p _ h2
  have hl : p.length = n := by omega
  refine ⟨hl, fun x hx => (h3 x hx).1, fun i hi => ?_, ?_⟩
  · have hm : p.getD i (0, 1) ∈ p := by rw [List.getD_eq_getElem?_getD, List.getElem?_eq_getElem (by omega)]; exact List.getElem_mem _
    exact rv_nonneg (h3 _ hm).1 (h3 _ hm).2
  · rw [rv_zero, hl] at h4; grind
end Go.Ab

/- Solutions of matrices: what they say; the value is unique. -/
set_option linter.unusedSimpArgs false
set_option linter.unusedVariables false
namespace Go.Ab
open Go.Proofs

structure Sol where
  r : List (Int × Int)
  c : List (Int × Int)
  v : Int × Int
deriving DecidableEq
def wid (m : List (List Int)) : Nat := (m.headD []).length
instance (a b : Int × Int) : Decidable (leR a b) := by unfold leR; exact inferInstance
def isSolB (m : List (List Int)) (x : Sol) : Bool :=
  isMixB x.r m.length && isMixB x.c (wid m) && isRat x.v && decide ((gainsGo x.c m).2 = 0) && decide ((gainsGo x.r (tr m (wid m))).2 = 0) &&
    ((gainsGo x.c m).1.all fun g => decide (leR g x.v)) && ((gainsGo x.r (tr m (wid m))).1.all fun g => decide (leR x.v g))
theorem tr_length (m : List (List Int)) (c : Nat) : (tr m c).length = c := by simp [tr]
theorem tr_rows {m : List (List Int)} {c : Nat} : ∀ r ∈ tr m c, r.length = m.length := by
  intro r hr
  obtain ⟨k, _, rfl⟩ := List.mem_map.1 hr
  simp [colOf]
end Go.Ab

/- Contracts: solutions of matrices. -/
set_option linter.unusedSimpArgs false
set_option linter.unusedVariables false
namespace Go.Ab
open Go.Proofs

def solT (x : Sol) : T := .agg [rats x.r, rats x.c, .i x.v.1, .i x.v.2]
def solO (x : Sol) : T := .agg [ratsO x.r, ratsO x.c, .i x.v.1, .i x.v.2]
/-- All ratios at most v: so is the greatest. -/
theorem maxR_le {l : List (Int × Int)} {v : Int × Int} (h0 : 1 ≤ l.length) (hv : ∀ x ∈ l, isRat x = true) (hr : isRat v = true) : decide (cmpR (maxR l) v ≤ 0) = l.all fun g => decide (leR g v) := by
  obtain ⟨a, l', rfl⟩ : ∃ a l', l = a :: l' := by
    cases l with
    | nil => simp at h0
    | cons a l' => exact ⟨a, l', rfl⟩
  obtain ⟨h1, h2⟩ := maxR_spec l' a hv
  have den : ∀ x ∈ a :: l', 1 ≤ x.2 := fun x hx => (isRat_spec (hv x hx)).2.2.1
  have dv := (isRat_spec hr).2.2.1
  rw [Bool.eq_iff_iff]
  simp only [decide_eq_true_eq, List.all_eq_true, cmpR_le]
  exact ⟨fun h x hx => leR_trans (den x hx) (den _ h2) dv (h1 x hx) h, fun h => h _ h2⟩
theorem minR_ge {l : List (Int × Int)} {v : Int × Int} (h0 : 1 ≤ l.length) (hv : ∀ x ∈ l, isRat x = true) (hr : isRat v = true) : decide (0 ≤ cmpR (minR l) v) = l.all fun g => decide (leR v g) := by
  obtain ⟨a, l', rfl⟩ : ∃ a l', l = a :: l' := by
    cases l with
    | nil => simp at h0
    | cons a l' => exact ⟨a, l', rfl⟩
  obtain ⟨h1, h2⟩ := minR_spec l' a hv
  have den : ∀ x ∈ a :: l', 1 ≤ x.2 := fun x hx => (isRat_spec (hv x hx)).2.2.1
  have dv := (isRat_spec hr).2.2.1
  rw [Bool.eq_iff_iff]
  simp only [decide_eq_true_eq, List.all_eq_true, cmpR_ge]
  exact ⟨fun h x hx => leR_trans dv (den _ h2) (den x hx) h (h1 x hx), fun h => h _ h2⟩

theorem impl_isSolution_ok (m : List (List Int)) (hm : isMat m = true) (x : Sol) (hr : x.r.length ≤ 1000000000000) (hc : x.c.length ≤ 1000000000000) : Pure Try.prog 117 [rows m, solT x] (.b (isSolB m x)) := by
  obtain ⟨h1, h2, h3, h4, h5, h6⟩ := isMat_spec hm
  refine fun_impl_isSolution (by simp) ?_
  simp -implicitDefEqProofs only [go_sem, List.reduceReplicate, Nat.reduceEqDiff, Nat.reduceAdd, Nat.reduceLeDiff, Nat.reduceMul, Nat.reduceSub, Nat.reduceDiv, Int.reduceToNat, Nat.reduceLT, Int.reduceLT, Int.reduceLE, ↓reduceIte, reduceCtorEq, forall_apply_eq_imp_iff₂, ints, rows, rat, rats, toNat_cast, c_impl_isSolution, solT]
  refine CallV.pure (impl_IsMix_ok x.r m.length hr) [] rfl Try.call41 (fun e R' hR => ?_) (by first | trivial | simp [T.noSh, T.noShL, rat]) (fun _ => rfl) ?_
  · simp -implicitDefEqProofs only [Int.natCast_zero, Int.cast_ofNat_Int, Int.natCast_one, Nat.le_refl, Nat.reduceLeDiff, Nat.sub_self, Nat.reduceSub, List.getElem?_cons_zero, List.getElem?_cons_succ, vt_self, vaL, vtL, va, vt, vb, maT, List.cons_append, List.nil_append, List.append_nil, true_or, or_true, go_sem, List.reduceReplicate, Nat.reduceEqDiff, Nat.reduceAdd, Nat.reduceLeDiff, Nat.reduceMul, Nat.reduceSub, Nat.reduceDiv, Int.reduceToNat, Nat.reduceLT, Int.reduceLT, Int.reduceLE, ↓reduceIte, reduceCtorEq, ints, rows, rat, rats, ratsO, toShL_ratC, List.mem_cons, List.mem_nil_iff, List.not_mem_nil, or_false, false_or, exists_eq_left, exists_eq_left', exists_eq_right', Root.live.injEq, eq_self_iff_true, exists_eq, and_true, T.toSh, toShL_ints, toShL_intsO, intsO, rowsO]
  simp -implicitDefEqProofs only [go_sem, List.reduceReplicate, Nat.reduceEqDiff, Nat.reduceAdd, Nat.reduceLeDiff, Nat.reduceMul, Nat.reduceSub, Nat.reduceDiv, Int.reduceToNat, Nat.reduceLT, Int.reduceLT, Int.reduceLE, ↓reduceIte, reduceCtorEq, forall_apply_eq_imp_iff₂, ints, rows, rat, rats, toNat_cast]
  refine ⟨fun hb1 => ⟨by omega, by omega, fun r0 h0 => ?_⟩, fun hb1 => ?_⟩
  · have hb1 : isMixB x.r m.length = true := by simpa using hb1
    have hh := headD_get h0
    have hwid : wid m = r0.length := by rw [wid, hh]
    rw [hh] at h3 h4 h5
    refine CallV.pure (impl_IsMix_ok x.c r0.length hc) [] rfl Try.call41 (fun e R' hR => ?_) (by first | trivial | simp [T.noSh, T.noShL, rat]) (fun _ => rfl) ?_
    · simp -implicitDefEqProofs only [Int.natCast_zero, Int.cast_ofNat_Int, Int.natCast_one, Nat.le_refl, Nat.reduceLeDiff, Nat.sub_self, Nat.reduceSub, List.getElem?_cons_zero, List.getElem?_cons_succ, vt_self, vaL, vtL, va, vt, vb, maT, List.cons_append, List.nil_append, List.append_nil, true_or, or_true, go_sem, List.reduceReplicate, Nat.reduceEqDiff, Nat.reduceAdd, Nat.reduceLeDiff, Nat.reduceMul, Nat.reduceSub, Nat.reduceDiv, Int.reduceToNat, Nat.reduceLT, Int.reduceLT, Int.reduceLE, ↓reduceIte, reduceCtorEq, ints, rows, rat, rats, ratsO, toShL_ratC, List.mem_cons, List.mem_nil_iff, List.not_mem_nil, or_false, false_or, exists_eq_left, exists_eq_left', exists_eq_right', Root.live.injEq, eq_self_iff_true, exists_eq, and_true, T.toSh, toShL_ints, toShL_intsO, intsO, rowsO]
    simp -implicitDefEqProofs only [go_sem, List.reduceReplicate, Nat.reduceEqDiff, Nat.reduceAdd, Nat.reduceLeDiff, Nat.reduceMul, Nat.reduceSub, Nat.reduceDiv, Int.reduceToNat, Nat.reduceLT, Int.reduceLT, Int.reduceLE, ↓reduceIte, reduceCtorEq, forall_apply_eq_imp_iff₂, ints, rows, rat, rats, toNat_cast]
    refine ⟨fun hb2 => ?_, fun hb2 => ?_⟩
    · have hb2 : isMixB x.c r0.length = true := by simpa using hb2
      refine CallV.pure (impl_IsRatio_ok x.v) [] rfl Try.call120 (fun e R' hR => ?_) (by first | trivial | simp [T.noSh, T.noShL, rat]) (fun _ => rfl) ?_
      · simp -implicitDefEqProofs only [Int.natCast_zero, Int.cast_ofNat_Int, Int.natCast_one, Nat.le_refl, Nat.reduceLeDiff, Nat.sub_self, Nat.reduceSub, List.getElem?_cons_zero, List.getElem?_cons_succ, vt_self, vaL, vtL, va, vt, vb, maT, List.cons_append, List.nil_append, List.append_nil, true_or, or_true, go_sem, List.reduceReplicate, Nat.reduceEqDiff, Nat.reduceAdd, Nat.reduceLeDiff, Nat.reduceMul, Nat.reduceSub, Nat.reduceDiv, Int.reduceToNat, Nat.reduceLT, Int.reduceLT, Int.reduceLE, ↓reduceIte, reduceCtorEq, ints, rows, rat, rats, ratsO, toShL_ratC, List.mem_cons, List.mem_nil_iff, List.not_mem_nil, or_false, false_or, exists_eq_left, exists_eq_left', exists_eq_right', Root.live.injEq, eq_self_iff_true, exists_eq, and_true, T.toSh, toShL_ints, toShL_intsO, intsO, rowsO]
      simp -implicitDefEqProofs only [go_sem, List.reduceReplicate, Nat.reduceEqDiff, Nat.reduceAdd, Nat.reduceLeDiff, Nat.reduceMul, Nat.reduceSub, Nat.reduceDiv, Int.reduceToNat, Nat.reduceLT, Int.reduceLT, Int.reduceLE, ↓reduceIte, reduceCtorEq, forall_apply_eq_imp_iff₂, ints, rows, rat, rats, toNat_cast]
      refine ⟨fun hb3 => ?_, fun hb3 => ?_⟩
      · have hb3 : isRat x.v = false := by simpa using hb3
        rw [isSolB, hb3]; simp
      · have hb3 : isRat x.v = true := by simpa using hb3
        have hrl : x.r.length = m.length := (mix_spec hb1).1
        have hcl : x.c.length = r0.length := (mix_spec hb2).1
        have hsol : isSolB m x = (decide ((gainsGo x.c m).2 = 0) && decide ((gainsGo x.r (tr m r0.length)).2 = 0) && ((gainsGo x.c m).1.all fun g => decide (leR g x.v)) && ((gainsGo x.r (tr m r0.length)).1.all fun g => decide (leR x.v g))) := by
          rw [isSolB, hwid, hb1, hb2, hb3]; rfl
        rw [hsol]
        refine CallW.res (impl_gainsOf_ok m x.c (by omega) (by omega) (fun r hr => by have := h5 r hr; omega)) [] rfl Try.call129 ?_ (.inl rfl) ?_
        · simp -implicitDefEqProofs only [Int.natCast_zero, Int.cast_ofNat_Int, Int.natCast_one, Nat.le_refl, Nat.reduceLeDiff, Nat.sub_self, Nat.reduceSub, List.getElem?_cons_zero, List.getElem?_cons_succ, vt_self, vaL, vtL, va, vt, vb, maT, List.cons_append, List.nil_append, List.append_nil, true_or, or_true, go_sem, List.reduceReplicate, Nat.reduceEqDiff, Nat.reduceAdd, Nat.reduceLeDiff, Nat.reduceMul, Nat.reduceSub, Nat.reduceDiv, Int.reduceToNat, Nat.reduceLT, Int.reduceLT, Int.reduceLE, ↓reduceIte, reduceCtorEq, ints, rows, rat, rats, ratsO, toShL_ratC, List.mem_cons, List.mem_nil_iff, List.not_mem_nil, or_false, false_or, exists_eq_left, exists_eq_left', exists_eq_right', Root.live.injEq, eq_self_iff_true, exists_eq, and_true, T.toSh, toShL_ints, toShL_intsO, intsO, rowsO]
        simp -implicitDefEqProofs only [List.append_nil, List.cons_append, Nat.reduceLeDiff, afterCall, absT_rowsO, absT_intsO, absT, absL, updL, updS, freeAll, rid, T.noSh, T.noShL, Nat.zero_le, go_sem, List.reduceReplicate, Nat.reduceEqDiff, Nat.reduceAdd, Nat.reduceLeDiff, Nat.reduceMul, Nat.reduceSub, Nat.reduceDiv, Int.reduceToNat, Nat.reduceLT, Int.reduceLT, Int.reduceLE, ↓reduceIte, reduceCtorEq, rat, forall_apply_eq_imp_iff₂, toNat_cast, gT]
        refine CallC.res (impl_turned_ok m r0.length (by intro h; rw [h] at h1; simp at h1) h5 (by omega) (by omega)) [] rfl Try.call137 (fun e R' hR => ?_) (.inl rfl) ?_
        · simp -implicitDefEqProofs only [Int.natCast_zero, Int.cast_ofNat_Int, Int.natCast_one, Nat.le_refl, Nat.reduceLeDiff, Nat.sub_self, Nat.reduceSub, List.getElem?_cons_zero, List.getElem?_cons_succ, vt_self, vaL, vtL, va, vt, vb, maT, List.cons_append, List.nil_append, List.append_nil, true_or, or_true, go_sem, List.reduceReplicate, Nat.reduceEqDiff, Nat.reduceAdd, Nat.reduceLeDiff, Nat.reduceMul, Nat.reduceSub, Nat.reduceDiv, Int.reduceToNat, Nat.reduceLT, Int.reduceLT, Int.reduceLE, ↓reduceIte, reduceCtorEq, ints, rows, rat, rats, ratsO, toShL_ratC, List.mem_cons, List.mem_nil_iff, List.not_mem_nil, or_false, false_or, exists_eq_left, exists_eq_left', exists_eq_right', Root.live.injEq, eq_self_iff_true, exists_eq, and_true, T.toSh, toShL_ints, toShL_intsO, intsO, rowsO]
        simp -implicitDefEqProofs only [List.append_nil, List.cons_append, Nat.reduceLeDiff, afterCall, absT_rowsO, absT_intsO, absT, absL, updL, updS, freeAll, rid, T.noSh, T.noShL, Nat.zero_le, go_sem, List.reduceReplicate, Nat.reduceEqDiff, Nat.reduceAdd, Nat.reduceLeDiff, Nat.reduceMul, Nat.reduceSub, Nat.reduceDiv, Int.reduceToNat, Nat.reduceLT, Int.reduceLT, Int.reduceLE, ↓reduceIte, reduceCtorEq, rat, forall_apply_eq_imp_iff₂, toNat_cast]
        have htl := tr_length m r0.length
        have htr : ∀ r ∈ tr m r0.length, r.length = m.length := tr_rows
        refine CallC.res (impl_gainsOf_ok (tr m r0.length) x.r (by omega) (by omega) (fun r hr => by have := htr r hr; omega)) [40] rfl Try.call129 (fun e R' hR => ?_) (.inr (gT_noSh _)) ?_
        · have hq40 := (hR 40).resolve_left (by simp -implicitDefEqProofs only [go_sem, List.reduceReplicate, Nat.reduceEqDiff, Nat.reduceAdd, Nat.reduceLeDiff, Nat.reduceMul, Nat.reduceSub, Nat.reduceDiv, Int.reduceToNat, Nat.reduceLT, Int.reduceLT, Int.reduceLE, ↓reduceIte, reduceCtorEq, forall_apply_eq_imp_iff₂, ints, rows, rat, rats, toNat_cast, not_false_eq_true])
          simp -implicitDefEqProofs only [go_sem, List.reduceReplicate, Nat.reduceEqDiff, Nat.reduceAdd, Nat.reduceLeDiff, Nat.reduceMul, Nat.reduceSub, Nat.reduceDiv, Int.reduceToNat, Nat.reduceLT, Int.reduceLT, Int.reduceLE, ↓reduceIte, reduceCtorEq, forall_apply_eq_imp_iff₂, ints, rows, rat, rats, toNat_cast] at hq40
          simp -implicitDefEqProofs only [Int.natCast_zero, Int.cast_ofNat_Int, Int.natCast_one, Nat.le_refl, Nat.reduceLeDiff, Nat.sub_self, Nat.reduceSub, List.getElem?_cons_zero, List.getElem?_cons_succ, vt_self, vaL, vtL, va, vt, vb, maT, List.cons_append, List.nil_append, List.append_nil, true_or, or_true, go_sem, List.reduceReplicate, Nat.reduceEqDiff, Nat.reduceAdd, Nat.reduceLeDiff, Nat.reduceMul, Nat.reduceSub, Nat.reduceDiv, Int.reduceToNat, Nat.reduceLT, Int.reduceLT, Int.reduceLE, ↓reduceIte, reduceCtorEq, ints, rows, rat, rats, ratsO, toShL_ratC, List.mem_cons, List.mem_nil_iff, List.not_mem_nil, or_false, false_or, exists_eq_left, exists_eq_left', exists_eq_right', Root.live.injEq, eq_self_iff_true, exists_eq, and_true, T.toSh, toShL_ints, toShL_intsO, intsO, rowsO, hq40]
        simp -implicitDefEqProofs only [List.append_nil, List.cons_append, Nat.reduceLeDiff, afterCall, absT_rowsO, absT_intsO, absT, absL, updL, updS, freeAll, rid, T.noSh, T.noShL, Nat.zero_le, go_sem, List.reduceReplicate, Nat.reduceEqDiff, Nat.reduceAdd, Nat.reduceLeDiff, Nat.reduceMul, Nat.reduceSub, Nat.reduceDiv, Int.reduceToNat, Nat.reduceLT, Int.reduceLT, Int.reduceLE, ↓reduceIte, reduceCtorEq, rat, forall_apply_eq_imp_iff₂, toNat_cast, gT]
        refine ⟨fun hc1 => ?_, fun hc1 => ?_⟩
        · have hc1 : (gainsGo x.c m).2 = 0 := by simpa using hc1
          refine ⟨fun hc2 => ?_, fun hc2 => ?_⟩
          · have hc2 : (gainsGo x.r (tr m r0.length)).2 ≠ 0 := by simpa using hc2
            rw [decide_eq_false hc2]; simp
          · have hc2 : (gainsGo x.r (tr m r0.length)).2 = 0 := by simpa using hc2
            have hgl1 := gainsGo_length x.c m hc1
            have hgl2 := gainsGo_length x.r (tr m r0.length) hc2
            have hv1 := gainsGo_valid x.c m
            have hv2 := gainsGo_valid x.r (tr m r0.length)
            rw [decide_eq_true hc1, decide_eq_true hc2]
            have hM := maxR_le (v := x.v) (by omega : 1 ≤ (gainsGo x.c m).1.length) hv1 hb3
            have hN := minR_ge (v := x.v) (by omega : 1 ≤ (gainsGo x.r (tr m r0.length)).1.length) hv2 hb3
            rw [← hM, ← hN]
            refine CallV.pure (slices_MaxFunc_ok (gainsGo x.c m).1 hv1 (by omega) (by omega)) [35] rfl Try.call157 (fun e R' hR => ?_) (by first | trivial | simp [T.noSh, T.noShL, rat]) (fun _ => rfl) ?_
            · have hq35 := (hR 35).resolve_left (by simp -implicitDefEqProofs only [go_sem, List.reduceReplicate, Nat.reduceEqDiff, Nat.reduceAdd, Nat.reduceLeDiff, Nat.reduceMul, Nat.reduceSub, Nat.reduceDiv, Int.reduceToNat, Nat.reduceLT, Int.reduceLT, Int.reduceLE, ↓reduceIte, reduceCtorEq, forall_apply_eq_imp_iff₂, ints, rows, rat, rats, toNat_cast, not_false_eq_true])
              simp -implicitDefEqProofs only [go_sem, List.reduceReplicate, Nat.reduceEqDiff, Nat.reduceAdd, Nat.reduceLeDiff, Nat.reduceMul, Nat.reduceSub, Nat.reduceDiv, Int.reduceToNat, Nat.reduceLT, Int.reduceLT, Int.reduceLE, ↓reduceIte, reduceCtorEq, forall_apply_eq_imp_iff₂, ints, rows, rat, rats, toNat_cast] at hq35
              simp -implicitDefEqProofs only [Int.natCast_zero, Int.cast_ofNat_Int, Int.natCast_one, Nat.le_refl, Nat.reduceLeDiff, Nat.sub_self, Nat.reduceSub, List.getElem?_cons_zero, List.getElem?_cons_succ, vt_self, vaL, vtL, va, vt, vb, maT, List.cons_append, List.nil_append, List.append_nil, true_or, or_true, go_sem, List.reduceReplicate, Nat.reduceEqDiff, Nat.reduceAdd, Nat.reduceLeDiff, Nat.reduceMul, Nat.reduceSub, Nat.reduceDiv, Int.reduceToNat, Nat.reduceLT, Int.reduceLT, Int.reduceLE, ↓reduceIte, reduceCtorEq, ints, rows, rat, rats, ratsO, toShL_ratC, List.mem_cons, List.mem_nil_iff, List.not_mem_nil, or_false, false_or, exists_eq_left, exists_eq_left', exists_eq_right', Root.live.injEq, eq_self_iff_true, exists_eq, and_true, T.toSh, toShL_ints, toShL_intsO, intsO, rowsO, hq35]
            simp -implicitDefEqProofs only [go_sem, List.reduceReplicate, Nat.reduceEqDiff, Nat.reduceAdd, Nat.reduceLeDiff, Nat.reduceMul, Nat.reduceSub, Nat.reduceDiv, Int.reduceToNat, Nat.reduceLT, Int.reduceLT, Int.reduceLE, ↓reduceIte, reduceCtorEq, forall_apply_eq_imp_iff₂, ints, rows, rat, rats, toNat_cast]
            refine CallV.pure (impl_compareRatios_ok (maxR (gainsGo x.c m).1) x.v (hv1 _ (maxR_mem (List.ne_nil_of_length_pos (by omega)))) hb3) [] rfl Try.call121 (fun e R' hR => ?_) (by first | trivial | simp [T.noSh, T.noShL, rat]) (fun _ => rfl) ?_
            · simp -implicitDefEqProofs only [Int.natCast_zero, Int.cast_ofNat_Int, Int.natCast_one, Nat.le_refl, Nat.reduceLeDiff, Nat.sub_self, Nat.reduceSub, List.getElem?_cons_zero, List.getElem?_cons_succ, vt_self, vaL, vtL, va, vt, vb, maT, List.cons_append, List.nil_append, List.append_nil, true_or, or_true, go_sem, List.reduceReplicate, Nat.reduceEqDiff, Nat.reduceAdd, Nat.reduceLeDiff, Nat.reduceMul, Nat.reduceSub, Nat.reduceDiv, Int.reduceToNat, Nat.reduceLT, Int.reduceLT, Int.reduceLE, ↓reduceIte, reduceCtorEq, ints, rows, rat, rats, ratsO, toShL_ratC, List.mem_cons, List.mem_nil_iff, List.not_mem_nil, or_false, false_or, exists_eq_left, exists_eq_left', exists_eq_right', Root.live.injEq, eq_self_iff_true, exists_eq, and_true, T.toSh, toShL_ints, toShL_intsO, intsO, rowsO]
            simp -implicitDefEqProofs only [go_sem, List.reduceReplicate, Nat.reduceEqDiff, Nat.reduceAdd, Nat.reduceLeDiff, Nat.reduceMul, Nat.reduceSub, Nat.reduceDiv, Int.reduceToNat, Nat.reduceLT, Int.reduceLT, Int.reduceLE, ↓reduceIte, reduceCtorEq, forall_apply_eq_imp_iff₂, ints, rows, rat, rats, toNat_cast]
            refine ⟨fun hle => ?_, fun hle => by rw [decide_eq_false hle]; rfl⟩
            refine CallV.pure (slices_MinFunc_ok (gainsGo x.r (tr m r0.length)).1 hv2 (by omega) (by omega)) [43] rfl Try.call123 (fun e R' hR => ?_) (by first | trivial | simp [T.noSh, T.noShL, rat]) (fun _ => rfl) ?_
            · have hq43 := (hR 43).resolve_left (by simp -implicitDefEqProofs only [go_sem, List.reduceReplicate, Nat.reduceEqDiff, Nat.reduceAdd, Nat.reduceLeDiff, Nat.reduceMul, Nat.reduceSub, Nat.reduceDiv, Int.reduceToNat, Nat.reduceLT, Int.reduceLT, Int.reduceLE, ↓reduceIte, reduceCtorEq, forall_apply_eq_imp_iff₂, ints, rows, rat, rats, toNat_cast, not_false_eq_true])
              simp -implicitDefEqProofs only [go_sem, List.reduceReplicate, Nat.reduceEqDiff, Nat.reduceAdd, Nat.reduceLeDiff, Nat.reduceMul, Nat.reduceSub, Nat.reduceDiv, Int.reduceToNat, Nat.reduceLT, Int.reduceLT, Int.reduceLE, ↓reduceIte, reduceCtorEq, forall_apply_eq_imp_iff₂, ints, rows, rat, rats, toNat_cast] at hq43
              simp -implicitDefEqProofs only [Int.natCast_zero, Int.cast_ofNat_Int, Int.natCast_one, Nat.le_refl, Nat.reduceLeDiff, Nat.sub_self, Nat.reduceSub, List.getElem?_cons_zero, List.getElem?_cons_succ, vt_self, vaL, vtL, va, vt, vb, maT, List.cons_append, List.nil_append, List.append_nil, true_or, or_true, go_sem, List.reduceReplicate, Nat.reduceEqDiff, Nat.reduceAdd, Nat.reduceLeDiff, Nat.reduceMul, Nat.reduceSub, Nat.reduceDiv, Int.reduceToNat, Nat.reduceLT, Int.reduceLT, Int.reduceLE, ↓reduceIte, reduceCtorEq, ints, rows, rat, rats, ratsO, toShL_ratC, List.mem_cons, List.mem_nil_iff, List.not_mem_nil, or_false, false_or, exists_eq_left, exists_eq_left', exists_eq_right', Root.live.injEq, eq_self_iff_true, exists_eq, and_true, T.toSh, toShL_ints, toShL_intsO, intsO, rowsO, hq43]
            simp -implicitDefEqProofs only [go_sem, List.reduceReplicate, Nat.reduceEqDiff, Nat.reduceAdd, Nat.reduceLeDiff, Nat.reduceMul, Nat.reduceSub, Nat.reduceDiv, Int.reduceToNat, Nat.reduceLT, Int.reduceLT, Int.reduceLE, ↓reduceIte, reduceCtorEq, forall_apply_eq_imp_iff₂, ints, rows, rat, rats, toNat_cast]
            refine CallV.pure (impl_compareRatios_ok (minR (gainsGo x.r (tr m r0.length)).1) x.v (hv2 _ (minR_mem (List.ne_nil_of_length_pos (by omega)))) hb3) [] rfl Try.call121 (fun e R' hR => ?_) (by first | trivial | simp [T.noSh, T.noShL, rat]) (fun _ => rfl) ?_
            · simp -implicitDefEqProofs only [Int.natCast_zero, Int.cast_ofNat_Int, Int.natCast_one, Nat.le_refl, Nat.reduceLeDiff, Nat.sub_self, Nat.reduceSub, List.getElem?_cons_zero, List.getElem?_cons_succ, vt_self, vaL, vtL, va, vt, vb, maT, List.cons_append, List.nil_append, List.append_nil, true_or, or_true, go_sem, List.reduceReplicate, Nat.reduceEqDiff, Nat.reduceAdd, Nat.reduceLeDiff, Nat.reduceMul, Nat.reduceSub, Nat.reduceDiv, Int.reduceToNat, Nat.reduceLT, Int.reduceLT, Int.reduceLE, ↓reduceIte, reduceCtorEq, ints, rows, rat, rats, ratsO, toShL_ratC, List.mem_cons, List.mem_nil_iff, List.not_mem_nil, or_false, false_or, exists_eq_left, exists_eq_left', exists_eq_right', Root.live.injEq, eq_self_iff_true, exists_eq, and_true, T.toSh, toShL_ints, toShL_intsO, intsO, rowsO]
            simp -implicitDefEqProofs only [go_sem, List.reduceReplicate, Nat.reduceEqDiff, Nat.reduceAdd, Nat.reduceLeDiff, Nat.reduceMul, Nat.reduceSub, Nat.reduceDiv, Int.reduceToNat, Nat.reduceLT, Int.reduceLT, Int.reduceLE, ↓reduceIte, reduceCtorEq, forall_apply_eq_imp_iff₂, ints, rows, rat, rats, toNat_cast]
            rw [decide_eq_true hle]; rfl
        · have hc1 : (gainsGo x.c m).2 ≠ 0 := by simpa using hc1
          rw [decide_eq_false hc1]; simp
    · have hb2 : isMixB x.c r0.length = false := by simpa using hb2
      rw [isSolB, hwid, hb2]; simp
  · have hb1 : isMixB x.r m.length = false := by simpa using hb1
    rw [isSolB, hb1]; simp

theorem spec_l27Is_ok (m : List (List Int)) (hm : isMat m = true) (x : Sol) (hr : x.r.length ≤ 1000000000000) (hc : x.c.length ≤ 1000000000000) : Pure Try.prog 113 [rows m, solT x] (.b (isSolB m x)) := by
  obtain ⟨h1, h2, h3, h4, h5, h6⟩ := isMat_spec hm
  refine fun_spec_l27Is (by simp) ?_
  simp -implicitDefEqProofs only [go_sem, List.reduceReplicate, Nat.reduceEqDiff, Nat.reduceAdd, Nat.reduceLeDiff, Nat.reduceMul, Nat.reduceSub, Nat.reduceDiv, Int.reduceToNat, Nat.reduceLT, Int.reduceLT, Int.reduceLE, ↓reduceIte, reduceCtorEq, forall_apply_eq_imp_iff₂, ints, rows, rat, rats, toNat_cast, c_spec_l27Is, solT]
  refine CallV.pure (spec_IsMix_ok x.r m.length hr) [] rfl Try.call48 (fun e R' hR => ?_) (by first | trivial | simp [T.noSh, T.noShL, rat]) (fun _ => rfl) ?_
  · simp -implicitDefEqProofs only [Int.natCast_zero, Int.cast_ofNat_Int, Int.natCast_one, Nat.le_refl, Nat.reduceLeDiff, Nat.sub_self, Nat.reduceSub, List.getElem?_cons_zero, List.getElem?_cons_succ, vt_self, vaL, vtL, va, vt, vb, maT, List.cons_append, List.nil_append, List.append_nil, true_or, or_true, go_sem, List.reduceReplicate, Nat.reduceEqDiff, Nat.reduceAdd, Nat.reduceLeDiff, Nat.reduceMul, Nat.reduceSub, Nat.reduceDiv, Int.reduceToNat, Nat.reduceLT, Int.reduceLT, Int.reduceLE, ↓reduceIte, reduceCtorEq, ints, rows, rat, rats, ratsO, toShL_ratC, List.mem_cons, List.mem_nil_iff, List.not_mem_nil, or_false, false_or, exists_eq_left, exists_eq_left', exists_eq_right', Root.live.injEq, eq_self_iff_true, exists_eq, and_true, T.toSh, toShL_ints, toShL_intsO, intsO, rowsO]
  simp -implicitDefEqProofs only [go_sem, List.reduceReplicate, Nat.reduceEqDiff, Nat.reduceAdd, Nat.reduceLeDiff, Nat.reduceMul, Nat.reduceSub, Nat.reduceDiv, Int.reduceToNat, Nat.reduceLT, Int.reduceLT, Int.reduceLE, ↓reduceIte, reduceCtorEq, forall_apply_eq_imp_iff₂, ints, rows, rat, rats, toNat_cast]
  refine ⟨fun hb1 => ⟨by omega, by omega, fun r0 h0 => ?_⟩, fun hb1 => ?_⟩
  · have hb1 : isMixB x.r m.length = true := by simpa using hb1
    have hh := headD_get h0
    have hwid : wid m = r0.length := by rw [wid, hh]
    rw [hh] at h3 h4 h5
    refine CallV.pure (spec_IsMix_ok x.c r0.length hc) [] rfl Try.call48 (fun e R' hR => ?_) (by first | trivial | simp [T.noSh, T.noShL, rat]) (fun _ => rfl) ?_
    · simp -implicitDefEqProofs only [Int.natCast_zero, Int.cast_ofNat_Int, Int.natCast_one, Nat.le_refl, Nat.reduceLeDiff, Nat.sub_self, Nat.reduceSub, List.getElem?_cons_zero, List.getElem?_cons_succ, vt_self, vaL, vtL, va, vt, vb, maT, List.cons_append, List.nil_append, List.append_nil, true_or, or_true, go_sem, List.reduceReplicate, Nat.reduceEqDiff, Nat.reduceAdd, Nat.reduceLeDiff, Nat.reduceMul, Nat.reduceSub, Nat.reduceDiv, Int.reduceToNat, Nat.reduceLT, Int.reduceLT, Int.reduceLE, ↓reduceIte, reduceCtorEq, ints, rows, rat, rats, ratsO, toShL_ratC, List.mem_cons, List.mem_nil_iff, List.not_mem_nil, or_false, false_or, exists_eq_left, exists_eq_left', exists_eq_right', Root.live.injEq, eq_self_iff_true, exists_eq, and_true, T.toSh, toShL_ints, toShL_intsO, intsO, rowsO]
    simp -implicitDefEqProofs only [go_sem, List.reduceReplicate, Nat.reduceEqDiff, Nat.reduceAdd, Nat.reduceLeDiff, Nat.reduceMul, Nat.reduceSub, Nat.reduceDiv, Int.reduceToNat, Nat.reduceLT, Int.reduceLT, Int.reduceLE, ↓reduceIte, reduceCtorEq, forall_apply_eq_imp_iff₂, ints, rows, rat, rats, toNat_cast]
    refine ⟨fun hb2 => ?_, fun hb2 => ?_⟩
    · have hb2 : isMixB x.c r0.length = true := by simpa using hb2
      refine CallV.pure (spec_IsRatio_ok x.v) [] rfl Try.call126 (fun e R' hR => ?_) (by first | trivial | simp [T.noSh, T.noShL, rat]) (fun _ => rfl) ?_
      · simp -implicitDefEqProofs only [Int.natCast_zero, Int.cast_ofNat_Int, Int.natCast_one, Nat.le_refl, Nat.reduceLeDiff, Nat.sub_self, Nat.reduceSub, List.getElem?_cons_zero, List.getElem?_cons_succ, vt_self, vaL, vtL, va, vt, vb, maT, List.cons_append, List.nil_append, List.append_nil, true_or, or_true, go_sem, List.reduceReplicate, Nat.reduceEqDiff, Nat.reduceAdd, Nat.reduceLeDiff, Nat.reduceMul, Nat.reduceSub, Nat.reduceDiv, Int.reduceToNat, Nat.reduceLT, Int.reduceLT, Int.reduceLE, ↓reduceIte, reduceCtorEq, ints, rows, rat, rats, ratsO, toShL_ratC, List.mem_cons, List.mem_nil_iff, List.not_mem_nil, or_false, false_or, exists_eq_left, exists_eq_left', exists_eq_right', Root.live.injEq, eq_self_iff_true, exists_eq, and_true, T.toSh, toShL_ints, toShL_intsO, intsO, rowsO]
      simp -implicitDefEqProofs only [go_sem, List.reduceReplicate, Nat.reduceEqDiff, Nat.reduceAdd, Nat.reduceLeDiff, Nat.reduceMul, Nat.reduceSub, Nat.reduceDiv, Int.reduceToNat, Nat.reduceLT, Int.reduceLT, Int.reduceLE, ↓reduceIte, reduceCtorEq, forall_apply_eq_imp_iff₂, ints, rows, rat, rats, toNat_cast]
      refine ⟨fun hb3 => ?_, fun hb3 => ?_⟩
      · have hb3 : isRat x.v = false := by simpa using hb3
        rw [isSolB, hb3]; simp
      · have hb3 : isRat x.v = true := by simpa using hb3
        have hrl : x.r.length = m.length := (mix_spec hb1).1
        have hcl : x.c.length = r0.length := (mix_spec hb2).1
        have hsol : isSolB m x = (decide ((gainsGo x.c m).2 = 0) && decide ((gainsGo x.r (tr m r0.length)).2 = 0) && ((gainsGo x.c m).1.all fun g => decide (leR g x.v)) && ((gainsGo x.r (tr m r0.length)).1.all fun g => decide (leR x.v g))) := by
          rw [isSolB, hwid, hb1, hb2, hb3]; rfl
        rw [hsol]
        refine CallH.ref (spec_l26Rows_ok 0 m x.c (by omega) (by omega) (fun r hr => by have := h5 r hr; omega)) [33] [] rfl Try.call131 (by simp) ?_ (by simp) (fun e R' hR => ?_) (.inl rfl) ?_
        · simp -implicitDefEqProofs only [rootOf_arr, rootOf_box, rootOf_any, srcsOK, updL, updS, upd_apply, Nat.reduceEqDiff, ↓reduceIte, mkRoots, and_true, ints, rows, intsO, rowsO]
        · simp -implicitDefEqProofs only [Int.natCast_zero, Int.cast_ofNat_Int, Int.natCast_one, Nat.le_refl, Nat.reduceLeDiff, Nat.sub_self, Nat.reduceSub, List.getElem?_cons_zero, List.getElem?_cons_succ, vt_self, vaL, vtL, va, vt, vb, maT, List.cons_append, List.nil_append, List.append_nil, true_or, or_true, go_sem, List.reduceReplicate, Nat.reduceEqDiff, Nat.reduceAdd, Nat.reduceLeDiff, Nat.reduceMul, Nat.reduceSub, Nat.reduceDiv, Int.reduceToNat, Nat.reduceLT, Int.reduceLT, Int.reduceLE, ↓reduceIte, reduceCtorEq, ints, rows, rat, rats, ratsO, toShL_ratC, List.mem_cons, List.mem_nil_iff, List.not_mem_nil, or_false, false_or, exists_eq_left, exists_eq_left', exists_eq_right', Root.live.injEq, eq_self_iff_true, exists_eq, and_true, T.toSh, toShL_ints, toShL_intsO, intsO, rowsO]
        simp -implicitDefEqProofs only [List.append_nil, List.cons_append, Nat.reduceLeDiff, afterCall, absT_rowsO, absT_intsO, absT, absL, updL, updS, freeAll, rid, T.noSh, T.noShL, Nat.zero_le, go_sem, List.reduceReplicate, Nat.reduceEqDiff, Nat.reduceAdd, Nat.reduceLeDiff, Nat.reduceMul, Nat.reduceSub, Nat.reduceDiv, Int.reduceToNat, Nat.reduceLT, Int.reduceLT, Int.reduceLE, ↓reduceIte, reduceCtorEq, rat, forall_apply_eq_imp_iff₂, toNat_cast]
        refine ⟨?_, ((frameOK.refl _ _ _).upd _ (.inl (by simp))).upd _ (.inr rfl)⟩
        have htl := tr_length m r0.length
        have hm0 : m ≠ [] := by intro h; rw [h] at h1; simp at h1
        refine CallH.ref (spec_l26Columns_ok (rowsGo x.c 0 m).2 m r0.length x.r hm0 (by omega) (by omega) (by omega) h5) [33] [] rfl Try.call138 (by simp) ?_ (by simp) (fun e R' hR => ?_) (.inl rfl) ?_
        · simp -implicitDefEqProofs only [rootOf_arr, rootOf_box, rootOf_any, srcsOK, updL, updS, upd_apply, Nat.reduceEqDiff, ↓reduceIte, mkRoots, and_true, ints, rows, intsO, rowsO]
        · simp -implicitDefEqProofs only [Int.natCast_zero, Int.cast_ofNat_Int, Int.natCast_one, Nat.le_refl, Nat.reduceLeDiff, Nat.sub_self, Nat.reduceSub, List.getElem?_cons_zero, List.getElem?_cons_succ, vt_self, vaL, vtL, va, vt, vb, maT, List.cons_append, List.nil_append, List.append_nil, true_or, or_true, go_sem, List.reduceReplicate, Nat.reduceEqDiff, Nat.reduceAdd, Nat.reduceLeDiff, Nat.reduceMul, Nat.reduceSub, Nat.reduceDiv, Int.reduceToNat, Nat.reduceLT, Int.reduceLT, Int.reduceLE, ↓reduceIte, reduceCtorEq, ints, rows, rat, rats, ratsO, toShL_ratC, List.mem_cons, List.mem_nil_iff, List.not_mem_nil, or_false, false_or, exists_eq_left, exists_eq_left', exists_eq_right', Root.live.injEq, eq_self_iff_true, exists_eq, and_true, T.toSh, toShL_ints, toShL_intsO, intsO, rowsO]
        simp -implicitDefEqProofs only [List.append_nil, List.cons_append, Nat.reduceLeDiff, afterCall, absT_rowsO, absT_intsO, absT, absL, updL, updS, freeAll, rid, T.noSh, T.noShL, Nat.zero_le, go_sem, List.reduceReplicate, Nat.reduceEqDiff, Nat.reduceAdd, Nat.reduceLeDiff, Nat.reduceMul, Nat.reduceSub, Nat.reduceDiv, Int.reduceToNat, Nat.reduceLT, Int.reduceLT, Int.reduceLE, ↓reduceIte, reduceCtorEq, rat, forall_apply_eq_imp_iff₂, toNat_cast]
        have hrs1 := rowsGo_spec x.c m
        have hrs2 := rowsGo_spec x.r (tr m r0.length)
        have hcode : (rowsGo x.r (rowsGo x.c 0 m).2 (tr m r0.length)).2 = 0 ↔ (gainsGo x.c m).2 = 0 ∧ (gainsGo x.r (tr m r0.length)).2 = 0 := by
          rw [hrs1.1]
          by_cases hc1 : (gainsGo x.c m).2 = 0
          · rw [hc1, hrs2.1]; simp
          · rw [rowsGo_err _ _ _ hc1]; simp [hc1]
        refine ⟨fun hco => ?_, fun hco => ?_⟩
        · have hco : ¬ (rowsGo x.r (rowsGo x.c 0 m).2 (tr m r0.length)).2 = 0 := by simpa using hco
          rw [hcode] at hco
          by_cases hc1 : (gainsGo x.c m).2 = 0
          · rw [decide_eq_false (fun h => hco ⟨hc1, h⟩)]; simp
          · rw [decide_eq_false hc1]; simp
        · have hco : (rowsGo x.r (rowsGo x.c 0 m).2 (tr m r0.length)).2 = 0 := by simpa using hco
          obtain ⟨hc1, hc2⟩ := hcode.1 hco
          have hgl1 := gainsGo_length x.c m hc1
          have hgl2 := gainsGo_length x.r (tr m r0.length) hc2
          have hv1 := gainsGo_valid x.c m
          have hv2 := gainsGo_valid x.r (tr m r0.length)
          rw [decide_eq_true hc1, decide_eq_true hc2, hrs1.1, hc1, hrs1.2 hc1, hrs2.2 hc2]
          generalize (gainsGo x.c m).1 = G at hgl1 hv1 ⊢
          generalize (gainsGo x.r (tr m r0.length)).1 = H at hgl2 hv2 ⊢
          have hGl : G.length ≤ 1000000000000 := by omega
          have hHl : H.length ≤ 1000000000000 := by omega
          refine SemC.loopR (σ := Nat) (fun i => St.of [(3, .own 3), (6, .own 38), (7, .own 43), (8, .t (.i i))] [(3, .box [rats x.r, rats x.c, .i x.v.1, .i x.v.2]), (38, .arr 2 (ratC G)), (43, .arr 2 (ratC H))]) (fun i => i ≤ G.length ∧ ∀ y ∈ G.take i, leR y x.v) (fun i => G.length - i) 0 (Weak.of _ _ [some 3, some 38, some 43] (by simp) (by simp) ?_ ?_) ⟨by simp, by simp⟩ fun i hI R hn hr he => ?_
          · simp -implicitDefEqProofs only [ints, rows, Nat.reduceBEq, Int.add_zero, envOK, maA, maT, upd_apply, Nat.reduceEqDiff, ↓reduceIte, and_true, true_or, or_true, List.map_cons, List.map_nil, Nat.zero_ne_one, and_self, true_and, Int.natCast_zero, Int.cast_ofNat_Int, Int.ofNat_zero, piOf, List.zip_cons_cons, List.zip_nil_right, List.lookup_cons, List.lookup_nil, beq_self_eq_true, rootsOK, mkRoots, mkEnv, rats]
          · exact ⟨⟨_, rfl, .refl _⟩, rfl, ⟨_, rfl, .refl _⟩, rfl, ⟨_, rfl, .refl _⟩, rfl, trivial⟩
          · obtain ⟨hi, hall⟩ := hI
            simp -implicitDefEqProofs only [go_sem, List.reduceReplicate, Nat.reduceEqDiff, Nat.reduceAdd, Nat.reduceLeDiff, Nat.reduceMul, Nat.reduceSub, Nat.reduceDiv, Int.reduceToNat, Nat.reduceLT, Int.reduceLT, Int.reduceLE, ↓reduceIte, reduceCtorEq, forall_apply_eq_imp_iff₂, ints, rows, rat, rats, toNat_cast]
            refine ⟨fun hlt => ?_, fun hlt => he _ _ ?_⟩
            · obtain ⟨y, hy⟩ : ∃ y, G[i]? = some y := ⟨_, List.getElem?_eq_getElem (by omega)⟩
              have hyv := hv1 y (List.mem_of_getElem? hy)
              refine ⟨by omega, by rw [ratC_length]; omega, by rw [ratC_length]; omega, ?_⟩
              rw [ratC_at hy]
              refine CallV.pure (spec_l01Compare_ok y x.v hyv hb3) [] rfl Try.call122 (fun e R' hR => ?_) (by first | trivial | simp [T.noSh, T.noShL, rat]) (fun _ => rfl) ?_
              · simp -implicitDefEqProofs only [Int.natCast_zero, Int.cast_ofNat_Int, Int.natCast_one, Nat.le_refl, Nat.reduceLeDiff, Nat.sub_self, Nat.reduceSub, List.getElem?_cons_zero, List.getElem?_cons_succ, vt_self, vaL, vtL, va, vt, vb, maT, List.cons_append, List.nil_append, List.append_nil, true_or, or_true, go_sem, List.reduceReplicate, Nat.reduceEqDiff, Nat.reduceAdd, Nat.reduceLeDiff, Nat.reduceMul, Nat.reduceSub, Nat.reduceDiv, Int.reduceToNat, Nat.reduceLT, Int.reduceLT, Int.reduceLE, ↓reduceIte, reduceCtorEq, ints, rows, rat, rats, ratsO, toShL_ratC, List.mem_cons, List.mem_nil_iff, List.not_mem_nil, or_false, false_or, exists_eq_left, exists_eq_left', exists_eq_right', Root.live.injEq, eq_self_iff_true, exists_eq, and_true, T.toSh, toShL_ints, toShL_intsO, intsO, rowsO]
              simp -implicitDefEqProofs only [go_sem, List.reduceReplicate, Nat.reduceEqDiff, Nat.reduceAdd, Nat.reduceLeDiff, Nat.reduceMul, Nat.reduceSub, Nat.reduceDiv, Int.reduceToNat, Nat.reduceLT, Int.reduceLT, Int.reduceLE, ↓reduceIte, reduceCtorEq, forall_apply_eq_imp_iff₂, ints, rows, rat, rats, toNat_cast]
              refine ⟨fun hgt => hr _ ?_, fun hgt => hn _ (i + 1) (Weak.of _ _ [some 3, some 38, some 43] (by simp) (by simp) ?_ ?_) ⟨by omega, take_succ_all hy hall (cmpR_le.1 (by omega))⟩ (by omega)⟩
              · simp -implicitDefEqProofs only [go_sem, List.reduceReplicate, Nat.reduceEqDiff, Nat.reduceAdd, Nat.reduceLeDiff, Nat.reduceMul, Nat.reduceSub, Nat.reduceDiv, Int.reduceToNat, Nat.reduceLT, Int.reduceLT, Int.reduceLE, ↓reduceIte, reduceCtorEq, forall_apply_eq_imp_iff₂, ints, rows, rat, rats, toNat_cast]
                have hno : (G.all fun g => decide (leR g x.v)) = false := by
                  cases hc : G.all fun g => decide (leR g x.v) with
                  | false => rfl
                  | true =>
                    rw [List.all_eq_true] at hc
                    have := hc y (List.mem_of_getElem? hy)
                    exact absurd (by simpa using this) (cmpR_gt.1 hgt)
                rw [hno]; rfl
              · simp -implicitDefEqProofs only [ints, rows, Nat.reduceBEq, Int.add_zero, envOK, maA, maT, upd_apply, Nat.reduceEqDiff, ↓reduceIte, and_true, true_or, or_true, List.map_cons, List.map_nil, Nat.zero_ne_one, and_self, true_and, Int.natCast_zero, Int.cast_ofNat_Int, Int.ofNat_zero, piOf, List.zip_cons_cons, List.zip_nil_right, List.lookup_cons, List.lookup_nil, beq_self_eq_true, rootsOK, mkRoots, mkEnv, rats, next64 (by omega : i < G.length) hGl]
              · exact ⟨⟨_, rfl, .refl _⟩, rfl, ⟨_, rfl, .refl _⟩, rfl, ⟨_, rfl, .refl _⟩, rfl, trivial⟩
            · simp -implicitDefEqProofs only [go_sem, List.reduceReplicate, Nat.reduceEqDiff, Nat.reduceAdd, Nat.reduceLeDiff, Nat.reduceMul, Nat.reduceSub, Nat.reduceDiv, Int.reduceToNat, Nat.reduceLT, Int.reduceLT, Int.reduceLE, ↓reduceIte, reduceCtorEq, forall_apply_eq_imp_iff₂, ints, rows, rat, rats, toNat_cast]
              have hGa : (G.all fun g => decide (leR g x.v)) = true := by
                rw [List.all_eq_true]
                intro y hy
                exact decide_eq_true (hall y (by rw [List.take_of_length_le (by omega)]; exact hy))
              rw [hGa]
              refine SemC.loopR (σ := Nat) (fun i => St.of [(3, .own 3), (7, .own 43), (9, .t (.i i))] [(3, .box [rats x.r, rats x.c, .i x.v.1, .i x.v.2]), (43, .arr 2 (ratC H))]) (fun i => i ≤ H.length ∧ ∀ y ∈ H.take i, leR x.v y) (fun i => H.length - i) 0 (Weak.of _ _ [some 3, some 43] (by simp) (by simp) ?_ ?_) ⟨by simp, by simp⟩ fun k hI R2 hn2 hr2 he2 => ?_
              · simp -implicitDefEqProofs only [ints, rows, Nat.reduceBEq, Int.add_zero, envOK, maA, maT, upd_apply, Nat.reduceEqDiff, ↓reduceIte, and_true, true_or, or_true, List.map_cons, List.map_nil, Nat.zero_ne_one, and_self, true_and, Int.natCast_zero, Int.cast_ofNat_Int, Int.ofNat_zero, piOf, List.zip_cons_cons, List.zip_nil_right, List.lookup_cons, List.lookup_nil, beq_self_eq_true, rootsOK, mkRoots, mkEnv, rats]
              · exact ⟨⟨_, rfl, .refl _⟩, rfl, ⟨_, rfl, .refl _⟩, rfl, trivial⟩
              · obtain ⟨hk, hall2⟩ := hI
                simp -implicitDefEqProofs only [go_sem, List.reduceReplicate, Nat.reduceEqDiff, Nat.reduceAdd, Nat.reduceLeDiff, Nat.reduceMul, Nat.reduceSub, Nat.reduceDiv, Int.reduceToNat, Nat.reduceLT, Int.reduceLT, Int.reduceLE, ↓reduceIte, reduceCtorEq, forall_apply_eq_imp_iff₂, ints, rows, rat, rats, toNat_cast]
                refine ⟨fun hlt => ?_, fun hlt => he2 _ _ ?_⟩
                · obtain ⟨y, hy⟩ : ∃ y, H[k]? = some y := ⟨_, List.getElem?_eq_getElem (by omega)⟩
                  have hyv := hv2 y (List.mem_of_getElem? hy)
                  refine ⟨by omega, by rw [ratC_length]; omega, by rw [ratC_length]; omega, ?_⟩
                  rw [ratC_at hy]
                  refine CallV.pure (spec_l01Compare_ok y x.v hyv hb3) [] rfl Try.call122 (fun e R' hR => ?_) (by first | trivial | simp [T.noSh, T.noShL, rat]) (fun _ => rfl) ?_
                  · simp -implicitDefEqProofs only [Int.natCast_zero, Int.cast_ofNat_Int, Int.natCast_one, Nat.le_refl, Nat.reduceLeDiff, Nat.sub_self, Nat.reduceSub, List.getElem?_cons_zero, List.getElem?_cons_succ, vt_self, vaL, vtL, va, vt, vb, maT, List.cons_append, List.nil_append, List.append_nil, true_or, or_true, go_sem, List.reduceReplicate, Nat.reduceEqDiff, Nat.reduceAdd, Nat.reduceLeDiff, Nat.reduceMul, Nat.reduceSub, Nat.reduceDiv, Int.reduceToNat, Nat.reduceLT, Int.reduceLT, Int.reduceLE, ↓reduceIte, reduceCtorEq, ints, rows, rat, rats, ratsO, toShL_ratC, List.mem_cons, List.mem_nil_iff, List.not_mem_nil, or_false, false_or, exists_eq_left, exists_eq_left', exists_eq_right', Root.live.injEq, eq_self_iff_true, exists_eq, and_true, T.toSh, toShL_ints, toShL_intsO, intsO, rowsO]
                  simp -implicitDefEqProofs only [go_sem, List.reduceReplicate, Nat.reduceEqDiff, Nat.reduceAdd, Nat.reduceLeDiff, Nat.reduceMul, Nat.reduceSub, Nat.reduceDiv, Int.reduceToNat, Nat.reduceLT, Int.reduceLT, Int.reduceLE, ↓reduceIte, reduceCtorEq, forall_apply_eq_imp_iff₂, ints, rows, rat, rats, toNat_cast]
                  refine ⟨fun hgt => hr2 _ ?_, fun hgt => hn2 _ (k + 1) (Weak.of _ _ [some 3, some 43] (by simp) (by simp) ?_ ?_) ⟨by omega, take_succ_all hy hall2 (cmpR_ge.1 (by omega))⟩ (by omega)⟩
                  · simp -implicitDefEqProofs only [go_sem, List.reduceReplicate, Nat.reduceEqDiff, Nat.reduceAdd, Nat.reduceLeDiff, Nat.reduceMul, Nat.reduceSub, Nat.reduceDiv, Int.reduceToNat, Nat.reduceLT, Int.reduceLT, Int.reduceLE, ↓reduceIte, reduceCtorEq, forall_apply_eq_imp_iff₂, ints, rows, rat, rats, toNat_cast]
                    have hno : (H.all fun g => decide (leR x.v g)) = false := by
                      cases hc : H.all fun g => decide (leR x.v g) with
                      | false => rfl
                      | true =>
                        rw [List.all_eq_true] at hc
                        have := hc y (List.mem_of_getElem? hy)
                        exact absurd (by simpa using this) (cmpR_lt.1 hgt)
                    rw [hno]
                  · simp -implicitDefEqProofs only [ints, rows, Nat.reduceBEq, Int.add_zero, envOK, maA, maT, upd_apply, Nat.reduceEqDiff, ↓reduceIte, and_true, true_or, or_true, List.map_cons, List.map_nil, Nat.zero_ne_one, and_self, true_and, Int.natCast_zero, Int.cast_ofNat_Int, Int.ofNat_zero, piOf, List.zip_cons_cons, List.zip_nil_right, List.lookup_cons, List.lookup_nil, beq_self_eq_true, rootsOK, mkRoots, mkEnv, rats, next64 (by omega : k < H.length) hHl]
                  · exact ⟨⟨_, rfl, .refl _⟩, rfl, ⟨_, rfl, .refl _⟩, rfl, trivial⟩
                · simp -implicitDefEqProofs only [go_sem, List.reduceReplicate, Nat.reduceEqDiff, Nat.reduceAdd, Nat.reduceLeDiff, Nat.reduceMul, Nat.reduceSub, Nat.reduceDiv, Int.reduceToNat, Nat.reduceLT, Int.reduceLT, Int.reduceLE, ↓reduceIte, reduceCtorEq, forall_apply_eq_imp_iff₂, ints, rows, rat, rats, toNat_cast]
                  have hHa : (H.all fun g => decide (leR x.v g)) = true := by
                    rw [List.all_eq_true]
                    intro y hy
                    exact decide_eq_true (hall2 y (by rw [List.take_of_length_le (by omega)]; exact hy))
                  rw [hHa]
    · have hb2 : isMixB x.c r0.length = false := by simpa using hb2
      rw [isSolB, hwid, hb2]; simp
  · have hb1 : isMixB x.r m.length = false := by simpa using hb1
    rw [isSolB, hb1]; simp
end Go.Ab

/- Contracts: IsMatrixSolution; solutions as arguments. -/
set_option linter.unusedSimpArgs false
set_option linter.unusedVariables false
namespace Go.Ab
open Go.Proofs

def imsB (m : List (List Int)) (x : Sol) : Bool := isMat m && isSolB m x
theorem impl_IsMatrixSolution_ok (m : List (List Int)) (hml : m.length ≤ 1000000000000) (hmr : ∀ r ∈ m, r.length ≤ 1000000000000) (x : Sol) (hr : x.r.length ≤ 1000000000000) (hc : x.c.length ≤ 1000000000000) : Pure Try.prog 37 [rows m, solT x] (.b (imsB m x)) := by
  refine fun_impl_IsMatrixSolution (by simp) ?_
  simp -implicitDefEqProofs only [go_sem, List.reduceReplicate, Nat.reduceEqDiff, Nat.reduceAdd, Nat.reduceLeDiff, Nat.reduceMul, Nat.reduceSub, Nat.reduceDiv, Int.reduceToNat, Nat.reduceLT, Int.reduceLT, Int.reduceLE, ↓reduceIte, reduceCtorEq, forall_apply_eq_imp_iff₂, ints, rows, rat, rats, toNat_cast, c_impl_IsMatrixSolution, solT]
  refine CallW.pure (impl_IsMatrix_ok m (by omega) hmr) [] rfl Try.call67 ?_ (by first | trivial | simp [T.noSh, T.noShL, rat]) rfl ?_
  · simp -implicitDefEqProofs only [Int.natCast_zero, Int.cast_ofNat_Int, Int.natCast_one, Nat.le_refl, Nat.reduceLeDiff, Nat.sub_self, Nat.reduceSub, List.getElem?_cons_zero, List.getElem?_cons_succ, vt_self, vaL, vtL, va, vt, vb, maT, List.cons_append, List.nil_append, List.append_nil, true_or, or_true, go_sem, List.reduceReplicate, Nat.reduceEqDiff, Nat.reduceAdd, Nat.reduceLeDiff, Nat.reduceMul, Nat.reduceSub, Nat.reduceDiv, Int.reduceToNat, Nat.reduceLT, Int.reduceLT, Int.reduceLE, ↓reduceIte, reduceCtorEq, ints, rows, rat, rats, ratsO, toShL_ratC, List.mem_cons, List.mem_nil_iff, List.not_mem_nil, or_false, false_or, exists_eq_left, exists_eq_left', exists_eq_right', Root.live.injEq, eq_self_iff_true, exists_eq, and_true, T.toSh, toShL_ints, toShL_intsO, intsO, rowsO]
  simp -implicitDefEqProofs only [go_sem, List.reduceReplicate, Nat.reduceEqDiff, Nat.reduceAdd, Nat.reduceLeDiff, Nat.reduceMul, Nat.reduceSub, Nat.reduceDiv, Int.reduceToNat, Nat.reduceLT, Int.reduceLT, Int.reduceLE, ↓reduceIte, reduceCtorEq, forall_apply_eq_imp_iff₂, ints, rows, rat, rats, toNat_cast]
  refine ⟨fun hm => ?_, fun hm => ?_⟩
  · have hm : isMat m = true := by simpa using hm
    have hp := impl_isSolution_ok m hm x hr hc
    simp only [solT, rats] at hp
    refine CallW.pure hp [] rfl Try.call117 ?_ (by first | trivial | simp [T.noSh, T.noShL, rat]) rfl ?_
    · simp -implicitDefEqProofs only [Int.natCast_zero, Int.cast_ofNat_Int, Int.natCast_one, Nat.le_refl, Nat.reduceLeDiff, Nat.sub_self, Nat.reduceSub, List.getElem?_cons_zero, List.getElem?_cons_succ, vt_self, vaL, vtL, va, vt, vb, maT, List.cons_append, List.nil_append, List.append_nil, true_or, or_true, go_sem, List.reduceReplicate, Nat.reduceEqDiff, Nat.reduceAdd, Nat.reduceLeDiff, Nat.reduceMul, Nat.reduceSub, Nat.reduceDiv, Int.reduceToNat, Nat.reduceLT, Int.reduceLT, Int.reduceLE, ↓reduceIte, reduceCtorEq, ints, rows, rat, rats, ratsO, toShL_ratC, List.mem_cons, List.mem_nil_iff, List.not_mem_nil, or_false, false_or, exists_eq_left, exists_eq_left', exists_eq_right', Root.live.injEq, eq_self_iff_true, exists_eq, and_true, T.toSh, toShL_ints, toShL_intsO, intsO, rowsO]
    simp -implicitDefEqProofs only [go_sem, List.reduceReplicate, Nat.reduceEqDiff, Nat.reduceAdd, Nat.reduceLeDiff, Nat.reduceMul, Nat.reduceSub, Nat.reduceDiv, Int.reduceToNat, Nat.reduceLT, Int.reduceLT, Int.reduceLE, ↓reduceIte, reduceCtorEq, forall_apply_eq_imp_iff₂, ints, rows, rat, rats, toNat_cast]
    rw [imsB, hm]; rfl
  · have hm : isMat m = false := by simpa using hm
    rw [imsB, hm]; rfl
theorem spec_IsMatrixSolution_ok (m : List (List Int)) (x : Sol) (hr : x.r.length ≤ 1000000000000) (hc : x.c.length ≤ 1000000000000) : Pure Try.prog 34 [rows m, solT x] (.b (imsB m x)) := by
  refine fun_spec_IsMatrixSolution (by simp) ?_
  simp -implicitDefEqProofs only [go_sem, List.reduceReplicate, Nat.reduceEqDiff, Nat.reduceAdd, Nat.reduceLeDiff, Nat.reduceMul, Nat.reduceSub, Nat.reduceDiv, Int.reduceToNat, Nat.reduceLT, Int.reduceLT, Int.reduceLE, ↓reduceIte, reduceCtorEq, forall_apply_eq_imp_iff₂, ints, rows, rat, rats, toNat_cast, c_spec_IsMatrixSolution, solT]
  refine CallW.pure (spec_IsMatrix_ok m) [] rfl Try.call68 ?_ (by first | trivial | simp [T.noSh, T.noShL, rat]) rfl ?_
  · simp -implicitDefEqProofs only [Int.natCast_zero, Int.cast_ofNat_Int, Int.natCast_one, Nat.le_refl, Nat.reduceLeDiff, Nat.sub_self, Nat.reduceSub, List.getElem?_cons_zero, List.getElem?_cons_succ, vt_self, vaL, vtL, va, vt, vb, maT, List.cons_append, List.nil_append, List.append_nil, true_or, or_true, go_sem, List.reduceReplicate, Nat.reduceEqDiff, Nat.reduceAdd, Nat.reduceLeDiff, Nat.reduceMul, Nat.reduceSub, Nat.reduceDiv, Int.reduceToNat, Nat.reduceLT, Int.reduceLT, Int.reduceLE, ↓reduceIte, reduceCtorEq, ints, rows, rat, rats, ratsO, toShL_ratC, List.mem_cons, List.mem_nil_iff, List.not_mem_nil, or_false, false_or, exists_eq_left, exists_eq_left', exists_eq_right', Root.live.injEq, eq_self_iff_true, exists_eq, and_true, T.toSh, toShL_ints, toShL_intsO, intsO, rowsO]
  simp -implicitDefEqProofs only [go_sem, List.reduceReplicate, Nat.reduceEqDiff, Nat.reduceAdd, Nat.reduceLeDiff, Nat.reduceMul, Nat.reduceSub, Nat.reduceDiv, Int.reduceToNat, Nat.reduceLT, Int.reduceLT, Int.reduceLE, ↓reduceIte, reduceCtorEq, forall_apply_eq_imp_iff₂, ints, rows, rat, rats, toNat_cast]
  refine ⟨fun hm => ?_, fun hm => ?_⟩
  · have hm : isMat m = true := by simpa using hm
    have hp := spec_l27Is_ok m hm x hr hc
    simp only [solT, rats] at hp
    refine CallW.pure hp [] rfl Try.call113 ?_ (by first | trivial | simp [T.noSh, T.noShL, rat]) rfl ?_
    · simp -implicitDefEqProofs only [Int.natCast_zero, Int.cast_ofNat_Int, Int.natCast_one, Nat.le_refl, Nat.reduceLeDiff, Nat.sub_self, Nat.reduceSub, List.getElem?_cons_zero, List.getElem?_cons_succ, vt_self, vaL, vtL, va, vt, vb, maT, List.cons_append, List.nil_append, List.append_nil, true_or, or_true, go_sem, List.reduceReplicate, Nat.reduceEqDiff, Nat.reduceAdd, Nat.reduceLeDiff, Nat.reduceMul, Nat.reduceSub, Nat.reduceDiv, Int.reduceToNat, Nat.reduceLT, Int.reduceLT, Int.reduceLE, ↓reduceIte, reduceCtorEq, ints, rows, rat, rats, ratsO, toShL_ratC, List.mem_cons, List.mem_nil_iff, List.not_mem_nil, or_false, false_or, exists_eq_left, exists_eq_left', exists_eq_right', Root.live.injEq, eq_self_iff_true, exists_eq, and_true, T.toSh, toShL_ints, toShL_intsO, intsO, rowsO]
    simp -implicitDefEqProofs only [go_sem, List.reduceReplicate, Nat.reduceEqDiff, Nat.reduceAdd, Nat.reduceLeDiff, Nat.reduceMul, Nat.reduceSub, Nat.reduceDiv, Int.reduceToNat, Nat.reduceLT, Int.reduceLT, Int.reduceLE, ↓reduceIte, reduceCtorEq, forall_apply_eq_imp_iff₂, ints, rows, rat, rats, toNat_cast]
    rw [imsB, hm]; rfl
  · have hm : isMat m = false := by simpa using hm
    rw [imsB, hm]; rfl

theorem laws_toSolution_ok (x : Sol) (hr : (x.r.length : Int) ≤ 1000000000000) (hc : (x.c.length : Int) ≤ 1000000000000) : Fun Try.prog 36 [] [.t (solT x)] fun o r => o = [] ∧ r = solO x := by
  refine fun_laws_toSolution (by simp) ?_
  simp -implicitDefEqProofs only [go_sem, List.reduceReplicate, Nat.reduceEqDiff, Nat.reduceAdd, Nat.reduceLeDiff, Nat.reduceMul, Nat.reduceSub, Nat.reduceDiv, Int.reduceToNat, Nat.reduceLT, Int.reduceLT, Int.reduceLE, ↓reduceIte, reduceCtorEq, forall_apply_eq_imp_iff₂, ints, rows, rat, rats, toNat_cast, c_laws_toSolution, solT]
  refine CallW.res (laws_toRatioS_ok x.r hr) [] rfl Try.call115 ?_ (.inl rfl) ?_
  · simp -implicitDefEqProofs only [Int.natCast_zero, Int.cast_ofNat_Int, Int.natCast_one, Nat.le_refl, Nat.reduceLeDiff, Nat.sub_self, Nat.reduceSub, List.getElem?_cons_zero, List.getElem?_cons_succ, vt_self, vaL, vtL, va, vt, vb, maT, List.cons_append, List.nil_append, List.append_nil, true_or, or_true, go_sem, List.reduceReplicate, Nat.reduceEqDiff, Nat.reduceAdd, Nat.reduceLeDiff, Nat.reduceMul, Nat.reduceSub, Nat.reduceDiv, Int.reduceToNat, Nat.reduceLT, Int.reduceLT, Int.reduceLE, ↓reduceIte, reduceCtorEq, ints, rows, rat, rats, ratsO, toShL_ratC, List.mem_cons, List.mem_nil_iff, List.not_mem_nil, or_false, false_or, exists_eq_left, exists_eq_left', exists_eq_right', Root.live.injEq, eq_self_iff_true, exists_eq, and_true, T.toSh, toShL_ints, toShL_intsO, intsO, rowsO]
  simp -implicitDefEqProofs only [List.append_nil, List.cons_append, Nat.reduceLeDiff, afterCall, absT_rowsO, absT_intsO, absT, absL, updL, updS, freeAll, rid, T.noSh, T.noShL, Nat.zero_le, go_sem, List.reduceReplicate, Nat.reduceEqDiff, Nat.reduceAdd, Nat.reduceLeDiff, Nat.reduceMul, Nat.reduceSub, Nat.reduceDiv, Int.reduceToNat, Nat.reduceLT, Int.reduceLT, Int.reduceLE, ↓reduceIte, reduceCtorEq, rat, forall_apply_eq_imp_iff₂, toNat_cast]
  refine CallW.res (laws_toRatioS_ok x.c hc) [] rfl Try.call115 ?_ (.inl rfl) ?_
  · simp -implicitDefEqProofs only [Int.natCast_zero, Int.cast_ofNat_Int, Int.natCast_one, Nat.le_refl, Nat.reduceLeDiff, Nat.sub_self, Nat.reduceSub, List.getElem?_cons_zero, List.getElem?_cons_succ, vt_self, vaL, vtL, va, vt, vb, maT, List.cons_append, List.nil_append, List.append_nil, true_or, or_true, go_sem, List.reduceReplicate, Nat.reduceEqDiff, Nat.reduceAdd, Nat.reduceLeDiff, Nat.reduceMul, Nat.reduceSub, Nat.reduceDiv, Int.reduceToNat, Nat.reduceLT, Int.reduceLT, Int.reduceLE, ↓reduceIte, reduceCtorEq, ints, rows, rat, rats, ratsO, toShL_ratC, List.mem_cons, List.mem_nil_iff, List.not_mem_nil, or_false, false_or, exists_eq_left, exists_eq_left', exists_eq_right', Root.live.injEq, eq_self_iff_true, exists_eq, and_true, T.toSh, toShL_ints, toShL_intsO, intsO, rowsO]
  simp -implicitDefEqProofs only [List.append_nil, List.cons_append, Nat.reduceLeDiff, afterCall, absT_rowsO, absT_intsO, absT, absL, updL, updS, freeAll, rid, T.noSh, T.noShL, Nat.zero_le, go_sem, List.reduceReplicate, Nat.reduceEqDiff, Nat.reduceAdd, Nat.reduceLeDiff, Nat.reduceMul, Nat.reduceSub, Nat.reduceDiv, Int.reduceToNat, Nat.reduceLT, Int.reduceLT, Int.reduceLE, ↓reduceIte, reduceCtorEq, rat, forall_apply_eq_imp_iff₂, toNat_cast]
  refine CallW.pure (laws_toRatio_ok x.v) [] rfl Try.call116 ?_ (by first | trivial | simp [T.noSh, T.noShL, rat]) rfl ?_
  · simp -implicitDefEqProofs only [Int.natCast_zero, Int.cast_ofNat_Int, Int.natCast_one, Nat.le_refl, Nat.reduceLeDiff, Nat.sub_self, Nat.reduceSub, List.getElem?_cons_zero, List.getElem?_cons_succ, vt_self, vaL, vtL, va, vt, vb, maT, List.cons_append, List.nil_append, List.append_nil, true_or, or_true, go_sem, List.reduceReplicate, Nat.reduceEqDiff, Nat.reduceAdd, Nat.reduceLeDiff, Nat.reduceMul, Nat.reduceSub, Nat.reduceDiv, Int.reduceToNat, Nat.reduceLT, Int.reduceLT, Int.reduceLE, ↓reduceIte, reduceCtorEq, ints, rows, rat, rats, ratsO, toShL_ratC, List.mem_cons, List.mem_nil_iff, List.not_mem_nil, or_false, false_or, exists_eq_left, exists_eq_left', exists_eq_right', Root.live.injEq, eq_self_iff_true, exists_eq, and_true, T.toSh, toShL_ints, toShL_intsO, intsO, rowsO]
  simp -implicitDefEqProofs only [go_sem, List.reduceReplicate, Nat.reduceEqDiff, Nat.reduceAdd, Nat.reduceLeDiff, Nat.reduceMul, Nat.reduceSub, Nat.reduceDiv, Int.reduceToNat, Nat.reduceLT, Int.reduceLT, Int.reduceLE, ↓reduceIte, reduceCtorEq, forall_apply_eq_imp_iff₂, ints, rows, rat, rats, toNat_cast, ratsO, rid, List.lookup_cons, Nat.reduceBEq, beq_self_eq_true]
  rfl
theorem laws_eqSolution_ok (x y : Sol) (hr : x.r.length ≤ 1000000000000) (hc : x.c.length ≤ 1000000000000) (hr' : y.r.length ≤ 1000000000000) (hc' : y.c.length ≤ 1000000000000) : Pure Try.prog 39 [solT x, solT y] (.b (decide (x = y))) := by
  refine fun_laws_eqSolution (by simp) ?_
  simp -implicitDefEqProofs only [go_sem, List.reduceReplicate, Nat.reduceEqDiff, Nat.reduceAdd, Nat.reduceLeDiff, Nat.reduceMul, Nat.reduceSub, Nat.reduceDiv, Int.reduceToNat, Nat.reduceLT, Int.reduceLT, Int.reduceLE, ↓reduceIte, reduceCtorEq, forall_apply_eq_imp_iff₂, ints, rows, rat, rats, toNat_cast, c_laws_eqSolution, solT]
  refine CallW.pure (laws_eqRatioS_ok x.r y.r hr hr') [] rfl Try.call118 ?_ (by first | trivial | simp [T.noSh, T.noShL, rat]) rfl ?_
  · simp -implicitDefEqProofs only [Int.natCast_zero, Int.cast_ofNat_Int, Int.natCast_one, Nat.le_refl, Nat.reduceLeDiff, Nat.sub_self, Nat.reduceSub, List.getElem?_cons_zero, List.getElem?_cons_succ, vt_self, vaL, vtL, va, vt, vb, maT, List.cons_append, List.nil_append, List.append_nil, true_or, or_true, go_sem, List.reduceReplicate, Nat.reduceEqDiff, Nat.reduceAdd, Nat.reduceLeDiff, Nat.reduceMul, Nat.reduceSub, Nat.reduceDiv, Int.reduceToNat, Nat.reduceLT, Int.reduceLT, Int.reduceLE, ↓reduceIte, reduceCtorEq, ints, rows, rat, rats, ratsO, toShL_ratC, List.mem_cons, List.mem_nil_iff, List.not_mem_nil, or_false, false_or, exists_eq_left, exists_eq_left', exists_eq_right', Root.live.injEq, eq_self_iff_true, exists_eq, and_true, T.toSh, toShL_ints, toShL_intsO, intsO, rowsO]
  simp -implicitDefEqProofs only [go_sem, List.reduceReplicate, Nat.reduceEqDiff, Nat.reduceAdd, Nat.reduceLeDiff, Nat.reduceMul, Nat.reduceSub, Nat.reduceDiv, Int.reduceToNat, Nat.reduceLT, Int.reduceLT, Int.reduceLE, ↓reduceIte, reduceCtorEq, forall_apply_eq_imp_iff₂, ints, rows, rat, rats, toNat_cast]
  refine ⟨fun h1 => ?_, fun h1 => ?_⟩
  · have h1 : ¬ x.r = y.r := by simpa using h1
    rw [decide_eq_false (fun h => h1 (by rw [h]))]
  · have h1 : x.r = y.r := by simpa using h1
    refine CallW.pure (laws_eqRatioS_ok x.c y.c hc hc') [] rfl Try.call118 ?_ (by first | trivial | simp [T.noSh, T.noShL, rat]) rfl ?_
    · simp -implicitDefEqProofs only [Int.natCast_zero, Int.cast_ofNat_Int, Int.natCast_one, Nat.le_refl, Nat.reduceLeDiff, Nat.sub_self, Nat.reduceSub, List.getElem?_cons_zero, List.getElem?_cons_succ, vt_self, vaL, vtL, va, vt, vb, maT, List.cons_append, List.nil_append, List.append_nil, true_or, or_true, go_sem, List.reduceReplicate, Nat.reduceEqDiff, Nat.reduceAdd, Nat.reduceLeDiff, Nat.reduceMul, Nat.reduceSub, Nat.reduceDiv, Int.reduceToNat, Nat.reduceLT, Int.reduceLT, Int.reduceLE, ↓reduceIte, reduceCtorEq, ints, rows, rat, rats, ratsO, toShL_ratC, List.mem_cons, List.mem_nil_iff, List.not_mem_nil, or_false, false_or, exists_eq_left, exists_eq_left', exists_eq_right', Root.live.injEq, eq_self_iff_true, exists_eq, and_true, T.toSh, toShL_ints, toShL_intsO, intsO, rowsO]
    simp -implicitDefEqProofs only [go_sem, List.reduceReplicate, Nat.reduceEqDiff, Nat.reduceAdd, Nat.reduceLeDiff, Nat.reduceMul, Nat.reduceSub, Nat.reduceDiv, Int.reduceToNat, Nat.reduceLT, Int.reduceLT, Int.reduceLE, ↓reduceIte, reduceCtorEq, forall_apply_eq_imp_iff₂, ints, rows, rat, rats, toNat_cast]
    refine ⟨fun h2 => ?_, fun h2 => ?_⟩
    · have h2 : ¬ x.c = y.c := by simpa using h2
      rw [decide_eq_false (fun h => h2 (by rw [h]))]
    · have h2 : x.c = y.c := by simpa using h2
      refine CallW.pure (laws_eqRatio_ok x.v y.v) [] rfl Try.call78 ?_ (by first | trivial | simp [T.noSh, T.noShL, rat]) rfl ?_
      · simp -implicitDefEqProofs only [Int.natCast_zero, Int.cast_ofNat_Int, Int.natCast_one, Nat.le_refl, Nat.reduceLeDiff, Nat.sub_self, Nat.reduceSub, List.getElem?_cons_zero, List.getElem?_cons_succ, vt_self, vaL, vtL, va, vt, vb, maT, List.cons_append, List.nil_append, List.append_nil, true_or, or_true, go_sem, List.reduceReplicate, Nat.reduceEqDiff, Nat.reduceAdd, Nat.reduceLeDiff, Nat.reduceMul, Nat.reduceSub, Nat.reduceDiv, Int.reduceToNat, Nat.reduceLT, Int.reduceLT, Int.reduceLE, ↓reduceIte, reduceCtorEq, ints, rows, rat, rats, ratsO, toShL_ratC, List.mem_cons, List.mem_nil_iff, List.not_mem_nil, or_false, false_or, exists_eq_left, exists_eq_left', exists_eq_right', Root.live.injEq, eq_self_iff_true, exists_eq, and_true, T.toSh, toShL_ints, toShL_intsO, intsO, rowsO]
      simp -implicitDefEqProofs only [go_sem, List.reduceReplicate, Nat.reduceEqDiff, Nat.reduceAdd, Nat.reduceLeDiff, Nat.reduceMul, Nat.reduceSub, Nat.reduceDiv, Int.reduceToNat, Nat.reduceLT, Int.reduceLT, Int.reduceLE, ↓reduceIte, reduceCtorEq, forall_apply_eq_imp_iff₂, ints, rows, rat, rats, toNat_cast]
      refine ⟨fun h3 => ?_, fun h3 => ?_⟩
      · have h3 : ¬ x.v = y.v := by simpa using h3
        rw [decide_eq_false (fun h => h3 (by rw [h]))]
      · have h3 : x.v = y.v := by simpa using h3
        rw [decide_eq_true (by cases x; cases y; simp_all)]
theorem budget_le' (n : Nat) {left : Int} (h0 : -1 ≤ left) : -1 ≤ budget n left ∧ budget n left ≤ max left (-1) := by
  unfold budget; split <;> omega
theorem laws_szSolution_ok (x : Sol) (left : Int) (hr : (x.r.length : Int) ≤ 9223372036854775807) (hc : (x.c.length : Int) ≤ 9223372036854775807) (h0 : -1 ≤ left) (h1 : left ≤ 9223372036854775807) : Pure Try.prog 33 [solT x, .i left] (.i (if budget x.r.length left < 0 then -1 else if budget x.c.length (budget x.r.length left) < 0 then -1 else budget x.c.length (budget x.r.length left))) := by
  refine fun_laws_szSolution (by simp) ?_
  simp -implicitDefEqProofs only [go_sem, List.reduceReplicate, Nat.reduceEqDiff, Nat.reduceAdd, Nat.reduceLeDiff, Nat.reduceMul, Nat.reduceSub, Nat.reduceDiv, Int.reduceToNat, Nat.reduceLT, Int.reduceLT, Int.reduceLE, ↓reduceIte, reduceCtorEq, forall_apply_eq_imp_iff₂, ints, rows, rat, rats, toNat_cast, c_laws_szSolution, solT]
  refine CallW.pure (laws_szRatioS_ok x.r left hr h0 h1) [] rfl Try.call112 ?_ (by first | trivial | simp [T.noSh, T.noShL, rat]) rfl ?_
  · simp -implicitDefEqProofs only [Int.natCast_zero, Int.cast_ofNat_Int, Int.natCast_one, Nat.le_refl, Nat.reduceLeDiff, Nat.sub_self, Nat.reduceSub, List.getElem?_cons_zero, List.getElem?_cons_succ, vt_self, vaL, vtL, va, vt, vb, maT, List.cons_append, List.nil_append, List.append_nil, true_or, or_true, go_sem, List.reduceReplicate, Nat.reduceEqDiff, Nat.reduceAdd, Nat.reduceLeDiff, Nat.reduceMul, Nat.reduceSub, Nat.reduceDiv, Int.reduceToNat, Nat.reduceLT, Int.reduceLT, Int.reduceLE, ↓reduceIte, reduceCtorEq, ints, rows, rat, rats, ratsO, toShL_ratC, List.mem_cons, List.mem_nil_iff, List.not_mem_nil, or_false, false_or, exists_eq_left, exists_eq_left', exists_eq_right', Root.live.injEq, eq_self_iff_true, exists_eq, and_true, T.toSh, toShL_ints, toShL_intsO, intsO, rowsO]
  simp -implicitDefEqProofs only [go_sem, List.reduceReplicate, Nat.reduceEqDiff, Nat.reduceAdd, Nat.reduceLeDiff, Nat.reduceMul, Nat.reduceSub, Nat.reduceDiv, Int.reduceToNat, Nat.reduceLT, Int.reduceLT, Int.reduceLE, ↓reduceIte, reduceCtorEq, forall_apply_eq_imp_iff₂, ints, rows, rat, rats, toNat_cast]
  refine ⟨fun h => by rw [if_pos h], fun h => ?_⟩
  rw [if_neg h]
  have hb := budget_le' x.r.length (left := left) h0
  refine CallW.pure (laws_szRatioS_ok x.c (budget x.r.length left) hc (by omega) (by omega)) [] rfl Try.call112 ?_ (by first | trivial | simp [T.noSh, T.noShL, rat]) rfl ?_
  · simp -implicitDefEqProofs only [Int.natCast_zero, Int.cast_ofNat_Int, Int.natCast_one, Nat.le_refl, Nat.reduceLeDiff, Nat.sub_self, Nat.reduceSub, List.getElem?_cons_zero, List.getElem?_cons_succ, vt_self, vaL, vtL, va, vt, vb, maT, List.cons_append, List.nil_append, List.append_nil, true_or, or_true, go_sem, List.reduceReplicate, Nat.reduceEqDiff, Nat.reduceAdd, Nat.reduceLeDiff, Nat.reduceMul, Nat.reduceSub, Nat.reduceDiv, Int.reduceToNat, Nat.reduceLT, Int.reduceLT, Int.reduceLE, ↓reduceIte, reduceCtorEq, ints, rows, rat, rats, ratsO, toShL_ratC, List.mem_cons, List.mem_nil_iff, List.not_mem_nil, or_false, false_or, exists_eq_left, exists_eq_left', exists_eq_right', Root.live.injEq, eq_self_iff_true, exists_eq, and_true, T.toSh, toShL_ints, toShL_intsO, intsO, rowsO]
  simp -implicitDefEqProofs only [go_sem, List.reduceReplicate, Nat.reduceEqDiff, Nat.reduceAdd, Nat.reduceLeDiff, Nat.reduceMul, Nat.reduceSub, Nat.reduceDiv, Int.reduceToNat, Nat.reduceLT, Int.reduceLT, Int.reduceLE, ↓reduceIte, reduceCtorEq, forall_apply_eq_imp_iff₂, ints, rows, rat, rats, toNat_cast]
  refine ⟨fun h2 => by rw [if_pos h2], fun h2 => by rw [if_neg h2]⟩
end Go.Ab

/- The law FnExactIsMatrixSolution, as a contract. -/
set_option linter.unusedSimpArgs false
set_option linter.unusedVariables false
namespace Go.Ab
open Go.Proofs

def tySol : Ty := .st (.cons tyRats (.cons tyRats (.cons tyRat .nil)))
theorem wt_sol {x : T} (h : tySol.wtV x) : ∃ s : Sol, x = solT s ∧ s.r.length ≤ 9223372036854775807 ∧ s.c.length ≤ 9223372036854775807 := by
  obtain ⟨l, rfl, l1, r1, rfl, h1, l2, r2, rfl, h2, l3, r3, rfl, h3, rfl⟩ := h
  have e1 : ∃ y, l1 = [y] := by obtain ⟨xs, rfl, _⟩ := h1; exact ⟨_, rfl⟩
  have e2 : ∃ y, l2 = [y] := by obtain ⟨xs, rfl, _⟩ := h2; exact ⟨_, rfl⟩
  obtain ⟨y1, rfl⟩ := e1
  obtain ⟨y2, rfl⟩ := e2
  obtain ⟨r, rfl, hr, _⟩ := wt_rats h1
  obtain ⟨c, rfl, hc, _⟩ := wt_rats h2
  obtain ⟨v, rfl, _⟩ := wt_rat h3
  exact ⟨⟨r, c, v⟩, rfl, hr, hc⟩
theorem laws_FnExactIsMatrixSolution_ok (m : List (List Int)) (hm : (m.length : Int) ≤ 9223372036854775807) (hmr : ∀ r ∈ m, (r.length : Int) ≤ 9223372036854775807) (x : Sol) (hr : (x.r.length : Int) ≤ 9223372036854775807) (hc : (x.c.length : Int) ≤ 9223372036854775807) : Pure Try.prog 5 [rows m, solT x] (.b true) := by
  refine fun_laws_FnExactIsMatrixSolution (by simp) ?_
  simp -implicitDefEqProofs only [go_sem, List.reduceReplicate, Nat.reduceEqDiff, Nat.reduceAdd, Nat.reduceLeDiff, Nat.reduceMul, Nat.reduceSub, Nat.reduceDiv, Int.reduceToNat, Nat.reduceLT, Int.reduceLT, Int.reduceLE, ↓reduceIte, reduceCtorEq, forall_apply_eq_imp_iff₂, ints, rows, rat, rats, toNat_cast, c_laws_FnExactIsMatrixSolution, solT]
  refine CallW.pure (laws_szInt64SS_ok m 1048576 hm hmr (by omega) (by omega)) [] rfl Try.call32 ?_ (by first | trivial | simp [T.noSh, T.noShL, rat]) rfl ?_
  · simp -implicitDefEqProofs only [Int.natCast_zero, Int.cast_ofNat_Int, Int.natCast_one, Nat.le_refl, Nat.reduceLeDiff, Nat.sub_self, Nat.reduceSub, List.getElem?_cons_zero, List.getElem?_cons_succ, vt_self, vaL, vtL, va, vt, vb, maT, List.cons_append, List.nil_append, List.append_nil, true_or, or_true, go_sem, List.reduceReplicate, Nat.reduceEqDiff, Nat.reduceAdd, Nat.reduceLeDiff, Nat.reduceMul, Nat.reduceSub, Nat.reduceDiv, Int.reduceToNat, Nat.reduceLT, Int.reduceLT, Int.reduceLE, ↓reduceIte, reduceCtorEq, ints, rows, rat, rats, ratsO, toShL_ratC, List.mem_cons, List.mem_nil_iff, List.not_mem_nil, or_false, false_or, exists_eq_left, exists_eq_left', exists_eq_right', Root.live.injEq, eq_self_iff_true, exists_eq, and_true, T.toSh, toShL_ints, toShL_intsO, intsO, rowsO]
  simp -implicitDefEqProofs only [go_sem, List.reduceReplicate, Nat.reduceEqDiff, Nat.reduceAdd, Nat.reduceLeDiff, Nat.reduceMul, Nat.reduceSub, Nat.reduceDiv, Int.reduceToNat, Nat.reduceLT, Int.reduceLT, Int.reduceLE, ↓reduceIte, reduceCtorEq, forall_apply_eq_imp_iff₂, ints, rows, rat, rats, toNat_cast]
  refine ⟨fun _ => trivial, fun hb0 => ?_⟩
  obtain ⟨hm1, hmr1⟩ := budgetMat_ok (m := m) (left := 1048576) (by omega) (by omega)
  have hmb := budgetMat_le (m := m) (left := 1048576) (by omega)
  have hm2 : (m.length : Int) ≤ 1000000000000 := by omega
  have hmr2 : ∀ r ∈ m, (r.length : Int) ≤ 1000000000000 := fun r h => by have := hmr1 r h; omega
  have hmr3 : ∀ r ∈ m, r.length ≤ 1000000000000 := fun r h => by have := hmr1 r h; omega
  have hsz := laws_szSolution_ok x (budgetMat m 1048576) hr hc (by omega) (by omega)
  simp only [solT, rats] at hsz
  refine CallW.pure hsz [] rfl Try.call33 ?_ (by first | trivial | simp [T.noSh, T.noShL, rat]) rfl ?_
  · simp -implicitDefEqProofs only [Int.natCast_zero, Int.cast_ofNat_Int, Int.natCast_one, Nat.le_refl, Nat.reduceLeDiff, Nat.sub_self, Nat.reduceSub, List.getElem?_cons_zero, List.getElem?_cons_succ, vt_self, vaL, vtL, va, vt, vb, maT, List.cons_append, List.nil_append, List.append_nil, true_or, or_true, go_sem, List.reduceReplicate, Nat.reduceEqDiff, Nat.reduceAdd, Nat.reduceLeDiff, Nat.reduceMul, Nat.reduceSub, Nat.reduceDiv, Int.reduceToNat, Nat.reduceLT, Int.reduceLT, Int.reduceLE, ↓reduceIte, reduceCtorEq, ints, rows, rat, rats, ratsO, toShL_ratC, List.mem_cons, List.mem_nil_iff, List.not_mem_nil, or_false, false_or, exists_eq_left, exists_eq_left', exists_eq_right', Root.live.injEq, eq_self_iff_true, exists_eq, and_true, T.toSh, toShL_ints, toShL_intsO, intsO, rowsO]
  simp -implicitDefEqProofs only [go_sem, List.reduceReplicate, Nat.reduceEqDiff, Nat.reduceAdd, Nat.reduceLeDiff, Nat.reduceMul, Nat.reduceSub, Nat.reduceDiv, Int.reduceToNat, Nat.reduceLT, Int.reduceLT, Int.reduceLE, ↓reduceIte, reduceCtorEq, forall_apply_eq_imp_iff₂, ints, rows, rat, rats, toNat_cast]
  refine ⟨fun _ => trivial, fun hb1 => ?_⟩
  have hx1 : (x.r.length : Int) ≤ 1048576 ∧ (x.c.length : Int) ≤ 1048576 := by
    split at hb1
    · omega
    · rename_i h1
      obtain ⟨q1, q2⟩ := budget_ok (n := x.r.length) (left := budgetMat m 1048576) (by omega) (by omega)
      split at hb1
      · omega
      · rename_i h2
        obtain ⟨q3, q4⟩ := budget_ok (n := x.c.length) (left := budget x.r.length (budgetMat m 1048576)) (by omega) (by omega)
        omega
  have hto := laws_toSolution_ok x (by omega) (by omega)
  simp only [solT, solO, rats, ratsO] at hto
  have hsp := spec_IsMatrixSolution_ok m x (by omega) (by omega)
  simp only [solT, rats] at hsp
  have him := impl_IsMatrixSolution_ok m (by omega) hmr3 x (by omega) (by omega)
  simp only [solT, rats] at him
  have heq := laws_eqSolution_ok x x (by omega) (by omega) (by omega) (by omega)
  simp only [solT, rats] at heq
  refine CallC.res (laws_toInt64SS_ok m hm2 hmr2) [] rfl Try.call35 (fun e R' hR => ?_) (.inl rfl) ?_
  · simp -implicitDefEqProofs only [Int.natCast_zero, Int.cast_ofNat_Int, Int.natCast_one, Nat.le_refl, Nat.reduceLeDiff, Nat.sub_self, Nat.reduceSub, List.getElem?_cons_zero, List.getElem?_cons_succ, vt_self, vaL, vtL, va, vt, vb, maT, List.cons_append, List.nil_append, List.append_nil, true_or, or_true, go_sem, List.reduceReplicate, Nat.reduceEqDiff, Nat.reduceAdd, Nat.reduceLeDiff, Nat.reduceMul, Nat.reduceSub, Nat.reduceDiv, Int.reduceToNat, Nat.reduceLT, Int.reduceLT, Int.reduceLE, ↓reduceIte, reduceCtorEq, ints, rows, rat, rats, ratsO, toShL_ratC, List.mem_cons, List.mem_nil_iff, List.not_mem_nil, or_false, false_or, exists_eq_left, exists_eq_left', exists_eq_right', Root.live.injEq, eq_self_iff_true, exists_eq, and_true, T.toSh, toShL_ints, toShL_intsO, intsO, rowsO]
  simp -implicitDefEqProofs only [List.append_nil, List.cons_append, Nat.reduceLeDiff, afterCall, absT_rowsO, absT_intsO, absT, absL, updL, updS, freeAll, rid, T.noSh, T.noShL, Nat.zero_le, go_sem, List.reduceReplicate, Nat.reduceEqDiff, Nat.reduceAdd, Nat.reduceLeDiff, Nat.reduceMul, Nat.reduceSub, Nat.reduceDiv, Int.reduceToNat, Nat.reduceLT, Int.reduceLT, Int.reduceLE, ↓reduceIte, reduceCtorEq, rat, forall_apply_eq_imp_iff₂, toNat_cast]
  refine CallC.res hto [] rfl Try.call36 (fun e R' hR => ?_) (.inl rfl) ?_
  · simp -implicitDefEqProofs only [Int.natCast_zero, Int.cast_ofNat_Int, Int.natCast_one, Nat.le_refl, Nat.reduceLeDiff, Nat.sub_self, Nat.reduceSub, List.getElem?_cons_zero, List.getElem?_cons_succ, vt_self, vaL, vtL, va, vt, vb, maT, List.cons_append, List.nil_append, List.append_nil, true_or, or_true, go_sem, List.reduceReplicate, Nat.reduceEqDiff, Nat.reduceAdd, Nat.reduceLeDiff, Nat.reduceMul, Nat.reduceSub, Nat.reduceDiv, Int.reduceToNat, Nat.reduceLT, Int.reduceLT, Int.reduceLE, ↓reduceIte, reduceCtorEq, ints, rows, rat, rats, ratsO, toShL_ratC, List.mem_cons, List.mem_nil_iff, List.not_mem_nil, or_false, false_or, exists_eq_left, exists_eq_left', exists_eq_right', Root.live.injEq, eq_self_iff_true, exists_eq, and_true, T.toSh, toShL_ints, toShL_intsO, intsO, rowsO]
  simp -implicitDefEqProofs only [List.append_nil, List.cons_append, Nat.reduceLeDiff, afterCall, absT_rowsO, absT_intsO, absT, absL, updL, updS, freeAll, rid, T.noSh, T.noShL, Nat.zero_le, go_sem, List.reduceReplicate, Nat.reduceEqDiff, Nat.reduceAdd, Nat.reduceLeDiff, Nat.reduceMul, Nat.reduceSub, Nat.reduceDiv, Int.reduceToNat, Nat.reduceLT, Int.reduceLT, Int.reduceLE, ↓reduceIte, reduceCtorEq, rat, forall_apply_eq_imp_iff₂, toNat_cast]
  refine CallV.pure hsp [21, 23, 24001] rfl Try.call34 (fun e R' hR => ?_) (by first | trivial | simp [T.noSh, T.noShL, rat]) (fun _ => rfl) ?_
  · have hq21 := (hR 21).resolve_left (by simp -implicitDefEqProofs only [go_sem, List.reduceReplicate, Nat.reduceEqDiff, Nat.reduceAdd, Nat.reduceLeDiff, Nat.reduceMul, Nat.reduceSub, Nat.reduceDiv, Int.reduceToNat, Nat.reduceLT, Int.reduceLT, Int.reduceLE, ↓reduceIte, reduceCtorEq, forall_apply_eq_imp_iff₂, ints, rows, rat, rats, toNat_cast, not_false_eq_true]); have hq23 := (hR 23).resolve_left (by simp -implicitDefEqProofs only [go_sem, List.reduceReplicate, Nat.reduceEqDiff, Nat.reduceAdd, Nat.reduceLeDiff, Nat.reduceMul, Nat.reduceSub, Nat.reduceDiv, Int.reduceToNat, Nat.reduceLT, Int.reduceLT, Int.reduceLE, ↓reduceIte, reduceCtorEq, forall_apply_eq_imp_iff₂, ints, rows, rat, rats, toNat_cast, not_false_eq_true]); have hq24001 := (hR 24001).resolve_left (by simp -implicitDefEqProofs only [go_sem, List.reduceReplicate, Nat.reduceEqDiff, Nat.reduceAdd, Nat.reduceLeDiff, Nat.reduceMul, Nat.reduceSub, Nat.reduceDiv, Int.reduceToNat, Nat.reduceLT, Int.reduceLT, Int.reduceLE, ↓reduceIte, reduceCtorEq, forall_apply_eq_imp_iff₂, ints, rows, rat, rats, toNat_cast, not_false_eq_true])
    simp -implicitDefEqProofs only [go_sem, List.reduceReplicate, Nat.reduceEqDiff, Nat.reduceAdd, Nat.reduceLeDiff, Nat.reduceMul, Nat.reduceSub, Nat.reduceDiv, Int.reduceToNat, Nat.reduceLT, Int.reduceLT, Int.reduceLE, ↓reduceIte, reduceCtorEq, forall_apply_eq_imp_iff₂, ints, rows, rat, rats, toNat_cast] at hq21 hq23 hq24001
    simp -implicitDefEqProofs only [Int.natCast_zero, Int.cast_ofNat_Int, Int.natCast_one, Nat.le_refl, Nat.reduceLeDiff, Nat.sub_self, Nat.reduceSub, List.getElem?_cons_zero, List.getElem?_cons_succ, vt_self, vaL, vtL, va, vt, vb, maT, List.cons_append, List.nil_append, List.append_nil, true_or, or_true, go_sem, List.reduceReplicate, Nat.reduceEqDiff, Nat.reduceAdd, Nat.reduceLeDiff, Nat.reduceMul, Nat.reduceSub, Nat.reduceDiv, Int.reduceToNat, Nat.reduceLT, Int.reduceLT, Int.reduceLE, ↓reduceIte, reduceCtorEq, ints, rows, rat, rats, ratsO, toShL_ratC, List.mem_cons, List.mem_nil_iff, List.not_mem_nil, or_false, false_or, exists_eq_left, exists_eq_left', exists_eq_right', Root.live.injEq, eq_self_iff_true, exists_eq, and_true, T.toSh, toShL_ints, toShL_intsO, intsO, rowsO, hq21, hq23, hq24001]
  simp -implicitDefEqProofs only [go_sem, List.reduceReplicate, Nat.reduceEqDiff, Nat.reduceAdd, Nat.reduceLeDiff, Nat.reduceMul, Nat.reduceSub, Nat.reduceDiv, Int.reduceToNat, Nat.reduceLT, Int.reduceLT, Int.reduceLE, ↓reduceIte, reduceCtorEq, forall_apply_eq_imp_iff₂, ints, rows, rat, rats, toNat_cast]
  refine CallW.res (laws_toInt64SS_ok m hm2 hmr2) [] rfl Try.call35 ?_ (.inl rfl) ?_
  · simp -implicitDefEqProofs only [Int.natCast_zero, Int.cast_ofNat_Int, Int.natCast_one, Nat.le_refl, Nat.reduceLeDiff, Nat.sub_self, Nat.reduceSub, List.getElem?_cons_zero, List.getElem?_cons_succ, vt_self, vaL, vtL, va, vt, vb, maT, List.cons_append, List.nil_append, List.append_nil, true_or, or_true, go_sem, List.reduceReplicate, Nat.reduceEqDiff, Nat.reduceAdd, Nat.reduceLeDiff, Nat.reduceMul, Nat.reduceSub, Nat.reduceDiv, Int.reduceToNat, Nat.reduceLT, Int.reduceLT, Int.reduceLE, ↓reduceIte, reduceCtorEq, ints, rows, rat, rats, ratsO, toShL_ratC, List.mem_cons, List.mem_nil_iff, List.not_mem_nil, or_false, false_or, exists_eq_left, exists_eq_left', exists_eq_right', Root.live.injEq, eq_self_iff_true, exists_eq, and_true, T.toSh, toShL_ints, toShL_intsO, intsO, rowsO]
  simp -implicitDefEqProofs only [List.append_nil, List.cons_append, Nat.reduceLeDiff, afterCall, absT_rowsO, absT_intsO, absT, absL, updL, updS, freeAll, rid, T.noSh, T.noShL, Nat.zero_le, go_sem, List.reduceReplicate, Nat.reduceEqDiff, Nat.reduceAdd, Nat.reduceLeDiff, Nat.reduceMul, Nat.reduceSub, Nat.reduceDiv, Int.reduceToNat, Nat.reduceLT, Int.reduceLT, Int.reduceLE, ↓reduceIte, reduceCtorEq, rat, forall_apply_eq_imp_iff₂, toNat_cast]
  refine CallW.res hto [] rfl Try.call36 ?_ (.inl rfl) ?_
  · simp -implicitDefEqProofs only [Int.natCast_zero, Int.cast_ofNat_Int, Int.natCast_one, Nat.le_refl, Nat.reduceLeDiff, Nat.sub_self, Nat.reduceSub, List.getElem?_cons_zero, List.getElem?_cons_succ, vt_self, vaL, vtL, va, vt, vb, maT, List.cons_append, List.nil_append, List.append_nil, true_or, or_true, go_sem, List.reduceReplicate, Nat.reduceEqDiff, Nat.reduceAdd, Nat.reduceLeDiff, Nat.reduceMul, Nat.reduceSub, Nat.reduceDiv, Int.reduceToNat, Nat.reduceLT, Int.reduceLT, Int.reduceLE, ↓reduceIte, reduceCtorEq, ints, rows, rat, rats, ratsO, toShL_ratC, List.mem_cons, List.mem_nil_iff, List.not_mem_nil, or_false, false_or, exists_eq_left, exists_eq_left', exists_eq_right', Root.live.injEq, eq_self_iff_true, exists_eq, and_true, T.toSh, toShL_ints, toShL_intsO, intsO, rowsO]
  simp -implicitDefEqProofs only [List.append_nil, List.cons_append, Nat.reduceLeDiff, afterCall, absT_rowsO, absT_intsO, absT, absL, updL, updS, freeAll, rid, T.noSh, T.noShL, Nat.zero_le, go_sem, List.reduceReplicate, Nat.reduceEqDiff, Nat.reduceAdd, Nat.reduceLeDiff, Nat.reduceMul, Nat.reduceSub, Nat.reduceDiv, Int.reduceToNat, Nat.reduceLT, Int.reduceLT, Int.reduceLE, ↓reduceIte, reduceCtorEq, rat, forall_apply_eq_imp_iff₂, toNat_cast, List.lookup_cons, Nat.reduceBEq, beq_self_eq_true, rid]
  refine CallW.pure him [26, 31001, 31002] rfl Try.call37 ?_ (by first | trivial | simp [T.noSh, T.noShL, rat]) rfl ?_
  · simp -implicitDefEqProofs only [Int.natCast_zero, Int.cast_ofNat_Int, Int.natCast_one, Nat.le_refl, Nat.reduceLeDiff, Nat.sub_self, Nat.reduceSub, List.getElem?_cons_zero, List.getElem?_cons_succ, vt_self, vaL, vtL, va, vt, vb, maT, List.cons_append, List.nil_append, List.append_nil, true_or, or_true, go_sem, List.reduceReplicate, Nat.reduceEqDiff, Nat.reduceAdd, Nat.reduceLeDiff, Nat.reduceMul, Nat.reduceSub, Nat.reduceDiv, Int.reduceToNat, Nat.reduceLT, Int.reduceLT, Int.reduceLE, ↓reduceIte, reduceCtorEq, ints, rows, rat, rats, ratsO, toShL_ratC, List.mem_cons, List.mem_nil_iff, List.not_mem_nil, or_false, false_or, exists_eq_left, exists_eq_left', exists_eq_right', Root.live.injEq, eq_self_iff_true, exists_eq, and_true, T.toSh, toShL_ints, toShL_intsO, intsO, rowsO]
  simp -implicitDefEqProofs only [go_sem, List.reduceReplicate, Nat.reduceEqDiff, Nat.reduceAdd, Nat.reduceLeDiff, Nat.reduceMul, Nat.reduceSub, Nat.reduceDiv, Int.reduceToNat, Nat.reduceLT, Int.reduceLT, Int.reduceLE, ↓reduceIte, reduceCtorEq, forall_apply_eq_imp_iff₂, ints, rows, rat, rats, toNat_cast]
  refine CallW.res (laws_toInt64SS_ok m hm2 hmr2) [] rfl Try.call35 ?_ (.inl rfl) ?_
  · simp -implicitDefEqProofs only [Int.natCast_zero, Int.cast_ofNat_Int, Int.natCast_one, Nat.le_refl, Nat.reduceLeDiff, Nat.sub_self, Nat.reduceSub, List.getElem?_cons_zero, List.getElem?_cons_succ, vt_self, vaL, vtL, va, vt, vb, maT, List.cons_append, List.nil_append, List.append_nil, true_or, or_true, go_sem, List.reduceReplicate, Nat.reduceEqDiff, Nat.reduceAdd, Nat.reduceLeDiff, Nat.reduceMul, Nat.reduceSub, Nat.reduceDiv, Int.reduceToNat, Nat.reduceLT, Int.reduceLT, Int.reduceLE, ↓reduceIte, reduceCtorEq, ints, rows, rat, rats, ratsO, toShL_ratC, List.mem_cons, List.mem_nil_iff, List.not_mem_nil, or_false, false_or, exists_eq_left, exists_eq_left', exists_eq_right', Root.live.injEq, eq_self_iff_true, exists_eq, and_true, T.toSh, toShL_ints, toShL_intsO, intsO, rowsO]
  simp -implicitDefEqProofs only [List.append_nil, List.cons_append, Nat.reduceLeDiff, afterCall, absT_rowsO, absT_intsO, absT, absL, updL, updS, freeAll, rid, T.noSh, T.noShL, Nat.zero_le, go_sem, List.reduceReplicate, Nat.reduceEqDiff, Nat.reduceAdd, Nat.reduceLeDiff, Nat.reduceMul, Nat.reduceSub, Nat.reduceDiv, Int.reduceToNat, Nat.reduceLT, Int.reduceLT, Int.reduceLE, ↓reduceIte, reduceCtorEq, rat, forall_apply_eq_imp_iff₂, toNat_cast]
  refine CallW.pure (laws_eqInt64SS_ok m m (by omega) (by omega) hmr3 hmr3) [26, 37] rfl Try.call38 ?_ (by first | trivial | simp [T.noSh, T.noShL, rat]) rfl ?_
  · simp -implicitDefEqProofs only [Int.natCast_zero, Int.cast_ofNat_Int, Int.natCast_one, Nat.le_refl, Nat.reduceLeDiff, Nat.sub_self, Nat.reduceSub, List.getElem?_cons_zero, List.getElem?_cons_succ, vt_self, vaL, vtL, va, vt, vb, maT, List.cons_append, List.nil_append, List.append_nil, true_or, or_true, go_sem, List.reduceReplicate, Nat.reduceEqDiff, Nat.reduceAdd, Nat.reduceLeDiff, Nat.reduceMul, Nat.reduceSub, Nat.reduceDiv, Int.reduceToNat, Nat.reduceLT, Int.reduceLT, Int.reduceLE, ↓reduceIte, reduceCtorEq, ints, rows, rat, rats, ratsO, toShL_ratC, List.mem_cons, List.mem_nil_iff, List.not_mem_nil, or_false, false_or, exists_eq_left, exists_eq_left', exists_eq_right', Root.live.injEq, eq_self_iff_true, exists_eq, and_true, T.toSh, toShL_ints, toShL_intsO, intsO, rowsO]
  simp -implicitDefEqProofs only [go_sem, List.reduceReplicate, Nat.reduceEqDiff, Nat.reduceAdd, Nat.reduceLeDiff, Nat.reduceMul, Nat.reduceSub, Nat.reduceDiv, Int.reduceToNat, Nat.reduceLT, Int.reduceLT, Int.reduceLE, ↓reduceIte, reduceCtorEq, forall_apply_eq_imp_iff₂, ints, rows, rat, rats, toNat_cast, List.lookup_cons, Nat.reduceBEq, beq_self_eq_true, rid]
  refine CallC.res hto [] rfl Try.call36 (fun e R' hR => ?_) (.inl rfl) ?_
  · simp -implicitDefEqProofs only [Int.natCast_zero, Int.cast_ofNat_Int, Int.natCast_one, Nat.le_refl, Nat.reduceLeDiff, Nat.sub_self, Nat.reduceSub, List.getElem?_cons_zero, List.getElem?_cons_succ, vt_self, vaL, vtL, va, vt, vb, maT, List.cons_append, List.nil_append, List.append_nil, true_or, or_true, go_sem, List.reduceReplicate, Nat.reduceEqDiff, Nat.reduceAdd, Nat.reduceLeDiff, Nat.reduceMul, Nat.reduceSub, Nat.reduceDiv, Int.reduceToNat, Nat.reduceLT, Int.reduceLT, Int.reduceLE, ↓reduceIte, reduceCtorEq, ints, rows, rat, rats, ratsO, toShL_ratC, List.mem_cons, List.mem_nil_iff, List.not_mem_nil, or_false, false_or, exists_eq_left, exists_eq_left', exists_eq_right', Root.live.injEq, eq_self_iff_true, exists_eq, and_true, T.toSh, toShL_ints, toShL_intsO, intsO, rowsO]
  simp -implicitDefEqProofs only [List.append_nil, List.cons_append, Nat.reduceLeDiff, afterCall, absT_rowsO, absT_intsO, absT, absL, updL, updS, freeAll, rid, T.noSh, T.noShL, Nat.zero_le, go_sem, List.reduceReplicate, Nat.reduceEqDiff, Nat.reduceAdd, Nat.reduceLeDiff, Nat.reduceMul, Nat.reduceSub, Nat.reduceDiv, Int.reduceToNat, Nat.reduceLT, Int.reduceLT, Int.reduceLE, ↓reduceIte, reduceCtorEq, rat, forall_apply_eq_imp_iff₂, toNat_cast, List.lookup_cons, Nat.reduceBEq, beq_self_eq_true, rid]
  refine CallV.pure heq [31001, 31002, 42, 43001] rfl Try.call39 (fun e R' hR => ?_) (by first | trivial | simp [T.noSh, T.noShL, rat]) (fun _ => rfl) ?_
  · have hq31001 := (hR 31001).resolve_left (by simp -implicitDefEqProofs only [go_sem, List.reduceReplicate, Nat.reduceEqDiff, Nat.reduceAdd, Nat.reduceLeDiff, Nat.reduceMul, Nat.reduceSub, Nat.reduceDiv, Int.reduceToNat, Nat.reduceLT, Int.reduceLT, Int.reduceLE, ↓reduceIte, reduceCtorEq, forall_apply_eq_imp_iff₂, ints, rows, rat, rats, toNat_cast, not_false_eq_true]); have hq31002 := (hR 31002).resolve_left (by simp -implicitDefEqProofs only [go_sem, List.reduceReplicate, Nat.reduceEqDiff, Nat.reduceAdd, Nat.reduceLeDiff, Nat.reduceMul, Nat.reduceSub, Nat.reduceDiv, Int.reduceToNat, Nat.reduceLT, Int.reduceLT, Int.reduceLE, ↓reduceIte, reduceCtorEq, forall_apply_eq_imp_iff₂, ints, rows, rat, rats, toNat_cast, not_false_eq_true]); have hq42 := (hR 42).resolve_left (by simp -implicitDefEqProofs only [go_sem, List.reduceReplicate, Nat.reduceEqDiff, Nat.reduceAdd, Nat.reduceLeDiff, Nat.reduceMul, Nat.reduceSub, Nat.reduceDiv, Int.reduceToNat, Nat.reduceLT, Int.reduceLT, Int.reduceLE, ↓reduceIte, reduceCtorEq, forall_apply_eq_imp_iff₂, ints, rows, rat, rats, toNat_cast, not_false_eq_true]); have hq43001 := (hR 43001).resolve_left (by simp -implicitDefEqProofs only [go_sem, List.reduceReplicate, Nat.reduceEqDiff, Nat.reduceAdd, Nat.reduceLeDiff, Nat.reduceMul, Nat.reduceSub, Nat.reduceDiv, Int.reduceToNat, Nat.reduceLT, Int.reduceLT, Int.reduceLE, ↓reduceIte, reduceCtorEq, forall_apply_eq_imp_iff₂, ints, rows, rat, rats, toNat_cast, not_false_eq_true])
    simp -implicitDefEqProofs only [go_sem, List.reduceReplicate, Nat.reduceEqDiff, Nat.reduceAdd, Nat.reduceLeDiff, Nat.reduceMul, Nat.reduceSub, Nat.reduceDiv, Int.reduceToNat, Nat.reduceLT, Int.reduceLT, Int.reduceLE, ↓reduceIte, reduceCtorEq, forall_apply_eq_imp_iff₂, ints, rows, rat, rats, toNat_cast] at hq31001 hq31002 hq42 hq43001
    simp -implicitDefEqProofs only [Int.natCast_zero, Int.cast_ofNat_Int, Int.natCast_one, Nat.le_refl, Nat.reduceLeDiff, Nat.sub_self, Nat.reduceSub, List.getElem?_cons_zero, List.getElem?_cons_succ, vt_self, vaL, vtL, va, vt, vb, maT, List.cons_append, List.nil_append, List.append_nil, true_or, or_true, go_sem, List.reduceReplicate, Nat.reduceEqDiff, Nat.reduceAdd, Nat.reduceLeDiff, Nat.reduceMul, Nat.reduceSub, Nat.reduceDiv, Int.reduceToNat, Nat.reduceLT, Int.reduceLT, Int.reduceLE, ↓reduceIte, reduceCtorEq, ints, rows, rat, rats, ratsO, toShL_ratC, List.mem_cons, List.mem_nil_iff, List.not_mem_nil, or_false, false_or, exists_eq_left, exists_eq_left', exists_eq_right', Root.live.injEq, eq_self_iff_true, exists_eq, and_true, T.toSh, toShL_ints, toShL_intsO, intsO, rowsO, hq31001, hq31002, hq42, hq43001]
  simp -implicitDefEqProofs only [go_sem, List.reduceReplicate, Nat.reduceEqDiff, Nat.reduceAdd, Nat.reduceLeDiff, Nat.reduceMul, Nat.reduceSub, Nat.reduceDiv, Int.reduceToNat, Nat.reduceLT, Int.reduceLT, Int.reduceLE, ↓reduceIte, reduceCtorEq, forall_apply_eq_imp_iff₂, ints, rows, rat, rats, toNat_cast]
end Go.Ab

set_option linter.unusedSimpArgs false
set_option linter.unusedVariables false
namespace Go.Proofs.Ytbnlplhpnbijhaa
open Go.ChangeShapes Go.WideShapes Go.ChangeAt Go.RowKit Go.Ab

namespace fnExactIsMatrixSolution
theorem said : ∀ xs, wtL [tyRows, tySol] xs → Pure Try.prog 5 xs (.b true)
  | [x0, x1], h => by
    obtain ⟨m, rfl, hm, hmr⟩ := wt_rows h.1
    obtain ⟨x, rfl, hr, hc⟩ := wt_sol h.2.1
    exact laws_FnExactIsMatrixSolution_ok m (by omega) (fun r h => by have := (hmr r h).1; omega) x (by omega) (by omega)
  | [], h => h.elim
  | [_], h => h.2.elim
  | _ :: _ :: _ :: _, h => h.2.2.elim

set_option maxRecDepth 100000 in
theorem lifted (os : Os) (started : os.Started) (H : Type) (enc : TypeId × Value → H) :
    ReturnsInHanded {} Try.checked os 5 .any (Rows.fnExactIsMatrixSolutionSpec.pre6 enc Try.prog Try.f5 Rows.fnExactIsMatrixSolutionRow.domain false) (Rows.fnExactIsMatrixSolutionSpec.post enc Try.prog Try.f5 false true false false) := by
  refine returnsInHanded_of_change (C := Try.checked) (by kernel_rfl) started (by kernel_rfl) Try.func5
    (ChangeSpec.witness6 (enc := enc) (C := Try.checked) false ⟨#[], #[.slice none 0 0, .agg #[.slice none 0 0, .slice none 0 0, .int .i64 0, .int .i64 0]], []⟩ 8 (by kernel_rfl) (by kernel_rfl) (by kernel_rfl) (by kernel_rfl)) ?_
  intro W base args ds gs before hval hW _ _
  refine law_contract (tys := [tyRows, tySol]) (by kernel_rfl) (by kernel_rfl) rfl (by kernel_rfl) rfl (fun ds h => ?_) said W base args ds gs before hval hW
  match ds, h with
  | [d0, d1], _ => rfl

theorem over : Rows.fnExactIsMatrixSolutionRow.holds Try.pinned (OpenSpec.ofChange Rows.fnExactIsMatrixSolutionSpec) :=
  OpenClaim.holds_of_wide 5 Try.f5 rfl rfl rfl rfl rfl rfl rfl ⟨rfl, rfl, rfl, rfl, rfl⟩ rfl rfl rfl rfl rfl (by kernel_rfl) Try.func5 (by kernel_rfl)
    (of_decide_eq_true (by kernel_rfl)) (by unfold Func.isWrapper; first | (rw [if_pos (by decide +kernel)]; kernel_rfl) | (rw [if_neg (by decide +kernel)]; exact ⟨rfl, rfl⟩))
    (fun os started H enc _ => lifted os started H enc)
end fnExactIsMatrixSolution

theorem fnExactIsMatrixSolution_holds : Rows.FnExactIsMatrixSolutionSaid := fnExactIsMatrixSolution.over
#print axioms fnExactIsMatrixSolution_holds
end Go.Proofs.Ytbnlplhpnbijhaa
