/- What IsMix says sums to one; BestRow names the first greatest gain; SecurityOf agrees with its model: the law FnMixes returns true for every list of bytes. No conditions. -/
import Derived.Test.YtbnlplhpnbijhaaRows
import Derived.Test.YtbnlplhpnbijhaaQ4
/- Contracts: drawn mixes. -/
set_option linter.unusedSimpArgs false
set_option linter.unusedVariables false
namespace Go.Ab
open Go.Proofs

theorem spec_l01Ratio_p (n d : Int) (n0 : -9223372036854775808 < n) (n1 : n < 9223372036854775808) (d0 : 0 < d) (d1 : d < 9223372036854775808) : Pure Try.prog 158 [.i n, .i d] (redT (redR n d)) := spec_l01Ratio_ok n d n0 n1 d0 d1
theorem spec_l26Size_ok (m : List (List Int)) : Pure Try.prog 133 [rows m] (.tup [.i m.length, .i (m.headD []).length]) := by
  refine fun_spec_l26Size (by simp) ?_
  simp -implicitDefEqProofs only [go_sem, List.reduceReplicate, Nat.reduceEqDiff, Nat.reduceAdd, Nat.reduceLeDiff, Nat.reduceMul, Nat.reduceSub, Nat.reduceDiv, Int.reduceToNat, Nat.reduceLT, Int.reduceLT, Int.reduceLE, ↓reduceIte, reduceCtorEq, forall_apply_eq_imp_iff₂, ints, rows, rat, rats, toNat_cast, c_spec_l26Size]
  refine ⟨fun h => ?_, fun h => ?_⟩
  · have h0 : (m.length : Int) = 0 := by simpa using h
    have h0 : m.length = 0 := by omega
    rw [List.length_eq_zero_iff.1 h0]; rfl
  · have hp : ¬ (m.length : Int) = 0 := by simpa using h
    exact ⟨by omega, by omega, fun r hr => by rw [headD_get hr]⟩
theorem sum_bound {w : List Int} (hl : w.length ≤ 6) (hb : ∀ x ∈ w, 0 ≤ x ∧ x ≤ 4) : smallL w ∧ 0 ≤ w.sum ∧ w.sum ≤ 1000000000000000 := by
  have hs : smallL w := ⟨by omega, fun x hx => by have := hb x hx; omega⟩
  have h1 := smallL_sum hs w.length
  rw [List.take_length] at h1
  exact ⟨hs, sum_nonneg' fun x hx => (hb x hx).1, h1.2⟩
set_option maxRecDepth 20000 in
theorem spec_l26DrawMix_ok (cs : List Int) (hc : bytesOK cs) (hl : cs.length ≤ 100000000000) (a : Nat × Int) (ha : seedOK a) (n : Nat) (hn : n ≤ 6) : Fun Try.prog 119 [.box [bytes cs, .i a.1, .i a.2]] [.own 1000000000, .t (.i n)] fun o r => ∃ x : List (Int × Int) × (Nat × Int), o = [.box [bytes cs, .i x.2.1, .i x.2.2]] ∧ r = ratsO x.1 ∧ (x.1.length ≤ 8 ∧ seedOK x.2) := by
  refine fun_spec_l26DrawMix (by simp) ?_
  simp -implicitDefEqProofs only [go_sem, List.reduceReplicate, Nat.reduceEqDiff, Nat.reduceAdd, Nat.reduceLeDiff, Nat.reduceMul, Nat.reduceSub, Nat.reduceDiv, Int.reduceToNat, Nat.reduceLT, Int.reduceLT, Int.reduceLE, ↓reduceIte, reduceCtorEq, forall_apply_eq_imp_iff₂, ints, rows, rat, rats, toNat_cast, c_spec_l26DrawMix]
  refine SemC.loopR (σ := List Int × (Nat × Int)) (fun s => St.of [(0, .own 1000000000), (1, .t (.i n)), (5, .own 96), (6, .t (.i s.1.length))] [(1000000000, .box [bytes cs, .i s.2.1, .i s.2.2]), (96, .arr 1 (s.1.map T.i))]) (fun s => seedOK s.2 ∧ s.1.length ≤ n ∧ ∀ x ∈ s.1, 0 ≤ x ∧ x ≤ 4) (fun s => n - s.1.length) ([], a) (Weak.of _ _ [some 1000000000, some 11] (by simp) (by simp) ?_ ?_) ⟨ha, by simp, by simp⟩ fun s hI R hn' hr he => ?_
  · simp -implicitDefEqProofs only [ints, rows, Nat.reduceBEq, Int.add_zero, envOK, maA, maT, upd_apply, Nat.reduceEqDiff, ↓reduceIte, and_true, true_or, or_true, List.map_cons, List.map_nil, Nat.zero_ne_one, and_self, true_and, Int.natCast_zero, Int.cast_ofNat_Int, Int.ofNat_zero, piOf, List.zip_cons_cons, List.zip_nil_right, List.lookup_cons, List.lookup_nil, beq_self_eq_true, rootsOK, mkRoots, mkEnv, List.length_nil]
  · exact ⟨⟨_, rfl, .refl _⟩, rfl, ⟨_, rfl, .refl _⟩, rfl, trivial⟩
  obtain ⟨w, b⟩ := s
  obtain ⟨hb, hwn, hwb⟩ := hI
  (try simp only [] at hb hwn hwb)
  simp -implicitDefEqProofs only [go_sem, List.reduceReplicate, Nat.reduceEqDiff, Nat.reduceAdd, Nat.reduceLeDiff, Nat.reduceMul, Nat.reduceSub, Nat.reduceDiv, Int.reduceToNat, Nat.reduceLT, Int.reduceLT, Int.reduceLE, ↓reduceIte, reduceCtorEq, forall_apply_eq_imp_iff₂, ints, rows, rat, rats, toNat_cast]
  refine ⟨fun h => ?_, fun h => he _ _ ?_⟩
  · refine CallW.ref (next_box cs hc hl b hb 5 (by omega)) [1000000000] [] rfl Try.call95 (by simp) ?_ (by simp) ?_ (.inl rfl) ?_
    · simp -implicitDefEqProofs only [rootOf_arr, rootOf_box, rootOf_any, srcsOK, updL, updS, upd_apply, Nat.reduceEqDiff, ↓reduceIte, mkRoots, and_true, ints, rows, intsO, rowsO]
    · simp -implicitDefEqProofs only [Int.natCast_zero, Int.cast_ofNat_Int, Int.natCast_one, Nat.le_refl, Nat.reduceLeDiff, Nat.sub_self, Nat.reduceSub, List.getElem?_cons_zero, List.getElem?_cons_succ, vt_self, vaL, vtL, va, vt, vb, maT, List.cons_append, List.nil_append, List.append_nil, true_or, or_true, go_sem, List.reduceReplicate, Nat.reduceEqDiff, Nat.reduceAdd, Nat.reduceLeDiff, Nat.reduceMul, Nat.reduceSub, Nat.reduceDiv, Int.reduceToNat, Nat.reduceLT, Int.reduceLT, Int.reduceLE, ↓reduceIte, reduceCtorEq, ints, rows, rat, rats, ratsO, toShL_ratC, List.mem_cons, List.mem_nil_iff, List.not_mem_nil, or_false, false_or, exists_eq_left, exists_eq_left', exists_eq_right', Root.live.injEq, eq_self_iff_true, exists_eq, and_true, T.toSh, toShL_ints, toShL_intsO, intsO, rowsO]
    simp -implicitDefEqProofs only [List.append_nil, List.cons_append, Nat.reduceLeDiff, afterCall, absT_rowsO, absT_intsO, absT, absL, updL, updS, freeAll, rid, T.noSh, T.noShL, Nat.zero_le, go_sem, List.reduceReplicate, Nat.reduceEqDiff, Nat.reduceAdd, Nat.reduceLeDiff, Nat.reduceMul, Nat.reduceSub, Nat.reduceDiv, Int.reduceToNat, Nat.reduceLT, Int.reduceLT, Int.reduceLE, ↓reduceIte, reduceCtorEq, rat, forall_apply_eq_imp_iff₂, toNat_cast]
    have hb2 := nextS_bound (cs := cs) (a := b) (show (1 : Int) ≤ 5 by omega)
    have hs2 := nextS_seed (cs := cs) hl hb 5
    generalize nextS cs b 5 = z at hb2 hs2 ⊢
    obtain ⟨x, c⟩ := z
    simp only [] at hb2 hs2 ⊢
    refine ⟨by omega, hn' _ (w ++ [x], c) (Weak.of _ _ [some 1000000000, some 21] (by simp) (by simp) ?_ ?_) ⟨hs2, by simp; omega, ?_⟩ (by simp only [List.length_append, List.length_cons, List.length_nil]; omega)⟩
    · simp -implicitDefEqProofs only [ints, rows, Nat.reduceBEq, Int.add_zero, envOK, maA, maT, upd_apply, Nat.reduceEqDiff, ↓reduceIte, and_true, true_or, or_true, List.map_cons, List.map_nil, Nat.zero_ne_one, and_self, true_and, Int.natCast_zero, Int.cast_ofNat_Int, Int.ofNat_zero, piOf, List.zip_cons_cons, List.zip_nil_right, List.lookup_cons, List.lookup_nil, beq_self_eq_true, rootsOK, mkRoots, mkEnv, next64 (by omega : w.length < n) (by omega), List.length_append, List.length_cons, List.length_nil]
    · refine ⟨⟨_, rfl, .refl _⟩, rfl, ⟨_, rfl, ?_⟩, rfl, trivial⟩
      rw [List.map_append]; exact .refl _
    · intro y hy
      rcases List.mem_append.1 hy with hy | hy
      · exact hwb y hy
      · simp at hy; rw [hy]; omega
  simp -implicitDefEqProofs only [go_sem, List.reduceReplicate, Nat.reduceEqDiff, Nat.reduceAdd, Nat.reduceLeDiff, Nat.reduceMul, Nat.reduceSub, Nat.reduceDiv, Int.reduceToNat, Nat.reduceLT, Int.reduceLT, Int.reduceLE, ↓reduceIte, reduceCtorEq, forall_apply_eq_imp_iff₂, ints, rows, rat, rats, toNat_cast]
  have hwl : w.length = n := by omega
  obtain ⟨hws, hw0, hw1⟩ := sum_bound (by omega) hwb
  refine ⟨fun h0 => ?_, fun h0 => ?_⟩
  rotate_left
  obtain ⟨w', bb, hw', hwl', hwb', hbb, hwp⟩ : ∃ (w' : List Int) (bb : Nat × Int), (T.arr 1 (w.map T.i) = T.arr 1 (w'.map T.i) ∧ bb = b) ∧ w'.length = n ∧ (∀ x ∈ w', 0 ≤ x ∧ x ≤ 4) ∧ seedOK bb ∧ (0 < n → 0 < w'.sum) := ⟨w, b, ⟨rfl, rfl⟩, hwl, hwb, hb, fun h => by simp at h0; omega⟩
  rotate_left
  refine CallW.pure (spec_l01Sum_ok w hws) [96] rfl Try.call149 ?_ (by first | trivial | simp [T.noSh, T.noShL, rat]) rfl ?_
  · simp -implicitDefEqProofs only [Int.natCast_zero, Int.cast_ofNat_Int, Int.natCast_one, Nat.le_refl, Nat.reduceLeDiff, Nat.sub_self, Nat.reduceSub, List.getElem?_cons_zero, List.getElem?_cons_succ, vt_self, vaL, vtL, va, vt, vb, maT, List.cons_append, List.nil_append, List.append_nil, true_or, or_true, go_sem, List.reduceReplicate, Nat.reduceEqDiff, Nat.reduceAdd, Nat.reduceLeDiff, Nat.reduceMul, Nat.reduceSub, Nat.reduceDiv, Int.reduceToNat, Nat.reduceLT, Int.reduceLT, Int.reduceLE, ↓reduceIte, reduceCtorEq, ints, rows, rat, rats, ratsO, toShL_ratC, List.mem_cons, List.mem_nil_iff, List.not_mem_nil, or_false, false_or, exists_eq_left, exists_eq_left', exists_eq_right', Root.live.injEq, eq_self_iff_true, exists_eq, and_true, T.toSh, toShL_ints, toShL_intsO, intsO, rowsO]
  simp -implicitDefEqProofs only [go_sem, List.reduceReplicate, Nat.reduceEqDiff, Nat.reduceAdd, Nat.reduceLeDiff, Nat.reduceMul, Nat.reduceSub, Nat.reduceDiv, Int.reduceToNat, Nat.reduceLT, Int.reduceLT, Int.reduceLE, ↓reduceIte, reduceCtorEq, forall_apply_eq_imp_iff₂, ints, rows, rat, rats, toNat_cast]
  refine ⟨fun hz => ?_, fun hz => ?_⟩
  rotate_left
  obtain ⟨w', bb, hw', hwl', hwb', hbb, hwp⟩ : ∃ (w' : List Int) (bb : Nat × Int), (T.arr 1 (w.map T.i) = T.arr 1 (w'.map T.i) ∧ bb = b) ∧ w'.length = n ∧ (∀ x ∈ w', 0 ≤ x ∧ x ≤ 4) ∧ seedOK bb ∧ (0 < n → 0 < w'.sum) := ⟨w, b, ⟨rfl, rfl⟩, hwl, hwb, hb, fun h => by simp at hz; omega⟩
  rotate_right
  have hn1 : (1 : Int) ≤ n := by simp at h0; omega
  refine CallW.ref (next_box cs hc hl b hb n (by omega)) [1000000000] [] rfl Try.call95 (by simp) ?_ (by simp) ?_ (.inl rfl) ?_
  · simp -implicitDefEqProofs only [rootOf_arr, rootOf_box, rootOf_any, srcsOK, updL, updS, upd_apply, Nat.reduceEqDiff, ↓reduceIte, mkRoots, and_true, ints, rows, intsO, rowsO]
  · simp -implicitDefEqProofs only [Int.natCast_zero, Int.cast_ofNat_Int, Int.natCast_one, Nat.le_refl, Nat.reduceLeDiff, Nat.sub_self, Nat.reduceSub, List.getElem?_cons_zero, List.getElem?_cons_succ, vt_self, vaL, vtL, va, vt, vb, maT, List.cons_append, List.nil_append, List.append_nil, true_or, or_true, go_sem, List.reduceReplicate, Nat.reduceEqDiff, Nat.reduceAdd, Nat.reduceLeDiff, Nat.reduceMul, Nat.reduceSub, Nat.reduceDiv, Int.reduceToNat, Nat.reduceLT, Int.reduceLT, Int.reduceLE, ↓reduceIte, reduceCtorEq, ints, rows, rat, rats, ratsO, toShL_ratC, List.mem_cons, List.mem_nil_iff, List.not_mem_nil, or_false, false_or, exists_eq_left, exists_eq_left', exists_eq_right', Root.live.injEq, eq_self_iff_true, exists_eq, and_true, T.toSh, toShL_ints, toShL_intsO, intsO, rowsO]
  simp -implicitDefEqProofs only [List.append_nil, List.cons_append, Nat.reduceLeDiff, afterCall, absT_rowsO, absT_intsO, absT, absL, updL, updS, freeAll, rid, T.noSh, T.noShL, Nat.zero_le, go_sem, List.reduceReplicate, Nat.reduceEqDiff, Nat.reduceAdd, Nat.reduceLeDiff, Nat.reduceMul, Nat.reduceSub, Nat.reduceDiv, Int.reduceToNat, Nat.reduceLT, Int.reduceLT, Int.reduceLE, ↓reduceIte, reduceCtorEq, rat, forall_apply_eq_imp_iff₂, toNat_cast]
  have hb2 := nextS_bound (cs := cs) (a := b) hn1
  have hs2 := nextS_seed (cs := cs) hl hb n
  generalize nextS cs b n = z at hb2 hs2 ⊢
  obtain ⟨x, c⟩ := z
  simp only [] at hb2 hs2 ⊢
  refine ⟨by omega, by omega, by omega, ?_⟩
  obtain ⟨w', bb, hw', hwl', hwb', hbb, hwp⟩ : ∃ (w' : List Int) (bb : Nat × Int), (T.arr 1 ((w.map T.i).set x.toNat (T.i 1)) = T.arr 1 (w'.map T.i) ∧ bb = c) ∧ w'.length = n ∧ (∀ x ∈ w', 0 ≤ x ∧ x ≤ 4) ∧ seedOK bb ∧ (0 < n → 0 < w'.sum) := by
    refine ⟨w.set x.toNat 1, c, ⟨by rw [List.map_set], rfl⟩, by rw [List.length_set]; exact hwl, fun y hy => ?_, hs2, fun _ => ?_⟩
    · rcases List.mem_or_eq_of_mem_set hy with hy | rfl
      · exact hwb y hy
      · omega
    · rw [sum_set (by omega)]
      have hz0 : w.sum = 0 := by simpa using hz
      have : w.getD x.toNat 0 ≤ 0 := by
        have key : ∀ (l : List Int), (∀ y ∈ l, 0 ≤ y ∧ y ≤ 4) → l.sum = 0 → ∀ k, l.getD k 0 ≤ 0 := by
          intro l
          induction l with
          | nil => intro _ _ k; simp
          | cons a l ih =>
            intro hl' hs k
            have h1 := hl' a (by simp)
            have h2 := sum_nonneg' (w := l) fun y hy => (hl' y (by simp [hy])).1
            rw [List.sum_cons] at hs
            cases k with
            | zero => simp; omega
            | succ k => simpa using ih (fun y hy => hl' y (by simp [hy])) (by omega) k
        exact key w hwb hz0 _
      omega
  all_goals obtain ⟨hw'', rfl⟩ := hw'
  all_goals
    obtain ⟨hws', hw0', hw1'⟩ := sum_bound (by omega) hwb'
    refine SemC.loopR (σ := List (Int × Int)) (fun p => St.of [(0, .own 1000000000), (1, .t (.i n)), (5, .own 96), (7, .own 97), (8, .t (.i p.length))] [(1000000000, .box [bytes cs, .i bb.1, .i bb.2]), (96, .arr 1 (w'.map T.i)), (97, .arr 2 (ratC p))]) (fun p => p.length ≤ n) (fun p => n - p.length) [] (Weak.of _ _ [some 1000000000, some 96, some 34] (by simp) (by simp) ?_ ?_) (by simp) fun p hp R2 hn2 hr2 he2 => ?_
    · simp -implicitDefEqProofs only [ints, rows, Nat.reduceBEq, Int.add_zero, envOK, maA, maT, upd_apply, Nat.reduceEqDiff, ↓reduceIte, and_true, true_or, or_true, List.map_cons, List.map_nil, Nat.zero_ne_one, and_self, true_and, Int.natCast_zero, Int.cast_ofNat_Int, Int.ofNat_zero, piOf, List.zip_cons_cons, List.zip_nil_right, List.lookup_cons, List.lookup_nil, beq_self_eq_true, rootsOK, mkRoots, mkEnv, List.length_nil]
    · exact ⟨⟨_, rfl, .refl _⟩, rfl, ⟨_, rfl, by rw [hw'']; exact .refl _⟩, rfl, ⟨_, rfl, .refl _⟩, rfl, trivial⟩
    · simp -implicitDefEqProofs only [go_sem, List.reduceReplicate, Nat.reduceEqDiff, Nat.reduceAdd, Nat.reduceLeDiff, Nat.reduceMul, Nat.reduceSub, Nat.reduceDiv, Int.reduceToNat, Nat.reduceLT, Int.reduceLT, Int.reduceLE, ↓reduceIte, reduceCtorEq, forall_apply_eq_imp_iff₂, ints, rows, rat, rats, toNat_cast]
      refine ⟨fun h2 => ?_, fun h2 => he2 _ _ ?_⟩
      · obtain ⟨y, hy⟩ : ∃ y, w'[p.length]? = some y := ⟨_, List.getElem?_eq_getElem (by omega)⟩
        have hyb := hwb' y (List.mem_of_getElem? hy)
        refine ⟨by omega, by omega, by omega, fun y' hy' => ?_⟩
        rw [hy] at hy'; cases hy'
        refine CallV.pure (spec_l01Sum_ok w' hws') [96] rfl Try.call149 (fun e R' hR => ?_) (by first | trivial | simp [T.noSh, T.noShL, rat]) (fun _ => rfl) ?_
        · have hq96 := (hR 96).resolve_left (by simp -implicitDefEqProofs only [go_sem, List.reduceReplicate, Nat.reduceEqDiff, Nat.reduceAdd, Nat.reduceLeDiff, Nat.reduceMul, Nat.reduceSub, Nat.reduceDiv, Int.reduceToNat, Nat.reduceLT, Int.reduceLT, Int.reduceLE, ↓reduceIte, reduceCtorEq, forall_apply_eq_imp_iff₂, ints, rows, rat, rats, toNat_cast, not_false_eq_true])
          simp -implicitDefEqProofs only [go_sem, List.reduceReplicate, Nat.reduceEqDiff, Nat.reduceAdd, Nat.reduceLeDiff, Nat.reduceMul, Nat.reduceSub, Nat.reduceDiv, Int.reduceToNat, Nat.reduceLT, Int.reduceLT, Int.reduceLE, ↓reduceIte, reduceCtorEq, forall_apply_eq_imp_iff₂, ints, rows, rat, rats, toNat_cast] at hq96
          simp -implicitDefEqProofs only [Int.natCast_zero, Int.cast_ofNat_Int, Int.natCast_one, Nat.le_refl, Nat.reduceLeDiff, Nat.sub_self, Nat.reduceSub, List.getElem?_cons_zero, List.getElem?_cons_succ, vt_self, vaL, vtL, va, vt, vb, maT, List.cons_append, List.nil_append, List.append_nil, true_or, or_true, go_sem, List.reduceReplicate, Nat.reduceEqDiff, Nat.reduceAdd, Nat.reduceLeDiff, Nat.reduceMul, Nat.reduceSub, Nat.reduceDiv, Int.reduceToNat, Nat.reduceLT, Int.reduceLT, Int.reduceLE, ↓reduceIte, reduceCtorEq, ints, rows, rat, rats, ratsO, toShL_ratC, List.mem_cons, List.mem_nil_iff, List.not_mem_nil, or_false, false_or, exists_eq_left, exists_eq_left', exists_eq_right', Root.live.injEq, eq_self_iff_true, exists_eq, and_true, T.toSh, toShL_ints, toShL_intsO, intsO, rowsO, hq96]
        simp -implicitDefEqProofs only [go_sem, List.reduceReplicate, Nat.reduceEqDiff, Nat.reduceAdd, Nat.reduceLeDiff, Nat.reduceMul, Nat.reduceSub, Nat.reduceDiv, Int.reduceToNat, Nat.reduceLT, Int.reduceLT, Int.reduceLE, ↓reduceIte, reduceCtorEq, forall_apply_eq_imp_iff₂, ints, rows, rat, rats, toNat_cast]
        refine CallV.pure (spec_l01Ratio_p y w'.sum (by omega) (by omega) (hwp (by omega)) (by omega)) [] rfl Try.call158 (fun e R' hR => ?_) (by first | trivial | simp [T.noSh, T.noShL, rat]) (fun _ => rfl) ?_
        · simp -implicitDefEqProofs only [Int.natCast_zero, Int.cast_ofNat_Int, Int.natCast_one, Nat.le_refl, Nat.reduceLeDiff, Nat.sub_self, Nat.reduceSub, List.getElem?_cons_zero, List.getElem?_cons_succ, vt_self, vaL, vtL, va, vt, vb, maT, List.cons_append, List.nil_append, List.append_nil, true_or, or_true, go_sem, List.reduceReplicate, Nat.reduceEqDiff, Nat.reduceAdd, Nat.reduceLeDiff, Nat.reduceMul, Nat.reduceSub, Nat.reduceDiv, Int.reduceToNat, Nat.reduceLT, Int.reduceLT, Int.reduceLE, ↓reduceIte, reduceCtorEq, ints, rows, rat, rats, ratsO, toShL_ratC, List.mem_cons, List.mem_nil_iff, List.not_mem_nil, or_false, false_or, exists_eq_left, exists_eq_left', exists_eq_right', Root.live.injEq, eq_self_iff_true, exists_eq, and_true, T.toSh, toShL_ints, toShL_intsO, intsO, rowsO]
        simp -implicitDefEqProofs only [go_sem, List.reduceReplicate, Nat.reduceEqDiff, Nat.reduceAdd, Nat.reduceLeDiff, Nat.reduceMul, Nat.reduceSub, Nat.reduceDiv, Int.reduceToNat, Nat.reduceLT, Int.reduceLT, Int.reduceLE, ↓reduceIte, reduceCtorEq, forall_apply_eq_imp_iff₂, ints, rows, rat, rats, toNat_cast, redT, rat]
        refine ⟨by rw [ratC_length]; omega, hn2 _ (p ++ [(redR y w'.sum).1]) (Weak.of _ _ [some 1000000000, some 96, some 53] (by simp) (by simp) ?_ ?_) (by simp; omega) (by simp only [List.length_append, List.length_cons, List.length_nil]; omega)⟩
        · simp -implicitDefEqProofs only [ints, rows, Nat.reduceBEq, Int.add_zero, envOK, maA, maT, upd_apply, Nat.reduceEqDiff, ↓reduceIte, and_true, true_or, or_true, List.map_cons, List.map_nil, Nat.zero_ne_one, and_self, true_and, Int.natCast_zero, Int.cast_ofNat_Int, Int.ofNat_zero, piOf, List.zip_cons_cons, List.zip_nil_right, List.lookup_cons, List.lookup_nil, beq_self_eq_true, rootsOK, mkRoots, mkEnv, next64 (by omega : p.length < n) (by omega), List.length_append, List.length_cons, List.length_nil]
        · refine ⟨⟨_, rfl, .refl _⟩, rfl, ⟨_, rfl, .refl _⟩, rfl, ⟨_, rfl, ?_⟩, rfl, trivial⟩
          rw [ratC_append]; exact .refl _
      · simp -implicitDefEqProofs only [go_sem, List.reduceReplicate, Nat.reduceEqDiff, Nat.reduceAdd, Nat.reduceLeDiff, Nat.reduceMul, Nat.reduceSub, Nat.reduceDiv, Int.reduceToNat, Nat.reduceLT, Int.reduceLT, Int.reduceLE, ↓reduceIte, reduceCtorEq, forall_apply_eq_imp_iff₂, ints, rows, rat, rats, toNat_cast]
        have hpn : p.length = n := by omega
        refine CallW.ref (next_box cs hc hl bb hbb 20 (by omega)) [1000000000] [] rfl Try.call95 (by simp) ?_ (by simp) ?_ (.inl rfl) ?_
        · simp -implicitDefEqProofs only [rootOf_arr, rootOf_box, rootOf_any, srcsOK, updL, updS, upd_apply, Nat.reduceEqDiff, ↓reduceIte, mkRoots, and_true, ints, rows, intsO, rowsO]
        · simp -implicitDefEqProofs only [Int.natCast_zero, Int.cast_ofNat_Int, Int.natCast_one, Nat.le_refl, Nat.reduceLeDiff, Nat.sub_self, Nat.reduceSub, List.getElem?_cons_zero, List.getElem?_cons_succ, vt_self, vaL, vtL, va, vt, vb, maT, List.cons_append, List.nil_append, List.append_nil, true_or, or_true, go_sem, List.reduceReplicate, Nat.reduceEqDiff, Nat.reduceAdd, Nat.reduceLeDiff, Nat.reduceMul, Nat.reduceSub, Nat.reduceDiv, Int.reduceToNat, Nat.reduceLT, Int.reduceLT, Int.reduceLE, ↓reduceIte, reduceCtorEq, ints, rows, rat, rats, ratsO, toShL_ratC, List.mem_cons, List.mem_nil_iff, List.not_mem_nil, or_false, false_or, exists_eq_left, exists_eq_left', exists_eq_right', Root.live.injEq, eq_self_iff_true, exists_eq, and_true, T.toSh, toShL_ints, toShL_intsO, intsO, rowsO]
        simp -implicitDefEqProofs only [List.append_nil, List.cons_append, Nat.reduceLeDiff, afterCall, absT_rowsO, absT_intsO, absT, absL, updL, updS, freeAll, rid, T.noSh, T.noShL, Nat.zero_le, go_sem, List.reduceReplicate, Nat.reduceEqDiff, Nat.reduceAdd, Nat.reduceLeDiff, Nat.reduceMul, Nat.reduceSub, Nat.reduceDiv, Int.reduceToNat, Nat.reduceLT, Int.reduceLT, Int.reduceLE, ↓reduceIte, reduceCtorEq, rat, forall_apply_eq_imp_iff₂, toNat_cast]
        have hs6 := nextS_seed (cs := cs) hl hbb 20
        generalize nextS cs bb 20 = z at hs6 ⊢
        obtain ⟨q, d⟩ := z
        simp only [] at hs6 ⊢
        have hp8 : p.length ≤ 8 := by omega
        have hpc : (ratC p).length = n * 2 := by rw [ratC_length, hpn]
        refine ⟨fun h3 => ?_, fun h3 => ⟨fun h4 => ⟨fun h5 => ?_, fun h5 => ⟨(p, d), rfl, rfl, hp8, hs6⟩⟩, fun h4 => ⟨fun h5 => ⟨fun h6 => ?_, fun h6 => ⟨(p, d), rfl, rfl, hp8, hs6⟩⟩, fun h5 => ⟨(p, d), rfl, rfl, hp8, hs6⟩⟩⟩⟩
        · refine CallW.pure (spec_l19Whole_ok 0) [] rfl Try.call125 ?_ (by first | trivial | simp [T.noSh, T.noShL, rat]) rfl ?_
          · simp -implicitDefEqProofs only [Int.natCast_zero, Int.cast_ofNat_Int, Int.natCast_one, Nat.le_refl, Nat.reduceLeDiff, Nat.sub_self, Nat.reduceSub, List.getElem?_cons_zero, List.getElem?_cons_succ, vt_self, vaL, vtL, va, vt, vb, maT, List.cons_append, List.nil_append, List.append_nil, true_or, or_true, go_sem, List.reduceReplicate, Nat.reduceEqDiff, Nat.reduceAdd, Nat.reduceLeDiff, Nat.reduceMul, Nat.reduceSub, Nat.reduceDiv, Int.reduceToNat, Nat.reduceLT, Int.reduceLT, Int.reduceLE, ↓reduceIte, reduceCtorEq, ints, rows, rat, rats, ratsO, toShL_ratC, List.mem_cons, List.mem_nil_iff, List.not_mem_nil, or_false, false_or, exists_eq_left, exists_eq_left', exists_eq_right', Root.live.injEq, eq_self_iff_true, exists_eq, and_true, T.toSh, toShL_ints, toShL_intsO, intsO, rowsO]
          simp -implicitDefEqProofs only [go_sem, List.reduceReplicate, Nat.reduceEqDiff, Nat.reduceAdd, Nat.reduceLeDiff, Nat.reduceMul, Nat.reduceSub, Nat.reduceDiv, Int.reduceToNat, Nat.reduceLT, Int.reduceLT, Int.reduceLE, ↓reduceIte, reduceCtorEq, forall_apply_eq_imp_iff₂, ints, rows, rat, rats, toNat_cast, rat]
          refine ⟨by omega, (p ++ [(0, 1)], d), rfl, ?_, by simp; omega, hs6⟩
          rw [ratsO, ratC_append]; rfl
        · have hp1 := pick_own cs hc hl d hs6 [1, -1, 2] (by simp) (by simp)
          simp only [intsO, List.map_cons, List.map_nil] at hp1
          refine CallW.ref hp1 [1000000000, 68] [] rfl Try.call96 (by simp) ?_ (by simp) ?_ (.inl rfl) ?_
          · simp -implicitDefEqProofs only [rootOf_arr, rootOf_box, rootOf_any, srcsOK, updL, updS, upd_apply, Nat.reduceEqDiff, ↓reduceIte, mkRoots, and_true, ints, rows, intsO, rowsO]
          · simp -implicitDefEqProofs only [Int.natCast_zero, Int.cast_ofNat_Int, Int.natCast_one, Nat.le_refl, Nat.reduceLeDiff, Nat.sub_self, Nat.reduceSub, List.getElem?_cons_zero, List.getElem?_cons_succ, vt_self, vaL, vtL, va, vt, vb, maT, List.cons_append, List.nil_append, List.append_nil, true_or, or_true, go_sem, List.reduceReplicate, Nat.reduceEqDiff, Nat.reduceAdd, Nat.reduceLeDiff, Nat.reduceMul, Nat.reduceSub, Nat.reduceDiv, Int.reduceToNat, Nat.reduceLT, Int.reduceLT, Int.reduceLE, ↓reduceIte, reduceCtorEq, ints, rows, rat, rats, ratsO, toShL_ratC, List.mem_cons, List.mem_nil_iff, List.not_mem_nil, or_false, false_or, exists_eq_left, exists_eq_left', exists_eq_right', Root.live.injEq, eq_self_iff_true, exists_eq, and_true, T.toSh, toShL_ints, toShL_intsO, intsO, rowsO]
          simp -implicitDefEqProofs only [List.append_nil, List.cons_append, Nat.reduceLeDiff, afterCall, absT_rowsO, absT_intsO, absT, absL, updL, updS, freeAll, rid, T.noSh, T.noShL, Nat.zero_le, go_sem, List.reduceReplicate, Nat.reduceEqDiff, Nat.reduceAdd, Nat.reduceLeDiff, Nat.reduceMul, Nat.reduceSub, Nat.reduceDiv, Int.reduceToNat, Nat.reduceLT, Int.reduceLT, Int.reduceLE, ↓reduceIte, reduceCtorEq, rat, forall_apply_eq_imp_iff₂, toNat_cast]
          have hs7 := pickS_seed (cs := cs) hl hs6 [1, -1, 2]
          generalize pickS cs d [1, -1, 2] = z at hs7 ⊢
          obtain ⟨u, d2⟩ := z
          (try simp only [] at hs7 ⊢)
          have hp2 := pick_own cs hc hl d2 hs7 [1, 2, 3] (by simp) (by simp)
          simp only [intsO, List.map_cons, List.map_nil] at hp2
          refine CallW.ref hp2 [1000000000, 71] [] rfl Try.call96 (by simp) ?_ (by simp) ?_ (.inl rfl) ?_
          · simp -implicitDefEqProofs only [rootOf_arr, rootOf_box, rootOf_any, srcsOK, updL, updS, upd_apply, Nat.reduceEqDiff, ↓reduceIte, mkRoots, and_true, ints, rows, intsO, rowsO]
          · simp -implicitDefEqProofs only [Int.natCast_zero, Int.cast_ofNat_Int, Int.natCast_one, Nat.le_refl, Nat.reduceLeDiff, Nat.sub_self, Nat.reduceSub, List.getElem?_cons_zero, List.getElem?_cons_succ, vt_self, vaL, vtL, va, vt, vb, maT, List.cons_append, List.nil_append, List.append_nil, true_or, or_true, go_sem, List.reduceReplicate, Nat.reduceEqDiff, Nat.reduceAdd, Nat.reduceLeDiff, Nat.reduceMul, Nat.reduceSub, Nat.reduceDiv, Int.reduceToNat, Nat.reduceLT, Int.reduceLT, Int.reduceLE, ↓reduceIte, reduceCtorEq, ints, rows, rat, rats, ratsO, toShL_ratC, List.mem_cons, List.mem_nil_iff, List.not_mem_nil, or_false, false_or, exists_eq_left, exists_eq_left', exists_eq_right', Root.live.injEq, eq_self_iff_true, exists_eq, and_true, T.toSh, toShL_ints, toShL_intsO, intsO, rowsO]
          simp -implicitDefEqProofs only [List.append_nil, List.cons_append, Nat.reduceLeDiff, afterCall, absT_rowsO, absT_intsO, absT, absL, updL, updS, freeAll, rid, T.noSh, T.noShL, Nat.zero_le, go_sem, List.reduceReplicate, Nat.reduceEqDiff, Nat.reduceAdd, Nat.reduceLeDiff, Nat.reduceMul, Nat.reduceSub, Nat.reduceDiv, Int.reduceToNat, Nat.reduceLT, Int.reduceLT, Int.reduceLE, ↓reduceIte, reduceCtorEq, rat, forall_apply_eq_imp_iff₂, toNat_cast]
          have hs8 := pickS_seed (cs := cs) hl hs7 [1, 2, 3]
          generalize pickS cs d2 [1, 2, 3] = z at hs8 ⊢
          obtain ⟨v, d3⟩ := z
          (try simp only [] at hs8 ⊢)
          obtain ⟨p0, p', rfl⟩ : ∃ p0 p', p = p0 :: p' := by
            cases p with
            | nil => simp at hpn; omega
            | cons p0 p' => exact ⟨p0, p', rfl⟩
          refine ⟨by omega, by omega, ((u, v) :: p', d3), rfl, rfl, by simpa using hp8, hs8⟩
        · have hn2 : n = 2 := by
            have : (n : Int) = 2 := by simpa using h6
            omega
          have hd2 : List.drop 2 (List.drop 2 (ratC p)) = [] := by
            rw [List.drop_drop]; exact List.drop_of_length_le (by omega)
          have hl2 : (List.drop 2 (ratC p)).length = 2 := by rw [List.length_drop]; omega
          refine ⟨by omega, by omega, by omega, by omega, ([(1, 999999937), (999999936, 999999937)], d), rfl, ?_, by simp, hs6⟩
          rw [hd2]; rfl
end Go.Ab

/- Contracts: drawn arguments of the laws of mixes; CompareRatios; likeRatios. -/
set_option linter.unusedSimpArgs false
set_option linter.unusedVariables false
namespace Go.Ab
open Go.Proofs

theorem headD_small {m : List (List Int)} (h : smallM m) : (m.headD []).length ≤ 6 := by
  cases m with
  | nil => simp
  | cons r m => exact h.2 r (by simp)
def mixP (x : List (List Int) × List (Int × Int)) : Prop := smallM x.1 ∧ x.2.length ≤ 8
theorem spec_DrawRowGains_ok (cs : List Int) (hc : bytesOK cs) (hl : cs.length ≤ 100000000000) : Fun Try.prog 56 [] [.t (bytes cs)] fun o r => ∃ x : List (List Int) × List (Int × Int), o = [] ∧ r = .tup [rowsO x.1, ratsO x.2] ∧ mixP x := by
  refine fun_spec_DrawRowGains (by simp) ?_
  simp -implicitDefEqProofs only [go_sem, List.reduceReplicate, Nat.reduceEqDiff, Nat.reduceAdd, Nat.reduceLeDiff, Nat.reduceMul, Nat.reduceSub, Nat.reduceDiv, Int.reduceToNat, Nat.reduceLT, Int.reduceLT, Int.reduceLE, ↓reduceIte, reduceCtorEq, forall_apply_eq_imp_iff₂, ints, rows, rat, rats, toNat_cast, c_spec_DrawRowGains]
  refine CallW.res (spec_l01From_ok cs hc (by omega)) [] rfl Try.call94 ?_ (.inl rfl) ?_
  · simp -implicitDefEqProofs only [Int.natCast_zero, Int.cast_ofNat_Int, Int.natCast_one, Nat.le_refl, Nat.reduceLeDiff, Nat.sub_self, Nat.reduceSub, List.getElem?_cons_zero, List.getElem?_cons_succ, vt_self, vaL, vtL, va, vt, vb, maT, List.cons_append, List.nil_append, List.append_nil, true_or, or_true, go_sem, List.reduceReplicate, Nat.reduceEqDiff, Nat.reduceAdd, Nat.reduceLeDiff, Nat.reduceMul, Nat.reduceSub, Nat.reduceDiv, Int.reduceToNat, Nat.reduceLT, Int.reduceLT, Int.reduceLE, ↓reduceIte, reduceCtorEq, ints, rows, rat, rats, ratsO, toShL_ratC, List.mem_cons, List.mem_nil_iff, List.not_mem_nil, or_false, false_or, exists_eq_left, exists_eq_left', exists_eq_right', Root.live.injEq, eq_self_iff_true, exists_eq, and_true, T.toSh, toShL_ints, toShL_intsO, intsO, rowsO]
  simp -implicitDefEqProofs only [List.append_nil, List.cons_append, Nat.reduceLeDiff, afterCall, absT_rowsO, absT_intsO, absT, absL, updL, updS, freeAll, rid, T.noSh, T.noShL, Nat.zero_le, go_sem, List.reduceReplicate, Nat.reduceEqDiff, Nat.reduceAdd, Nat.reduceLeDiff, Nat.reduceMul, Nat.reduceSub, Nat.reduceDiv, Int.reduceToNat, Nat.reduceLT, Int.reduceLT, Int.reduceLE, ↓reduceIte, reduceCtorEq, rat, forall_apply_eq_imp_iff₂, toNat_cast, srcT]
  have hs0 := seed_from (cs.take 64)
  generalize fromS (cs.take 64) = sd at hs0 ⊢
  refine CallW.exi (spec_l26Draw_ok cs hc hl (0, sd) hs0) [9] [] rfl Try.call132 (by simp) ?_ (by simp) ?_ (.inl rfl) (fun x hx => ?_)
  · simp -implicitDefEqProofs only [rootOf_arr, rootOf_box, rootOf_any, srcsOK, updL, updS, upd_apply, Nat.reduceEqDiff, ↓reduceIte, mkRoots, and_true, ints, rows, intsO, rowsO]
  · simp -implicitDefEqProofs only [Int.natCast_zero, Int.cast_ofNat_Int, Int.natCast_one, Nat.le_refl, Nat.reduceLeDiff, Nat.sub_self, Nat.reduceSub, List.getElem?_cons_zero, List.getElem?_cons_succ, vt_self, vaL, vtL, va, vt, vb, maT, List.cons_append, List.nil_append, List.append_nil, true_or, or_true, go_sem, List.reduceReplicate, Nat.reduceEqDiff, Nat.reduceAdd, Nat.reduceLeDiff, Nat.reduceMul, Nat.reduceSub, Nat.reduceDiv, Int.reduceToNat, Nat.reduceLT, Int.reduceLT, Int.reduceLE, ↓reduceIte, reduceCtorEq, ints, rows, rat, rats, ratsO, toShL_ratC, List.mem_cons, List.mem_nil_iff, List.not_mem_nil, or_false, false_or, exists_eq_left, exists_eq_left', exists_eq_right', Root.live.injEq, eq_self_iff_true, exists_eq, and_true, T.toSh, toShL_ints, toShL_intsO, intsO, rowsO]
  simp -implicitDefEqProofs only [List.append_nil, List.cons_append, Nat.reduceLeDiff, afterCall, absT_rowsO, absT_intsO, absT, absL, updL, updS, freeAll, rid, T.noSh, T.noShL, Nat.zero_le, go_sem, List.reduceReplicate, Nat.reduceEqDiff, Nat.reduceAdd, Nat.reduceLeDiff, Nat.reduceMul, Nat.reduceSub, Nat.reduceDiv, Int.reduceToNat, Nat.reduceLT, Int.reduceLT, Int.reduceLE, ↓reduceIte, reduceCtorEq, rat, forall_apply_eq_imp_iff₂, toNat_cast]
  obtain ⟨m, a1⟩ := x
  obtain ⟨hm, ha1⟩ := hx
  (try simp only [] at hm ha1 ⊢)
  refine CallW.pure (spec_l26Size_ok m) [11] rfl Try.call133 ?_ (by first | trivial | simp [T.noSh, T.noShL, rat]) rfl ?_
  · simp -implicitDefEqProofs only [Int.natCast_zero, Int.cast_ofNat_Int, Int.natCast_one, Nat.le_refl, Nat.reduceLeDiff, Nat.sub_self, Nat.reduceSub, List.getElem?_cons_zero, List.getElem?_cons_succ, vt_self, vaL, vtL, va, vt, vb, maT, List.cons_append, List.nil_append, List.append_nil, true_or, or_true, go_sem, List.reduceReplicate, Nat.reduceEqDiff, Nat.reduceAdd, Nat.reduceLeDiff, Nat.reduceMul, Nat.reduceSub, Nat.reduceDiv, Int.reduceToNat, Nat.reduceLT, Int.reduceLT, Int.reduceLE, ↓reduceIte, reduceCtorEq, ints, rows, rat, rats, ratsO, toShL_ratC, List.mem_cons, List.mem_nil_iff, List.not_mem_nil, or_false, false_or, exists_eq_left, exists_eq_left', exists_eq_right', Root.live.injEq, eq_self_iff_true, exists_eq, and_true, T.toSh, toShL_ints, toShL_intsO, intsO, rowsO]
  simp -implicitDefEqProofs only [go_sem, List.reduceReplicate, Nat.reduceEqDiff, Nat.reduceAdd, Nat.reduceLeDiff, Nat.reduceMul, Nat.reduceSub, Nat.reduceDiv, Int.reduceToNat, Nat.reduceLT, Int.reduceLT, Int.reduceLE, ↓reduceIte, reduceCtorEq, forall_apply_eq_imp_iff₂, ints, rows, rat, rats, toNat_cast]
  refine CallW.exi (spec_l26DrawMix_ok cs hc hl a1 ha1 (m.headD []).length (headD_small hm)) [9] [] rfl Try.call119 (by simp) ?_ (by simp) ?_ (.inl rfl) (fun y hy => ?_)
  · simp -implicitDefEqProofs only [rootOf_arr, rootOf_box, rootOf_any, srcsOK, updL, updS, upd_apply, Nat.reduceEqDiff, ↓reduceIte, mkRoots, and_true, ints, rows, intsO, rowsO]
  · simp -implicitDefEqProofs only [Int.natCast_zero, Int.cast_ofNat_Int, Int.natCast_one, Nat.le_refl, Nat.reduceLeDiff, Nat.sub_self, Nat.reduceSub, List.getElem?_cons_zero, List.getElem?_cons_succ, vt_self, vaL, vtL, va, vt, vb, maT, List.cons_append, List.nil_append, List.append_nil, true_or, or_true, go_sem, List.reduceReplicate, Nat.reduceEqDiff, Nat.reduceAdd, Nat.reduceLeDiff, Nat.reduceMul, Nat.reduceSub, Nat.reduceDiv, Int.reduceToNat, Nat.reduceLT, Int.reduceLT, Int.reduceLE, ↓reduceIte, reduceCtorEq, ints, rows, rat, rats, ratsO, toShL_ratC, List.mem_cons, List.mem_nil_iff, List.not_mem_nil, or_false, false_or, exists_eq_left, exists_eq_left', exists_eq_right', Root.live.injEq, eq_self_iff_true, exists_eq, and_true, T.toSh, toShL_ints, toShL_intsO, intsO, rowsO]
  simp -implicitDefEqProofs only [List.append_nil, List.cons_append, Nat.reduceLeDiff, afterCall, absT_rowsO, absT_intsO, absT, absL, updL, updS, freeAll, rid, T.noSh, T.noShL, Nat.zero_le, go_sem, List.reduceReplicate, Nat.reduceEqDiff, Nat.reduceAdd, Nat.reduceLeDiff, Nat.reduceMul, Nat.reduceSub, Nat.reduceDiv, Int.reduceToNat, Nat.reduceLT, Int.reduceLT, Int.reduceLE, ↓reduceIte, reduceCtorEq, rat, forall_apply_eq_imp_iff₂, toNat_cast]
  exact ⟨(m, y.1), rfl, hm, hy.1⟩
theorem spec_DrawColumnGains_ok (cs : List Int) (hc : bytesOK cs) (hl : cs.length ≤ 100000000000) : Fun Try.prog 57 [] [.t (bytes cs)] fun o r => ∃ x : List (List Int) × List (Int × Int), o = [] ∧ r = .tup [rowsO x.1, ratsO x.2] ∧ mixP x := by
  refine fun_spec_DrawColumnGains (by simp) ?_
  simp -implicitDefEqProofs only [go_sem, List.reduceReplicate, Nat.reduceEqDiff, Nat.reduceAdd, Nat.reduceLeDiff, Nat.reduceMul, Nat.reduceSub, Nat.reduceDiv, Int.reduceToNat, Nat.reduceLT, Int.reduceLT, Int.reduceLE, ↓reduceIte, reduceCtorEq, forall_apply_eq_imp_iff₂, ints, rows, rat, rats, toNat_cast, c_spec_DrawColumnGains]
  refine CallW.res (spec_l01From_ok cs hc (by omega)) [] rfl Try.call94 ?_ (.inl rfl) ?_
  · simp -implicitDefEqProofs only [Int.natCast_zero, Int.cast_ofNat_Int, Int.natCast_one, Nat.le_refl, Nat.reduceLeDiff, Nat.sub_self, Nat.reduceSub, List.getElem?_cons_zero, List.getElem?_cons_succ, vt_self, vaL, vtL, va, vt, vb, maT, List.cons_append, List.nil_append, List.append_nil, true_or, or_true, go_sem, List.reduceReplicate, Nat.reduceEqDiff, Nat.reduceAdd, Nat.reduceLeDiff, Nat.reduceMul, Nat.reduceSub, Nat.reduceDiv, Int.reduceToNat, Nat.reduceLT, Int.reduceLT, Int.reduceLE, ↓reduceIte, reduceCtorEq, ints, rows, rat, rats, ratsO, toShL_ratC, List.mem_cons, List.mem_nil_iff, List.not_mem_nil, or_false, false_or, exists_eq_left, exists_eq_left', exists_eq_right', Root.live.injEq, eq_self_iff_true, exists_eq, and_true, T.toSh, toShL_ints, toShL_intsO, intsO, rowsO]
  simp -implicitDefEqProofs only [List.append_nil, List.cons_append, Nat.reduceLeDiff, afterCall, absT_rowsO, absT_intsO, absT, absL, updL, updS, freeAll, rid, T.noSh, T.noShL, Nat.zero_le, go_sem, List.reduceReplicate, Nat.reduceEqDiff, Nat.reduceAdd, Nat.reduceLeDiff, Nat.reduceMul, Nat.reduceSub, Nat.reduceDiv, Int.reduceToNat, Nat.reduceLT, Int.reduceLT, Int.reduceLE, ↓reduceIte, reduceCtorEq, rat, forall_apply_eq_imp_iff₂, toNat_cast, srcT]
  have hs0 := seed_from (cs.take 64)
  generalize fromS (cs.take 64) = sd at hs0 ⊢
  refine CallW.exi (spec_l26Draw_ok cs hc hl (0, sd) hs0) [9] [] rfl Try.call132 (by simp) ?_ (by simp) ?_ (.inl rfl) (fun x hx => ?_)
  · simp -implicitDefEqProofs only [rootOf_arr, rootOf_box, rootOf_any, srcsOK, updL, updS, upd_apply, Nat.reduceEqDiff, ↓reduceIte, mkRoots, and_true, ints, rows, intsO, rowsO]
  · simp -implicitDefEqProofs only [Int.natCast_zero, Int.cast_ofNat_Int, Int.natCast_one, Nat.le_refl, Nat.reduceLeDiff, Nat.sub_self, Nat.reduceSub, List.getElem?_cons_zero, List.getElem?_cons_succ, vt_self, vaL, vtL, va, vt, vb, maT, List.cons_append, List.nil_append, List.append_nil, true_or, or_true, go_sem, List.reduceReplicate, Nat.reduceEqDiff, Nat.reduceAdd, Nat.reduceLeDiff, Nat.reduceMul, Nat.reduceSub, Nat.reduceDiv, Int.reduceToNat, Nat.reduceLT, Int.reduceLT, Int.reduceLE, ↓reduceIte, reduceCtorEq, ints, rows, rat, rats, ratsO, toShL_ratC, List.mem_cons, List.mem_nil_iff, List.not_mem_nil, or_false, false_or, exists_eq_left, exists_eq_left', exists_eq_right', Root.live.injEq, eq_self_iff_true, exists_eq, and_true, T.toSh, toShL_ints, toShL_intsO, intsO, rowsO]
  simp -implicitDefEqProofs only [List.append_nil, List.cons_append, Nat.reduceLeDiff, afterCall, absT_rowsO, absT_intsO, absT, absL, updL, updS, freeAll, rid, T.noSh, T.noShL, Nat.zero_le, go_sem, List.reduceReplicate, Nat.reduceEqDiff, Nat.reduceAdd, Nat.reduceLeDiff, Nat.reduceMul, Nat.reduceSub, Nat.reduceDiv, Int.reduceToNat, Nat.reduceLT, Int.reduceLT, Int.reduceLE, ↓reduceIte, reduceCtorEq, rat, forall_apply_eq_imp_iff₂, toNat_cast]
  obtain ⟨m, a1⟩ := x
  obtain ⟨hm, ha1⟩ := hx
  (try simp only [] at hm ha1 ⊢)
  refine CallW.pure (spec_l26Size_ok m) [11] rfl Try.call133 ?_ (by first | trivial | simp [T.noSh, T.noShL, rat]) rfl ?_
  · simp -implicitDefEqProofs only [Int.natCast_zero, Int.cast_ofNat_Int, Int.natCast_one, Nat.le_refl, Nat.reduceLeDiff, Nat.sub_self, Nat.reduceSub, List.getElem?_cons_zero, List.getElem?_cons_succ, vt_self, vaL, vtL, va, vt, vb, maT, List.cons_append, List.nil_append, List.append_nil, true_or, or_true, go_sem, List.reduceReplicate, Nat.reduceEqDiff, Nat.reduceAdd, Nat.reduceLeDiff, Nat.reduceMul, Nat.reduceSub, Nat.reduceDiv, Int.reduceToNat, Nat.reduceLT, Int.reduceLT, Int.reduceLE, ↓reduceIte, reduceCtorEq, ints, rows, rat, rats, ratsO, toShL_ratC, List.mem_cons, List.mem_nil_iff, List.not_mem_nil, or_false, false_or, exists_eq_left, exists_eq_left', exists_eq_right', Root.live.injEq, eq_self_iff_true, exists_eq, and_true, T.toSh, toShL_ints, toShL_intsO, intsO, rowsO]
  simp -implicitDefEqProofs only [go_sem, List.reduceReplicate, Nat.reduceEqDiff, Nat.reduceAdd, Nat.reduceLeDiff, Nat.reduceMul, Nat.reduceSub, Nat.reduceDiv, Int.reduceToNat, Nat.reduceLT, Int.reduceLT, Int.reduceLE, ↓reduceIte, reduceCtorEq, forall_apply_eq_imp_iff₂, ints, rows, rat, rats, toNat_cast]
  refine CallW.exi (spec_l26DrawMix_ok cs hc hl a1 ha1 m.length hm.1) [9] [] rfl Try.call119 (by simp) ?_ (by simp) ?_ (.inl rfl) (fun y hy => ?_)
  · simp -implicitDefEqProofs only [rootOf_arr, rootOf_box, rootOf_any, srcsOK, updL, updS, upd_apply, Nat.reduceEqDiff, ↓reduceIte, mkRoots, and_true, ints, rows, intsO, rowsO]
  · simp -implicitDefEqProofs only [Int.natCast_zero, Int.cast_ofNat_Int, Int.natCast_one, Nat.le_refl, Nat.reduceLeDiff, Nat.sub_self, Nat.reduceSub, List.getElem?_cons_zero, List.getElem?_cons_succ, vt_self, vaL, vtL, va, vt, vb, maT, List.cons_append, List.nil_append, List.append_nil, true_or, or_true, go_sem, List.reduceReplicate, Nat.reduceEqDiff, Nat.reduceAdd, Nat.reduceLeDiff, Nat.reduceMul, Nat.reduceSub, Nat.reduceDiv, Int.reduceToNat, Nat.reduceLT, Int.reduceLT, Int.reduceLE, ↓reduceIte, reduceCtorEq, ints, rows, rat, rats, ratsO, toShL_ratC, List.mem_cons, List.mem_nil_iff, List.not_mem_nil, or_false, false_or, exists_eq_left, exists_eq_left', exists_eq_right', Root.live.injEq, eq_self_iff_true, exists_eq, and_true, T.toSh, toShL_ints, toShL_intsO, intsO, rowsO]
  simp -implicitDefEqProofs only [List.append_nil, List.cons_append, Nat.reduceLeDiff, afterCall, absT_rowsO, absT_intsO, absT, absL, updL, updS, freeAll, rid, T.noSh, T.noShL, Nat.zero_le, go_sem, List.reduceReplicate, Nat.reduceEqDiff, Nat.reduceAdd, Nat.reduceLeDiff, Nat.reduceMul, Nat.reduceSub, Nat.reduceDiv, Int.reduceToNat, Nat.reduceLT, Int.reduceLT, Int.reduceLE, ↓reduceIte, reduceCtorEq, rat, forall_apply_eq_imp_iff₂, toNat_cast]
  exact ⟨(m, y.1), rfl, hm, hy.1⟩
theorem spec_DrawIsMix_ok (cs : List Int) (hc : bytesOK cs) (hl : cs.length ≤ 100000000000) : Fun Try.prog 40 [] [.t (bytes cs)] fun o r => ∃ x : List (Int × Int) × Int, o = [] ∧ r = .tup [ratsO x.1, .i x.2] ∧ x.1.length ≤ 8 := by
  refine fun_spec_DrawIsMix (by simp) ?_
  simp -implicitDefEqProofs only [go_sem, List.reduceReplicate, Nat.reduceEqDiff, Nat.reduceAdd, Nat.reduceLeDiff, Nat.reduceMul, Nat.reduceSub, Nat.reduceDiv, Int.reduceToNat, Nat.reduceLT, Int.reduceLT, Int.reduceLE, ↓reduceIte, reduceCtorEq, forall_apply_eq_imp_iff₂, ints, rows, rat, rats, toNat_cast, c_spec_DrawIsMix]
  refine CallW.res (spec_l01From_ok cs hc (by omega)) [] rfl Try.call94 ?_ (.inl rfl) ?_
  · simp -implicitDefEqProofs only [Int.natCast_zero, Int.cast_ofNat_Int, Int.natCast_one, Nat.le_refl, Nat.reduceLeDiff, Nat.sub_self, Nat.reduceSub, List.getElem?_cons_zero, List.getElem?_cons_succ, vt_self, vaL, vtL, va, vt, vb, maT, List.cons_append, List.nil_append, List.append_nil, true_or, or_true, go_sem, List.reduceReplicate, Nat.reduceEqDiff, Nat.reduceAdd, Nat.reduceLeDiff, Nat.reduceMul, Nat.reduceSub, Nat.reduceDiv, Int.reduceToNat, Nat.reduceLT, Int.reduceLT, Int.reduceLE, ↓reduceIte, reduceCtorEq, ints, rows, rat, rats, ratsO, toShL_ratC, List.mem_cons, List.mem_nil_iff, List.not_mem_nil, or_false, false_or, exists_eq_left, exists_eq_left', exists_eq_right', Root.live.injEq, eq_self_iff_true, exists_eq, and_true, T.toSh, toShL_ints, toShL_intsO, intsO, rowsO]
  simp -implicitDefEqProofs only [List.append_nil, List.cons_append, Nat.reduceLeDiff, afterCall, absT_rowsO, absT_intsO, absT, absL, updL, updS, freeAll, rid, T.noSh, T.noShL, Nat.zero_le, go_sem, List.reduceReplicate, Nat.reduceEqDiff, Nat.reduceAdd, Nat.reduceLeDiff, Nat.reduceMul, Nat.reduceSub, Nat.reduceDiv, Int.reduceToNat, Nat.reduceLT, Int.reduceLT, Int.reduceLE, ↓reduceIte, reduceCtorEq, rat, forall_apply_eq_imp_iff₂, toNat_cast, srcT]
  have hs0 := seed_from (cs.take 64)
  generalize fromS (cs.take 64) = sd at hs0 ⊢
  refine CallW.ref (next_box cs hc hl (0, sd) hs0 6 (by omega)) [7] [] rfl Try.call95 (by simp) ?_ (by simp) ?_ (.inl rfl) ?_
  · simp -implicitDefEqProofs only [rootOf_arr, rootOf_box, rootOf_any, srcsOK, updL, updS, upd_apply, Nat.reduceEqDiff, ↓reduceIte, mkRoots, and_true, ints, rows, intsO, rowsO]
  · simp -implicitDefEqProofs only [Int.natCast_zero, Int.cast_ofNat_Int, Int.natCast_one, Nat.le_refl, Nat.reduceLeDiff, Nat.sub_self, Nat.reduceSub, List.getElem?_cons_zero, List.getElem?_cons_succ, vt_self, vaL, vtL, va, vt, vb, maT, List.cons_append, List.nil_append, List.append_nil, true_or, or_true, go_sem, List.reduceReplicate, Nat.reduceEqDiff, Nat.reduceAdd, Nat.reduceLeDiff, Nat.reduceMul, Nat.reduceSub, Nat.reduceDiv, Int.reduceToNat, Nat.reduceLT, Int.reduceLT, Int.reduceLE, ↓reduceIte, reduceCtorEq, ints, rows, rat, rats, ratsO, toShL_ratC, List.mem_cons, List.mem_nil_iff, List.not_mem_nil, or_false, false_or, exists_eq_left, exists_eq_left', exists_eq_right', Root.live.injEq, eq_self_iff_true, exists_eq, and_true, T.toSh, toShL_ints, toShL_intsO, intsO, rowsO]
  simp -implicitDefEqProofs only [List.append_nil, List.cons_append, Nat.reduceLeDiff, afterCall, absT_rowsO, absT_intsO, absT, absL, updL, updS, freeAll, rid, T.noSh, T.noShL, Nat.zero_le, go_sem, List.reduceReplicate, Nat.reduceEqDiff, Nat.reduceAdd, Nat.reduceLeDiff, Nat.reduceMul, Nat.reduceSub, Nat.reduceDiv, Int.reduceToNat, Nat.reduceLT, Int.reduceLT, Int.reduceLE, ↓reduceIte, reduceCtorEq, rat, forall_apply_eq_imp_iff₂, toNat_cast]
  have hb := nextS_bound (cs := cs) (a := (0, sd)) (show (1 : Int) ≤ 6 by omega)
  have hs1 := nextS_seed (cs := cs) hl hs0 6
  generalize nextS cs (0, sd) 6 = z at hb hs1 ⊢
  obtain ⟨n, a1⟩ := z
  simp only [] at hb hs1 ⊢
  obtain ⟨N, rfl⟩ : ∃ N : Nat, n = (N : Int) := ⟨n.toNat, by omega⟩
  refine CallW.exi (spec_l26DrawMix_ok cs hc hl a1 hs1 N (by omega)) [7] [] rfl Try.call119 (by simp) ?_ (by simp) ?_ (.inl rfl) (fun y hy => ?_)
  · simp -implicitDefEqProofs only [rootOf_arr, rootOf_box, rootOf_any, srcsOK, updL, updS, upd_apply, Nat.reduceEqDiff, ↓reduceIte, mkRoots, and_true, ints, rows, intsO, rowsO]
  · simp -implicitDefEqProofs only [Int.natCast_zero, Int.cast_ofNat_Int, Int.natCast_one, Nat.le_refl, Nat.reduceLeDiff, Nat.sub_self, Nat.reduceSub, List.getElem?_cons_zero, List.getElem?_cons_succ, vt_self, vaL, vtL, va, vt, vb, maT, List.cons_append, List.nil_append, List.append_nil, true_or, or_true, go_sem, List.reduceReplicate, Nat.reduceEqDiff, Nat.reduceAdd, Nat.reduceLeDiff, Nat.reduceMul, Nat.reduceSub, Nat.reduceDiv, Int.reduceToNat, Nat.reduceLT, Int.reduceLT, Int.reduceLE, ↓reduceIte, reduceCtorEq, ints, rows, rat, rats, ratsO, toShL_ratC, List.mem_cons, List.mem_nil_iff, List.not_mem_nil, or_false, false_or, exists_eq_left, exists_eq_left', exists_eq_right', Root.live.injEq, eq_self_iff_true, exists_eq, and_true, T.toSh, toShL_ints, toShL_intsO, intsO, rowsO]
  simp -implicitDefEqProofs only [List.append_nil, List.cons_append, Nat.reduceLeDiff, afterCall, absT_rowsO, absT_intsO, absT, absL, updL, updS, freeAll, rid, T.noSh, T.noShL, Nat.zero_le, go_sem, List.reduceReplicate, Nat.reduceEqDiff, Nat.reduceAdd, Nat.reduceLeDiff, Nat.reduceMul, Nat.reduceSub, Nat.reduceDiv, Int.reduceToNat, Nat.reduceLT, Int.reduceLT, Int.reduceLE, ↓reduceIte, reduceCtorEq, rat, forall_apply_eq_imp_iff₂, toNat_cast]
  exact ⟨(y.1, (N : Int)), rfl, hy.1⟩
theorem spec_DrawBestRow_ok (cs : List Int) (hc : bytesOK cs) (hl : cs.length ≤ 100000000000) : Fun Try.prog 42 [] [.t (bytes cs)] fun o r => ∃ x : List (List Int) × List (Int × Int), o = [] ∧ r = .tup [rowsO x.1, ratsO x.2] ∧ mixP x := by
  refine fun_spec_DrawBestRow (by simp) ?_
  simp -implicitDefEqProofs only [go_sem, List.reduceReplicate, Nat.reduceEqDiff, Nat.reduceAdd, Nat.reduceLeDiff, Nat.reduceMul, Nat.reduceSub, Nat.reduceDiv, Int.reduceToNat, Nat.reduceLT, Int.reduceLT, Int.reduceLE, ↓reduceIte, reduceCtorEq, forall_apply_eq_imp_iff₂, ints, rows, rat, rats, toNat_cast, c_spec_DrawBestRow]
  refine CallW.exi (spec_DrawRowGains_ok cs hc hl) [] [] rfl Try.call56 (by simp) ?_ (by simp) ?_ (.inl rfl) (fun x hx => ?_)
  · simp -implicitDefEqProofs only [rootOf_arr, rootOf_box, rootOf_any, srcsOK, updL, updS, upd_apply, Nat.reduceEqDiff, ↓reduceIte, mkRoots, and_true, ints, rows, intsO, rowsO]
  · simp -implicitDefEqProofs only [Int.natCast_zero, Int.cast_ofNat_Int, Int.natCast_one, Nat.le_refl, Nat.reduceLeDiff, Nat.sub_self, Nat.reduceSub, List.getElem?_cons_zero, List.getElem?_cons_succ, vt_self, vaL, vtL, va, vt, vb, maT, List.cons_append, List.nil_append, List.append_nil, true_or, or_true, go_sem, List.reduceReplicate, Nat.reduceEqDiff, Nat.reduceAdd, Nat.reduceLeDiff, Nat.reduceMul, Nat.reduceSub, Nat.reduceDiv, Int.reduceToNat, Nat.reduceLT, Int.reduceLT, Int.reduceLE, ↓reduceIte, reduceCtorEq, ints, rows, rat, rats, ratsO, toShL_ratC, List.mem_cons, List.mem_nil_iff, List.not_mem_nil, or_false, false_or, exists_eq_left, exists_eq_left', exists_eq_right', Root.live.injEq, eq_self_iff_true, exists_eq, and_true, T.toSh, toShL_ints, toShL_intsO, intsO, rowsO]
  simp -implicitDefEqProofs only [List.append_nil, List.cons_append, Nat.reduceLeDiff, afterCall, absT_rowsO, absT_intsO, absT, absL, updL, updS, freeAll, rid, T.noSh, T.noShL, Nat.zero_le, go_sem, List.reduceReplicate, Nat.reduceEqDiff, Nat.reduceAdd, Nat.reduceLeDiff, Nat.reduceMul, Nat.reduceSub, Nat.reduceDiv, Int.reduceToNat, Nat.reduceLT, Int.reduceLT, Int.reduceLE, ↓reduceIte, reduceCtorEq, rat, forall_apply_eq_imp_iff₂, toNat_cast]
  exact ⟨x, rfl, hx⟩
theorem spec_DrawSecurityOf_ok (cs : List Int) (hc : bytesOK cs) (hl : cs.length ≤ 100000000000) : Fun Try.prog 45 [] [.t (bytes cs)] fun o r => ∃ x : List (List Int) × List (Int × Int), o = [] ∧ r = .tup [rowsO x.1, ratsO x.2] ∧ mixP x := by
  refine fun_spec_DrawSecurityOf (by simp) ?_
  simp -implicitDefEqProofs only [go_sem, List.reduceReplicate, Nat.reduceEqDiff, Nat.reduceAdd, Nat.reduceLeDiff, Nat.reduceMul, Nat.reduceSub, Nat.reduceDiv, Int.reduceToNat, Nat.reduceLT, Int.reduceLT, Int.reduceLE, ↓reduceIte, reduceCtorEq, forall_apply_eq_imp_iff₂, ints, rows, rat, rats, toNat_cast, c_spec_DrawSecurityOf]
  refine CallW.exi (spec_DrawColumnGains_ok cs hc hl) [] [] rfl Try.call57 (by simp) ?_ (by simp) ?_ (.inl rfl) (fun x hx => ?_)
  · simp -implicitDefEqProofs only [rootOf_arr, rootOf_box, rootOf_any, srcsOK, updL, updS, upd_apply, Nat.reduceEqDiff, ↓reduceIte, mkRoots, and_true, ints, rows, intsO, rowsO]
  · simp -implicitDefEqProofs only [Int.natCast_zero, Int.cast_ofNat_Int, Int.natCast_one, Nat.le_refl, Nat.reduceLeDiff, Nat.sub_self, Nat.reduceSub, List.getElem?_cons_zero, List.getElem?_cons_succ, vt_self, vaL, vtL, va, vt, vb, maT, List.cons_append, List.nil_append, List.append_nil, true_or, or_true, go_sem, List.reduceReplicate, Nat.reduceEqDiff, Nat.reduceAdd, Nat.reduceLeDiff, Nat.reduceMul, Nat.reduceSub, Nat.reduceDiv, Int.reduceToNat, Nat.reduceLT, Int.reduceLT, Int.reduceLE, ↓reduceIte, reduceCtorEq, ints, rows, rat, rats, ratsO, toShL_ratC, List.mem_cons, List.mem_nil_iff, List.not_mem_nil, or_false, false_or, exists_eq_left, exists_eq_left', exists_eq_right', Root.live.injEq, eq_self_iff_true, exists_eq, and_true, T.toSh, toShL_ints, toShL_intsO, intsO, rowsO]
  simp -implicitDefEqProofs only [List.append_nil, List.cons_append, Nat.reduceLeDiff, afterCall, absT_rowsO, absT_intsO, absT, absL, updL, updS, freeAll, rid, T.noSh, T.noShL, Nat.zero_le, go_sem, List.reduceReplicate, Nat.reduceEqDiff, Nat.reduceAdd, Nat.reduceLeDiff, Nat.reduceMul, Nat.reduceSub, Nat.reduceDiv, Int.reduceToNat, Nat.reduceLT, Int.reduceLT, Int.reduceLE, ↓reduceIte, reduceCtorEq, rat, forall_apply_eq_imp_iff₂, toNat_cast]
  exact ⟨x, rfl, hx⟩
def crRes (a b : Int × Int) : Int × Int := if isRat a && isRat b then (cmpR a b, 0) else (0, 1)
theorem impl_CompareRatios_ok (a b : Int × Int) : Pure Try.prog 52 [rat a, rat b] (.tup [.i (crRes a b).1, .i (crRes a b).2]) := by
  refine fun_impl_CompareRatios (by simp) ?_
  simp -implicitDefEqProofs only [go_sem, List.reduceReplicate, Nat.reduceEqDiff, Nat.reduceAdd, Nat.reduceLeDiff, Nat.reduceMul, Nat.reduceSub, Nat.reduceDiv, Int.reduceToNat, Nat.reduceLT, Int.reduceLT, Int.reduceLE, ↓reduceIte, reduceCtorEq, forall_apply_eq_imp_iff₂, ints, rows, rat, rats, toNat_cast, c_impl_CompareRatios]
  refine CallW.pure (impl_IsRatio_ok a) [] rfl Try.call120 ?_ (by first | trivial | simp [T.noSh, T.noShL, rat]) rfl ?_
  · simp -implicitDefEqProofs only [Int.natCast_zero, Int.cast_ofNat_Int, Int.natCast_one, Nat.le_refl, Nat.reduceLeDiff, Nat.sub_self, Nat.reduceSub, List.getElem?_cons_zero, List.getElem?_cons_succ, vt_self, vaL, vtL, va, vt, vb, maT, List.cons_append, List.nil_append, List.append_nil, true_or, or_true, go_sem, List.reduceReplicate, Nat.reduceEqDiff, Nat.reduceAdd, Nat.reduceLeDiff, Nat.reduceMul, Nat.reduceSub, Nat.reduceDiv, Int.reduceToNat, Nat.reduceLT, Int.reduceLT, Int.reduceLE, ↓reduceIte, reduceCtorEq, ints, rows, rat, rats, ratsO, toShL_ratC, List.mem_cons, List.mem_nil_iff, List.not_mem_nil, or_false, false_or, exists_eq_left, exists_eq_left', exists_eq_right', Root.live.injEq, eq_self_iff_true, exists_eq, and_true, T.toSh, toShL_ints, toShL_intsO, intsO, rowsO]
  simp -implicitDefEqProofs only [go_sem, List.reduceReplicate, Nat.reduceEqDiff, Nat.reduceAdd, Nat.reduceLeDiff, Nat.reduceMul, Nat.reduceSub, Nat.reduceDiv, Int.reduceToNat, Nat.reduceLT, Int.reduceLT, Int.reduceLE, ↓reduceIte, reduceCtorEq, forall_apply_eq_imp_iff₂, ints, rows, rat, rats, toNat_cast]
  refine ⟨fun h1 => ?_, fun h1 => ?_⟩
  · have h1 : isRat a = true := by simpa using h1
    refine CallW.pure (impl_IsRatio_ok b) [] rfl Try.call120 ?_ (by first | trivial | simp [T.noSh, T.noShL, rat]) rfl ?_
    · simp -implicitDefEqProofs only [Int.natCast_zero, Int.cast_ofNat_Int, Int.natCast_one, Nat.le_refl, Nat.reduceLeDiff, Nat.sub_self, Nat.reduceSub, List.getElem?_cons_zero, List.getElem?_cons_succ, vt_self, vaL, vtL, va, vt, vb, maT, List.cons_append, List.nil_append, List.append_nil, true_or, or_true, go_sem, List.reduceReplicate, Nat.reduceEqDiff, Nat.reduceAdd, Nat.reduceLeDiff, Nat.reduceMul, Nat.reduceSub, Nat.reduceDiv, Int.reduceToNat, Nat.reduceLT, Int.reduceLT, Int.reduceLE, ↓reduceIte, reduceCtorEq, ints, rows, rat, rats, ratsO, toShL_ratC, List.mem_cons, List.mem_nil_iff, List.not_mem_nil, or_false, false_or, exists_eq_left, exists_eq_left', exists_eq_right', Root.live.injEq, eq_self_iff_true, exists_eq, and_true, T.toSh, toShL_ints, toShL_intsO, intsO, rowsO]
    simp -implicitDefEqProofs only [go_sem, List.reduceReplicate, Nat.reduceEqDiff, Nat.reduceAdd, Nat.reduceLeDiff, Nat.reduceMul, Nat.reduceSub, Nat.reduceDiv, Int.reduceToNat, Nat.reduceLT, Int.reduceLT, Int.reduceLE, ↓reduceIte, reduceCtorEq, forall_apply_eq_imp_iff₂, ints, rows, rat, rats, toNat_cast]
    refine ⟨fun h2 => ?_, fun h2 => ?_⟩
    · have h2 : isRat b = false := by simpa using h2
      rw [crRes, h1, h2]; rfl
    · have h2 : isRat b = true := by simpa using h2
      refine CallW.pure (impl_compareRatios_ok a b h1 h2) [] rfl Try.call121 ?_ (by first | trivial | simp [T.noSh, T.noShL, rat]) rfl ?_
      · simp -implicitDefEqProofs only [Int.natCast_zero, Int.cast_ofNat_Int, Int.natCast_one, Nat.le_refl, Nat.reduceLeDiff, Nat.sub_self, Nat.reduceSub, List.getElem?_cons_zero, List.getElem?_cons_succ, vt_self, vaL, vtL, va, vt, vb, maT, List.cons_append, List.nil_append, List.append_nil, true_or, or_true, go_sem, List.reduceReplicate, Nat.reduceEqDiff, Nat.reduceAdd, Nat.reduceLeDiff, Nat.reduceMul, Nat.reduceSub, Nat.reduceDiv, Int.reduceToNat, Nat.reduceLT, Int.reduceLT, Int.reduceLE, ↓reduceIte, reduceCtorEq, ints, rows, rat, rats, ratsO, toShL_ratC, List.mem_cons, List.mem_nil_iff, List.not_mem_nil, or_false, false_or, exists_eq_left, exists_eq_left', exists_eq_right', Root.live.injEq, eq_self_iff_true, exists_eq, and_true, T.toSh, toShL_ints, toShL_intsO, intsO, rowsO]
      simp -implicitDefEqProofs only [go_sem, List.reduceReplicate, Nat.reduceEqDiff, Nat.reduceAdd, Nat.reduceLeDiff, Nat.reduceMul, Nat.reduceSub, Nat.reduceDiv, Int.reduceToNat, Nat.reduceLT, Int.reduceLT, Int.reduceLE, ↓reduceIte, reduceCtorEq, forall_apply_eq_imp_iff₂, ints, rows, rat, rats, toNat_cast]
      rw [crRes, h1, h2]; rfl
  · have h1 : isRat a = false := by simpa using h1
    rw [crRes, h1]; rfl
end Go.Ab

/- The law FnMixes, as a contract. -/
set_option linter.unusedSimpArgs false
set_option linter.unusedVariables false
namespace Go.Ab
open Go.Proofs

/-- The sum of the first k parts, formed in order. -/
def psum (l : List (Int × Int)) : Nat → Int × Int
  | 0 => (0, 1)
  | k + 1 => (addR (psum l k) (l.getD k (0, 0))).1
theorem psum_mix : ∀ (l : List (Int × Int)) (s : Int × Int) (pre : List (Int × Int)), mixGo s l = true → s = psum (pre ++ l) pre.length → (∀ k, k < l.length → (addR (psum (pre ++ l) (pre.length + k)) ((pre ++ l).getD (pre.length + k) (0, 0))).2 = 0 ∧ isRat ((pre ++ l).getD (pre.length + k) (0, 0)) = true ∧ 0 ≤ ((pre ++ l).getD (pre.length + k) (0, 0)).1) ∧ psum (pre ++ l) (pre.length + l.length) = (1, 1)
  | [], s, pre, h, hs => by
    simp only [mixGo, decide_eq_true_eq] at h
    refine ⟨fun k hk => absurd hk (by simp), ?_⟩
    rw [List.length_nil, Nat.add_zero, ← hs, h]
  | x :: l, s, pre, h, hs => by
    simp only [mixGo, Bool.and_eq_true, decide_eq_true_eq] at h
    obtain ⟨⟨⟨h1, h2⟩, h3⟩, h4⟩ := h
    have hx : (pre ++ x :: l).getD pre.length (0, 0) = x := by simp [List.getD_eq_getElem?_getD]
    have e : pre ++ x :: l = (pre ++ [x]) ++ l := by simp
    have hl : (pre ++ [x]).length = pre.length + 1 := by simp
    obtain ⟨i1, i2⟩ := psum_mix l (addR s x).1 (pre ++ [x]) h4 (by rw [hl, ← e, psum, hx, ← hs])
    rw [← e, hl] at i1 i2
    refine ⟨fun k hk => ?_, ?_⟩
    · cases k with
      | zero => rw [Nat.add_zero, ← hs, hx]; exact ⟨h3, h1, h2⟩
      | succ k =>
        have := i1 k (by simpa using hk)
        rw [show pre.length + 1 + k = pre.length + (k + 1) by omega] at this
        exact this
    · rw [List.length_cons, show pre.length + (l.length + 1) = pre.length + 1 + l.length by omega]; exact i2
theorem psum_isMix {p : List (Int × Int)} {n : Int} (h : isMixB p n = true) : (∀ k, k < p.length → (addR (psum p k) (p.getD k (0, 0))).2 = 0 ∧ 0 ≤ (p.getD k (0, 0)).1) ∧ psum p p.length = (1, 1) := by
  simp only [isMixB, Bool.and_eq_true, decide_eq_true_eq] at h
  obtain ⟨h1, h2⟩ := psum_mix p (0, 1) [] h.2 rfl
  simp only [List.nil_append, List.length_nil, Nat.zero_add] at h1 h2
  exact ⟨fun k hk => ⟨(h1 k hk).1, (h1 k hk).2.2⟩, h2⟩
theorem brRes_zero {m : List (List Int)} {q : List (Int × Int)} (h : (brRes m q).2 = 0) : isMat m = true ∧ isMixB q (m.headD []).length = true ∧ (gainsGo q m).2 = 0 ∧ rgRes m q = gainsGo q m ∧ (brRes m q).1 = ((bestI (gainsGo q m).1 (gainsGo q m).1.length : Nat) : Int) := by
  unfold brRes at h ⊢
  unfold rgRes at h ⊢
  by_cases h1 : isMat m = true
  · rw [if_pos h1] at h ⊢
    by_cases h2 : isMixB q (m.headD []).length = true
    · rw [if_pos h2] at h ⊢
      by_cases h3 : (gainsGo q m).2 ≠ 0
      · rw [if_pos h3] at h; exact absurd h h3
      · rw [if_neg h3] at h ⊢
        exact ⟨h1, h2, by omega, rfl, rfl⟩
    · rw [if_neg h2] at h; simp at h
  · rw [if_neg h1] at h; simp at h
theorem redP {f : FuncId} {a b : Int × Int} {x : (Int × Int) × Int} (h : Fun Try.prog f [] [.t (rat a), .t (rat b)] fun o r => o = [] ∧ r = redT x) : Pure Try.prog f [rat a, rat b] (redT x) := h
set_option maxRecDepth 20000 in
theorem laws_FnMixes_ok (cs : List Int) (hc : bytesOK cs) : Pure Try.prog 6 [bytes cs] (.b true) := by
  refine fun_laws_FnMixes (by simp) ?_
  simp -implicitDefEqProofs only [go_sem, List.reduceReplicate, Nat.reduceEqDiff, Nat.reduceAdd, Nat.reduceLeDiff, Nat.reduceMul, Nat.reduceSub, Nat.reduceDiv, Int.reduceToNat, Nat.reduceLT, Int.reduceLT, Int.reduceLE, ↓reduceIte, reduceCtorEq, forall_apply_eq_imp_iff₂, ints, rows, rat, rats, toNat_cast, c_laws_FnMixes]
  refine CallW.pure (laws_big_ok cs) [] rfl Try.call16 ?_ (by first | trivial | simp [T.noSh, T.noShL, rat]) rfl ?_
  · simp -implicitDefEqProofs only [Int.natCast_zero, Int.cast_ofNat_Int, Int.natCast_one, Nat.le_refl, Nat.reduceLeDiff, Nat.sub_self, Nat.reduceSub, List.getElem?_cons_zero, List.getElem?_cons_succ, vt_self, vaL, vtL, va, vt, vb, maT, List.cons_append, List.nil_append, List.append_nil, true_or, or_true, go_sem, List.reduceReplicate, Nat.reduceEqDiff, Nat.reduceAdd, Nat.reduceLeDiff, Nat.reduceMul, Nat.reduceSub, Nat.reduceDiv, Int.reduceToNat, Nat.reduceLT, Int.reduceLT, Int.reduceLE, ↓reduceIte, reduceCtorEq, ints, rows, rat, rats, ratsO, toShL_ratC, List.mem_cons, List.mem_nil_iff, List.not_mem_nil, or_false, false_or, exists_eq_left, exists_eq_left', exists_eq_right', Root.live.injEq, eq_self_iff_true, exists_eq, and_true, T.toSh, toShL_ints, toShL_intsO, intsO, rowsO]
  simp -implicitDefEqProofs only [go_sem, List.reduceReplicate, Nat.reduceEqDiff, Nat.reduceAdd, Nat.reduceLeDiff, Nat.reduceMul, Nat.reduceSub, Nat.reduceDiv, Int.reduceToNat, Nat.reduceLT, Int.reduceLT, Int.reduceLE, ↓reduceIte, reduceCtorEq, forall_apply_eq_imp_iff₂, ints, rows, rat, rats, toNat_cast]
  refine ⟨fun _ => trivial, fun hbig => ?_⟩
  have hl : cs.length ≤ 4096 := by have : (cs.length : Int) ≤ 4096 := by simpa using hbig
                                   omega
  refine CallW.exi (spec_DrawIsMix_ok cs hc (by omega)) [] [] rfl Try.call40 (by simp) ?_ (by simp) ?_ (.inl rfl) (fun x hp => ?_)
  · simp -implicitDefEqProofs only [rootOf_arr, rootOf_box, rootOf_any, srcsOK, updL, updS, upd_apply, Nat.reduceEqDiff, ↓reduceIte, mkRoots, and_true, ints, rows, intsO, rowsO]
  · simp -implicitDefEqProofs only [Int.natCast_zero, Int.cast_ofNat_Int, Int.natCast_one, Nat.le_refl, Nat.reduceLeDiff, Nat.sub_self, Nat.reduceSub, List.getElem?_cons_zero, List.getElem?_cons_succ, vt_self, vaL, vtL, va, vt, vb, maT, List.cons_append, List.nil_append, List.append_nil, true_or, or_true, go_sem, List.reduceReplicate, Nat.reduceEqDiff, Nat.reduceAdd, Nat.reduceLeDiff, Nat.reduceMul, Nat.reduceSub, Nat.reduceDiv, Int.reduceToNat, Nat.reduceLT, Int.reduceLT, Int.reduceLE, ↓reduceIte, reduceCtorEq, ints, rows, rat, rats, ratsO, toShL_ratC, List.mem_cons, List.mem_nil_iff, List.not_mem_nil, or_false, false_or, exists_eq_left, exists_eq_left', exists_eq_right', Root.live.injEq, eq_self_iff_true, exists_eq, and_true, T.toSh, toShL_ints, toShL_intsO, intsO, rowsO]
  simp -implicitDefEqProofs only [List.append_nil, List.cons_append, Nat.reduceLeDiff, afterCall, absT_rowsO, absT_intsO, absT, absL, updL, updS, freeAll, rid, T.noSh, T.noShL, Nat.zero_le, go_sem, List.reduceReplicate, Nat.reduceEqDiff, Nat.reduceAdd, Nat.reduceLeDiff, Nat.reduceMul, Nat.reduceSub, Nat.reduceDiv, Int.reduceToNat, Nat.reduceLT, Int.reduceLT, Int.reduceLE, ↓reduceIte, reduceCtorEq, rat, forall_apply_eq_imp_iff₂, toNat_cast]
  obtain ⟨p, n⟩ := x
  (try simp only [] at hp ⊢)
  refine CallW.pure (impl_IsMix_ok p n (by omega)) [33] rfl Try.call41 ?_ (by first | trivial | simp [T.noSh, T.noShL, rat]) rfl ?_
  · simp -implicitDefEqProofs only [Int.natCast_zero, Int.cast_ofNat_Int, Int.natCast_one, Nat.le_refl, Nat.reduceLeDiff, Nat.sub_self, Nat.reduceSub, List.getElem?_cons_zero, List.getElem?_cons_succ, vt_self, vaL, vtL, va, vt, vb, maT, List.cons_append, List.nil_append, List.append_nil, true_or, or_true, go_sem, List.reduceReplicate, Nat.reduceEqDiff, Nat.reduceAdd, Nat.reduceLeDiff, Nat.reduceMul, Nat.reduceSub, Nat.reduceDiv, Int.reduceToNat, Nat.reduceLT, Int.reduceLT, Int.reduceLE, ↓reduceIte, reduceCtorEq, ints, rows, rat, rats, ratsO, toShL_ratC, List.mem_cons, List.mem_nil_iff, List.not_mem_nil, or_false, false_or, exists_eq_left, exists_eq_left', exists_eq_right', Root.live.injEq, eq_self_iff_true, exists_eq, and_true, T.toSh, toShL_ints, toShL_intsO, intsO, rowsO]
  simp -implicitDefEqProofs only [go_sem, List.reduceReplicate, Nat.reduceEqDiff, Nat.reduceAdd, Nat.reduceLeDiff, Nat.reduceMul, Nat.reduceSub, Nat.reduceDiv, Int.reduceToNat, Nat.reduceLT, Int.reduceLT, Int.reduceLE, ↓reduceIte, reduceCtorEq, forall_apply_eq_imp_iff₂, ints, rows, rat, rats, toNat_cast]
  refine CallW.exi (spec_DrawBestRow_ok cs hc (by omega)) [] [] rfl Try.call42 (by simp) ?_ (by simp) ?_ (.inl rfl) (fun x hx => ?_)
  · simp -implicitDefEqProofs only [rootOf_arr, rootOf_box, rootOf_any, srcsOK, updL, updS, upd_apply, Nat.reduceEqDiff, ↓reduceIte, mkRoots, and_true, ints, rows, intsO, rowsO]
  · simp -implicitDefEqProofs only [Int.natCast_zero, Int.cast_ofNat_Int, Int.natCast_one, Nat.le_refl, Nat.reduceLeDiff, Nat.sub_self, Nat.reduceSub, List.getElem?_cons_zero, List.getElem?_cons_succ, vt_self, vaL, vtL, va, vt, vb, maT, List.cons_append, List.nil_append, List.append_nil, true_or, or_true, go_sem, List.reduceReplicate, Nat.reduceEqDiff, Nat.reduceAdd, Nat.reduceLeDiff, Nat.reduceMul, Nat.reduceSub, Nat.reduceDiv, Int.reduceToNat, Nat.reduceLT, Int.reduceLT, Int.reduceLE, ↓reduceIte, reduceCtorEq, ints, rows, rat, rats, ratsO, toShL_ratC, List.mem_cons, List.mem_nil_iff, List.not_mem_nil, or_false, false_or, exists_eq_left, exists_eq_left', exists_eq_right', Root.live.injEq, eq_self_iff_true, exists_eq, and_true, T.toSh, toShL_ints, toShL_intsO, intsO, rowsO]
  simp -implicitDefEqProofs only [List.append_nil, List.cons_append, Nat.reduceLeDiff, afterCall, absT_rowsO, absT_intsO, absT, absL, updL, updS, freeAll, rid, T.noSh, T.noShL, Nat.zero_le, go_sem, List.reduceReplicate, Nat.reduceEqDiff, Nat.reduceAdd, Nat.reduceLeDiff, Nat.reduceMul, Nat.reduceSub, Nat.reduceDiv, Int.reduceToNat, Nat.reduceLT, Int.reduceLT, Int.reduceLE, ↓reduceIte, reduceCtorEq, rat, forall_apply_eq_imp_iff₂, toNat_cast]
  obtain ⟨m, q⟩ := x
  obtain ⟨hm, hq⟩ := hx
  (try simp only [] at hm hq ⊢)
  have hml : m.length ≤ 1000000000000 := by have := hm.1; omega
  have hmr : ∀ r ∈ m, r.length ≤ 1000000000000 := fun r hr => by have := hm.2 r hr; omega
  refine CallW.res (impl_BestRow_ok m q hml hmr (by omega)) [41, 42001] rfl Try.call43 ?_ (.inr (brT_noSh _)) ?_
  · simp -implicitDefEqProofs only [Int.natCast_zero, Int.cast_ofNat_Int, Int.natCast_one, Nat.le_refl, Nat.reduceLeDiff, Nat.sub_self, Nat.reduceSub, List.getElem?_cons_zero, List.getElem?_cons_succ, vt_self, vaL, vtL, va, vt, vb, maT, List.cons_append, List.nil_append, List.append_nil, true_or, or_true, go_sem, List.reduceReplicate, Nat.reduceEqDiff, Nat.reduceAdd, Nat.reduceLeDiff, Nat.reduceMul, Nat.reduceSub, Nat.reduceDiv, Int.reduceToNat, Nat.reduceLT, Int.reduceLT, Int.reduceLE, ↓reduceIte, reduceCtorEq, ints, rows, rat, rats, ratsO, toShL_ratC, List.mem_cons, List.mem_nil_iff, List.not_mem_nil, or_false, false_or, exists_eq_left, exists_eq_left', exists_eq_right', Root.live.injEq, eq_self_iff_true, exists_eq, and_true, T.toSh, toShL_ints, toShL_intsO, intsO, rowsO]
  simp -implicitDefEqProofs only [List.append_nil, List.cons_append, Nat.reduceLeDiff, afterCall, absT_rowsO, absT_intsO, absT, absL, updL, updS, freeAll, rid, T.noSh, T.noShL, Nat.zero_le, go_sem, List.reduceReplicate, Nat.reduceEqDiff, Nat.reduceAdd, Nat.reduceLeDiff, Nat.reduceMul, Nat.reduceSub, Nat.reduceDiv, Int.reduceToNat, Nat.reduceLT, Int.reduceLT, Int.reduceLE, ↓reduceIte, reduceCtorEq, rat, forall_apply_eq_imp_iff₂, toNat_cast, brT]
  refine CallW.res (spec_BestRow_ok m q (by omega)) [41, 42001] rfl Try.call44 ?_ (.inr (brT_noSh _)) ?_
  · simp -implicitDefEqProofs only [Int.natCast_zero, Int.cast_ofNat_Int, Int.natCast_one, Nat.le_refl, Nat.reduceLeDiff, Nat.sub_self, Nat.reduceSub, List.getElem?_cons_zero, List.getElem?_cons_succ, vt_self, vaL, vtL, va, vt, vb, maT, List.cons_append, List.nil_append, List.append_nil, true_or, or_true, go_sem, List.reduceReplicate, Nat.reduceEqDiff, Nat.reduceAdd, Nat.reduceLeDiff, Nat.reduceMul, Nat.reduceSub, Nat.reduceDiv, Int.reduceToNat, Nat.reduceLT, Int.reduceLT, Int.reduceLE, ↓reduceIte, reduceCtorEq, ints, rows, rat, rats, ratsO, toShL_ratC, List.mem_cons, List.mem_nil_iff, List.not_mem_nil, or_false, false_or, exists_eq_left, exists_eq_left', exists_eq_right', Root.live.injEq, eq_self_iff_true, exists_eq, and_true, T.toSh, toShL_ints, toShL_intsO, intsO, rowsO]
  simp -implicitDefEqProofs only [List.append_nil, List.cons_append, Nat.reduceLeDiff, afterCall, absT_rowsO, absT_intsO, absT, absL, updL, updS, freeAll, rid, T.noSh, T.noShL, Nat.zero_le, go_sem, List.reduceReplicate, Nat.reduceEqDiff, Nat.reduceAdd, Nat.reduceLeDiff, Nat.reduceMul, Nat.reduceSub, Nat.reduceDiv, Int.reduceToNat, Nat.reduceLT, Int.reduceLT, Int.reduceLE, ↓reduceIte, reduceCtorEq, rat, forall_apply_eq_imp_iff₂, toNat_cast, brT]
  refine CallW.exi (spec_DrawSecurityOf_ok cs hc (by omega)) [] [] rfl Try.call45 (by simp) ?_ (by simp) ?_ (.inl rfl) (fun x hx => ?_)
  · simp -implicitDefEqProofs only [rootOf_arr, rootOf_box, rootOf_any, srcsOK, updL, updS, upd_apply, Nat.reduceEqDiff, ↓reduceIte, mkRoots, and_true, ints, rows, intsO, rowsO]
  · simp -implicitDefEqProofs only [Int.natCast_zero, Int.cast_ofNat_Int, Int.natCast_one, Nat.le_refl, Nat.reduceLeDiff, Nat.sub_self, Nat.reduceSub, List.getElem?_cons_zero, List.getElem?_cons_succ, vt_self, vaL, vtL, va, vt, vb, maT, List.cons_append, List.nil_append, List.append_nil, true_or, or_true, go_sem, List.reduceReplicate, Nat.reduceEqDiff, Nat.reduceAdd, Nat.reduceLeDiff, Nat.reduceMul, Nat.reduceSub, Nat.reduceDiv, Int.reduceToNat, Nat.reduceLT, Int.reduceLT, Int.reduceLE, ↓reduceIte, reduceCtorEq, ints, rows, rat, rats, ratsO, toShL_ratC, List.mem_cons, List.mem_nil_iff, List.not_mem_nil, or_false, false_or, exists_eq_left, exists_eq_left', exists_eq_right', Root.live.injEq, eq_self_iff_true, exists_eq, and_true, T.toSh, toShL_ints, toShL_intsO, intsO, rowsO]
  simp -implicitDefEqProofs only [List.append_nil, List.cons_append, Nat.reduceLeDiff, afterCall, absT_rowsO, absT_intsO, absT, absL, updL, updS, freeAll, rid, T.noSh, T.noShL, Nat.zero_le, go_sem, List.reduceReplicate, Nat.reduceEqDiff, Nat.reduceAdd, Nat.reduceLeDiff, Nat.reduceMul, Nat.reduceSub, Nat.reduceDiv, Int.reduceToNat, Nat.reduceLT, Int.reduceLT, Int.reduceLE, ↓reduceIte, reduceCtorEq, rat, forall_apply_eq_imp_iff₂, toNat_cast]
  obtain ⟨m1, q1⟩ := x
  obtain ⟨hm1, hq1⟩ := hx
  (try simp only [] at hm1 hq1 ⊢)
  have hml1 : m1.length ≤ 1000000000000 := by have := hm1.1; omega
  have hmr1 : ∀ r ∈ m1, r.length ≤ 1000000000000 := fun r hr => by have := hm1.2 r hr; omega
  refine CallW.res (impl_SecurityOf_ok m1 q1 hml1 hmr1 (by omega)) [58, 59001] rfl Try.call46 ?_ (.inr (redT_noSh _)) ?_
  · simp -implicitDefEqProofs only [Int.natCast_zero, Int.cast_ofNat_Int, Int.natCast_one, Nat.le_refl, Nat.reduceLeDiff, Nat.sub_self, Nat.reduceSub, List.getElem?_cons_zero, List.getElem?_cons_succ, vt_self, vaL, vtL, va, vt, vb, maT, List.cons_append, List.nil_append, List.append_nil, true_or, or_true, go_sem, List.reduceReplicate, Nat.reduceEqDiff, Nat.reduceAdd, Nat.reduceLeDiff, Nat.reduceMul, Nat.reduceSub, Nat.reduceDiv, Int.reduceToNat, Nat.reduceLT, Int.reduceLT, Int.reduceLE, ↓reduceIte, reduceCtorEq, ints, rows, rat, rats, ratsO, toShL_ratC, List.mem_cons, List.mem_nil_iff, List.not_mem_nil, or_false, false_or, exists_eq_left, exists_eq_left', exists_eq_right', Root.live.injEq, eq_self_iff_true, exists_eq, and_true, T.toSh, toShL_ints, toShL_intsO, intsO, rowsO]
  simp -implicitDefEqProofs only [List.append_nil, List.cons_append, Nat.reduceLeDiff, afterCall, absT_rowsO, absT_intsO, absT, absL, updL, updS, freeAll, rid, T.noSh, T.noShL, Nat.zero_le, go_sem, List.reduceReplicate, Nat.reduceEqDiff, Nat.reduceAdd, Nat.reduceLeDiff, Nat.reduceMul, Nat.reduceSub, Nat.reduceDiv, Int.reduceToNat, Nat.reduceLT, Int.reduceLT, Int.reduceLE, ↓reduceIte, reduceCtorEq, rat, forall_apply_eq_imp_iff₂, toNat_cast, redT, rat]
  refine CallW.res (spec_SecurityOf_ok m1 q1 (by omega)) [58, 59001] rfl Try.call47 ?_ (.inr (redT_noSh _)) ?_
  · simp -implicitDefEqProofs only [Int.natCast_zero, Int.cast_ofNat_Int, Int.natCast_one, Nat.le_refl, Nat.reduceLeDiff, Nat.sub_self, Nat.reduceSub, List.getElem?_cons_zero, List.getElem?_cons_succ, vt_self, vaL, vtL, va, vt, vb, maT, List.cons_append, List.nil_append, List.append_nil, true_or, or_true, go_sem, List.reduceReplicate, Nat.reduceEqDiff, Nat.reduceAdd, Nat.reduceLeDiff, Nat.reduceMul, Nat.reduceSub, Nat.reduceDiv, Int.reduceToNat, Nat.reduceLT, Int.reduceLT, Int.reduceLE, ↓reduceIte, reduceCtorEq, ints, rows, rat, rats, ratsO, toShL_ratC, List.mem_cons, List.mem_nil_iff, List.not_mem_nil, or_false, false_or, exists_eq_left, exists_eq_left', exists_eq_right', Root.live.injEq, eq_self_iff_true, exists_eq, and_true, T.toSh, toShL_ints, toShL_intsO, intsO, rowsO]
  simp -implicitDefEqProofs only [List.append_nil, List.cons_append, Nat.reduceLeDiff, afterCall, absT_rowsO, absT_intsO, absT, absL, updL, updS, freeAll, rid, T.noSh, T.noShL, Nat.zero_le, go_sem, List.reduceReplicate, Nat.reduceEqDiff, Nat.reduceAdd, Nat.reduceLeDiff, Nat.reduceMul, Nat.reduceSub, Nat.reduceDiv, Int.reduceToNat, Nat.reduceLT, Int.reduceLT, Int.reduceLE, ↓reduceIte, reduceCtorEq, rat, forall_apply_eq_imp_iff₂, toNat_cast, redT, rat, not_true_eq_false, decide_false]
  refine CallW.pure (spec_IsMix_ok p n (by omega)) [33] rfl Try.call48 ?_ (by first | trivial | simp [T.noSh, T.noShL, rat]) rfl ?_
  · simp -implicitDefEqProofs only [Int.natCast_zero, Int.cast_ofNat_Int, Int.natCast_one, Nat.le_refl, Nat.reduceLeDiff, Nat.sub_self, Nat.reduceSub, List.getElem?_cons_zero, List.getElem?_cons_succ, vt_self, vaL, vtL, va, vt, vb, maT, List.cons_append, List.nil_append, List.append_nil, true_or, or_true, go_sem, List.reduceReplicate, Nat.reduceEqDiff, Nat.reduceAdd, Nat.reduceLeDiff, Nat.reduceMul, Nat.reduceSub, Nat.reduceDiv, Int.reduceToNat, Nat.reduceLT, Int.reduceLT, Int.reduceLE, ↓reduceIte, reduceCtorEq, ints, rows, rat, rats, ratsO, toShL_ratC, List.mem_cons, List.mem_nil_iff, List.not_mem_nil, or_false, false_or, exists_eq_left, exists_eq_left', exists_eq_right', Root.live.injEq, eq_self_iff_true, exists_eq, and_true, T.toSh, toShL_ints, toShL_intsO, intsO, rowsO]
  simp -implicitDefEqProofs only [go_sem, List.reduceReplicate, Nat.reduceEqDiff, Nat.reduceAdd, Nat.reduceLeDiff, Nat.reduceMul, Nat.reduceSub, Nat.reduceDiv, Int.reduceToNat, Nat.reduceLT, Int.reduceLT, Int.reduceLE, ↓reduceIte, reduceCtorEq, forall_apply_eq_imp_iff₂, ints, rows, rat, rats, toNat_cast, not_true_eq_false, decide_false]
  refine ⟨fun hok => ?_, fun hok => ?_⟩
  obtain ⟨ps1, ps2⟩ := psum_isMix hok
  refine SemC.loopR (σ := Nat) (fun k => St.of [(3, .own 33), (6, .own 41), (7, .own 42001), (9, .t (.i (brRes m q).2)), (10, .t (.i (brRes m q).1)), (18, .own 18), (19, .t (.i k))] [(18, .box [.i (psum p k).1, .i (psum p k).2]), (33, ratsO p), (41, rowsO m), (42001, ratsO q)]) (fun k => k ≤ p.length) (fun k => p.length - k) 0 (Weak.of _ _ [some 18, some 33, some 41, some 42001] (by simp) (by simp) ?_ ?_) (by omega) fun k hk R hn hr he => ?_
  · simp -implicitDefEqProofs only [ints, rows, Nat.reduceBEq, Int.add_zero, envOK, maA, maT, upd_apply, Nat.reduceEqDiff, ↓reduceIte, and_true, true_or, or_true, List.map_cons, List.map_nil, Nat.zero_ne_one, and_self, true_and, Int.natCast_zero, Int.cast_ofNat_Int, Int.ofNat_zero, piOf, List.zip_cons_cons, List.zip_nil_right, List.lookup_cons, List.lookup_nil, beq_self_eq_true, rootsOK, mkRoots, mkEnv, ratsO, rowsO]
  · exact ⟨⟨_, rfl, .refl _⟩, rfl, ⟨_, rfl, .refl _⟩, rfl, ⟨_, rfl, .refl _⟩, rfl, ⟨_, rfl, .refl _⟩, rfl, trivial⟩
  simp -implicitDefEqProofs only [go_sem, List.reduceReplicate, Nat.reduceEqDiff, Nat.reduceAdd, Nat.reduceLeDiff, Nat.reduceMul, Nat.reduceSub, Nat.reduceDiv, Int.reduceToNat, Nat.reduceLT, Int.reduceLT, Int.reduceLE, ↓reduceIte, reduceCtorEq, forall_apply_eq_imp_iff₂, ints, rows, rat, rats, toNat_cast, ratsO]
  refine ⟨fun h => ⟨by omega, by rw [ratC_length]; omega, by rw [ratC_length]; omega, ?_⟩, fun h => he _ _ ?_⟩
  · obtain ⟨x, hx⟩ : ∃ x, p[k]? = some x := ⟨_, List.getElem?_eq_getElem (by omega)⟩
    rw [ratC_at hx]
    have hxd : p.getD k (0, 0) = x := by rw [List.getD_eq_getElem?_getD, hx]; rfl
    obtain ⟨c1, c2⟩ := ps1 k (by omega)
    rw [hxd] at c1 c2
    have c3 : psum p (k + 1) = (addR (psum p k) x).1 := by rw [psum, hxd]
    refine CallV.pure (redP (impl_AddRatios_ok (psum p k) x)) [] rfl Try.call49 (fun e R' hR => ?_) (by first | trivial | simp [T.noSh, T.noShL, rat]) (fun _ => rfl) ?_
    · simp -implicitDefEqProofs only [Int.natCast_zero, Int.cast_ofNat_Int, Int.natCast_one, Nat.le_refl, Nat.reduceLeDiff, Nat.sub_self, Nat.reduceSub, List.getElem?_cons_zero, List.getElem?_cons_succ, vt_self, vaL, vtL, va, vt, vb, maT, List.cons_append, List.nil_append, List.append_nil, true_or, or_true, go_sem, List.reduceReplicate, Nat.reduceEqDiff, Nat.reduceAdd, Nat.reduceLeDiff, Nat.reduceMul, Nat.reduceSub, Nat.reduceDiv, Int.reduceToNat, Nat.reduceLT, Int.reduceLT, Int.reduceLE, ↓reduceIte, reduceCtorEq, ints, rows, rat, rats, ratsO, toShL_ratC, List.mem_cons, List.mem_nil_iff, List.not_mem_nil, or_false, false_or, exists_eq_left, exists_eq_left', exists_eq_right', Root.live.injEq, eq_self_iff_true, exists_eq, and_true, T.toSh, toShL_ints, toShL_intsO, intsO, rowsO]
    simp -implicitDefEqProofs only [go_sem, List.reduceReplicate, Nat.reduceEqDiff, Nat.reduceAdd, Nat.reduceLeDiff, Nat.reduceMul, Nat.reduceSub, Nat.reduceDiv, Int.reduceToNat, Nat.reduceLT, Int.reduceLT, Int.reduceLE, ↓reduceIte, reduceCtorEq, forall_apply_eq_imp_iff₂, ints, rows, rat, rats, toNat_cast, redT, rat, c1]
    rw [ratC_get1 hx]
    refine ⟨by omega, by rw [ratC_length]; omega, by rw [ratC_length]; omega, fun c hc => ?_⟩
    cases hc
    refine ⟨rfl, rfl, fun h5 => absurd c2 (by omega), fun h5 => hn _ (k + 1) (Weak.of _ _ [some 18, some 33, some 41, some 42001] (by simp) (by simp) ?_ ?_) (by omega) (by omega)⟩
    · simp -implicitDefEqProofs only [ints, rows, Nat.reduceBEq, Int.add_zero, envOK, maA, maT, upd_apply, Nat.reduceEqDiff, ↓reduceIte, and_true, true_or, or_true, List.map_cons, List.map_nil, Nat.zero_ne_one, and_self, true_and, Int.natCast_zero, Int.cast_ofNat_Int, Int.ofNat_zero, piOf, List.zip_cons_cons, List.zip_nil_right, List.lookup_cons, List.lookup_nil, beq_self_eq_true, rootsOK, mkRoots, mkEnv, ratsO, rowsO, next64 (by omega : k < p.length) (by omega), c3]
    · exact ⟨by rw [c3]; exact ⟨_, rfl, .refl _⟩, rfl, ⟨_, rfl, .refl _⟩, rfl, ⟨_, rfl, .refl _⟩, rfl, ⟨_, rfl, .refl _⟩, rfl, trivial⟩
  have hk' : k = p.length := by omega
  have c4 : (psum p k).1 = 1 ∧ (psum p k).2 = 1 := by rw [hk', ps2]; exact ⟨rfl, rfl⟩
  simp -implicitDefEqProofs only [go_sem, List.reduceReplicate, Nat.reduceEqDiff, Nat.reduceAdd, Nat.reduceLeDiff, Nat.reduceMul, Nat.reduceSub, Nat.reduceDiv, Int.reduceToNat, Nat.reduceLT, Int.reduceLT, Int.reduceLE, ↓reduceIte, reduceCtorEq, forall_apply_eq_imp_iff₂, ints, rows, rat, rats, toNat_cast, c4.1, c4.2]
  all_goals
    refine ⟨fun h => trivial, fun hbad => ?_⟩
    have hbad : (brRes m q).2 = 0 := by simpa using hbad
    obtain ⟨g1, g3, g4, g5, g6⟩ := brRes_zero hbad
    have hgl := gainsGo_length q m g4
    obtain ⟨i1, i2, i3, i4, i5, i6⟩ := isMat_spec g1
    have hgv := gainsGo_valid q m
    have hbl := bestI_lt (gainsGo q m).1 (gainsGo q m).1.length (Nat.le_refl _) (by omega)
    refine CallW.res (impl_RowGains_ok m q hml hmr (by omega)) [41, 42001] rfl Try.call50 ?_ (.inr (gT_noSh _)) ?_
    · simp -implicitDefEqProofs only [Int.natCast_zero, Int.cast_ofNat_Int, Int.natCast_one, Nat.le_refl, Nat.reduceLeDiff, Nat.sub_self, Nat.reduceSub, List.getElem?_cons_zero, List.getElem?_cons_succ, vt_self, vaL, vtL, va, vt, vb, maT, List.cons_append, List.nil_append, List.append_nil, true_or, or_true, go_sem, List.reduceReplicate, Nat.reduceEqDiff, Nat.reduceAdd, Nat.reduceLeDiff, Nat.reduceMul, Nat.reduceSub, Nat.reduceDiv, Int.reduceToNat, Nat.reduceLT, Int.reduceLT, Int.reduceLE, ↓reduceIte, reduceCtorEq, ints, rows, rat, rats, ratsO, toShL_ratC, List.mem_cons, List.mem_nil_iff, List.not_mem_nil, or_false, false_or, exists_eq_left, exists_eq_left', exists_eq_right', Root.live.injEq, eq_self_iff_true, exists_eq, and_true, T.toSh, toShL_ints, toShL_intsO, intsO, rowsO]
    simp -implicitDefEqProofs only [List.append_nil, List.cons_append, Nat.reduceLeDiff, afterCall, absT_rowsO, absT_intsO, absT, absL, updL, updS, freeAll, rid, T.noSh, T.noShL, Nat.zero_le, go_sem, List.reduceReplicate, Nat.reduceEqDiff, Nat.reduceAdd, Nat.reduceLeDiff, Nat.reduceMul, Nat.reduceSub, Nat.reduceDiv, Int.reduceToNat, Nat.reduceLT, Int.reduceLT, Int.reduceLE, ↓reduceIte, reduceCtorEq, rat, forall_apply_eq_imp_iff₂, toNat_cast, gT, ratsO]
    refine CallW.res (spec_RowGains_ok m q (by omega)) [41, 42001] rfl Try.call51 ?_ (.inr (gT_noSh _)) ?_
    · simp -implicitDefEqProofs only [Int.natCast_zero, Int.cast_ofNat_Int, Int.natCast_one, Nat.le_refl, Nat.reduceLeDiff, Nat.sub_self, Nat.reduceSub, List.getElem?_cons_zero, List.getElem?_cons_succ, vt_self, vaL, vtL, va, vt, vb, maT, List.cons_append, List.nil_append, List.append_nil, true_or, or_true, go_sem, List.reduceReplicate, Nat.reduceEqDiff, Nat.reduceAdd, Nat.reduceLeDiff, Nat.reduceMul, Nat.reduceSub, Nat.reduceDiv, Int.reduceToNat, Nat.reduceLT, Int.reduceLT, Int.reduceLE, ↓reduceIte, reduceCtorEq, ints, rows, rat, rats, ratsO, toShL_ratC, List.mem_cons, List.mem_nil_iff, List.not_mem_nil, or_false, false_or, exists_eq_left, exists_eq_left', exists_eq_right', Root.live.injEq, eq_self_iff_true, exists_eq, and_true, T.toSh, toShL_ints, toShL_intsO, intsO, rowsO]
    simp -implicitDefEqProofs only [List.append_nil, List.cons_append, Nat.reduceLeDiff, afterCall, absT_rowsO, absT_intsO, absT, absL, updL, updS, freeAll, rid, T.noSh, T.noShL, Nat.zero_le, go_sem, List.reduceReplicate, Nat.reduceEqDiff, Nat.reduceAdd, Nat.reduceLeDiff, Nat.reduceMul, Nat.reduceSub, Nat.reduceDiv, Int.reduceToNat, Nat.reduceLT, Int.reduceLT, Int.reduceLE, ↓reduceIte, reduceCtorEq, rat, forall_apply_eq_imp_iff₂, toNat_cast, gT, ratsO]
    rw [g5, g6]
    refine SemC.loopR (σ := Nat) (fun i => St.of [(10, .t (.i (bestI (gainsGo q m).1 (gainsGo q m).1.length : Nat))), (22, .own 134), (23, .t (.i (gainsGo q m).2)), (24, .own 140), (26, .t (.i i))] [(134, .arr 2 (ratC (gainsGo q m).1)), (140, .arr 2 (ratC (gainsGo q m).1))]) (fun i => i ≤ (gainsGo q m).1.length) (fun i => (gainsGo q m).1.length - i) 0 (Weak.of _ _ [some 134, some 140] (by simp) (by simp) ?_ ?_) (by omega) fun i hi R hn hr he => ?_
    · simp -implicitDefEqProofs only [ints, rows, Nat.reduceBEq, Int.add_zero, envOK, maA, maT, upd_apply, Nat.reduceEqDiff, ↓reduceIte, and_true, true_or, or_true, List.map_cons, List.map_nil, Nat.zero_ne_one, and_self, true_and, Int.natCast_zero, Int.cast_ofNat_Int, Int.ofNat_zero, piOf, List.zip_cons_cons, List.zip_nil_right, List.lookup_cons, List.lookup_nil, beq_self_eq_true, rootsOK, mkRoots, mkEnv]
    · exact ⟨⟨_, rfl, .refl _⟩, rfl, ⟨_, rfl, .refl _⟩, rfl, trivial⟩
    simp -implicitDefEqProofs only [go_sem, List.reduceReplicate, Nat.reduceEqDiff, Nat.reduceAdd, Nat.reduceLeDiff, Nat.reduceMul, Nat.reduceSub, Nat.reduceDiv, Int.reduceToNat, Nat.reduceLT, Int.reduceLT, Int.reduceLE, ↓reduceIte, reduceCtorEq, forall_apply_eq_imp_iff₂, ints, rows, rat, rats, toNat_cast]
    refine ⟨fun h => ?_, fun h => he _ _ ?_⟩
    rotate_left
    · simp -implicitDefEqProofs only [go_sem, List.reduceReplicate, Nat.reduceEqDiff, Nat.reduceAdd, Nat.reduceLeDiff, Nat.reduceMul, Nat.reduceSub, Nat.reduceDiv, Int.reduceToNat, Nat.reduceLT, Int.reduceLT, Int.reduceLE, ↓reduceIte, reduceCtorEq, forall_apply_eq_imp_iff₂, ints, rows, rat, rats, toNat_cast]
      rw [g4]
      exact ⟨fun _ => by simp [T.b], fun h => absurd h (by simp)⟩
    obtain ⟨x, hx⟩ : ∃ x, (gainsGo q m).1[i]? = some x := ⟨_, List.getElem?_eq_getElem (by omega)⟩
    obtain ⟨y, hy⟩ : ∃ y, (gainsGo q m).1[bestI (gainsGo q m).1 (gainsGo q m).1.length]? = some y := ⟨_, List.getElem?_eq_getElem hbl⟩
    have hxd : (gainsGo q m).1.getD i (0, 0) = x := by rw [List.getD_eq_getElem?_getD, hx]; rfl
    have hyd : (gainsGo q m).1.getD (bestI (gainsGo q m).1 (gainsGo q m).1.length) (0, 0) = y := by rw [List.getD_eq_getElem?_getD, hy]; rfl
    have hmax := bestI_max hgv (gainsGo q m).1.length (Nat.le_refl _) i (by omega)
    rw [hxd, hyd] at hmax
    have e1 : crRes x y = (cmpR x y, 0) := by rw [crRes, hgv x (List.mem_of_getElem? hx), hgv y (List.mem_of_getElem? hy)]; rfl
    have m1 := cmpR_le.2 hmax.1
    refine ⟨by omega, by rw [ratC_length]; omega, by rw [ratC_length]; omega, by omega, by rw [ratC_length]; omega, by rw [ratC_length]; omega, ?_⟩
    rw [ratC_at hx, ratC_at hy]
    refine CallV.pure (impl_CompareRatios_ok x y) [] rfl Try.call52 (fun e R' hR => ?_) (by first | trivial | simp [T.noSh, T.noShL, rat]) (fun _ => rfl) ?_
    · simp -implicitDefEqProofs only [Int.natCast_zero, Int.cast_ofNat_Int, Int.natCast_one, Nat.le_refl, Nat.reduceLeDiff, Nat.sub_self, Nat.reduceSub, List.getElem?_cons_zero, List.getElem?_cons_succ, vt_self, vaL, vtL, va, vt, vb, maT, List.cons_append, List.nil_append, List.append_nil, true_or, or_true, go_sem, List.reduceReplicate, Nat.reduceEqDiff, Nat.reduceAdd, Nat.reduceLeDiff, Nat.reduceMul, Nat.reduceSub, Nat.reduceDiv, Int.reduceToNat, Nat.reduceLT, Int.reduceLT, Int.reduceLE, ↓reduceIte, reduceCtorEq, ints, rows, rat, rats, ratsO, toShL_ratC, List.mem_cons, List.mem_nil_iff, List.not_mem_nil, or_false, false_or, exists_eq_left, exists_eq_left', exists_eq_right', Root.live.injEq, eq_self_iff_true, exists_eq, and_true, T.toSh, toShL_ints, toShL_intsO, intsO, rowsO]
    simp -implicitDefEqProofs only [go_sem, List.reduceReplicate, Nat.reduceEqDiff, Nat.reduceAdd, Nat.reduceLeDiff, Nat.reduceMul, Nat.reduceSub, Nat.reduceDiv, Int.reduceToNat, Nat.reduceLT, Int.reduceLT, Int.reduceLE, ↓reduceIte, reduceCtorEq, forall_apply_eq_imp_iff₂, ints, rows, rat, rats, toNat_cast, e1]
    refine ⟨fun _ => ⟨fun h1 => ⟨fun h2 => absurd (cmpR_ge.1 (by simp at h1; omega)) (hmax.2 (by omega)), fun h2 => ?_⟩, fun h1 => ?_⟩, fun h1 => absurd m1 (by omega)⟩
    all_goals
      refine hn _ (i + 1) (Weak.of _ _ [some 134, some 140] (by simp) (by simp) ?_ ?_) (by omega) (by omega)
      · simp -implicitDefEqProofs only [ints, rows, Nat.reduceBEq, Int.add_zero, envOK, maA, maT, upd_apply, Nat.reduceEqDiff, ↓reduceIte, and_true, true_or, or_true, List.map_cons, List.map_nil, Nat.zero_ne_one, and_self, true_and, Int.natCast_zero, Int.cast_ofNat_Int, Int.ofNat_zero, piOf, List.zip_cons_cons, List.zip_nil_right, List.lookup_cons, List.lookup_nil, beq_self_eq_true, rootsOK, mkRoots, mkEnv, next64 (by omega : i < (gainsGo q m).1.length) (by omega)]
      · exact ⟨⟨_, rfl, .refl _⟩, rfl, ⟨_, rfl, .refl _⟩, rfl, trivial⟩
end Go.Ab

set_option linter.unusedSimpArgs false
set_option linter.unusedVariables false
namespace Go.Proofs.Ytbnlplhpnbijhaa
open Go.ChangeShapes Go.WideShapes Go.ChangeAt Go.RowKit Go.Ab

namespace fnMixes
theorem said : ∀ xs, wtL [tyU8s] xs → Pure Try.prog 6 xs (.b true)
  | [x], h => by
    obtain ⟨cs, rfl, _, hc⟩ := wt_bytes h.1
    exact laws_FnMixes_ok cs hc
  | [], h => h.elim
  | _ :: _ :: _, h => h.2.elim

set_option maxRecDepth 100000 in
theorem lifted (os : Os) (started : os.Started) (H : Type) (enc : TypeId × Value → H) :
    ReturnsInHanded {} Try.checked os 6 .any (Rows.fnMixesSpec.pre6 enc Try.prog Try.f6 Rows.fnMixesRow.domain false) (Rows.fnMixesSpec.post enc Try.prog Try.f6 false true false false) := by
  refine returnsInHanded_of_change (C := Try.checked) (by kernel_rfl) started (by kernel_rfl) Try.func6
    (ChangeSpec.witness6 (enc := enc) (C := Try.checked) false ⟨#[], #[.slice none 0 0], []⟩ 8 (by kernel_rfl) (by kernel_rfl) (by kernel_rfl) (by kernel_rfl)) ?_
  intro W base args ds gs before hval hW _ _
  refine law_contract (tys := [tyU8s]) (by kernel_rfl) (by kernel_rfl) rfl (by kernel_rfl) rfl (fun ds h => ?_) said W base args ds gs before hval hW
  match ds, h with
  | [d0], _ => rfl

theorem over : Rows.fnMixesRow.holds Try.pinned (OpenSpec.ofChange Rows.fnMixesSpec) :=
  OpenClaim.holds_of_wide 6 Try.f6 rfl rfl rfl rfl rfl rfl rfl ⟨rfl, rfl, rfl, rfl, rfl⟩ rfl rfl rfl rfl rfl (by kernel_rfl) Try.func6 (by kernel_rfl)
    (of_decide_eq_true (by kernel_rfl)) (by unfold Func.isWrapper; first | (rw [if_pos (by decide +kernel)]; kernel_rfl) | (rw [if_neg (by decide +kernel)]; exact ⟨rfl, rfl⟩))
    (fun os started H enc _ => lifted os started H enc)
end fnMixes

theorem fnMixes_holds : Rows.FnMixesSaid := fnMixes.over
#print axioms fnMixes_holds
end Go.Proofs.Ytbnlplhpnbijhaa
