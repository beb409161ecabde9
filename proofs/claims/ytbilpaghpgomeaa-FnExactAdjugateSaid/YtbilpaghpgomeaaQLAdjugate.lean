/- The program's Adjugate returns what the reference's returns, for all arguments, twice, and keeps its argument and its earlier result: the law FnExactAdjugate returns true for every list of lists of integers. No conditions. -/
import Derived.Shelf.SlicesE.Delete
import Derived.Test.YtbilpaghpgomeaaProg
import Derived.Test.YtbilpaghpgomeaaRows
import Derived.Test.YtbilpaghpgomeaaQ4
/- Contracts: rows that are dominated, the reference. -/
set_option linter.unusedSimpArgs false
set_option linter.unusedVariables false
namespace Go.Ab
open Go.Proofs

/-- Is the row j better than the row i in each column? -/
def beats (m : List (List Int)) (c i j : Nat) : Bool := (List.range c).all fun k => decide (ent m i k < ent m j k)
def dom (m : List (List Int)) (c i : Nat) : Bool := (List.range m.length).any fun j => beats m c i j
def domL (m : List (List Int)) (c n : Nat) : List Int := ((List.range n).filter (dom m c)).map Int.ofNat
def drRes (m : List (List Int)) : List Int × Int := if isMat m then (domL m (m.headD []).length m.length, 0) else ([], 1)
def drT (m : List (List Int)) : T := .tup [intsO (drRes m).1, .i (drRes m).2]
theorem domL_succ (m : List (List Int)) (c n : Nat) : domL m c (n + 1) = if dom m c n then domL m c n ++ [(n : Int)] else domL m c n := by
  simp only [domL, List.range_succ, List.filter_append, List.filter_cons, List.filter_nil, List.map_append]
  split <;> simp
theorem domL_length (m : List (List Int)) (c n : Nat) : (domL m c n).length ≤ n := by
  have := List.length_filter_le (dom m c) (List.range n)
  simp only [domL, List.length_map]
  simpa using this

theorem spec_DominatedRows_ok (m : List (List Int)) : Fun Try.prog 31 [] [.t (rows m)] fun o r => o = [] ∧ r = drT m := by
  refine Fun.le (Q := fun o r => o = [] ∧ (r = drT m ∨ (isMat m = false ∧ r = .tup [.v (.slice none 0 0), .i 1]))) ?_ ?_
  case refine_2 =>
    rintro o r ⟨rfl, rfl | ⟨h, rfl⟩⟩
    · exact ⟨_, .refl _, rfl, rfl⟩
    · refine ⟨_, ?_, rfl, rfl⟩
      rw [drT, drRes, h]
      exact .tup2 (.nilArr 1) (.refl _)
  refine fun_spec_DominatedRows (by simp) ?_
  simp -implicitDefEqProofs only [go_sem, List.reduceReplicate, Nat.reduceEqDiff, Nat.reduceAdd, Nat.reduceLeDiff, Nat.reduceMul, Nat.reduceSub, Nat.reduceDiv, Int.reduceToNat, Nat.reduceLT, Int.reduceLT, Int.reduceLE, ↓reduceIte, reduceCtorEq, forall_apply_eq_imp_iff₂, ints, rows, rat, rats, toNat_cast, c_spec_DominatedRows]
  refine CallW.pure (spec_IsMatrix_ok m) [] rfl Try.call16 ?_ (by first | trivial | simp [T.noSh, T.noShL, rat]) rfl ?_
  · simp -implicitDefEqProofs only [Nat.le_refl, Nat.reduceLeDiff, Nat.sub_self, Nat.reduceSub, List.getElem?_cons_zero, List.getElem?_cons_succ, vt_self, vaL, vtL, va, vt, vb, maT, List.cons_append, List.nil_append, List.append_nil, true_or, or_true, go_sem, List.reduceReplicate, Nat.reduceEqDiff, Nat.reduceAdd, Nat.reduceLeDiff, Nat.reduceMul, Nat.reduceSub, Nat.reduceDiv, Int.reduceToNat, Nat.reduceLT, Int.reduceLT, Int.reduceLE, ↓reduceIte, reduceCtorEq, ints, rows, rat, rats, ratsO, toShL_ratC, List.mem_cons, List.mem_nil_iff, List.not_mem_nil, or_false, false_or, exists_eq_left, exists_eq_left', exists_eq_right', Root.live.injEq, eq_self_iff_true, exists_eq, and_true, T.toSh, toShL_ints, toShL_intsO, intsO, rowsO]
  simp -implicitDefEqProofs only [go_sem, List.reduceReplicate, Nat.reduceEqDiff, Nat.reduceAdd, Nat.reduceLeDiff, Nat.reduceMul, Nat.reduceSub, Nat.reduceDiv, Int.reduceToNat, Nat.reduceLT, Int.reduceLT, Int.reduceLE, ↓reduceIte, reduceCtorEq, forall_apply_eq_imp_iff₂, ints, rows, rat, rats, toNat_cast]
  refine ⟨fun h => ?_, fun h => ?_⟩
  · have h' : isMat m = false := by simpa using h
    exact .inr h'
  have hmat : isMat m = true := by simpa using h
  obtain ⟨h1, h2, h3, h4, h5, h6⟩ := isMat_spec hmat
  have hres : drT m = .tup [intsO (domL m (m.headD []).length m.length), .i 0] := by rw [drT, drRes, if_pos hmat]
  rw [hres]
  generalize hc : (m.headD []).length = c at h3 h4 h5 ⊢
  have hrow0 : ∀ r0, m[0]? = some r0 → r0.length = c := fun r0 h0 => h5 r0 (List.mem_of_getElem? h0)
  refine SemC.loopR (σ := Nat) (fun i => St.of [(0, .t (rows m)), (4, .own 13), (5, .t (.i i))] [(13, .arr 1 ((domL m c i).map T.i))]) (fun i => i ≤ m.length) (fun i => m.length - i) 0 (Weak.of _ _ [some 13] (by simp) (by simp) ?_ ?_) (by omega) fun i hI R hn hr he => ?_
  · simp -implicitDefEqProofs only [ints, rows, Nat.reduceBEq, Int.add_zero, envOK, maA, maT, upd_apply, Nat.reduceEqDiff, ↓reduceIte, and_true, true_or, or_true, List.map_cons, List.map_nil, Nat.zero_ne_one, and_self, true_and, Int.natCast_zero, Int.cast_ofNat_Int, Int.ofNat_zero, piOf, List.zip_cons_cons, List.zip_nil_right, List.lookup_cons, List.lookup_nil, beq_self_eq_true, rootsOK, mkRoots, mkEnv]
  · exact ⟨⟨_, rfl, by rw [show domL m c 0 = [] from rfl]; exact .refl _⟩, rfl, trivial⟩
  · simp -implicitDefEqProofs only [go_sem, List.reduceReplicate, Nat.reduceEqDiff, Nat.reduceAdd, Nat.reduceLeDiff, Nat.reduceMul, Nat.reduceSub, Nat.reduceDiv, Int.reduceToNat, Nat.reduceLT, Int.reduceLT, Int.reduceLE, ↓reduceIte, reduceCtorEq, forall_apply_eq_imp_iff₂, ints, rows, rat, rats, toNat_cast]
    refine ⟨fun h => ?_, fun h => he _ _ ?_⟩
    · obtain ⟨row, hrow⟩ : ∃ r, m[i]? = some r := ⟨_, List.getElem?_eq_getElem (by omega)⟩
      have hrl := h5 row (List.mem_of_getElem? hrow)
      refine SemC.loopR (σ := Nat × Bool) (fun s => St.of [(0, .t (rows m)), (4, .own 13), (5, .t (.i i)), (6, .t (.b s.2)), (7, .t (.i s.1))] [(13, .arr 1 ((domL m c i).map T.i))]) (fun s => s.1 ≤ m.length ∧ s.2 = (List.range s.1).any fun j => beats m c i j) (fun s => m.length - s.1) (0, false) (Weak.of _ _ [some 13] (by simp) (by simp) ?_ ?_) ⟨by simp, rfl⟩ fun s hJ R2 hn2 hr2 he2 => ?_
      · simp -implicitDefEqProofs only [ints, rows, Nat.reduceBEq, Int.add_zero, envOK, maA, maT, upd_apply, Nat.reduceEqDiff, ↓reduceIte, and_true, true_or, or_true, List.map_cons, List.map_nil, Nat.zero_ne_one, and_self, true_and, Int.natCast_zero, Int.cast_ofNat_Int, Int.ofNat_zero, piOf, List.zip_cons_cons, List.zip_nil_right, List.lookup_cons, List.lookup_nil, beq_self_eq_true, rootsOK, mkRoots, mkEnv]
      · exact ⟨⟨_, rfl, .refl _⟩, rfl, trivial⟩
      · obtain ⟨j, b⟩ := s
        obtain ⟨hj, hb⟩ := hJ
        (try simp only [] at hj hb)
        simp -implicitDefEqProofs only [go_sem, List.reduceReplicate, Nat.reduceEqDiff, Nat.reduceAdd, Nat.reduceLeDiff, Nat.reduceMul, Nat.reduceSub, Nat.reduceDiv, Int.reduceToNat, Nat.reduceLT, Int.reduceLT, Int.reduceLE, ↓reduceIte, reduceCtorEq, forall_apply_eq_imp_iff₂, ints, rows, rat, rats, toNat_cast]
        refine ⟨fun h => ?_, fun h => he2 _ _ ?_⟩
        · obtain ⟨row2, hrow2⟩ : ∃ r, m[j]? = some r := ⟨_, List.getElem?_eq_getElem (by omega)⟩
          have hrl2 := h5 row2 (List.mem_of_getElem? hrow2)
          refine SemC.loopR (σ := Nat × Bool) (fun s => St.of [(0, .t (rows m)), (4, .own 13), (5, .t (.i i)), (6, .t (.b b)), (7, .t (.i j)), (8, .t (.b s.2)), (9, .t (.i s.1))] [(13, .arr 1 ((domL m c i).map T.i))]) (fun s => s.1 ≤ c ∧ s.2 = (List.range s.1).all fun k => decide (ent m i k < ent m j k)) (fun s => c - s.1) (0, true) (Weak.of _ _ [some 13] (by simp) (by simp) ?_ ?_) ⟨by simp, rfl⟩ fun s hK R3 hn3 hr3 he3 => ?_
          · simp -implicitDefEqProofs only [ints, rows, Nat.reduceBEq, Int.add_zero, envOK, maA, maT, upd_apply, Nat.reduceEqDiff, ↓reduceIte, and_true, true_or, or_true, List.map_cons, List.map_nil, Nat.zero_ne_one, and_self, true_and, Int.natCast_zero, Int.cast_ofNat_Int, Int.ofNat_zero, piOf, List.zip_cons_cons, List.zip_nil_right, List.lookup_cons, List.lookup_nil, beq_self_eq_true, rootsOK, mkRoots, mkEnv]
          · exact ⟨⟨_, rfl, .refl _⟩, rfl, trivial⟩
          · obtain ⟨k, b2⟩ := s
            obtain ⟨hk, hb2⟩ := hK
            (try simp only [] at hk hb2)
            cases b2
            all_goals
              simp -implicitDefEqProofs only [go_sem, List.reduceReplicate, Nat.reduceEqDiff, Nat.reduceAdd, Nat.reduceLeDiff, Nat.reduceMul, Nat.reduceSub, Nat.reduceDiv, Int.reduceToNat, Nat.reduceLT, Int.reduceLT, Int.reduceLE, ↓reduceIte, reduceCtorEq, forall_apply_eq_imp_iff₂, ints, rows, rat, rats, toNat_cast]
            all_goals refine ⟨by omega, by omega, fun r0 h0 => ?_⟩
            all_goals rw [hrow0 r0 h0]
            all_goals refine ⟨fun h => ?_, fun h => he3 _ _ ?_⟩
            · refine hn3 _ (k + 1, false) (Weak.of _ _ [some 13] (by simp) (by simp) ?_ ?_) ⟨by simp only []; omega, by rw [List.range_succ, List.all_append, ← hb2]; rfl⟩ (by simp only []; omega)
              · simp -implicitDefEqProofs only [ints, rows, Nat.reduceBEq, Int.add_zero, envOK, maA, maT, upd_apply, Nat.reduceEqDiff, ↓reduceIte, and_true, true_or, or_true, List.map_cons, List.map_nil, Nat.zero_ne_one, and_self, true_and, Int.natCast_zero, Int.cast_ofNat_Int, Int.ofNat_zero, piOf, List.zip_cons_cons, List.zip_nil_right, List.lookup_cons, List.lookup_nil, beq_self_eq_true, rootsOK, mkRoots, mkEnv, next64 (by omega : k < c) (by omega)]
              · exact ⟨⟨_, rfl, .refl _⟩, rfl, trivial⟩
            rotate_left
            · refine ⟨by omega, by omega, by omega, fun r hr' => ⟨by omega, ?_, ?_, fun y hy => ⟨by omega, by omega, by omega, fun r' hr'' => ⟨by omega, ?_, ?_, fun z hz => ?_⟩⟩⟩⟩
              all_goals rw [hrow2] at hr'; cases hr'
              · omega
              · omega
              all_goals rw [hrow] at hr''; cases hr''
              · omega
              · omega
              refine hn3 _ (k + 1, decide (z < y)) (Weak.of _ _ [some 13] (by simp) (by simp) ?_ ?_) ⟨by simp only []; omega, ?_⟩ (by simp only []; omega)
              · simp -implicitDefEqProofs only [ints, rows, Nat.reduceBEq, Int.add_zero, envOK, maA, maT, upd_apply, Nat.reduceEqDiff, ↓reduceIte, and_true, true_or, or_true, List.map_cons, List.map_nil, Nat.zero_ne_one, and_self, true_and, Int.natCast_zero, Int.cast_ofNat_Int, Int.ofNat_zero, piOf, List.zip_cons_cons, List.zip_nil_right, List.lookup_cons, List.lookup_nil, beq_self_eq_true, rootsOK, mkRoots, mkEnv, next64 (by omega : k < c) (by omega)]
              · exact ⟨⟨_, rfl, .refl _⟩, rfl, trivial⟩
              · rw [List.range_succ, List.all_append, ← hb2]; simp [ent_get hrow hz, ent_get hrow2 hy]
            all_goals
              have hkc : k = c := by omega
              subst hkc
              simp -implicitDefEqProofs only [go_sem, List.reduceReplicate, Nat.reduceEqDiff, Nat.reduceAdd, Nat.reduceLeDiff, Nat.reduceMul, Nat.reduceSub, Nat.reduceDiv, Int.reduceToNat, Nat.reduceLT, Int.reduceLT, Int.reduceLE, ↓reduceIte, reduceCtorEq, forall_apply_eq_imp_iff₂, ints, rows, rat, rats, toNat_cast]
              refine ⟨fun hbb => ?_, fun hbb => ?_⟩
              all_goals subst hbb
            · refine hn2 _ (j + 1, true) (Weak.of _ _ [some 13] (by simp) (by simp) ?_ ?_) ⟨by simp only []; omega, by rw [List.range_succ, List.any_append, ← hb]; simp [beats, ← hb2]⟩ (by simp only []; omega)
              · simp -implicitDefEqProofs only [ints, rows, Nat.reduceBEq, Int.add_zero, envOK, maA, maT, upd_apply, Nat.reduceEqDiff, ↓reduceIte, and_true, true_or, or_true, List.map_cons, List.map_nil, Nat.zero_ne_one, and_self, true_and, Int.natCast_zero, Int.cast_ofNat_Int, Int.ofNat_zero, piOf, List.zip_cons_cons, List.zip_nil_right, List.lookup_cons, List.lookup_nil, beq_self_eq_true, rootsOK, mkRoots, mkEnv, next64 (by omega : j < m.length) (by omega)]
              · exact ⟨⟨_, rfl, .refl _⟩, rfl, trivial⟩
            · refine hn2 _ (j + 1, true) (Weak.of _ _ [some 13] (by simp) (by simp) ?_ ?_) ⟨by simp only []; omega, by rw [List.range_succ, List.any_append, ← hb]; simp [beats, ← hb2]⟩ (by simp only []; omega)
              · simp -implicitDefEqProofs only [ints, rows, Nat.reduceBEq, Int.add_zero, envOK, maA, maT, upd_apply, Nat.reduceEqDiff, ↓reduceIte, and_true, true_or, or_true, List.map_cons, List.map_nil, Nat.zero_ne_one, and_self, true_and, Int.natCast_zero, Int.cast_ofNat_Int, Int.ofNat_zero, piOf, List.zip_cons_cons, List.zip_nil_right, List.lookup_cons, List.lookup_nil, beq_self_eq_true, rootsOK, mkRoots, mkEnv, next64 (by omega : j < m.length) (by omega)]
              · exact ⟨⟨_, rfl, .refl _⟩, rfl, trivial⟩
            · refine hn2 _ (j + 1, false) (Weak.of _ _ [some 13] (by simp) (by simp) ?_ ?_) ⟨by simp only []; omega, by rw [List.range_succ, List.any_append, ← hb]; simp [beats, ← hb2]⟩ (by simp only []; omega)
              · simp -implicitDefEqProofs only [ints, rows, Nat.reduceBEq, Int.add_zero, envOK, maA, maT, upd_apply, Nat.reduceEqDiff, ↓reduceIte, and_true, true_or, or_true, List.map_cons, List.map_nil, Nat.zero_ne_one, and_self, true_and, Int.natCast_zero, Int.cast_ofNat_Int, Int.ofNat_zero, piOf, List.zip_cons_cons, List.zip_nil_right, List.lookup_cons, List.lookup_nil, beq_self_eq_true, rootsOK, mkRoots, mkEnv, next64 (by omega : j < m.length) (by omega)]
              · exact ⟨⟨_, rfl, .refl _⟩, rfl, trivial⟩
            · refine hn2 _ (j + 1, true) (Weak.of _ _ [some 13] (by simp) (by simp) ?_ ?_) ⟨by simp only []; omega, by rw [List.range_succ, List.any_append, ← hb]; simp [beats, ← hb2]⟩ (by simp only []; omega)
              · simp -implicitDefEqProofs only [ints, rows, Nat.reduceBEq, Int.add_zero, envOK, maA, maT, upd_apply, Nat.reduceEqDiff, ↓reduceIte, and_true, true_or, or_true, List.map_cons, List.map_nil, Nat.zero_ne_one, and_self, true_and, Int.natCast_zero, Int.cast_ofNat_Int, Int.ofNat_zero, piOf, List.zip_cons_cons, List.zip_nil_right, List.lookup_cons, List.lookup_nil, beq_self_eq_true, rootsOK, mkRoots, mkEnv, next64 (by omega : j < m.length) (by omega)]
              · exact ⟨⟨_, rfl, .refl _⟩, rfl, trivial⟩
        · have hjm : j = m.length := by omega
          subst hjm
          have hd : b = dom m c i := hb
          simp -implicitDefEqProofs only [go_sem, List.reduceReplicate, Nat.reduceEqDiff, Nat.reduceAdd, Nat.reduceLeDiff, Nat.reduceMul, Nat.reduceSub, Nat.reduceDiv, Int.reduceToNat, Nat.reduceLT, Int.reduceLT, Int.reduceLE, ↓reduceIte, reduceCtorEq, forall_apply_eq_imp_iff₂, ints, rows, rat, rats, toNat_cast]
          refine ⟨fun hbb => ?_, fun hbb => ?_⟩
          · have hdl := domL_length m c i
            refine ⟨by omega, hn _ (i + 1) (Weak.of _ _ [some 60] (by simp) (by simp) ?_ ?_) (by omega) (by omega)⟩
            · simp -implicitDefEqProofs only [ints, rows, Nat.reduceBEq, Int.add_zero, envOK, maA, maT, upd_apply, Nat.reduceEqDiff, ↓reduceIte, and_true, true_or, or_true, List.map_cons, List.map_nil, Nat.zero_ne_one, and_self, true_and, Int.natCast_zero, Int.cast_ofNat_Int, Int.ofNat_zero, piOf, List.zip_cons_cons, List.zip_nil_right, List.lookup_cons, List.lookup_nil, beq_self_eq_true, rootsOK, mkRoots, mkEnv, next64 (by omega : i < m.length) (by omega)]
            · refine ⟨⟨_, rfl, ?_⟩, rfl, trivial⟩
              rw [domL_succ, if_pos (by rw [← hd, hbb])]
              simp only [List.map_append, List.map_cons, List.map_nil]
              exact .refl _
          · refine hn _ (i + 1) (Weak.of _ _ [some 13] (by simp) (by simp) ?_ ?_) (by omega) (by omega)
            · simp -implicitDefEqProofs only [ints, rows, Nat.reduceBEq, Int.add_zero, envOK, maA, maT, upd_apply, Nat.reduceEqDiff, ↓reduceIte, and_true, true_or, or_true, List.map_cons, List.map_nil, Nat.zero_ne_one, and_self, true_and, Int.natCast_zero, Int.cast_ofNat_Int, Int.ofNat_zero, piOf, List.zip_cons_cons, List.zip_nil_right, List.lookup_cons, List.lookup_nil, beq_self_eq_true, rootsOK, mkRoots, mkEnv, next64 (by omega : i < m.length) (by omega)]
            · refine ⟨⟨_, rfl, ?_⟩, rfl, trivial⟩
              rw [domL_succ, if_neg (by rw [← hd, hbb]; simp)]
              exact .refl _
    · simp -implicitDefEqProofs only [go_sem, List.reduceReplicate, Nat.reduceEqDiff, Nat.reduceAdd, Nat.reduceLeDiff, Nat.reduceMul, Nat.reduceSub, Nat.reduceDiv, Int.reduceToNat, Nat.reduceLT, Int.reduceLT, Int.reduceLE, ↓reduceIte, reduceCtorEq, forall_apply_eq_imp_iff₂, ints, rows, rat, rats, toNat_cast]
      have him : i = m.length := by omega
      subst him
      exact .inl rfl
end Go.Ab

/- Contracts: rows that are dominated, the program's. -/
set_option linter.unusedSimpArgs false
set_option linter.unusedVariables false
namespace Go.Ab
open Go.Proofs

/-- Is the row r better than the row x in each column? -/
def beatsR (x r : List Int) : Bool := (List.range x.length).all fun k => decide (x.getD k 0 < r.getD k 0)
theorem dom_any {m : List (List Int)} {c i : Nat} {x : List Int} (hx : m[i]? = some x) (hl : x.length = c) : m.any (beatsR x) = dom m c i := by
  have key : ∀ (j : Nat) (r : List Int), m[j]? = some r → beatsR x r = beats m c i j := fun j r hr => by
    simp only [beatsR, beats, ent, List.getD_eq_getElem?_getD, hx, hr, hl, Option.getD_some]
  rw [Bool.eq_iff_iff, List.any_eq_true, dom, List.any_eq_true]
  constructor
  · rintro ⟨r, hr, h⟩
    obtain ⟨j, hj⟩ := List.mem_iff_getElem?.1 hr
    exact ⟨j, List.mem_range.2 (List.getElem?_eq_some_iff.1 hj).1, by rw [← key j r hj]; exact h⟩
  · rintro ⟨j, hj, h⟩
    rw [List.mem_range] at hj
    exact ⟨m[j], List.getElem_mem hj, by rw [key j _ (List.getElem?_eq_getElem hj)]; exact h⟩

theorem impl_DominatedRows_1_ok (r x : List Int) (hl : x.length ≤ 1000000000000) (hr : x.length ≤ r.length) : Pure Try.prog 71 [ints r, .pin [ints x] 0] (.b (beatsR x r)) := by
  refine fun_impl_DominatedRows_1 (by simp) ?_
  simp -implicitDefEqProofs only [go_sem, List.reduceReplicate, Nat.reduceEqDiff, Nat.reduceAdd, Nat.reduceLeDiff, Nat.reduceMul, Nat.reduceSub, Nat.reduceDiv, Int.reduceToNat, Nat.reduceLT, Int.reduceLT, Int.reduceLE, ↓reduceIte, reduceCtorEq, forall_apply_eq_imp_iff₂, ints, rows, rat, rats, toNat_cast, c_impl_DominatedRows_1]
  refine SemC.loopR (σ := Nat) (fun k => St.of [(0, .t (ints r)), (6, .t (ints x)), (7, .t (.i x.length)), (8, .t (.i k))] []) (fun k => k ≤ x.length ∧ ((List.range k).all fun k => decide (x.getD k 0 < r.getD k 0)) = true) (fun k => x.length - k) 0 (Weak.of _ [] [] (by simp) (by simp) ?_ trivial) ⟨by simp, rfl⟩ fun k hI R hn hr' he => ?_
  · simp -implicitDefEqProofs only [ints, rows, Int.add_zero, envOK, maA, maT, upd_apply, Nat.reduceEqDiff, ↓reduceIte, and_true, true_or, or_true, List.map_cons, List.map_nil, Nat.zero_ne_one, and_self, true_and, Int.natCast_zero, Int.cast_ofNat_Int, Int.ofNat_zero]
  · obtain ⟨hk, ha⟩ := hI
    simp -implicitDefEqProofs only [go_sem, List.reduceReplicate, Nat.reduceEqDiff, Nat.reduceAdd, Nat.reduceLeDiff, Nat.reduceMul, Nat.reduceSub, Nat.reduceDiv, Int.reduceToNat, Nat.reduceLT, Int.reduceLT, Int.reduceLE, ↓reduceIte, reduceCtorEq, forall_apply_eq_imp_iff₂, ints, rows, rat, rats, toNat_cast]
    refine ⟨fun h => ⟨by omega, by omega, by omega, fun y hy => ⟨by omega, by omega, by omega, fun z hz => ?_⟩⟩, fun h => he _ _ ?_⟩
    · have hy' : x.getD k 0 = y := by rw [List.getD_eq_getElem?_getD, hy]; rfl
      have hz' : r.getD k 0 = z := by rw [List.getD_eq_getElem?_getD, hz]; rfl
      refine ⟨fun hle => hr' _ ?_, fun hle => hn _ (k + 1) (Weak.of _ [] [] (by simp) (by simp) ?_ trivial) ⟨by omega, ?_⟩ (by omega)⟩
      · simp -implicitDefEqProofs only [go_sem, List.reduceReplicate, Nat.reduceEqDiff, Nat.reduceAdd, Nat.reduceLeDiff, Nat.reduceMul, Nat.reduceSub, Nat.reduceDiv, Int.reduceToNat, Nat.reduceLT, Int.reduceLT, Int.reduceLE, ↓reduceIte, reduceCtorEq, forall_apply_eq_imp_iff₂, ints, rows, rat, rats, toNat_cast]
        have : beatsR x r = false := by
          rw [beatsR, List.all_eq_false]
          exact ⟨k, by simp; omega, by simp only [hy', hz']; simp; omega⟩
        rw [this]
      · simp -implicitDefEqProofs only [ints, rows, Int.add_zero, envOK, maA, maT, upd_apply, Nat.reduceEqDiff, ↓reduceIte, and_true, true_or, or_true, List.map_cons, List.map_nil, Nat.zero_ne_one, and_self, true_and, Int.natCast_zero, Int.cast_ofNat_Int, Int.ofNat_zero, next64 (by omega : k < x.length) hl]
      · rw [List.range_succ, List.all_append, ha]
        simp only [List.all_cons, List.all_nil, hy', hz']; simp; omega
    · simp -implicitDefEqProofs only [go_sem, List.reduceReplicate, Nat.reduceEqDiff, Nat.reduceAdd, Nat.reduceLeDiff, Nat.reduceMul, Nat.reduceSub, Nat.reduceDiv, Int.reduceToNat, Nat.reduceLT, Int.reduceLT, Int.reduceLE, ↓reduceIte, reduceCtorEq, forall_apply_eq_imp_iff₂, ints, rows, rat, rats, toNat_cast]
      have hkx : k = x.length := by omega
      rw [hkx] at ha
      rw [beatsR, ha]

theorem impl_DominatedRows_ok (m : List (List Int)) (hml : m.length ≤ 1000000000000) (hmr : ∀ r ∈ m, r.length ≤ 1000000000000) : Fun Try.prog 32 [] [.t (rows m)] fun o r => o = [] ∧ r = drT m := by
  refine Fun.le (Q := fun o r => o = [] ∧ (r = drT m ∨ (isMat m = false ∧ r = .tup [.v (.slice none 0 0), .i 1]))) ?_ ?_
  case refine_2 =>
    rintro o r ⟨rfl, rfl | ⟨h, rfl⟩⟩
    · exact ⟨_, .refl _, rfl, rfl⟩
    · refine ⟨_, ?_, rfl, rfl⟩
      rw [drT, drRes, h]
      exact .tup2 (.nilArr 1) (.refl _)
  refine fun_impl_DominatedRows (by simp) ?_
  simp -implicitDefEqProofs only [go_sem, List.reduceReplicate, Nat.reduceEqDiff, Nat.reduceAdd, Nat.reduceLeDiff, Nat.reduceMul, Nat.reduceSub, Nat.reduceDiv, Int.reduceToNat, Nat.reduceLT, Int.reduceLT, Int.reduceLE, ↓reduceIte, reduceCtorEq, forall_apply_eq_imp_iff₂, ints, rows, rat, rats, toNat_cast, c_impl_DominatedRows]
  refine CallW.pure (impl_IsMatrix_ok m (by omega) hmr) [] rfl Try.call18 ?_ (by first | trivial | simp [T.noSh, T.noShL, rat]) rfl ?_
  · simp -implicitDefEqProofs only [Nat.le_refl, Nat.reduceLeDiff, Nat.sub_self, Nat.reduceSub, List.getElem?_cons_zero, List.getElem?_cons_succ, vt_self, vaL, vtL, va, vt, vb, maT, List.cons_append, List.nil_append, List.append_nil, true_or, or_true, go_sem, List.reduceReplicate, Nat.reduceEqDiff, Nat.reduceAdd, Nat.reduceLeDiff, Nat.reduceMul, Nat.reduceSub, Nat.reduceDiv, Int.reduceToNat, Nat.reduceLT, Int.reduceLT, Int.reduceLE, ↓reduceIte, reduceCtorEq, ints, rows, rat, rats, ratsO, toShL_ratC, List.mem_cons, List.mem_nil_iff, List.not_mem_nil, or_false, false_or, exists_eq_left, exists_eq_left', exists_eq_right', Root.live.injEq, eq_self_iff_true, exists_eq, and_true, T.toSh, toShL_ints, toShL_intsO, intsO, rowsO]
  simp -implicitDefEqProofs only [go_sem, List.reduceReplicate, Nat.reduceEqDiff, Nat.reduceAdd, Nat.reduceLeDiff, Nat.reduceMul, Nat.reduceSub, Nat.reduceDiv, Int.reduceToNat, Nat.reduceLT, Int.reduceLT, Int.reduceLE, ↓reduceIte, reduceCtorEq, forall_apply_eq_imp_iff₂, ints, rows, rat, rats, toNat_cast]
  refine ⟨fun h => ?_, fun h => ?_⟩
  · have h' : isMat m = false := by simpa using h
    exact .inr h'
  have hmat : isMat m = true := by simpa using h
  obtain ⟨h1, h2, h3, h4, h5, h6⟩ := isMat_spec hmat
  have hres : drT m = .tup [intsO (domL m (m.headD []).length m.length), .i 0] := by rw [drT, drRes, if_pos hmat]
  rw [hres]
  generalize hc : (m.headD []).length = c at h3 h4 h5 ⊢
  refine SemC.loopR (σ := Nat) (fun i => St.of [(0, .t (rows m)), (4, .own 77), (11, .t (rows m)), (12, .t (.i m.length)), (13, .t (.i i))] [(77, .arr 1 ((domL m c i).map T.i))]) (fun i => i ≤ m.length) (fun i => m.length - i) 0 (Weak.of _ _ [none] (by simp) (by simp) ?_ ?_) (by omega) fun i hI R hn hr he => ?_
  · simp -implicitDefEqProofs only [ints, rows, Nat.reduceBEq, Int.add_zero, envOK, maA, maT, upd_apply, Nat.reduceEqDiff, ↓reduceIte, and_true, true_or, or_true, List.map_cons, List.map_nil, Nat.zero_ne_one, and_self, true_and, Int.natCast_zero, Int.cast_ofNat_Int, Int.ofNat_zero, piOf, List.zip_cons_cons, List.zip_nil_right, List.lookup_cons, List.lookup_nil, beq_self_eq_true, rootsOK, mkRoots, mkEnv]
  · exact ⟨⟨1, by rw [show domL m c 0 = [] from rfl]; rfl⟩, trivial⟩
  · simp -implicitDefEqProofs only [go_sem, List.reduceReplicate, Nat.reduceEqDiff, Nat.reduceAdd, Nat.reduceLeDiff, Nat.reduceMul, Nat.reduceSub, Nat.reduceDiv, Int.reduceToNat, Nat.reduceLT, Int.reduceLT, Int.reduceLE, ↓reduceIte, reduceCtorEq, forall_apply_eq_imp_iff₂, ints, rows, rat, rats, toNat_cast]
    refine ⟨fun h => ⟨by omega, by omega, by omega, fun row hrow => ?_⟩, fun h => he _ _ ?_⟩
    · have hrl := h5 row (List.mem_of_getElem? hrow)
      refine CallW.pure (slices_ContainsFunc_ok m (by omega) 71 [.pin [ints row] 0] (beatsR row) Try.call71 (fun r hr' => impl_DominatedRows_1_ok r row (by omega) (by have := h5 r hr'; omega))) [6] rfl Try.call59 ?_ trivial rfl ?_
      · simp -implicitDefEqProofs only [vt_self, vaL, vtL, va, vt, vb, maT, List.cons_append, List.nil_append, List.append_nil, true_or, or_true, go_sem, List.reduceReplicate, Nat.reduceEqDiff, Nat.reduceAdd, Nat.reduceLeDiff, Nat.reduceMul, Nat.reduceSub, Nat.reduceDiv, Int.reduceToNat, Nat.reduceLT, Int.reduceLT, Int.reduceLE, ↓reduceIte, reduceCtorEq, ints, rows]
        exact ⟨by simp, _, rfl, by simp only [T.toSh, T.toShL]⟩
      simp -implicitDefEqProofs only [go_sem, List.reduceReplicate, Nat.reduceEqDiff, Nat.reduceAdd, Nat.reduceLeDiff, Nat.reduceMul, Nat.reduceSub, Nat.reduceDiv, Int.reduceToNat, Nat.reduceLT, Int.reduceLT, Int.reduceLE, ↓reduceIte, reduceCtorEq, forall_apply_eq_imp_iff₂, ints, rows, rat, rats, toNat_cast]
      rw [dom_any hrow hrl]
      refine ⟨fun hbb => ?_, fun hbb => ?_⟩
      · have hdl := domL_length m c i
        refine ⟨by omega, hn _ (i + 1) (Weak.of _ _ [some 25] (by simp) (by simp) ?_ ?_) (by omega) (by omega)⟩
        · simp -implicitDefEqProofs only [ints, rows, Nat.reduceBEq, Int.add_zero, envOK, maA, maT, upd_apply, Nat.reduceEqDiff, ↓reduceIte, and_true, true_or, or_true, List.map_cons, List.map_nil, Nat.zero_ne_one, and_self, true_and, Int.natCast_zero, Int.cast_ofNat_Int, Int.ofNat_zero, piOf, List.zip_cons_cons, List.zip_nil_right, List.lookup_cons, List.lookup_nil, beq_self_eq_true, rootsOK, mkRoots, mkEnv, next64 (by omega : i < m.length) (by omega)]
        · refine ⟨⟨_, rfl, ?_⟩, rfl, trivial⟩
          rw [domL_succ, if_pos hbb]
          simp only [List.map_append, List.map_cons, List.map_nil]
          exact .refl _
      · refine hn _ (i + 1) (Weak.of _ _ [some 77] (by simp) (by simp) ?_ ?_) (by omega) (by omega)
        · simp -implicitDefEqProofs only [ints, rows, Nat.reduceBEq, Int.add_zero, envOK, maA, maT, upd_apply, Nat.reduceEqDiff, ↓reduceIte, and_true, true_or, or_true, List.map_cons, List.map_nil, Nat.zero_ne_one, and_self, true_and, Int.natCast_zero, Int.cast_ofNat_Int, Int.ofNat_zero, piOf, List.zip_cons_cons, List.zip_nil_right, List.lookup_cons, List.lookup_nil, beq_self_eq_true, rootsOK, mkRoots, mkEnv, next64 (by omega : i < m.length) (by omega)]
        · refine ⟨⟨_, rfl, ?_⟩, rfl, trivial⟩
          rw [domL_succ, if_neg (by rw [hbb]; simp)]
          exact .refl _
    · simp -implicitDefEqProofs only [go_sem, List.reduceReplicate, Nat.reduceEqDiff, Nat.reduceAdd, Nat.reduceLeDiff, Nat.reduceMul, Nat.reduceSub, Nat.reduceDiv, Int.reduceToNat, Nat.reduceLT, Int.reduceLT, Int.reduceLE, ↓reduceIte, reduceCtorEq, forall_apply_eq_imp_iff₂, ints, rows, rat, rats, toNat_cast]
      have him : i = m.length := by omega
      subst him
      exact .inl rfl
end Go.Ab

/- The law FnExactDominatedRows, as a contract. -/
set_option linter.unusedSimpArgs false
set_option linter.unusedVariables false
namespace Go.Ab
open Go.Proofs

theorem budgetRows_tot : ∀ {m : List (List Int)} {left : Int}, 0 ≤ left → 0 ≤ budgetRows m left → (tot m : Int) ≤ left
  | [], left, _, _ => by simp [tot]; assumption
  | x :: m, left, h0, h => by
    simp only [budgetRows] at h
    split at h
    · omega
    · have := budgetRows_tot (by omega) h
      simp only [tot]; omega
theorem budgetMat_tot {m : List (List Int)} {left : Int} (h0 : 0 ≤ left) (h : 0 ≤ budgetMat m left) : (tot m : Int) ≤ left := by
  simp only [budgetMat] at h
  split at h
  · omega
  · have := budgetRows_tot (by omega) h; omega
theorem drT_noSh (m : List (List Int)) : (drT m).noSh := ⟨intsO_noSh _, trivial, trivial⟩
theorem drRes_length (m : List (List Int)) : (drRes m).1.length ≤ m.length := by
  rw [drRes]; split
  · exact domL_length _ _ _
  · simp

theorem laws_FnExactDominatedRows_ok (m : List (List Int)) (hm : (m.length : Int) ≤ 9223372036854775807) (hr : ∀ r ∈ m, (r.length : Int) ≤ 9223372036854775807) : Pure Try.prog 6 [rows m] (.b true) := by
  refine fun_laws_FnExactDominatedRows (by simp) ?_
  simp -implicitDefEqProofs only [go_sem, List.reduceReplicate, Nat.reduceEqDiff, Nat.reduceAdd, Nat.reduceLeDiff, Nat.reduceMul, Nat.reduceSub, Nat.reduceDiv, Int.reduceToNat, Nat.reduceLT, Int.reduceLT, Int.reduceLE, ↓reduceIte, reduceCtorEq, forall_apply_eq_imp_iff₂, ints, rows, rat, rats, toNat_cast, c_laws_FnExactDominatedRows]
  refine CallW.pure (laws_szInt64SS_ok m 1048576 hm hr (by omega) (by omega)) [] rfl Try.call15 ?_ (by first | trivial | simp [T.noSh, T.noShL, rat]) rfl ?_
  · simp -implicitDefEqProofs only [Nat.le_refl, Nat.reduceLeDiff, Nat.sub_self, Nat.reduceSub, List.getElem?_cons_zero, List.getElem?_cons_succ, vt_self, vaL, vtL, va, vt, vb, maT, List.cons_append, List.nil_append, List.append_nil, true_or, or_true, go_sem, List.reduceReplicate, Nat.reduceEqDiff, Nat.reduceAdd, Nat.reduceLeDiff, Nat.reduceMul, Nat.reduceSub, Nat.reduceDiv, Int.reduceToNat, Nat.reduceLT, Int.reduceLT, Int.reduceLE, ↓reduceIte, reduceCtorEq, ints, rows, rat, rats, ratsO, toShL_ratC, List.mem_cons, List.mem_nil_iff, List.not_mem_nil, or_false, false_or, exists_eq_left, exists_eq_left', exists_eq_right', Root.live.injEq, eq_self_iff_true, exists_eq, and_true, T.toSh, toShL_ints, toShL_intsO, intsO, rowsO]
  simp -implicitDefEqProofs only [go_sem, List.reduceReplicate, Nat.reduceEqDiff, Nat.reduceAdd, Nat.reduceLeDiff, Nat.reduceMul, Nat.reduceSub, Nat.reduceDiv, Int.reduceToNat, Nat.reduceLT, Int.reduceLT, Int.reduceLE, ↓reduceIte, reduceCtorEq, forall_apply_eq_imp_iff₂, ints, rows, rat, rats, toNat_cast]
  refine ⟨fun _ => trivial, fun hb => ?_⟩
  obtain ⟨hm1, hr1⟩ := budgetMat_ok (m := m) (left := 1048576) (by omega) (by omega)
  have htot := budgetMat_tot (m := m) (left := 1048576) (by omega) (by omega)
  have hm2 : (m.length : Int) ≤ 1000000000000 := by omega
  have hr2 : ∀ r ∈ m, (r.length : Int) ≤ 1000000000000 := fun r h => by have := hr1 r h; omega
  have hr3 : ∀ r ∈ m, r.length ≤ 1000000000000 := fun r h => by have := hr1 r h; omega
  have hdl := drRes_length m
  have hwl : (drRes m).1.length ≤ 1000000000000 := by omega
  refine CallW.res (laws_toInt64SS_ok m hm2 hr2) [] rfl Try.call17 ?_ (.inl rfl) ?_
  · simp -implicitDefEqProofs only [Nat.le_refl, Nat.reduceLeDiff, Nat.sub_self, Nat.reduceSub, List.getElem?_cons_zero, List.getElem?_cons_succ, vt_self, vaL, vtL, va, vt, vb, maT, List.cons_append, List.nil_append, List.append_nil, true_or, or_true, go_sem, List.reduceReplicate, Nat.reduceEqDiff, Nat.reduceAdd, Nat.reduceLeDiff, Nat.reduceMul, Nat.reduceSub, Nat.reduceDiv, Int.reduceToNat, Nat.reduceLT, Int.reduceLT, Int.reduceLE, ↓reduceIte, reduceCtorEq, ints, rows, rat, rats, ratsO, toShL_ratC, List.mem_cons, List.mem_nil_iff, List.not_mem_nil, or_false, false_or, exists_eq_left, exists_eq_left', exists_eq_right', Root.live.injEq, eq_self_iff_true, exists_eq, and_true, T.toSh, toShL_ints, toShL_intsO, intsO, rowsO]
  simp -implicitDefEqProofs only [List.append_nil, List.cons_append, Nat.reduceLeDiff, afterCall, absT_rowsO, absT_intsO, absT, absL, updL, updS, freeAll, rid, T.noSh, T.noShL, Nat.zero_le, go_sem, List.reduceReplicate, Nat.reduceEqDiff, Nat.reduceAdd, Nat.reduceLeDiff, Nat.reduceMul, Nat.reduceSub, Nat.reduceDiv, Int.reduceToNat, Nat.reduceLT, Int.reduceLT, Int.reduceLE, ↓reduceIte, reduceCtorEq, rat, forall_apply_eq_imp_iff₂, toNat_cast]
  refine CallW.res (spec_DominatedRows_ok m) [21] rfl Try.call31 ?_ (.inr (drT_noSh m)) ?_
  · simp -implicitDefEqProofs only [Nat.le_refl, Nat.reduceLeDiff, Nat.sub_self, Nat.reduceSub, List.getElem?_cons_zero, List.getElem?_cons_succ, vt_self, vaL, vtL, va, vt, vb, maT, List.cons_append, List.nil_append, List.append_nil, true_or, or_true, go_sem, List.reduceReplicate, Nat.reduceEqDiff, Nat.reduceAdd, Nat.reduceLeDiff, Nat.reduceMul, Nat.reduceSub, Nat.reduceDiv, Int.reduceToNat, Nat.reduceLT, Int.reduceLT, Int.reduceLE, ↓reduceIte, reduceCtorEq, ints, rows, rat, rats, ratsO, toShL_ratC, List.mem_cons, List.mem_nil_iff, List.not_mem_nil, or_false, false_or, exists_eq_left, exists_eq_left', exists_eq_right', Root.live.injEq, eq_self_iff_true, exists_eq, and_true, T.toSh, toShL_ints, toShL_intsO, intsO, rowsO]
  simp -implicitDefEqProofs only [List.append_nil, List.cons_append, Nat.reduceLeDiff, afterCall, absT_rowsO, absT_intsO, absT, absL, updL, updS, freeAll, rid, T.noSh, T.noShL, Nat.zero_le, go_sem, List.reduceReplicate, Nat.reduceEqDiff, Nat.reduceAdd, Nat.reduceLeDiff, Nat.reduceMul, Nat.reduceSub, Nat.reduceDiv, Int.reduceToNat, Nat.reduceLT, Int.reduceLT, Int.reduceLE, ↓reduceIte, reduceCtorEq, rat, forall_apply_eq_imp_iff₂, toNat_cast, drT]
  refine CallW.res (laws_toInt64SS_ok m hm2 hr2) [] rfl Try.call17 ?_ (.inl rfl) ?_
  · simp -implicitDefEqProofs only [Nat.le_refl, Nat.reduceLeDiff, Nat.sub_self, Nat.reduceSub, List.getElem?_cons_zero, List.getElem?_cons_succ, vt_self, vaL, vtL, va, vt, vb, maT, List.cons_append, List.nil_append, List.append_nil, true_or, or_true, go_sem, List.reduceReplicate, Nat.reduceEqDiff, Nat.reduceAdd, Nat.reduceLeDiff, Nat.reduceMul, Nat.reduceSub, Nat.reduceDiv, Int.reduceToNat, Nat.reduceLT, Int.reduceLT, Int.reduceLE, ↓reduceIte, reduceCtorEq, ints, rows, rat, rats, ratsO, toShL_ratC, List.mem_cons, List.mem_nil_iff, List.not_mem_nil, or_false, false_or, exists_eq_left, exists_eq_left', exists_eq_right', Root.live.injEq, eq_self_iff_true, exists_eq, and_true, T.toSh, toShL_ints, toShL_intsO, intsO, rowsO]
  simp -implicitDefEqProofs only [List.append_nil, List.cons_append, Nat.reduceLeDiff, afterCall, absT_rowsO, absT_intsO, absT, absL, updL, updS, freeAll, rid, T.noSh, T.noShL, Nat.zero_le, go_sem, List.reduceReplicate, Nat.reduceEqDiff, Nat.reduceAdd, Nat.reduceLeDiff, Nat.reduceMul, Nat.reduceSub, Nat.reduceDiv, Int.reduceToNat, Nat.reduceLT, Int.reduceLT, Int.reduceLE, ↓reduceIte, reduceCtorEq, rat, forall_apply_eq_imp_iff₂, toNat_cast]
  refine CallW.res (impl_DominatedRows_ok m (by omega) hr3) [26] rfl Try.call32 ?_ (.inr (drT_noSh m)) ?_
  · simp -implicitDefEqProofs only [Nat.le_refl, Nat.reduceLeDiff, Nat.sub_self, Nat.reduceSub, List.getElem?_cons_zero, List.getElem?_cons_succ, vt_self, vaL, vtL, va, vt, vb, maT, List.cons_append, List.nil_append, List.append_nil, true_or, or_true, go_sem, List.reduceReplicate, Nat.reduceEqDiff, Nat.reduceAdd, Nat.reduceLeDiff, Nat.reduceMul, Nat.reduceSub, Nat.reduceDiv, Int.reduceToNat, Nat.reduceLT, Int.reduceLT, Int.reduceLE, ↓reduceIte, reduceCtorEq, ints, rows, rat, rats, ratsO, toShL_ratC, List.mem_cons, List.mem_nil_iff, List.not_mem_nil, or_false, false_or, exists_eq_left, exists_eq_left', exists_eq_right', Root.live.injEq, eq_self_iff_true, exists_eq, and_true, T.toSh, toShL_ints, toShL_intsO, intsO, rowsO]
  simp -implicitDefEqProofs only [List.append_nil, List.cons_append, Nat.reduceLeDiff, afterCall, absT_rowsO, absT_intsO, absT, absL, updL, updS, freeAll, rid, T.noSh, T.noShL, Nat.zero_le, go_sem, List.reduceReplicate, Nat.reduceEqDiff, Nat.reduceAdd, Nat.reduceLeDiff, Nat.reduceMul, Nat.reduceSub, Nat.reduceDiv, Int.reduceToNat, Nat.reduceLT, Int.reduceLT, Int.reduceLE, ↓reduceIte, reduceCtorEq, rat, forall_apply_eq_imp_iff₂, toNat_cast, drT]
  refine CallW.pure (laws_eqInt64S_ok (drRes m).1 (drRes m).1 hwl hwl) [29, 22] rfl Try.call23 ?_ (by first | trivial | simp [T.noSh, T.noShL, rat]) rfl ?_
  · simp -implicitDefEqProofs only [Nat.le_refl, Nat.reduceLeDiff, Nat.sub_self, Nat.reduceSub, List.getElem?_cons_zero, List.getElem?_cons_succ, vt_self, vaL, vtL, va, vt, vb, maT, List.cons_append, List.nil_append, List.append_nil, true_or, or_true, go_sem, List.reduceReplicate, Nat.reduceEqDiff, Nat.reduceAdd, Nat.reduceLeDiff, Nat.reduceMul, Nat.reduceSub, Nat.reduceDiv, Int.reduceToNat, Nat.reduceLT, Int.reduceLT, Int.reduceLE, ↓reduceIte, reduceCtorEq, ints, rows, rat, rats, ratsO, toShL_ratC, List.mem_cons, List.mem_nil_iff, List.not_mem_nil, or_false, false_or, exists_eq_left, exists_eq_left', exists_eq_right', Root.live.injEq, eq_self_iff_true, exists_eq, and_true, T.toSh, toShL_ints, toShL_intsO, intsO, rowsO]
  simp -implicitDefEqProofs only [go_sem, List.reduceReplicate, Nat.reduceEqDiff, Nat.reduceAdd, Nat.reduceLeDiff, Nat.reduceMul, Nat.reduceSub, Nat.reduceDiv, Int.reduceToNat, Nat.reduceLT, Int.reduceLT, Int.reduceLE, ↓reduceIte, reduceCtorEq, forall_apply_eq_imp_iff₂, ints, rows, rat, rats, toNat_cast]
  refine CallW.res (laws_toInt64SS_ok m hm2 hr2) [] rfl Try.call17 ?_ (.inl rfl) ?_
  · simp -implicitDefEqProofs only [Nat.le_refl, Nat.reduceLeDiff, Nat.sub_self, Nat.reduceSub, List.getElem?_cons_zero, List.getElem?_cons_succ, vt_self, vaL, vtL, va, vt, vb, maT, List.cons_append, List.nil_append, List.append_nil, true_or, or_true, go_sem, List.reduceReplicate, Nat.reduceEqDiff, Nat.reduceAdd, Nat.reduceLeDiff, Nat.reduceMul, Nat.reduceSub, Nat.reduceDiv, Int.reduceToNat, Nat.reduceLT, Int.reduceLT, Int.reduceLE, ↓reduceIte, reduceCtorEq, ints, rows, rat, rats, ratsO, toShL_ratC, List.mem_cons, List.mem_nil_iff, List.not_mem_nil, or_false, false_or, exists_eq_left, exists_eq_left', exists_eq_right', Root.live.injEq, eq_self_iff_true, exists_eq, and_true, T.toSh, toShL_ints, toShL_intsO, intsO, rowsO]
  simp -implicitDefEqProofs only [List.append_nil, List.cons_append, Nat.reduceLeDiff, afterCall, absT_rowsO, absT_intsO, absT, absL, updL, updS, freeAll, rid, T.noSh, T.noShL, Nat.zero_le, go_sem, List.reduceReplicate, Nat.reduceEqDiff, Nat.reduceAdd, Nat.reduceLeDiff, Nat.reduceMul, Nat.reduceSub, Nat.reduceDiv, Int.reduceToNat, Nat.reduceLT, Int.reduceLT, Int.reduceLE, ↓reduceIte, reduceCtorEq, rat, forall_apply_eq_imp_iff₂, toNat_cast]
  refine CallW.pure (laws_eqInt64SS_ok m m (by omega) (by omega) hr3 hr3) [26, 43] rfl Try.call19 ?_ (by first | trivial | simp [T.noSh, T.noShL, rat]) rfl ?_
  · simp -implicitDefEqProofs only [Nat.le_refl, Nat.reduceLeDiff, Nat.sub_self, Nat.reduceSub, List.getElem?_cons_zero, List.getElem?_cons_succ, vt_self, vaL, vtL, va, vt, vb, maT, List.cons_append, List.nil_append, List.append_nil, true_or, or_true, go_sem, List.reduceReplicate, Nat.reduceEqDiff, Nat.reduceAdd, Nat.reduceLeDiff, Nat.reduceMul, Nat.reduceSub, Nat.reduceDiv, Int.reduceToNat, Nat.reduceLT, Int.reduceLT, Int.reduceLE, ↓reduceIte, reduceCtorEq, ints, rows, rat, rats, ratsO, toShL_ratC, List.mem_cons, List.mem_nil_iff, List.not_mem_nil, or_false, false_or, exists_eq_left, exists_eq_left', exists_eq_right', Root.live.injEq, eq_self_iff_true, exists_eq, and_true, T.toSh, toShL_ints, toShL_intsO, intsO, rowsO]
  simp -implicitDefEqProofs only [go_sem, List.reduceReplicate, Nat.reduceEqDiff, Nat.reduceAdd, Nat.reduceLeDiff, Nat.reduceMul, Nat.reduceSub, Nat.reduceDiv, Int.reduceToNat, Nat.reduceLT, Int.reduceLT, Int.reduceLE, ↓reduceIte, reduceCtorEq, forall_apply_eq_imp_iff₂, ints, rows, rat, rats, toNat_cast]
  refine CallW.ref (laws_markInt64SS_ok m 1 (by omega) (by omega) (by omega) (by omega)) [26] [] rfl Try.call33 (by simp) ?_ (by simp) ?_ (.inl rfl) ?_
  · simp -implicitDefEqProofs only [rootOf_arr, rootOf_box, rootOf_any, srcsOK, updL, updS, upd_apply, Nat.reduceEqDiff, ↓reduceIte, mkRoots, and_true, ints, rows, intsO, rowsO]
  · simp -implicitDefEqProofs only [Nat.le_refl, Nat.reduceLeDiff, Nat.sub_self, Nat.reduceSub, List.getElem?_cons_zero, List.getElem?_cons_succ, vt_self, vaL, vtL, va, vt, vb, maT, List.cons_append, List.nil_append, List.append_nil, true_or, or_true, go_sem, List.reduceReplicate, Nat.reduceEqDiff, Nat.reduceAdd, Nat.reduceLeDiff, Nat.reduceMul, Nat.reduceSub, Nat.reduceDiv, Int.reduceToNat, Nat.reduceLT, Int.reduceLT, Int.reduceLE, ↓reduceIte, reduceCtorEq, ints, rows, rat, rats, ratsO, toShL_ratC, List.mem_cons, List.mem_nil_iff, List.not_mem_nil, or_false, false_or, exists_eq_left, exists_eq_left', exists_eq_right', Root.live.injEq, eq_self_iff_true, exists_eq, and_true, T.toSh, toShL_ints, toShL_intsO, intsO, rowsO]
  simp -implicitDefEqProofs only [List.append_nil, List.cons_append, Nat.reduceLeDiff, afterCall, absT_rowsO, absT_intsO, absT, absL, updL, updS, freeAll, rid, T.noSh, T.noShL, Nat.zero_le, go_sem, List.reduceReplicate, Nat.reduceEqDiff, Nat.reduceAdd, Nat.reduceLeDiff, Nat.reduceMul, Nat.reduceSub, Nat.reduceDiv, Int.reduceToNat, Nat.reduceLT, Int.reduceLT, Int.reduceLE, ↓reduceIte, reduceCtorEq, rat, forall_apply_eq_imp_iff₂, toNat_cast]
  refine ⟨fun _ => ?_, fun h => absurd h (by omega)⟩
  refine CallW.pure (laws_eqInt64S_ok (drRes m).1 (drRes m).1 hwl hwl) [29, 22] rfl Try.call23 ?_ (by first | trivial | simp [T.noSh, T.noShL, rat]) rfl ?_
  · simp -implicitDefEqProofs only [Nat.le_refl, Nat.reduceLeDiff, Nat.sub_self, Nat.reduceSub, List.getElem?_cons_zero, List.getElem?_cons_succ, vt_self, vaL, vtL, va, vt, vb, maT, List.cons_append, List.nil_append, List.append_nil, true_or, or_true, go_sem, List.reduceReplicate, Nat.reduceEqDiff, Nat.reduceAdd, Nat.reduceLeDiff, Nat.reduceMul, Nat.reduceSub, Nat.reduceDiv, Int.reduceToNat, Nat.reduceLT, Int.reduceLT, Int.reduceLE, ↓reduceIte, reduceCtorEq, ints, rows, rat, rats, ratsO, toShL_ratC, List.mem_cons, List.mem_nil_iff, List.not_mem_nil, or_false, false_or, exists_eq_left, exists_eq_left', exists_eq_right', Root.live.injEq, eq_self_iff_true, exists_eq, and_true, T.toSh, toShL_ints, toShL_intsO, intsO, rowsO]
  simp -implicitDefEqProofs only [go_sem, List.reduceReplicate, Nat.reduceEqDiff, Nat.reduceAdd, Nat.reduceLeDiff, Nat.reduceMul, Nat.reduceSub, Nat.reduceDiv, Int.reduceToNat, Nat.reduceLT, Int.reduceLT, Int.reduceLE, ↓reduceIte, reduceCtorEq, forall_apply_eq_imp_iff₂, ints, rows, rat, rats, toNat_cast]
  refine CallW.ref (laws_markInt64S_ok (drRes m).1 1 hwl (by omega) (by omega)) [29] [] rfl Try.call24 (by simp) ?_ (by simp) ?_ (.inl rfl) ?_
  · simp -implicitDefEqProofs only [rootOf_arr, rootOf_box, rootOf_any, srcsOK, updL, updS, upd_apply, Nat.reduceEqDiff, ↓reduceIte, mkRoots, and_true, ints, rows, intsO, rowsO]
  · simp -implicitDefEqProofs only [Nat.le_refl, Nat.reduceLeDiff, Nat.sub_self, Nat.reduceSub, List.getElem?_cons_zero, List.getElem?_cons_succ, vt_self, vaL, vtL, va, vt, vb, maT, List.cons_append, List.nil_append, List.append_nil, true_or, or_true, go_sem, List.reduceReplicate, Nat.reduceEqDiff, Nat.reduceAdd, Nat.reduceLeDiff, Nat.reduceMul, Nat.reduceSub, Nat.reduceDiv, Int.reduceToNat, Nat.reduceLT, Int.reduceLT, Int.reduceLE, ↓reduceIte, reduceCtorEq, ints, rows, rat, rats, ratsO, toShL_ratC, List.mem_cons, List.mem_nil_iff, List.not_mem_nil, or_false, false_or, exists_eq_left, exists_eq_left', exists_eq_right', Root.live.injEq, eq_self_iff_true, exists_eq, and_true, T.toSh, toShL_ints, toShL_intsO, intsO, rowsO]
  simp -implicitDefEqProofs only [List.append_nil, List.cons_append, Nat.reduceLeDiff, afterCall, absT_rowsO, absT_intsO, absT, absL, updL, updS, freeAll, rid, T.noSh, T.noShL, Nat.zero_le, go_sem, List.reduceReplicate, Nat.reduceEqDiff, Nat.reduceAdd, Nat.reduceLeDiff, Nat.reduceMul, Nat.reduceSub, Nat.reduceDiv, Int.reduceToNat, Nat.reduceLT, Int.reduceLT, Int.reduceLE, ↓reduceIte, reduceCtorEq, rat, forall_apply_eq_imp_iff₂, toNat_cast]
  refine CallW.pure (laws_heldInt64S_ok (marks (drRes m).1.length 1) 1 (by rw [marks_length]; exact hwl) (by omega) (by omega)) [29] rfl Try.call25 ?_ (by first | trivial | simp [T.noSh, T.noShL, rat]) rfl ?_
  · simp -implicitDefEqProofs only [Nat.le_refl, Nat.reduceLeDiff, Nat.sub_self, Nat.reduceSub, List.getElem?_cons_zero, List.getElem?_cons_succ, vt_self, vaL, vtL, va, vt, vb, maT, List.cons_append, List.nil_append, List.append_nil, true_or, or_true, go_sem, List.reduceReplicate, Nat.reduceEqDiff, Nat.reduceAdd, Nat.reduceLeDiff, Nat.reduceMul, Nat.reduceSub, Nat.reduceDiv, Int.reduceToNat, Nat.reduceLT, Int.reduceLT, Int.reduceLE, ↓reduceIte, reduceCtorEq, ints, rows, rat, rats, ratsO, toShL_ratC, List.mem_cons, List.mem_nil_iff, List.not_mem_nil, or_false, false_or, exists_eq_left, exists_eq_left', exists_eq_right', Root.live.injEq, eq_self_iff_true, exists_eq, and_true, T.toSh, toShL_ints, toShL_intsO, intsO, rowsO]
  simp -implicitDefEqProofs only [go_sem, List.reduceReplicate, Nat.reduceEqDiff, Nat.reduceAdd, Nat.reduceLeDiff, Nat.reduceMul, Nat.reduceSub, Nat.reduceDiv, Int.reduceToNat, Nat.reduceLT, Int.reduceLT, Int.reduceLE, ↓reduceIte, reduceCtorEq, forall_apply_eq_imp_iff₂, ints, rows, rat, rats, toNat_cast, held_marks]
  refine ⟨fun h => absurd h (by omega), fun _ => ?_⟩
  refine CallW.res (laws_toInt64SS_ok m hm2 hr2) [] rfl Try.call17 ?_ (.inl rfl) ?_
  · simp -implicitDefEqProofs only [Nat.le_refl, Nat.reduceLeDiff, Nat.sub_self, Nat.reduceSub, List.getElem?_cons_zero, List.getElem?_cons_succ, vt_self, vaL, vtL, va, vt, vb, maT, List.cons_append, List.nil_append, List.append_nil, true_or, or_true, go_sem, List.reduceReplicate, Nat.reduceEqDiff, Nat.reduceAdd, Nat.reduceLeDiff, Nat.reduceMul, Nat.reduceSub, Nat.reduceDiv, Int.reduceToNat, Nat.reduceLT, Int.reduceLT, Int.reduceLE, ↓reduceIte, reduceCtorEq, ints, rows, rat, rats, ratsO, toShL_ratC, List.mem_cons, List.mem_nil_iff, List.not_mem_nil, or_false, false_or, exists_eq_left, exists_eq_left', exists_eq_right', Root.live.injEq, eq_self_iff_true, exists_eq, and_true, T.toSh, toShL_ints, toShL_intsO, intsO, rowsO]
  simp -implicitDefEqProofs only [List.append_nil, List.cons_append, Nat.reduceLeDiff, afterCall, absT_rowsO, absT_intsO, absT, absL, updL, updS, freeAll, rid, T.noSh, T.noShL, Nat.zero_le, go_sem, List.reduceReplicate, Nat.reduceEqDiff, Nat.reduceAdd, Nat.reduceLeDiff, Nat.reduceMul, Nat.reduceSub, Nat.reduceDiv, Int.reduceToNat, Nat.reduceLT, Int.reduceLT, Int.reduceLE, ↓reduceIte, reduceCtorEq, rat, forall_apply_eq_imp_iff₂, toNat_cast]
  refine CallW.res (impl_DominatedRows_ok m (by omega) hr3) [75] rfl Try.call32 ?_ (.inr (drT_noSh m)) ?_
  · simp -implicitDefEqProofs only [Nat.le_refl, Nat.reduceLeDiff, Nat.sub_self, Nat.reduceSub, List.getElem?_cons_zero, List.getElem?_cons_succ, vt_self, vaL, vtL, va, vt, vb, maT, List.cons_append, List.nil_append, List.append_nil, true_or, or_true, go_sem, List.reduceReplicate, Nat.reduceEqDiff, Nat.reduceAdd, Nat.reduceLeDiff, Nat.reduceMul, Nat.reduceSub, Nat.reduceDiv, Int.reduceToNat, Nat.reduceLT, Int.reduceLT, Int.reduceLE, ↓reduceIte, reduceCtorEq, ints, rows, rat, rats, ratsO, toShL_ratC, List.mem_cons, List.mem_nil_iff, List.not_mem_nil, or_false, false_or, exists_eq_left, exists_eq_left', exists_eq_right', Root.live.injEq, eq_self_iff_true, exists_eq, and_true, T.toSh, toShL_ints, toShL_intsO, intsO, rowsO]
  simp -implicitDefEqProofs only [List.append_nil, List.cons_append, Nat.reduceLeDiff, afterCall, absT_rowsO, absT_intsO, absT, absL, updL, updS, freeAll, rid, T.noSh, T.noShL, Nat.zero_le, go_sem, List.reduceReplicate, Nat.reduceEqDiff, Nat.reduceAdd, Nat.reduceLeDiff, Nat.reduceMul, Nat.reduceSub, Nat.reduceDiv, Int.reduceToNat, Nat.reduceLT, Int.reduceLT, Int.reduceLE, ↓reduceIte, reduceCtorEq, rat, forall_apply_eq_imp_iff₂, toNat_cast, drT]
  refine CallW.pure (laws_eqInt64S_ok (drRes m).1 (drRes m).1 hwl hwl) [76, 22] rfl Try.call23 ?_ (by first | trivial | simp [T.noSh, T.noShL, rat]) rfl ?_
  · simp -implicitDefEqProofs only [Nat.le_refl, Nat.reduceLeDiff, Nat.sub_self, Nat.reduceSub, List.getElem?_cons_zero, List.getElem?_cons_succ, vt_self, vaL, vtL, va, vt, vb, maT, List.cons_append, List.nil_append, List.append_nil, true_or, or_true, go_sem, List.reduceReplicate, Nat.reduceEqDiff, Nat.reduceAdd, Nat.reduceLeDiff, Nat.reduceMul, Nat.reduceSub, Nat.reduceDiv, Int.reduceToNat, Nat.reduceLT, Int.reduceLT, Int.reduceLE, ↓reduceIte, reduceCtorEq, ints, rows, rat, rats, ratsO, toShL_ratC, List.mem_cons, List.mem_nil_iff, List.not_mem_nil, or_false, false_or, exists_eq_left, exists_eq_left', exists_eq_right', Root.live.injEq, eq_self_iff_true, exists_eq, and_true, T.toSh, toShL_ints, toShL_intsO, intsO, rowsO]
  simp -implicitDefEqProofs only [go_sem, List.reduceReplicate, Nat.reduceEqDiff, Nat.reduceAdd, Nat.reduceLeDiff, Nat.reduceMul, Nat.reduceSub, Nat.reduceDiv, Int.reduceToNat, Nat.reduceLT, Int.reduceLT, Int.reduceLE, ↓reduceIte, reduceCtorEq, forall_apply_eq_imp_iff₂, ints, rows, rat, rats, toNat_cast]
  refine CallW.pure (laws_heldInt64S_ok (marks (drRes m).1.length 1) 1 (by rw [marks_length]; exact hwl) (by omega) (by omega)) [29] rfl Try.call25 ?_ (by first | trivial | simp [T.noSh, T.noShL, rat]) rfl ?_
  · simp -implicitDefEqProofs only [Nat.le_refl, Nat.reduceLeDiff, Nat.sub_self, Nat.reduceSub, List.getElem?_cons_zero, List.getElem?_cons_succ, vt_self, vaL, vtL, va, vt, vb, maT, List.cons_append, List.nil_append, List.append_nil, true_or, or_true, go_sem, List.reduceReplicate, Nat.reduceEqDiff, Nat.reduceAdd, Nat.reduceLeDiff, Nat.reduceMul, Nat.reduceSub, Nat.reduceDiv, Int.reduceToNat, Nat.reduceLT, Int.reduceLT, Int.reduceLE, ↓reduceIte, reduceCtorEq, ints, rows, rat, rats, ratsO, toShL_ratC, List.mem_cons, List.mem_nil_iff, List.not_mem_nil, or_false, false_or, exists_eq_left, exists_eq_left', exists_eq_right', Root.live.injEq, eq_self_iff_true, exists_eq, and_true, T.toSh, toShL_ints, toShL_intsO, intsO, rowsO]
  simp -implicitDefEqProofs only [go_sem, List.reduceReplicate, Nat.reduceEqDiff, Nat.reduceAdd, Nat.reduceLeDiff, Nat.reduceMul, Nat.reduceSub, Nat.reduceDiv, Int.reduceToNat, Nat.reduceLT, Int.reduceLT, Int.reduceLE, ↓reduceIte, reduceCtorEq, forall_apply_eq_imp_iff₂, ints, rows, rat, rats, toNat_cast, held_marks]
  exact ⟨fun h => absurd h (by omega), fun _ => trivial⟩
end Go.Ab

/- Contracts: the flipped matrix, the reference. -/
set_option linter.unusedSimpArgs false
set_option linter.unusedVariables false
namespace Go.Ab
open Go.Proofs

def neg (l : List Int) : List Int := l.map fun x => -x
def flipM (m : List (List Int)) (c n : Nat) : List (List Int) := (List.range n).map fun k => neg (colOf m k)
def fmRes (m : List (List Int)) : List (List Int) × Int := if isMat m then (flipM m (m.headD []).length (m.headD []).length, 0) else ([], 1)
def fmT (m : List (List Int)) : T := .tup [rowsO (fmRes m).1, .i (fmRes m).2]
theorem flipM_succ (m : List (List Int)) (c n : Nat) : flipM m c (n + 1) = flipM m c n ++ [neg (colOf m n)] := by
  simp only [flipM, List.range_succ, List.map_append, List.map_cons, List.map_nil]

theorem spec_FlipMatrix_ok (m : List (List Int)) : Fun Try.prog 36 [] [.t (rows m)] fun o r => o = [] ∧ r = fmT m := by
  refine Fun.le (Q := fun o r => o = [] ∧ (r = fmT m ∨ (isMat m = false ∧ r = .tup [.v (.slice none 0 0), .i 1]))) ?_ ?_
  case refine_2 =>
    rintro o r ⟨rfl, rfl | ⟨h, rfl⟩⟩
    · exact ⟨_, .refl _, rfl, rfl⟩
    · refine ⟨_, ?_, rfl, rfl⟩
      rw [fmT, fmRes, h]
      exact .tup2 (.nilArr 1) (.refl _)
  refine fun_spec_FlipMatrix (by simp) ?_
  simp -implicitDefEqProofs only [go_sem, List.reduceReplicate, Nat.reduceEqDiff, Nat.reduceAdd, Nat.reduceLeDiff, Nat.reduceMul, Nat.reduceSub, Nat.reduceDiv, Int.reduceToNat, Nat.reduceLT, Int.reduceLT, Int.reduceLE, ↓reduceIte, reduceCtorEq, forall_apply_eq_imp_iff₂, ints, rows, rat, rats, toNat_cast, c_spec_FlipMatrix]
  refine CallW.pure (spec_IsMatrix_ok m) [] rfl Try.call16 ?_ (by first | trivial | simp [T.noSh, T.noShL, rat]) rfl ?_
  · simp -implicitDefEqProofs only [Nat.le_refl, Nat.reduceLeDiff, Nat.sub_self, Nat.reduceSub, List.getElem?_cons_zero, List.getElem?_cons_succ, vt_self, vaL, vtL, va, vt, vb, maT, List.cons_append, List.nil_append, List.append_nil, true_or, or_true, go_sem, List.reduceReplicate, Nat.reduceEqDiff, Nat.reduceAdd, Nat.reduceLeDiff, Nat.reduceMul, Nat.reduceSub, Nat.reduceDiv, Int.reduceToNat, Nat.reduceLT, Int.reduceLT, Int.reduceLE, ↓reduceIte, reduceCtorEq, ints, rows, rat, rats, ratsO, toShL_ratC, List.mem_cons, List.mem_nil_iff, List.not_mem_nil, or_false, false_or, exists_eq_left, exists_eq_left', exists_eq_right', Root.live.injEq, eq_self_iff_true, exists_eq, and_true, T.toSh, toShL_ints, toShL_intsO, intsO, rowsO]
  simp -implicitDefEqProofs only [go_sem, List.reduceReplicate, Nat.reduceEqDiff, Nat.reduceAdd, Nat.reduceLeDiff, Nat.reduceMul, Nat.reduceSub, Nat.reduceDiv, Int.reduceToNat, Nat.reduceLT, Int.reduceLT, Int.reduceLE, ↓reduceIte, reduceCtorEq, forall_apply_eq_imp_iff₂, ints, rows, rat, rats, toNat_cast]
  refine ⟨fun h => ?_, fun h => ?_⟩
  · have h' : isMat m = false := by simpa using h
    exact .inr h'
  have hmat : isMat m = true := by simpa using h
  obtain ⟨h1, h2, h3, h4, h5, h6⟩ := isMat_spec hmat
  have hres : fmT m = .tup [rowsO (flipM m (m.headD []).length (m.headD []).length), .i 0] := by rw [fmT, fmRes, if_pos hmat]
  rw [hres]
  generalize hc : (m.headD []).length = c at h3 h4 h5 ⊢
  have hrow0 : ∀ r0, m[0]? = some r0 → r0.length = c := fun r0 h0 => h5 r0 (List.mem_of_getElem? h0)
  refine SemC.loopR (σ := Nat) (fun k => St.of [(0, .t (rows m)), (4, .own 77), (5, .t (.i k))] [(77, .arr 1 ((flipM m c k).map intsO))]) (fun k => k ≤ c) (fun k => c - k) 0 (Weak.of _ _ [some 11] (by simp) (by simp) ?_ ?_) (by omega) fun k hk R hn hr he => ?_
  · simp -implicitDefEqProofs only [ints, rows, Nat.reduceBEq, Int.add_zero, envOK, maA, maT, upd_apply, Nat.reduceEqDiff, ↓reduceIte, and_true, true_or, or_true, List.map_cons, List.map_nil, Nat.zero_ne_one, and_self, true_and, Int.natCast_zero, Int.cast_ofNat_Int, Int.ofNat_zero, piOf, List.zip_cons_cons, List.zip_nil_right, List.lookup_cons, List.lookup_nil, beq_self_eq_true, rootsOK, mkRoots, mkEnv]
  · exact ⟨⟨_, rfl, by rw [show flipM m c 0 = [] from rfl]; exact .refl _⟩, rfl, trivial⟩
  · simp -implicitDefEqProofs only [go_sem, List.reduceReplicate, Nat.reduceEqDiff, Nat.reduceAdd, Nat.reduceLeDiff, Nat.reduceMul, Nat.reduceSub, Nat.reduceDiv, Int.reduceToNat, Nat.reduceLT, Int.reduceLT, Int.reduceLE, ↓reduceIte, reduceCtorEq, forall_apply_eq_imp_iff₂, ints, rows, rat, rats, toNat_cast]
    refine ⟨by omega, by omega, fun r0 h0 => ?_⟩
    rw [hrow0 r0 h0]
    refine ⟨fun h => ?_, fun h => he _ _ ?_⟩
    · refine SemC.loopR (σ := Nat) (fun i => St.of [(0, .t (rows m)), (4, .own 77), (5, .t (.i k)), (6, .own 78), (7, .t (.i i))] [(77, .arr 1 ((flipM m c k).map intsO)), (78, .arr 1 ((neg (colI m k i)).map T.i))]) (fun i => i ≤ m.length) (fun i => m.length - i) 0 (Weak.of _ _ [some 77, some 20] (by simp) (by simp) ?_ ?_) (by omega) fun i hi R2 hn2 hr2 he2 => ?_
      · simp -implicitDefEqProofs only [ints, rows, Nat.reduceBEq, Int.add_zero, envOK, maA, maT, upd_apply, Nat.reduceEqDiff, ↓reduceIte, and_true, true_or, or_true, List.map_cons, List.map_nil, Nat.zero_ne_one, and_self, true_and, Int.natCast_zero, Int.cast_ofNat_Int, Int.ofNat_zero, piOf, List.zip_cons_cons, List.zip_nil_right, List.lookup_cons, List.lookup_nil, beq_self_eq_true, rootsOK, mkRoots, mkEnv]
      · exact ⟨⟨_, rfl, .refl _⟩, rfl, ⟨_, rfl, .refl _⟩, rfl, trivial⟩
      · simp -implicitDefEqProofs only [go_sem, List.reduceReplicate, Nat.reduceEqDiff, Nat.reduceAdd, Nat.reduceLeDiff, Nat.reduceMul, Nat.reduceSub, Nat.reduceDiv, Int.reduceToNat, Nat.reduceLT, Int.reduceLT, Int.reduceLE, ↓reduceIte, reduceCtorEq, forall_apply_eq_imp_iff₂, ints, rows, rat, rats, toNat_cast]
        refine ⟨fun h => ⟨by omega, by omega, by omega, fun r hrow => ?_⟩, fun h => he2 _ _ ?_⟩
        · have hrl := h5 r (List.mem_of_getElem? hrow)
          refine ⟨by omega, by omega, by omega, fun x hx => ?_⟩
          have hxb := h6 r (List.mem_of_getElem? hrow) x (List.mem_of_getElem? hx)
          have hw : IntKind.i64.wrap (0 - x) = -x := by rw [wrap64 (by omega) (by omega)]; omega
          have hcl : (neg (colI m k i)).length ≤ 4 := by simp [neg, colI]; omega
          refine ⟨by omega, hn2 _ (i + 1) (Weak.of _ _ [some 77, some 37] (by simp) (by simp) ?_ ?_) (by omega) (by omega)⟩
          · simp -implicitDefEqProofs only [ints, rows, Nat.reduceBEq, Int.add_zero, envOK, maA, maT, upd_apply, Nat.reduceEqDiff, ↓reduceIte, and_true, true_or, or_true, List.map_cons, List.map_nil, Nat.zero_ne_one, and_self, true_and, Int.natCast_zero, Int.cast_ofNat_Int, Int.ofNat_zero, piOf, List.zip_cons_cons, List.zip_nil_right, List.lookup_cons, List.lookup_nil, beq_self_eq_true, rootsOK, mkRoots, mkEnv, next64 (by omega : i < m.length) (by omega)]
          · refine ⟨⟨_, rfl, .refl _⟩, rfl, ⟨_, rfl, ?_⟩, rfl, trivial⟩
            have e : neg (colI m k (i + 1)) = neg (colI m k i) ++ [-x] := by
              rw [colI, take_snoc hrow]
              simp only [neg, colI, List.map_append, List.map_cons, List.map_nil]
              rw [List.getD_eq_getElem?_getD, hx]; rfl
            rw [e, hw]
            simp only [List.map_append, List.map_cons, List.map_nil]
            exact .refl _
        · simp -implicitDefEqProofs only [go_sem, List.reduceReplicate, Nat.reduceEqDiff, Nat.reduceAdd, Nat.reduceLeDiff, Nat.reduceMul, Nat.reduceSub, Nat.reduceDiv, Int.reduceToNat, Nat.reduceLT, Int.reduceLT, Int.reduceLE, ↓reduceIte, reduceCtorEq, forall_apply_eq_imp_iff₂, ints, rows, rat, rats, toNat_cast]
          have him : i = m.length := by omega
          have hcol : colI m k i = colOf m k := by rw [him, colI, List.take_length]; rfl
          have hfl : (flipM m c k).length = k := by simp [flipM]
          refine ⟨by omega, hn _ (k + 1) (Weak.of _ _ [some 41] (by simp) (by simp) ?_ ?_) (by omega) (by omega)⟩
          · simp -implicitDefEqProofs only [ints, rows, Nat.reduceBEq, Int.add_zero, envOK, maA, maT, upd_apply, Nat.reduceEqDiff, ↓reduceIte, and_true, true_or, or_true, List.map_cons, List.map_nil, Nat.zero_ne_one, and_self, true_and, Int.natCast_zero, Int.cast_ofNat_Int, Int.ofNat_zero, piOf, List.zip_cons_cons, List.zip_nil_right, List.lookup_cons, List.lookup_nil, beq_self_eq_true, rootsOK, mkRoots, mkEnv, next64 (by omega : k < c) (by omega)]
          · refine ⟨⟨_, rfl, ?_⟩, rfl, trivial⟩
            rw [flipM_succ, hcol]
            simp only [List.map_append, List.map_cons, List.map_nil]
            exact .refl _
    · simp -implicitDefEqProofs only [go_sem, List.reduceReplicate, Nat.reduceEqDiff, Nat.reduceAdd, Nat.reduceLeDiff, Nat.reduceMul, Nat.reduceSub, Nat.reduceDiv, Int.reduceToNat, Nat.reduceLT, Int.reduceLT, Int.reduceLE, ↓reduceIte, reduceCtorEq, forall_apply_eq_imp_iff₂, ints, rows, rat, rats, toNat_cast]
      have hkc : k = c := by omega
      subst hkc
      exact .inl rfl
end Go.Ab

/- Contracts: the flipped matrix, the program's. -/
set_option linter.unusedSimpArgs false
set_option linter.unusedVariables false
namespace Go.Ab
open Go.Proofs

/-- The first j numbers negated. -/
def npart (l : List Int) (j : Nat) : List Int := neg (l.take j) ++ l.drop j
theorem npart_length (l : List Int) (j : Nat) (h : j ≤ l.length) : (npart l j).length = l.length := by simp [npart, neg]; omega
theorem npart_get {l : List Int} {j : Nat} (h : j < l.length) : (npart l j)[j]? = some l[j] := by
  rw [npart, List.getElem?_append_right (by simp [neg]; omega)]
  simp [neg, h, Nat.min_eq_left (Nat.le_of_lt h)]
theorem npart_set {l : List Int} {j : Nat} (h : j < l.length) : ((npart l j).map T.i).set j (T.i (-l[j])) = (npart l (j + 1)).map T.i := by
  rw [← List.map_set, npart, npart, List.take_succ_eq_append_getElem h, List.drop_eq_getElem_cons h, List.set_append_right _ _ (by simp [neg]; omega)]
  have : j - (neg (l.take j)).length = 0 := by simp [neg]; omega
  rw [this]
  simp only [neg, List.map_append, List.map_cons, List.map_nil, List.set_cons_zero, List.append_assoc, List.cons_append, List.nil_append]
theorem npart_zero (l : List Int) : npart l 0 = l := by simp [npart, neg]
theorem npart_all (l : List Int) : npart l l.length = neg l := by simp [npart]
/-- The first i columns negated. -/
def fpart (m : List (List Int)) (c i : Nat) : List (List Int) := (List.range c).map fun k => if k < i then neg (colOf m k) else colOf m k
theorem fpart_length (m : List (List Int)) (c i : Nat) : (fpart m c i).length = c := by simp [fpart]
theorem fpart_zero (m : List (List Int)) (c : Nat) : fpart m c 0 = tr m c := by simp [fpart, tr]
theorem fpart_all (m : List (List Int)) (c : Nat) : fpart m c c = flipM m c c := by
  refine List.map_congr_left fun k hk => ?_
  rw [if_pos (by simpa using hk)]
theorem fpart_get {m : List (List Int)} {c i : Nat} (h : i < c) : (fpart m c i)[i]? = some (colOf m i) := by simp [fpart, h]
theorem fpart_set {m : List (List Int)} {c i : Nat} (h : i < c) : (fpart m c i).set i (neg (colOf m i)) = fpart m c (i + 1) := by
  refine List.ext_getElem? fun j => ?_
  rw [List.getElem?_set]
  by_cases hj : i = j
  · subst hj
    rw [if_pos rfl, if_pos (by rw [fpart_length]; exact h)]; simp [fpart, h]
  · rw [if_neg hj]
    simp only [fpart, List.getElem?_map]
    by_cases hjc : j < c
    · rw [List.getElem?_range hjc]
      simp only [Option.map_some]
      by_cases hji : j < i
      · rw [if_pos hji, if_pos (by omega)]
      · rw [if_neg hji, if_neg (by omega)]
    · rw [List.getElem?_eq_none (by simpa using hjc)]; rfl

theorem impl_FlipMatrix_ok (m : List (List Int)) (hml : m.length ≤ 1000000000000) (hmr : ∀ r ∈ m, r.length ≤ 1000000000000) : Fun Try.prog 37 [] [.t (rows m)] fun o r => o = [] ∧ r = fmT m := by
  refine Fun.le (Q := fun o r => o = [] ∧ (r = fmT m ∨ (isMat m = false ∧ r = .tup [.v (.slice none 0 0), .i 1]))) ?_ ?_
  case refine_2 =>
    rintro o r ⟨rfl, rfl | ⟨h, rfl⟩⟩
    · exact ⟨_, .refl _, rfl, rfl⟩
    · refine ⟨_, ?_, rfl, rfl⟩
      rw [fmT, fmRes, h]
      exact .tup2 (.nilArr 1) (.refl _)
  refine fun_impl_FlipMatrix (by simp) ?_
  simp -implicitDefEqProofs only [go_sem, List.reduceReplicate, Nat.reduceEqDiff, Nat.reduceAdd, Nat.reduceLeDiff, Nat.reduceMul, Nat.reduceSub, Nat.reduceDiv, Int.reduceToNat, Nat.reduceLT, Int.reduceLT, Int.reduceLE, ↓reduceIte, reduceCtorEq, forall_apply_eq_imp_iff₂, ints, rows, rat, rats, toNat_cast, c_impl_FlipMatrix]
  refine CallW.pure (impl_IsMatrix_ok m (by omega) hmr) [] rfl Try.call18 ?_ (by first | trivial | simp [T.noSh, T.noShL, rat]) rfl ?_
  · simp -implicitDefEqProofs only [Nat.le_refl, Nat.reduceLeDiff, Nat.sub_self, Nat.reduceSub, List.getElem?_cons_zero, List.getElem?_cons_succ, vt_self, vaL, vtL, va, vt, vb, maT, List.cons_append, List.nil_append, List.append_nil, true_or, or_true, go_sem, List.reduceReplicate, Nat.reduceEqDiff, Nat.reduceAdd, Nat.reduceLeDiff, Nat.reduceMul, Nat.reduceSub, Nat.reduceDiv, Int.reduceToNat, Nat.reduceLT, Int.reduceLT, Int.reduceLE, ↓reduceIte, reduceCtorEq, ints, rows, rat, rats, ratsO, toShL_ratC, List.mem_cons, List.mem_nil_iff, List.not_mem_nil, or_false, false_or, exists_eq_left, exists_eq_left', exists_eq_right', Root.live.injEq, eq_self_iff_true, exists_eq, and_true, T.toSh, toShL_ints, toShL_intsO, intsO, rowsO]
  simp -implicitDefEqProofs only [go_sem, List.reduceReplicate, Nat.reduceEqDiff, Nat.reduceAdd, Nat.reduceLeDiff, Nat.reduceMul, Nat.reduceSub, Nat.reduceDiv, Int.reduceToNat, Nat.reduceLT, Int.reduceLT, Int.reduceLE, ↓reduceIte, reduceCtorEq, forall_apply_eq_imp_iff₂, ints, rows, rat, rats, toNat_cast]
  refine ⟨fun h => ?_, fun h => ?_⟩
  · have h' : isMat m = false := by simpa using h
    exact .inr h'
  have hmat : isMat m = true := by simpa using h
  obtain ⟨h1, h2, h3, h4, h5, h6⟩ := isMat_spec hmat
  have hres : fmT m = .tup [rowsO (flipM m (m.headD []).length (m.headD []).length), .i 0] := by rw [fmT, fmRes, if_pos hmat]
  rw [hres]
  generalize hc : (m.headD []).length = c at h3 h4 h5 ⊢
  have htr : (tr m c).length = c := by simp [tr]
  refine CallW.res (impl_turned_ok m c (by rintro rfl; simp at h1) h5 (by omega) (by omega)) [] rfl Try.call72 ?_ (.inl rfl) ?_
  · simp -implicitDefEqProofs only [Nat.le_refl, Nat.reduceLeDiff, Nat.sub_self, Nat.reduceSub, List.getElem?_cons_zero, List.getElem?_cons_succ, vt_self, vaL, vtL, va, vt, vb, maT, List.cons_append, List.nil_append, List.append_nil, true_or, or_true, go_sem, List.reduceReplicate, Nat.reduceEqDiff, Nat.reduceAdd, Nat.reduceLeDiff, Nat.reduceMul, Nat.reduceSub, Nat.reduceDiv, Int.reduceToNat, Nat.reduceLT, Int.reduceLT, Int.reduceLE, ↓reduceIte, reduceCtorEq, ints, rows, rat, rats, ratsO, toShL_ratC, List.mem_cons, List.mem_nil_iff, List.not_mem_nil, or_false, false_or, exists_eq_left, exists_eq_left', exists_eq_right', Root.live.injEq, eq_self_iff_true, exists_eq, and_true, T.toSh, toShL_ints, toShL_intsO, intsO, rowsO]
  simp -implicitDefEqProofs only [List.append_nil, List.cons_append, Nat.reduceLeDiff, afterCall, absT_rowsO, absT_intsO, absT, absL, updL, updS, freeAll, rid, T.noSh, T.noShL, Nat.zero_le, go_sem, List.reduceReplicate, Nat.reduceEqDiff, Nat.reduceAdd, Nat.reduceLeDiff, Nat.reduceMul, Nat.reduceSub, Nat.reduceDiv, Int.reduceToNat, Nat.reduceLT, Int.reduceLT, Int.reduceLE, ↓reduceIte, reduceCtorEq, rat, forall_apply_eq_imp_iff₂, toNat_cast, rowsO, htr]
  refine SemC.loopR (σ := Nat) (fun i => St.of [(4, .own 12), (13, .own 12), (14, .t (.i c)), (15, .t (.i i))] [(12, .arr 1 ((fpart m c i).map intsO))]) (fun i => i ≤ c) (fun i => c - i) 0 (Weak.of _ _ [some 12] (by simp) (by simp) ?_ ?_) (by omega) fun i hI R hn hr he => ?_
  · simp -implicitDefEqProofs only [ints, rows, Nat.reduceBEq, Int.add_zero, envOK, maA, maT, upd_apply, Nat.reduceEqDiff, ↓reduceIte, and_true, true_or, or_true, List.map_cons, List.map_nil, Nat.zero_ne_one, and_self, true_and, Int.natCast_zero, Int.cast_ofNat_Int, Int.ofNat_zero, piOf, List.zip_cons_cons, List.zip_nil_right, List.lookup_cons, List.lookup_nil, beq_self_eq_true, rootsOK, mkRoots, mkEnv]
  · exact ⟨⟨_, rfl, by rw [fpart_zero]; exact .refl _⟩, rfl, trivial⟩
  · have hfl := fpart_length m c i
    simp -implicitDefEqProofs only [go_sem, List.reduceReplicate, Nat.reduceEqDiff, Nat.reduceAdd, Nat.reduceLeDiff, Nat.reduceMul, Nat.reduceSub, Nat.reduceDiv, Int.reduceToNat, Nat.reduceLT, Int.reduceLT, Int.reduceLE, ↓reduceIte, reduceCtorEq, forall_apply_eq_imp_iff₂, ints, rows, rat, rats, toNat_cast, hfl, intsO]
    refine ⟨fun h => ⟨by omega, by omega, by omega, fun r hrow => ?_⟩, fun h => he _ _ ?_⟩
    · have hic : i < c := by omega
      rw [fpart_get hic] at hrow; cases hrow
      have hcl : (colOf m i).length = m.length := by simp [colOf]
      refine SemC.loopR (σ := Nat) (fun j => St.ofL [(4, .own 12), (6, .own 18), (13, .own 12), (14, .t (.i c)), (15, .t (.i i)), (17, .ptr 12 i), (18, .own 18), (19, .own 18), (20, .t (.i m.length)), (21, .t (.i j))] [(12, .arr 1 (((fpart m c i).map intsO).set i .any)), (18, .arr 1 ((npart (colOf m i) j).map T.i))] [(12, [(i, 18)])]) (fun j => j ≤ m.length) (fun j => m.length - j) 0 (Weak.ofL _ _ _ [some 12, some 18] (by simp) (by simp) ?_ ?_ ?_) (by omega) fun j hj R2 hn2 hr2 he2 => ?_
      · simp -implicitDefEqProofs only [ints, rows, Nat.reduceBEq, Int.add_zero, envOK, maA, maT, upd_apply, Nat.reduceEqDiff, ↓reduceIte, and_true, true_or, or_true, List.map_cons, List.map_nil, Nat.zero_ne_one, and_self, true_and, Int.natCast_zero, Int.cast_ofNat_Int, Int.ofNat_zero, piOf, List.zip_cons_cons, List.zip_nil_right, List.lookup_cons, List.lookup_nil, beq_self_eq_true, rootsOK, mkRoots, mkEnv, hcl]
      · exact ⟨⟨_, _, rfl, .refl _⟩, rfl, ⟨_, _, rfl, by rw [npart_zero]; exact .refl _⟩, rfl, trivial⟩
      · refine ⟨⟨12, _, _, rfl, rfl, fun p hp => ?_⟩, trivial⟩
        simp only [List.mem_cons, List.mem_nil_iff, or_false] at hp
        subst hp
        exact ⟨18, rfl, by simp⟩
      · have hnl := npart_length (colOf m i) j (by omega)
        simp -implicitDefEqProofs only [go_sem, List.reduceReplicate, Nat.reduceEqDiff, Nat.reduceAdd, Nat.reduceLeDiff, Nat.reduceMul, Nat.reduceSub, Nat.reduceDiv, Int.reduceToNat, Nat.reduceLT, Int.reduceLT, Int.reduceLE, ↓reduceIte, reduceCtorEq, forall_apply_eq_imp_iff₂, ints, rows, rat, rats, toNat_cast, St.ofL, linkR_upd, linkR_none, List.lookup_cons, Nat.reduceBEq, Option.getD_some, Option.getD_none, beq_self_eq_true, hnl, hcl]
        refine ⟨fun h => ?_, fun h => he2 _ _ ?_⟩
        · have hjc : j < (colOf m i).length := by omega
          refine ⟨by omega, by omega, by omega, fun x hx => ?_⟩
          rw [npart_get hjc] at hx
          have hxe : (colOf m i)[j] = x := by simpa using hx
          have hxb : -20 ≤ x ∧ x ≤ 20 := by
            have hmem : x ∈ colOf m i := hxe ▸ List.getElem_mem hjc
            obtain ⟨r, hr', rfl⟩ := List.mem_map.1 hmem
            have hrl := h5 r hr'
            have hir : i < r.length := by omega
            refine h6 r hr' _ ?_
            rw [List.getD_eq_getElem?_getD, List.getElem?_eq_getElem hir]
            exact List.getElem_mem hir
          have hw : IntKind.i64.wrap (0 - x) = -x := by rw [wrap64 (by omega) (by omega)]; omega
          refine ⟨by omega, by omega, by omega, hn2 _ (j + 1) (Weak.ofL _ _ _ [some 12, some 18] (by simp) (by simp) ?_ ?_ ?_) (by omega) (by omega)⟩
          · simp -implicitDefEqProofs only [ints, rows, Nat.reduceBEq, Int.add_zero, envOK, maA, maT, upd_apply, Nat.reduceEqDiff, ↓reduceIte, and_true, true_or, or_true, List.map_cons, List.map_nil, Nat.zero_ne_one, and_self, true_and, Int.natCast_zero, Int.cast_ofNat_Int, Int.ofNat_zero, piOf, List.zip_cons_cons, List.zip_nil_right, List.lookup_cons, List.lookup_nil, beq_self_eq_true, rootsOK, mkRoots, mkEnv, next64 (by omega : j < m.length) (by omega)]
          · refine ⟨⟨_, _, rfl, .refl _⟩, rfl, ⟨_, _, rfl, ?_⟩, rfl, trivial⟩
            rw [← npart_set hjc, hxe, hw]
            exact .refl _
          · refine ⟨⟨12, _, _, rfl, rfl, fun p hp => ?_⟩, trivial⟩
            simp only [List.mem_cons, List.mem_nil_iff, or_false] at hp
            subst hp
            exact ⟨18, rfl, by simp⟩
        · have hjm : j = m.length := by omega
          have hall : npart (colOf m i) j = neg (colOf m i) := by rw [hjm, ← hcl, npart_all]
          simp -implicitDefEqProofs only [go_sem, List.reduceReplicate, Nat.reduceEqDiff, Nat.reduceAdd, Nat.reduceLeDiff, Nat.reduceMul, Nat.reduceSub, Nat.reduceDiv, Int.reduceToNat, Nat.reduceLT, Int.reduceLT, Int.reduceLE, ↓reduceIte, reduceCtorEq, forall_apply_eq_imp_iff₂, ints, rows, rat, rats, toNat_cast]
          refine hn _ (i + 1) (Weak.trans (Weak.join2 (r := 12) (off := i) (d := 18) (t := .arr 1 ((npart (colOf m i) j).map T.i)) (l := ((fpart m c i).map intsO).set i .any) Try.prog tyOne (sl 17) (sl 18) ?_ ?_ ?_ ?_ (by decide) ?_) (Weak.of _ _ [some 12] (by simp) (by simp) ?_ ?_)) (by omega) (by omega)
          · rfl
          · rfl
          · rfl
          · rfl
          · rw [List.length_set, List.length_map, hfl]; omega
          · simp -implicitDefEqProofs only [ints, rows, Nat.reduceBEq, Int.add_zero, envOK, maA, maT, upd_apply, Nat.reduceEqDiff, ↓reduceIte, and_true, true_or, or_true, List.map_cons, List.map_nil, Nat.zero_ne_one, and_self, true_and, Int.natCast_zero, Int.cast_ofNat_Int, Int.ofNat_zero, piOf, List.zip_cons_cons, List.zip_nil_right, List.lookup_cons, List.lookup_nil, beq_self_eq_true, rootsOK, mkRoots, mkEnv, next64 (by omega : i < c) (by omega)]
          · refine ⟨⟨_, rfl, ?_⟩, rfl, trivial⟩
            rw [spl_one, List.set_set, hall, ← fpart_set hic, List.map_set]
            exact .refl _
    · simp -implicitDefEqProofs only [go_sem, List.reduceReplicate, Nat.reduceEqDiff, Nat.reduceAdd, Nat.reduceLeDiff, Nat.reduceMul, Nat.reduceSub, Nat.reduceDiv, Int.reduceToNat, Nat.reduceLT, Int.reduceLT, Int.reduceLE, ↓reduceIte, reduceCtorEq, forall_apply_eq_imp_iff₂, ints, rows, rat, rats, toNat_cast]
      have hkc : i = c := by omega
      rw [hkc, fpart_all]
      exact .inl rfl
end Go.Ab

/- The law FnExactFlipMatrix, as a contract. -/
set_option linter.unusedSimpArgs false
set_option linter.unusedVariables false
namespace Go.Ab
open Go.Proofs

theorem tot_le {n : Nat} : ∀ {m : List (List Int)}, (∀ r ∈ m, r.length ≤ n) → tot m ≤ m.length * n
  | [], _ => by simp [tot]
  | r :: m, h => by
    have h1 := h r (by simp)
    have h2 := tot_le (m := m) fun r hr => h r (by simp [hr])
    simp only [tot, List.length_cons, Nat.add_mul]; omega
theorem fmT_noSh (m : List (List Int)) : (fmT m).noSh := ⟨rowsO_noSh _, trivial, trivial⟩
theorem fmRes_small (m : List (List Int)) : (fmRes m).1.length ≤ 4 ∧ ∀ r ∈ (fmRes m).1, r.length ≤ 4 := by
  rw [fmRes]; split
  · rename_i h
    obtain ⟨h1, h2, h3, h4, h5, h6⟩ := isMat_spec h
    refine ⟨by simp only [flipM, List.length_map, List.length_range]; exact h4, fun r hr => ?_⟩
    obtain ⟨k, _, rfl⟩ := List.mem_map.1 hr
    simp [neg, colOf]; exact h2
  · simp
theorem marksR_rows : ∀ {m : List (List Int)} {k : Int} {n : Nat}, (∀ r ∈ m, r.length ≤ n) → ∀ r ∈ marksR m k, r.length ≤ n
  | [], k, n, _, r, hr => by simp [marksR] at hr
  | x :: m, k, n, h, r, hr => by
    simp only [marksR, List.mem_cons] at hr
    rcases hr with rfl | hr
    · rw [marks_length]; exact h x (by simp)
    · exact marksR_rows (fun r hr => h r (by simp [hr])) r hr
theorem tot_marksR : ∀ (m : List (List Int)) (k : Int), tot (marksR m k) = tot m
  | [], k => rfl
  | x :: m, k => by simp [marksR, tot, marks_length, tot_marksR m]

theorem laws_FnExactFlipMatrix_ok (m : List (List Int)) (hm : (m.length : Int) ≤ 9223372036854775807) (hr : ∀ r ∈ m, (r.length : Int) ≤ 9223372036854775807) : Pure Try.prog 8 [rows m] (.b true) := by
  refine fun_laws_FnExactFlipMatrix (by simp) ?_
  simp -implicitDefEqProofs only [go_sem, List.reduceReplicate, Nat.reduceEqDiff, Nat.reduceAdd, Nat.reduceLeDiff, Nat.reduceMul, Nat.reduceSub, Nat.reduceDiv, Int.reduceToNat, Nat.reduceLT, Int.reduceLT, Int.reduceLE, ↓reduceIte, reduceCtorEq, forall_apply_eq_imp_iff₂, ints, rows, rat, rats, toNat_cast, c_laws_FnExactFlipMatrix]
  refine CallW.pure (laws_szInt64SS_ok m 1048576 hm hr (by omega) (by omega)) [] rfl Try.call15 ?_ (by first | trivial | simp [T.noSh, T.noShL, rat]) rfl ?_
  · simp -implicitDefEqProofs only [Nat.le_refl, Nat.reduceLeDiff, Nat.sub_self, Nat.reduceSub, List.getElem?_cons_zero, List.getElem?_cons_succ, vt_self, vaL, vtL, va, vt, vb, maT, List.cons_append, List.nil_append, List.append_nil, true_or, or_true, go_sem, List.reduceReplicate, Nat.reduceEqDiff, Nat.reduceAdd, Nat.reduceLeDiff, Nat.reduceMul, Nat.reduceSub, Nat.reduceDiv, Int.reduceToNat, Nat.reduceLT, Int.reduceLT, Int.reduceLE, ↓reduceIte, reduceCtorEq, ints, rows, rat, rats, ratsO, toShL_ratC, List.mem_cons, List.mem_nil_iff, List.not_mem_nil, or_false, false_or, exists_eq_left, exists_eq_left', exists_eq_right', Root.live.injEq, eq_self_iff_true, exists_eq, and_true, T.toSh, toShL_ints, toShL_intsO, intsO, rowsO]
  simp -implicitDefEqProofs only [go_sem, List.reduceReplicate, Nat.reduceEqDiff, Nat.reduceAdd, Nat.reduceLeDiff, Nat.reduceMul, Nat.reduceSub, Nat.reduceDiv, Int.reduceToNat, Nat.reduceLT, Int.reduceLT, Int.reduceLE, ↓reduceIte, reduceCtorEq, forall_apply_eq_imp_iff₂, ints, rows, rat, rats, toNat_cast]
  refine ⟨fun _ => trivial, fun hb => ?_⟩
  obtain ⟨hm1, hr1⟩ := budgetMat_ok (m := m) (left := 1048576) (by omega) (by omega)
  have htot := budgetMat_tot (m := m) (left := 1048576) (by omega) (by omega)
  have hm2 : (m.length : Int) ≤ 1000000000000 := by omega
  have hr2 : ∀ r ∈ m, (r.length : Int) ≤ 1000000000000 := fun r h => by have := hr1 r h; omega
  have hr3 : ∀ r ∈ m, r.length ≤ 1000000000000 := fun r h => by have := hr1 r h; omega
  obtain ⟨hf1, hf2⟩ := fmRes_small m
  have hf3 := tot_le hf2
  have hf4 : ∀ r ∈ (fmRes m).1, r.length ≤ 1000000000000 := fun r h => by have := hf2 r h; omega
  have hheld := heldR_marks (fmRes m).1 1 (by omega)
  refine CallW.res (laws_toInt64SS_ok m hm2 hr2) [] rfl Try.call17 ?_ (.inl rfl) ?_
  · simp -implicitDefEqProofs only [Nat.le_refl, Nat.reduceLeDiff, Nat.sub_self, Nat.reduceSub, List.getElem?_cons_zero, List.getElem?_cons_succ, vt_self, vaL, vtL, va, vt, vb, maT, List.cons_append, List.nil_append, List.append_nil, true_or, or_true, go_sem, List.reduceReplicate, Nat.reduceEqDiff, Nat.reduceAdd, Nat.reduceLeDiff, Nat.reduceMul, Nat.reduceSub, Nat.reduceDiv, Int.reduceToNat, Nat.reduceLT, Int.reduceLT, Int.reduceLE, ↓reduceIte, reduceCtorEq, ints, rows, rat, rats, ratsO, toShL_ratC, List.mem_cons, List.mem_nil_iff, List.not_mem_nil, or_false, false_or, exists_eq_left, exists_eq_left', exists_eq_right', Root.live.injEq, eq_self_iff_true, exists_eq, and_true, T.toSh, toShL_ints, toShL_intsO, intsO, rowsO]
  simp -implicitDefEqProofs only [List.append_nil, List.cons_append, Nat.reduceLeDiff, afterCall, absT_rowsO, absT_intsO, absT, absL, updL, updS, freeAll, rid, T.noSh, T.noShL, Nat.zero_le, go_sem, List.reduceReplicate, Nat.reduceEqDiff, Nat.reduceAdd, Nat.reduceLeDiff, Nat.reduceMul, Nat.reduceSub, Nat.reduceDiv, Int.reduceToNat, Nat.reduceLT, Int.reduceLT, Int.reduceLE, ↓reduceIte, reduceCtorEq, rat, forall_apply_eq_imp_iff₂, toNat_cast]
  refine CallW.res (spec_FlipMatrix_ok m) [21] rfl Try.call36 ?_ (.inr (fmT_noSh m)) ?_
  · simp -implicitDefEqProofs only [Nat.le_refl, Nat.reduceLeDiff, Nat.sub_self, Nat.reduceSub, List.getElem?_cons_zero, List.getElem?_cons_succ, vt_self, vaL, vtL, va, vt, vb, maT, List.cons_append, List.nil_append, List.append_nil, true_or, or_true, go_sem, List.reduceReplicate, Nat.reduceEqDiff, Nat.reduceAdd, Nat.reduceLeDiff, Nat.reduceMul, Nat.reduceSub, Nat.reduceDiv, Int.reduceToNat, Nat.reduceLT, Int.reduceLT, Int.reduceLE, ↓reduceIte, reduceCtorEq, ints, rows, rat, rats, ratsO, toShL_ratC, List.mem_cons, List.mem_nil_iff, List.not_mem_nil, or_false, false_or, exists_eq_left, exists_eq_left', exists_eq_right', Root.live.injEq, eq_self_iff_true, exists_eq, and_true, T.toSh, toShL_ints, toShL_intsO, intsO, rowsO]
  simp -implicitDefEqProofs only [List.append_nil, List.cons_append, Nat.reduceLeDiff, afterCall, absT_rowsO, absT_intsO, absT, absL, updL, updS, freeAll, rid, T.noSh, T.noShL, Nat.zero_le, go_sem, List.reduceReplicate, Nat.reduceEqDiff, Nat.reduceAdd, Nat.reduceLeDiff, Nat.reduceMul, Nat.reduceSub, Nat.reduceDiv, Int.reduceToNat, Nat.reduceLT, Int.reduceLT, Int.reduceLE, ↓reduceIte, reduceCtorEq, rat, forall_apply_eq_imp_iff₂, toNat_cast, fmT]
  refine CallW.res (laws_toInt64SS_ok m hm2 hr2) [] rfl Try.call17 ?_ (.inl rfl) ?_
  · simp -implicitDefEqProofs only [Nat.le_refl, Nat.reduceLeDiff, Nat.sub_self, Nat.reduceSub, List.getElem?_cons_zero, List.getElem?_cons_succ, vt_self, vaL, vtL, va, vt, vb, maT, List.cons_append, List.nil_append, List.append_nil, true_or, or_true, go_sem, List.reduceReplicate, Nat.reduceEqDiff, Nat.reduceAdd, Nat.reduceLeDiff, Nat.reduceMul, Nat.reduceSub, Nat.reduceDiv, Int.reduceToNat, Nat.reduceLT, Int.reduceLT, Int.reduceLE, ↓reduceIte, reduceCtorEq, ints, rows, rat, rats, ratsO, toShL_ratC, List.mem_cons, List.mem_nil_iff, List.not_mem_nil, or_false, false_or, exists_eq_left, exists_eq_left', exists_eq_right', Root.live.injEq, eq_self_iff_true, exists_eq, and_true, T.toSh, toShL_ints, toShL_intsO, intsO, rowsO]
  simp -implicitDefEqProofs only [List.append_nil, List.cons_append, Nat.reduceLeDiff, afterCall, absT_rowsO, absT_intsO, absT, absL, updL, updS, freeAll, rid, T.noSh, T.noShL, Nat.zero_le, go_sem, List.reduceReplicate, Nat.reduceEqDiff, Nat.reduceAdd, Nat.reduceLeDiff, Nat.reduceMul, Nat.reduceSub, Nat.reduceDiv, Int.reduceToNat, Nat.reduceLT, Int.reduceLT, Int.reduceLE, ↓reduceIte, reduceCtorEq, rat, forall_apply_eq_imp_iff₂, toNat_cast]
  refine CallW.res (impl_FlipMatrix_ok m (by omega) hr3) [26] rfl Try.call37 ?_ (.inr (fmT_noSh m)) ?_
  · simp -implicitDefEqProofs only [Nat.le_refl, Nat.reduceLeDiff, Nat.sub_self, Nat.reduceSub, List.getElem?_cons_zero, List.getElem?_cons_succ, vt_self, vaL, vtL, va, vt, vb, maT, List.cons_append, List.nil_append, List.append_nil, true_or, or_true, go_sem, List.reduceReplicate, Nat.reduceEqDiff, Nat.reduceAdd, Nat.reduceLeDiff, Nat.reduceMul, Nat.reduceSub, Nat.reduceDiv, Int.reduceToNat, Nat.reduceLT, Int.reduceLT, Int.reduceLE, ↓reduceIte, reduceCtorEq, ints, rows, rat, rats, ratsO, toShL_ratC, List.mem_cons, List.mem_nil_iff, List.not_mem_nil, or_false, false_or, exists_eq_left, exists_eq_left', exists_eq_right', Root.live.injEq, eq_self_iff_true, exists_eq, and_true, T.toSh, toShL_ints, toShL_intsO, intsO, rowsO]
  simp -implicitDefEqProofs only [List.append_nil, List.cons_append, Nat.reduceLeDiff, afterCall, absT_rowsO, absT_intsO, absT, absL, updL, updS, freeAll, rid, T.noSh, T.noShL, Nat.zero_le, go_sem, List.reduceReplicate, Nat.reduceEqDiff, Nat.reduceAdd, Nat.reduceLeDiff, Nat.reduceMul, Nat.reduceSub, Nat.reduceDiv, Int.reduceToNat, Nat.reduceLT, Int.reduceLT, Int.reduceLE, ↓reduceIte, reduceCtorEq, rat, forall_apply_eq_imp_iff₂, toNat_cast, fmT]
  refine CallW.pure (laws_eqInt64SS_ok (fmRes m).1 (fmRes m).1 (by omega) (by omega) hf4 hf4) [29, 22] rfl Try.call19 ?_ (by first | trivial | simp [T.noSh, T.noShL, rat]) rfl ?_
  · simp -implicitDefEqProofs only [Nat.le_refl, Nat.reduceLeDiff, Nat.sub_self, Nat.reduceSub, List.getElem?_cons_zero, List.getElem?_cons_succ, vt_self, vaL, vtL, va, vt, vb, maT, List.cons_append, List.nil_append, List.append_nil, true_or, or_true, go_sem, List.reduceReplicate, Nat.reduceEqDiff, Nat.reduceAdd, Nat.reduceLeDiff, Nat.reduceMul, Nat.reduceSub, Nat.reduceDiv, Int.reduceToNat, Nat.reduceLT, Int.reduceLT, Int.reduceLE, ↓reduceIte, reduceCtorEq, ints, rows, rat, rats, ratsO, toShL_ratC, List.mem_cons, List.mem_nil_iff, List.not_mem_nil, or_false, false_or, exists_eq_left, exists_eq_left', exists_eq_right', Root.live.injEq, eq_self_iff_true, exists_eq, and_true, T.toSh, toShL_ints, toShL_intsO, intsO, rowsO]
  simp -implicitDefEqProofs only [go_sem, List.reduceReplicate, Nat.reduceEqDiff, Nat.reduceAdd, Nat.reduceLeDiff, Nat.reduceMul, Nat.reduceSub, Nat.reduceDiv, Int.reduceToNat, Nat.reduceLT, Int.reduceLT, Int.reduceLE, ↓reduceIte, reduceCtorEq, forall_apply_eq_imp_iff₂, ints, rows, rat, rats, toNat_cast]
  refine CallW.res (laws_toInt64SS_ok m hm2 hr2) [] rfl Try.call17 ?_ (.inl rfl) ?_
  · simp -implicitDefEqProofs only [Nat.le_refl, Nat.reduceLeDiff, Nat.sub_self, Nat.reduceSub, List.getElem?_cons_zero, List.getElem?_cons_succ, vt_self, vaL, vtL, va, vt, vb, maT, List.cons_append, List.nil_append, List.append_nil, true_or, or_true, go_sem, List.reduceReplicate, Nat.reduceEqDiff, Nat.reduceAdd, Nat.reduceLeDiff, Nat.reduceMul, Nat.reduceSub, Nat.reduceDiv, Int.reduceToNat, Nat.reduceLT, Int.reduceLT, Int.reduceLE, ↓reduceIte, reduceCtorEq, ints, rows, rat, rats, ratsO, toShL_ratC, List.mem_cons, List.mem_nil_iff, List.not_mem_nil, or_false, false_or, exists_eq_left, exists_eq_left', exists_eq_right', Root.live.injEq, eq_self_iff_true, exists_eq, and_true, T.toSh, toShL_ints, toShL_intsO, intsO, rowsO]
  simp -implicitDefEqProofs only [List.append_nil, List.cons_append, Nat.reduceLeDiff, afterCall, absT_rowsO, absT_intsO, absT, absL, updL, updS, freeAll, rid, T.noSh, T.noShL, Nat.zero_le, go_sem, List.reduceReplicate, Nat.reduceEqDiff, Nat.reduceAdd, Nat.reduceLeDiff, Nat.reduceMul, Nat.reduceSub, Nat.reduceDiv, Int.reduceToNat, Nat.reduceLT, Int.reduceLT, Int.reduceLE, ↓reduceIte, reduceCtorEq, rat, forall_apply_eq_imp_iff₂, toNat_cast]
  refine CallW.pure (laws_eqInt64SS_ok m m (by omega) (by omega) hr3 hr3) [26, 43] rfl Try.call19 ?_ (by first | trivial | simp [T.noSh, T.noShL, rat]) rfl ?_
  · simp -implicitDefEqProofs only [Nat.le_refl, Nat.reduceLeDiff, Nat.sub_self, Nat.reduceSub, List.getElem?_cons_zero, List.getElem?_cons_succ, vt_self, vaL, vtL, va, vt, vb, maT, List.cons_append, List.nil_append, List.append_nil, true_or, or_true, go_sem, List.reduceReplicate, Nat.reduceEqDiff, Nat.reduceAdd, Nat.reduceLeDiff, Nat.reduceMul, Nat.reduceSub, Nat.reduceDiv, Int.reduceToNat, Nat.reduceLT, Int.reduceLT, Int.reduceLE, ↓reduceIte, reduceCtorEq, ints, rows, rat, rats, ratsO, toShL_ratC, List.mem_cons, List.mem_nil_iff, List.not_mem_nil, or_false, false_or, exists_eq_left, exists_eq_left', exists_eq_right', Root.live.injEq, eq_self_iff_true, exists_eq, and_true, T.toSh, toShL_ints, toShL_intsO, intsO, rowsO]
  simp -implicitDefEqProofs only [go_sem, List.reduceReplicate, Nat.reduceEqDiff, Nat.reduceAdd, Nat.reduceLeDiff, Nat.reduceMul, Nat.reduceSub, Nat.reduceDiv, Int.reduceToNat, Nat.reduceLT, Int.reduceLT, Int.reduceLE, ↓reduceIte, reduceCtorEq, forall_apply_eq_imp_iff₂, ints, rows, rat, rats, toNat_cast]
  refine CallW.ref (laws_markInt64SS_ok m 1 (by omega) (by omega) (by omega) (by omega)) [26] [] rfl Try.call33 (by simp) ?_ (by simp) ?_ (.inl rfl) ?_
  · simp -implicitDefEqProofs only [rootOf_arr, rootOf_box, rootOf_any, srcsOK, updL, updS, upd_apply, Nat.reduceEqDiff, ↓reduceIte, mkRoots, and_true, ints, rows, intsO, rowsO]
  · simp -implicitDefEqProofs only [Nat.le_refl, Nat.reduceLeDiff, Nat.sub_self, Nat.reduceSub, List.getElem?_cons_zero, List.getElem?_cons_succ, vt_self, vaL, vtL, va, vt, vb, maT, List.cons_append, List.nil_append, List.append_nil, true_or, or_true, go_sem, List.reduceReplicate, Nat.reduceEqDiff, Nat.reduceAdd, Nat.reduceLeDiff, Nat.reduceMul, Nat.reduceSub, Nat.reduceDiv, Int.reduceToNat, Nat.reduceLT, Int.reduceLT, Int.reduceLE, ↓reduceIte, reduceCtorEq, ints, rows, rat, rats, ratsO, toShL_ratC, List.mem_cons, List.mem_nil_iff, List.not_mem_nil, or_false, false_or, exists_eq_left, exists_eq_left', exists_eq_right', Root.live.injEq, eq_self_iff_true, exists_eq, and_true, T.toSh, toShL_ints, toShL_intsO, intsO, rowsO]
  simp -implicitDefEqProofs only [List.append_nil, List.cons_append, Nat.reduceLeDiff, afterCall, absT_rowsO, absT_intsO, absT, absL, updL, updS, freeAll, rid, T.noSh, T.noShL, Nat.zero_le, go_sem, List.reduceReplicate, Nat.reduceEqDiff, Nat.reduceAdd, Nat.reduceLeDiff, Nat.reduceMul, Nat.reduceSub, Nat.reduceDiv, Int.reduceToNat, Nat.reduceLT, Int.reduceLT, Int.reduceLE, ↓reduceIte, reduceCtorEq, rat, forall_apply_eq_imp_iff₂, toNat_cast]
  refine ⟨fun _ => ?_, fun h => absurd h (by omega)⟩
  refine CallW.pure (laws_eqInt64SS_ok (fmRes m).1 (fmRes m).1 (by omega) (by omega) hf4 hf4) [29, 22] rfl Try.call19 ?_ (by first | trivial | simp [T.noSh, T.noShL, rat]) rfl ?_
  · simp -implicitDefEqProofs only [Nat.le_refl, Nat.reduceLeDiff, Nat.sub_self, Nat.reduceSub, List.getElem?_cons_zero, List.getElem?_cons_succ, vt_self, vaL, vtL, va, vt, vb, maT, List.cons_append, List.nil_append, List.append_nil, true_or, or_true, go_sem, List.reduceReplicate, Nat.reduceEqDiff, Nat.reduceAdd, Nat.reduceLeDiff, Nat.reduceMul, Nat.reduceSub, Nat.reduceDiv, Int.reduceToNat, Nat.reduceLT, Int.reduceLT, Int.reduceLE, ↓reduceIte, reduceCtorEq, ints, rows, rat, rats, ratsO, toShL_ratC, List.mem_cons, List.mem_nil_iff, List.not_mem_nil, or_false, false_or, exists_eq_left, exists_eq_left', exists_eq_right', Root.live.injEq, eq_self_iff_true, exists_eq, and_true, T.toSh, toShL_ints, toShL_intsO, intsO, rowsO]
  simp -implicitDefEqProofs only [go_sem, List.reduceReplicate, Nat.reduceEqDiff, Nat.reduceAdd, Nat.reduceLeDiff, Nat.reduceMul, Nat.reduceSub, Nat.reduceDiv, Int.reduceToNat, Nat.reduceLT, Int.reduceLT, Int.reduceLE, ↓reduceIte, reduceCtorEq, forall_apply_eq_imp_iff₂, ints, rows, rat, rats, toNat_cast]
  refine CallW.ref (laws_markInt64SS_ok (fmRes m).1 1 (by omega) (by omega) (by omega) (by omega)) [29] [] rfl Try.call33 (by simp) ?_ (by simp) ?_ (.inl rfl) ?_
  · simp -implicitDefEqProofs only [rootOf_arr, rootOf_box, rootOf_any, srcsOK, updL, updS, upd_apply, Nat.reduceEqDiff, ↓reduceIte, mkRoots, and_true, ints, rows, intsO, rowsO]
  · simp -implicitDefEqProofs only [Nat.le_refl, Nat.reduceLeDiff, Nat.sub_self, Nat.reduceSub, List.getElem?_cons_zero, List.getElem?_cons_succ, vt_self, vaL, vtL, va, vt, vb, maT, List.cons_append, List.nil_append, List.append_nil, true_or, or_true, go_sem, List.reduceReplicate, Nat.reduceEqDiff, Nat.reduceAdd, Nat.reduceLeDiff, Nat.reduceMul, Nat.reduceSub, Nat.reduceDiv, Int.reduceToNat, Nat.reduceLT, Int.reduceLT, Int.reduceLE, ↓reduceIte, reduceCtorEq, ints, rows, rat, rats, ratsO, toShL_ratC, List.mem_cons, List.mem_nil_iff, List.not_mem_nil, or_false, false_or, exists_eq_left, exists_eq_left', exists_eq_right', Root.live.injEq, eq_self_iff_true, exists_eq, and_true, T.toSh, toShL_ints, toShL_intsO, intsO, rowsO]
  simp -implicitDefEqProofs only [List.append_nil, List.cons_append, Nat.reduceLeDiff, afterCall, absT_rowsO, absT_intsO, absT, absL, updL, updS, freeAll, rid, T.noSh, T.noShL, Nat.zero_le, go_sem, List.reduceReplicate, Nat.reduceEqDiff, Nat.reduceAdd, Nat.reduceLeDiff, Nat.reduceMul, Nat.reduceSub, Nat.reduceDiv, Int.reduceToNat, Nat.reduceLT, Int.reduceLT, Int.reduceLE, ↓reduceIte, reduceCtorEq, rat, forall_apply_eq_imp_iff₂, toNat_cast]
  refine CallW.pure (laws_heldInt64SS_ok (marksR (fmRes m).1 1) 1 (by rw [marksR_length]; omega) (fun r h => by have := marksR_rows hf2 r h; omega) (by rw [tot_marksR]; omega) (by omega) (by omega)) [29] rfl Try.call38 ?_ (by first | trivial | simp [T.noSh, T.noShL, rat]) rfl ?_
  · simp -implicitDefEqProofs only [Nat.le_refl, Nat.reduceLeDiff, Nat.sub_self, Nat.reduceSub, List.getElem?_cons_zero, List.getElem?_cons_succ, vt_self, vaL, vtL, va, vt, vb, maT, List.cons_append, List.nil_append, List.append_nil, true_or, or_true, go_sem, List.reduceReplicate, Nat.reduceEqDiff, Nat.reduceAdd, Nat.reduceLeDiff, Nat.reduceMul, Nat.reduceSub, Nat.reduceDiv, Int.reduceToNat, Nat.reduceLT, Int.reduceLT, Int.reduceLE, ↓reduceIte, reduceCtorEq, ints, rows, rat, rats, ratsO, toShL_ratC, List.mem_cons, List.mem_nil_iff, List.not_mem_nil, or_false, false_or, exists_eq_left, exists_eq_left', exists_eq_right', Root.live.injEq, eq_self_iff_true, exists_eq, and_true, T.toSh, toShL_ints, toShL_intsO, intsO, rowsO]
  simp -implicitDefEqProofs only [go_sem, List.reduceReplicate, Nat.reduceEqDiff, Nat.reduceAdd, Nat.reduceLeDiff, Nat.reduceMul, Nat.reduceSub, Nat.reduceDiv, Int.reduceToNat, Nat.reduceLT, Int.reduceLT, Int.reduceLE, ↓reduceIte, reduceCtorEq, forall_apply_eq_imp_iff₂, ints, rows, rat, rats, toNat_cast, hheld]
  refine ⟨fun h => absurd h (by omega), fun _ => ?_⟩
  refine CallW.res (laws_toInt64SS_ok m hm2 hr2) [] rfl Try.call17 ?_ (.inl rfl) ?_
  · simp -implicitDefEqProofs only [Nat.le_refl, Nat.reduceLeDiff, Nat.sub_self, Nat.reduceSub, List.getElem?_cons_zero, List.getElem?_cons_succ, vt_self, vaL, vtL, va, vt, vb, maT, List.cons_append, List.nil_append, List.append_nil, true_or, or_true, go_sem, List.reduceReplicate, Nat.reduceEqDiff, Nat.reduceAdd, Nat.reduceLeDiff, Nat.reduceMul, Nat.reduceSub, Nat.reduceDiv, Int.reduceToNat, Nat.reduceLT, Int.reduceLT, Int.reduceLE, ↓reduceIte, reduceCtorEq, ints, rows, rat, rats, ratsO, toShL_ratC, List.mem_cons, List.mem_nil_iff, List.not_mem_nil, or_false, false_or, exists_eq_left, exists_eq_left', exists_eq_right', Root.live.injEq, eq_self_iff_true, exists_eq, and_true, T.toSh, toShL_ints, toShL_intsO, intsO, rowsO]
  simp -implicitDefEqProofs only [List.append_nil, List.cons_append, Nat.reduceLeDiff, afterCall, absT_rowsO, absT_intsO, absT, absL, updL, updS, freeAll, rid, T.noSh, T.noShL, Nat.zero_le, go_sem, List.reduceReplicate, Nat.reduceEqDiff, Nat.reduceAdd, Nat.reduceLeDiff, Nat.reduceMul, Nat.reduceSub, Nat.reduceDiv, Int.reduceToNat, Nat.reduceLT, Int.reduceLT, Int.reduceLE, ↓reduceIte, reduceCtorEq, rat, forall_apply_eq_imp_iff₂, toNat_cast]
  refine CallW.res (impl_FlipMatrix_ok m (by omega) hr3) [75] rfl Try.call37 ?_ (.inr (fmT_noSh m)) ?_
  · simp -implicitDefEqProofs only [Nat.le_refl, Nat.reduceLeDiff, Nat.sub_self, Nat.reduceSub, List.getElem?_cons_zero, List.getElem?_cons_succ, vt_self, vaL, vtL, va, vt, vb, maT, List.cons_append, List.nil_append, List.append_nil, true_or, or_true, go_sem, List.reduceReplicate, Nat.reduceEqDiff, Nat.reduceAdd, Nat.reduceLeDiff, Nat.reduceMul, Nat.reduceSub, Nat.reduceDiv, Int.reduceToNat, Nat.reduceLT, Int.reduceLT, Int.reduceLE, ↓reduceIte, reduceCtorEq, ints, rows, rat, rats, ratsO, toShL_ratC, List.mem_cons, List.mem_nil_iff, List.not_mem_nil, or_false, false_or, exists_eq_left, exists_eq_left', exists_eq_right', Root.live.injEq, eq_self_iff_true, exists_eq, and_true, T.toSh, toShL_ints, toShL_intsO, intsO, rowsO]
  simp -implicitDefEqProofs only [List.append_nil, List.cons_append, Nat.reduceLeDiff, afterCall, absT_rowsO, absT_intsO, absT, absL, updL, updS, freeAll, rid, T.noSh, T.noShL, Nat.zero_le, go_sem, List.reduceReplicate, Nat.reduceEqDiff, Nat.reduceAdd, Nat.reduceLeDiff, Nat.reduceMul, Nat.reduceSub, Nat.reduceDiv, Int.reduceToNat, Nat.reduceLT, Int.reduceLT, Int.reduceLE, ↓reduceIte, reduceCtorEq, rat, forall_apply_eq_imp_iff₂, toNat_cast, fmT]
  refine CallW.pure (laws_eqInt64SS_ok (fmRes m).1 (fmRes m).1 (by omega) (by omega) hf4 hf4) [76, 22] rfl Try.call19 ?_ (by first | trivial | simp [T.noSh, T.noShL, rat]) rfl ?_
  · simp -implicitDefEqProofs only [Nat.le_refl, Nat.reduceLeDiff, Nat.sub_self, Nat.reduceSub, List.getElem?_cons_zero, List.getElem?_cons_succ, vt_self, vaL, vtL, va, vt, vb, maT, List.cons_append, List.nil_append, List.append_nil, true_or, or_true, go_sem, List.reduceReplicate, Nat.reduceEqDiff, Nat.reduceAdd, Nat.reduceLeDiff, Nat.reduceMul, Nat.reduceSub, Nat.reduceDiv, Int.reduceToNat, Nat.reduceLT, Int.reduceLT, Int.reduceLE, ↓reduceIte, reduceCtorEq, ints, rows, rat, rats, ratsO, toShL_ratC, List.mem_cons, List.mem_nil_iff, List.not_mem_nil, or_false, false_or, exists_eq_left, exists_eq_left', exists_eq_right', Root.live.injEq, eq_self_iff_true, exists_eq, and_true, T.toSh, toShL_ints, toShL_intsO, intsO, rowsO]
  simp -implicitDefEqProofs only [go_sem, List.reduceReplicate, Nat.reduceEqDiff, Nat.reduceAdd, Nat.reduceLeDiff, Nat.reduceMul, Nat.reduceSub, Nat.reduceDiv, Int.reduceToNat, Nat.reduceLT, Int.reduceLT, Int.reduceLE, ↓reduceIte, reduceCtorEq, forall_apply_eq_imp_iff₂, ints, rows, rat, rats, toNat_cast]
  refine CallW.pure (laws_heldInt64SS_ok (marksR (fmRes m).1 1) 1 (by rw [marksR_length]; omega) (fun r h => by have := marksR_rows hf2 r h; omega) (by rw [tot_marksR]; omega) (by omega) (by omega)) [29] rfl Try.call38 ?_ (by first | trivial | simp [T.noSh, T.noShL, rat]) rfl ?_
  · simp -implicitDefEqProofs only [Nat.le_refl, Nat.reduceLeDiff, Nat.sub_self, Nat.reduceSub, List.getElem?_cons_zero, List.getElem?_cons_succ, vt_self, vaL, vtL, va, vt, vb, maT, List.cons_append, List.nil_append, List.append_nil, true_or, or_true, go_sem, List.reduceReplicate, Nat.reduceEqDiff, Nat.reduceAdd, Nat.reduceLeDiff, Nat.reduceMul, Nat.reduceSub, Nat.reduceDiv, Int.reduceToNat, Nat.reduceLT, Int.reduceLT, Int.reduceLE, ↓reduceIte, reduceCtorEq, ints, rows, rat, rats, ratsO, toShL_ratC, List.mem_cons, List.mem_nil_iff, List.not_mem_nil, or_false, false_or, exists_eq_left, exists_eq_left', exists_eq_right', Root.live.injEq, eq_self_iff_true, exists_eq, and_true, T.toSh, toShL_ints, toShL_intsO, intsO, rowsO]
  simp -implicitDefEqProofs only [go_sem, List.reduceReplicate, Nat.reduceEqDiff, Nat.reduceAdd, Nat.reduceLeDiff, Nat.reduceMul, Nat.reduceSub, Nat.reduceDiv, Int.reduceToNat, Nat.reduceLT, Int.reduceLT, Int.reduceLE, ↓reduceIte, reduceCtorEq, forall_apply_eq_imp_iff₂, ints, rows, rat, rats, toNat_cast, hheld]
  exact ⟨fun h => absurd h (by omega), fun _ => trivial⟩
end Go.Ab

/- slices.Delete: its contract, out of the kit's shelf. -/
set_option linter.unusedSimpArgs false
set_option linter.unusedVariables false
namespace Go.Ab
open Go.Proofs Go.Shelf Go.Sort

def delRen : Go.Shelf.Ren := ⟨fun | 45 => 110 | n => n, fun | 0 => 0 | 3 => 3 | 4 => 4 | 22 => 27 | 23 => 2 | n => n, fun n => n⟩
theorem delL : SlLaysE.n45 Try.prog delRen := {
  mixed := by kernel_rfl
  f45 := ⟨Try.f110.name, by decide, Try.func110.trans (congrArg some (by kernel_rfl))⟩
  t0 := Try.underlying0
  a0 := Try.isAgg0
  z0 := Try.sizeOf0
  v0 := Try.zeroValue0
  t3 := Try.underlying3
  a3 := Try.isAgg3
  z3 := Try.sizeOf3
  v3 := Try.zeroValue3
  t4 := Try.underlying4
  a4 := Try.isAgg4
  z4 := Try.sizeOf4
  v4 := Try.zeroValue4
  t22 := Try.underlying27
  a22 := Try.isAgg27
  z22 := Try.sizeOf27
  v22 := Try.zeroValue27
  a23 := Try.isAgg2
  z23 := Try.sizeOf2 }

theorem getD_mapIdx_lt {f : Nat → Value → Value} {cs : Array Value} {k : Nat} (h : k < cs.size) : (cs.mapIdx f).getD k undef = f k (cs.getD k undef) := by
  simp [Array.getD_eq_getD_getElem?, h]

theorem slices_Delete_ok (l : List Int) (i j : Nat) (hij : i < j) (hj : j ≤ l.length) : Fun Try.prog 110 [intsO l] [.own 1000000000, .t (.i i), .t (.i j)] fun o r => o = [.any] ∧ r = intsO (l.take i ++ l.drop j) := by
  intro X w vals hs fp hm hlen hi
  obtain ⟨x, hx, ho, _⟩ := hm.root 0 _ rfl
  simp only [Nat.add_zero] at hx ho
  have h0 := (hi 0 (by simp)).own_inv
  rw [hx, Option.some.injEq] at h0
  have h1 := (hi 1 (by simp)).v_inv
  have h2 := (hi 2 (by simp)).v_inv
  have hv : vals.toArray = #[x, .int .i64 i, .int .i64 j] := by
    match vals, hlen with
    | [a, b, c], _ =>
      simp only [List.getD_cons_zero, List.getD_cons_succ] at h0 h1 h2
      subst h0 h1 h2; rfl
  rw [hv]
  generalize hfp : fp 1000000000 = f at ho
  unfold intsO at ho
  generalize hL : l.map T.i = L at ho
  have hLl : L.length = l.length := by rw [← hL, List.length_map]
  cases ho with
  | rd h => cases h
  | arrNil => simp at hLl; omega
  | arr _ _ b len cap cs e fps hb hl hc hmx hsz hf hr =>
    rw [hLl] at hl hf
    simp only [Nat.mul_one] at hl hsz
    have hcell : ∀ k (h : k < l.length), cs.getD k undef = .int .i64 l[k] ∧ fps.getD k [] = [] := fun k h => by
      have := hr k (by omega)
      have e : L[k]'(by omega) = T.i l[k] := by
        have : L[k]'(by omega) = (l.map T.i)[k]'(by simpa using h) := by congr 1; exact hL.symm
        rw [this, List.getElem_map]
      rw [e] at this
      generalize cs.getD k undef = y at this
      generalize fps.getD k [] = g at this
      cases this with
      | rd hh => cases hh; exact ⟨rfl, rfl⟩
    have hflat : fps.flatten = [] := by
      rw [List.flatten_eq_nil_iff]
      intro g hg
      obtain ⟨k, hk, rfl⟩ := List.mem_iff_getElem.1 hg
      have := (hcell k (by omega)).2
      rwa [List.getD_eq_getElem?_getD, List.getElem?_eq_getElem hk] at this
    have hH : Holds (Value.int .i64) w b 0 l.toArray := fun k hk => by
      have hk : k < l.length := by simpa using hk
      refine ⟨?_, ?_⟩
      · rw [Nat.zero_add, cells_at hb (by omega), (hcell k hk).1, getElem!_pos _ k (by simpa using hk)]; simp
      · simp [World.frozen?, hb]
    have hcall := AnyE.slices_Delete delL (Value.int .i64) (fun _ => rfl) 0 Try.zeroValue2 ((Try.prog.info? 2).get (by kernel_rfl)) (by kernel_rfl) (by kernel_rfl) b 0 cap i j l.toArray w hH (by simp; omega) (by have := hmx; unfold maxLen at this; omega) (by omega) (by simpa using hj)
    have hlen' : l.toArray.size = len := by simp [hl]
    rw [hlen'] at hcall
    refine Calls.mono hcall ?_
    rintro ee w' ⟨rfl, q, rfl⟩
    generalize hnew : (l.toArray.toList.take i ++ l.toArray.toList.drop j ++ List.replicate (j - i) (0 : Int)).toArray = d
    have hds : d.size = len := by rw [← hnew]; simp; omega
    have hdl : d.toList = l.take i ++ l.drop j ++ List.replicate (j - i) 0 := by rw [← hnew]
    have hw' : ∀ b' : Nat, (putRow (Value.int .i64) (Go.Sort.ahead w q) b 0 d).heap[b']? = if b = b' then some (.cells (putCells (Value.int .i64) 0 d cs) e (0, 0)) else w.heap[b']? := fun b' => by
      show (w.heap.modify b (onCells (putCells (Value.int .i64) 0 d)))[b']? = _
      rw [Array.getElem?_modify]
      by_cases hbb : b = b'
      · subst hbb; simp only [if_true, hb, Option.map_some, onCells]
      · simp only [hbb, if_false]
    refine ⟨_, intsO (l.take i ++ l.drop j), [.any], [b], fun _ => [], rfl, ⟨rfl, rfl⟩, rfl, ?_⟩
    have hnl : (l.take i ++ l.drop j).length = len - (j - i) := by simp; omega
    refine ⟨fun k t hk => ?_, fun _ _ => rfl, ?_, fun r r' b' h => by simp at h, fun _ => by simp, by simp, fun r b' h => by simp at h, fun r b' h => by simp at h, fun b' h => .inl ⟨1000000000, ?_⟩, rfl, rfl, rfl, ?_, fun b' hb' hn => ?_⟩
    · have : k = 0 ∧ t = .any := by
        cases k with
        | zero => simpa using hk.symm
        | succ k => simp at hk
      obtain ⟨rfl, rfl⟩ := this
      exact ⟨_, hx, .rd (.any _), .inr rfl⟩
    · have := Ow.arr (w := putRow (Value.int .i64) (Go.Sort.ahead w q) b 0 d) (O := Ob' X (fun _ => []) [b]) 1 ((l.take i ++ l.drop j).map T.i) b (len - (j - i)) cap (putCells (Value.int .i64) 0 d cs) e (List.replicate (len - (j - i)) []) (by rw [hw', if_pos rfl]) (by rw [List.length_map, hnl]; omega) (by omega) hmx (by simp [putCells, hsz]) (by rw [List.length_map, hnl]; simp) (fun k hk => ?_)
      · have e1 : b :: (List.replicate (len - (j - i)) ([] : List Nat)).flatten = [b] := by simp
        rw [e1] at this
        exact this
      · rw [List.length_map] at hk
        have hkl : k < len - (j - i) := by omega
        have e2 : (List.replicate (len - (j - i)) ([] : List Nat)).getD k [] = [] := by
          rw [List.getD_eq_getElem?_getD, List.getElem?_replicate]; split <;> rfl
        rw [e2, List.getElem_map, putCells, getD_mapIdx_lt (by omega), if_pos (by omega)]
        have e3 : d[k - 0]! = (l.take i ++ l.drop j)[k] := by
          rw [Nat.sub_zero, getElem!_pos d k (by omega), ← Array.getElem_toList]
          have := List.getElem_append_left («as» := l.take i ++ l.drop j) (bs := List.replicate (j - i) (0 : Int)) (i := k) (h' := by rw [← hdl, Array.length_toList]; omega) hk
          rw [← this]
          simp only [hdl]
        rw [e3]
        exact .rd (.v _)
    · rw [hfp]; simp at h; rw [h]; simp
    · simp
    · rw [hw', if_neg]
      rintro rfl
      exact hn 1000000000 (by rw [hfp]; simp)
end Go.Ab

/- Contracts: a matrix without a row and a column. -/
set_option linter.unusedSimpArgs false
set_option linter.unusedVariables false
namespace Go.Ab
open Go.Proofs

def without (m : List (List Int)) (r c : Nat) : List (List Int) := (m.eraseIdx r).map fun l => l.eraseIdx c
/-- The same of the first i rows. -/
def withoutI (m : List (List Int)) (r c i : Nat) : List (List Int) := without (m.take i) r c
theorem withoutI_same {m : List (List Int)} {r c i : Nat} {x : List Int} (hx : m[i]? = some x) (h : i = r) : withoutI m r c (i + 1) = withoutI m r c i := by
  obtain ⟨hi, rfl⟩ := List.getElem?_eq_some_iff.1 hx
  have hl : (m.take i).length = i := by simp; omega
  subst h
  rw [withoutI, withoutI, without, without, take_snoc hx, List.eraseIdx_append_of_length_le (by omega), hl, Nat.sub_self]
  rw [List.eraseIdx_of_length_le (l := m.take i) (by omega)]; simp
theorem withoutI_next {m : List (List Int)} {r c i : Nat} {x : List Int} (hx : m[i]? = some x) (h : i ≠ r) : withoutI m r c (i + 1) = withoutI m r c i ++ [x.eraseIdx c] := by
  obtain ⟨hi, rfl⟩ := List.getElem?_eq_some_iff.1 hx
  have hl : (m.take i).length = i := by simp; omega
  rw [withoutI, withoutI, without, without, take_snoc hx]
  rcases Nat.lt_or_ge r i with h1 | h1
  · rw [List.eraseIdx_append_of_lt_length (by omega), List.map_append]; rfl
  · rw [List.eraseIdx_append_of_length_le (by omega), hl, List.eraseIdx_of_length_le (l := m.take i) (by omega), List.eraseIdx_of_length_le (l := [m[i]]) (by simp; omega), List.map_append]; rfl
theorem withoutI_all (m : List (List Int)) (r c : Nat) : withoutI m r c m.length = without m r c := by rw [withoutI, List.take_length]
theorem withoutI_zero (m : List (List Int)) (r c : Nat) : withoutI m r c 0 = [] := by simp [withoutI, without]
theorem withoutI_length (m : List (List Int)) (r c i : Nat) : (withoutI m r c i).length ≤ i := by
  have := List.length_eraseIdx_le (m.take i) r
  simp [withoutI, without] at this ⊢; omega
theorem eraseIdx_cut (l : List Int) (c : Nat) : l.eraseIdx c = l.take c ++ l.drop (c + 1) := List.eraseIdx_eq_take_drop_succ l c

theorem ite_nn {α : Type} (n : Nat) (a b : α) : (if (0 : Int) ≤ (n : Int) then a else b) = a := if_pos (Int.natCast_nonneg _)
theorem ite_nn1 {α : Type} (n : Nat) (a b : α) : (if (0 : Int) ≤ (n : Int) + 1 then a else b) = a := if_pos (by omega)
theorem impl_without_ok (m : List (List Int)) (r c : Nat) (hm : m.length ≤ 1000000) (hrow : ∀ x ∈ m, c < x.length ∧ x.length ≤ 1000000) (hr : r ≤ 1000000) : Fun Try.prog 100 [] [.t (rows m), .t (.i r), .t (.i c)] fun o res => o = [] ∧ res = rowsO (without m r c) := by
  refine fun_impl_without (by simp) ?_
  simp -implicitDefEqProofs only [go_sem, List.reduceReplicate, Nat.reduceEqDiff, Nat.reduceAdd, Nat.reduceLeDiff, Nat.reduceMul, Nat.reduceSub, Nat.reduceDiv, Int.reduceToNat, Nat.reduceLT, Int.reduceLT, Int.reduceLE, ↓reduceIte, reduceCtorEq, forall_apply_eq_imp_iff₂, ints, rows, rat, rats, toNat_cast, c_impl_without]
  refine SemC.loopR (σ := Nat) (fun i => St.of [(0, .t (rows m)), (1, .t (.i r)), (2, .t (.i c)), (7, .own 77), (10, .t (rows m)), (11, .t (.i m.length)), (12, .t (.i i))] [(77, .arr 1 ((withoutI m r c i).map intsO))]) (fun i => i ≤ m.length) (fun i => m.length - i) 0 (Weak.of _ _ [none] (by simp) (by simp) ?_ ?_) (by simp) fun i hi R hn hr' he => ?_
  · simp -implicitDefEqProofs only [ints, rows, Nat.reduceBEq, Int.add_zero, envOK, maA, maT, upd_apply, Nat.reduceEqDiff, ↓reduceIte, and_true, true_or, or_true, List.map_cons, List.map_nil, Nat.zero_ne_one, and_self, true_and, Int.natCast_zero, Int.cast_ofNat_Int, Int.ofNat_zero, piOf, List.zip_cons_cons, List.zip_nil_right, List.lookup_cons, List.lookup_nil, beq_self_eq_true, rootsOK, mkRoots, mkEnv]
  · exact ⟨⟨1, by rw [withoutI_zero]; rfl⟩, trivial⟩
  · simp -implicitDefEqProofs only [go_sem, List.reduceReplicate, Nat.reduceEqDiff, Nat.reduceAdd, Nat.reduceLeDiff, Nat.reduceMul, Nat.reduceSub, Nat.reduceDiv, Int.reduceToNat, Nat.reduceLT, Int.reduceLT, Int.reduceLE, ↓reduceIte, reduceCtorEq, forall_apply_eq_imp_iff₂, ints, rows, rat, rats, toNat_cast]
    refine ⟨fun h => ⟨by omega, by omega, by omega, fun x hx => ⟨fun h1 => ?_, fun h1 => ?_⟩⟩, fun h => he _ _ ?_⟩
    · have hne : i ≠ r := by simp at h1; omega
      have hxl := hrow x (List.mem_of_getElem? hx)
      refine CallW.res (slices_Clone_ok x (by omega)) [] rfl Try.call91 ?_ (.inl rfl) ?_
      · simp -implicitDefEqProofs only [Nat.le_refl, Nat.reduceLeDiff, Nat.sub_self, Nat.reduceSub, List.getElem?_cons_zero, List.getElem?_cons_succ, vt_self, vaL, vtL, va, vt, vb, maT, List.cons_append, List.nil_append, List.append_nil, true_or, or_true, go_sem, List.reduceReplicate, Nat.reduceEqDiff, Nat.reduceAdd, Nat.reduceLeDiff, Nat.reduceMul, Nat.reduceSub, Nat.reduceDiv, Int.reduceToNat, Nat.reduceLT, Int.reduceLT, Int.reduceLE, ↓reduceIte, reduceCtorEq, ints, rows, rat, rats, ratsO, toShL_ratC, List.mem_cons, List.mem_nil_iff, List.not_mem_nil, or_false, false_or, exists_eq_left, exists_eq_left', exists_eq_right', Root.live.injEq, eq_self_iff_true, exists_eq, and_true, T.toSh, toShL_ints, toShL_intsO, intsO, rowsO]
      simp -implicitDefEqProofs only [List.append_nil, List.cons_append, Nat.reduceLeDiff, afterCall, absT_rowsO, absT_intsO, absT, absL, updL, updS, freeAll, rid, T.noSh, T.noShL, Nat.zero_le, go_sem, List.reduceReplicate, Nat.reduceEqDiff, Nat.reduceAdd, Nat.reduceLeDiff, Nat.reduceMul, Nat.reduceSub, Nat.reduceDiv, Int.reduceToNat, Nat.reduceLT, Int.reduceLT, Int.reduceLE, ↓reduceIte, reduceCtorEq, rat, forall_apply_eq_imp_iff₂, toNat_cast]
      rw [wrap64 (n := (c : Int) + 1) (by omega) (by omega), show ((c : Int) + 1) = ((c + 1 : Nat) : Int) from rfl]
      refine CallW.ref (slices_Delete_ok x c (c + 1) (by omega) (by omega)) [22] [] rfl Try.call110 (by simp) ?_ (by simp) ?_ (.inl rfl) ?_
      · simp -implicitDefEqProofs only [rootOf_arr, rootOf_box, rootOf_any, srcsOK, updL, updS, upd_apply, Nat.reduceEqDiff, ↓reduceIte, mkRoots, and_true, ints, rows, intsO, rowsO]
      · simp -implicitDefEqProofs only [Nat.le_refl, Nat.reduceLeDiff, Nat.sub_self, Nat.reduceSub, List.getElem?_cons_zero, List.getElem?_cons_succ, vt_self, vaL, vtL, va, vt, vb, maT, List.cons_append, List.nil_append, List.append_nil, true_or, or_true, go_sem, List.reduceReplicate, Nat.reduceEqDiff, Nat.reduceAdd, Nat.reduceLeDiff, Nat.reduceMul, Nat.reduceSub, Nat.reduceDiv, Int.reduceToNat, Nat.reduceLT, Int.reduceLT, Int.reduceLE, ↓reduceIte, reduceCtorEq, ints, rows, rat, rats, ratsO, toShL_ratC, List.mem_cons, List.mem_nil_iff, List.not_mem_nil, or_false, false_or, exists_eq_left, exists_eq_left', exists_eq_right', Root.live.injEq, eq_self_iff_true, exists_eq, and_true, T.toSh, toShL_ints, toShL_intsO, intsO, rowsO]
      simp -implicitDefEqProofs only [List.append_nil, List.cons_append, Nat.reduceLeDiff, afterCall, absT_rowsO, absT_intsO, absT, absL, updL, updS, freeAll, rid, T.noSh, T.noShL, Nat.zero_le, go_sem, List.reduceReplicate, Nat.reduceEqDiff, Nat.reduceAdd, Nat.reduceLeDiff, Nat.reduceMul, Nat.reduceSub, Nat.reduceDiv, Int.reduceToNat, Nat.reduceLT, Int.reduceLT, Int.reduceLE, ↓reduceIte, reduceCtorEq, rat, forall_apply_eq_imp_iff₂, toNat_cast, intsO]
      have hlen := withoutI_length m r c i
      refine ⟨by omega, hn _ (i + 1) (Weak.of _ _ [some 28] (by simp) (by simp) ?_ ?_) (by omega) (by omega)⟩
      · simp -implicitDefEqProofs only [ints, rows, Nat.reduceBEq, Int.add_zero, envOK, maA, maT, upd_apply, Nat.reduceEqDiff, ↓reduceIte, and_true, true_or, or_true, List.map_cons, List.map_nil, Nat.zero_ne_one, and_self, true_and, Int.natCast_zero, Int.cast_ofNat_Int, Int.ofNat_zero, piOf, List.zip_cons_cons, List.zip_nil_right, List.lookup_cons, List.lookup_nil, beq_self_eq_true, rootsOK, mkRoots, mkEnv, next64 (by omega : i < m.length) (by omega)]
      · refine ⟨⟨_, rfl, ?_⟩, rfl, trivial⟩
        rw [withoutI_next hx hne, eraseIdx_cut]
        simp only [List.map_append, List.map_cons, List.map_nil, intsO]
        exact .refl _
    · have heq : i = r := by simp at h1; omega
      refine hn _ (i + 1) (Weak.of _ _ [some 77] (by simp) (by simp) ?_ ?_) (by omega) (by omega)
      · simp -implicitDefEqProofs only [ints, rows, Nat.reduceBEq, Int.add_zero, envOK, maA, maT, upd_apply, Nat.reduceEqDiff, ↓reduceIte, and_true, true_or, or_true, List.map_cons, List.map_nil, Nat.zero_ne_one, and_self, true_and, Int.natCast_zero, Int.cast_ofNat_Int, Int.ofNat_zero, piOf, List.zip_cons_cons, List.zip_nil_right, List.lookup_cons, List.lookup_nil, beq_self_eq_true, rootsOK, mkRoots, mkEnv, next64 (by omega : i < m.length) (by omega)]
      · exact ⟨⟨_, rfl, by rw [withoutI_same hx heq]; exact .refl _⟩, rfl, trivial⟩
    · simp -implicitDefEqProofs only [go_sem, List.reduceReplicate, Nat.reduceEqDiff, Nat.reduceAdd, Nat.reduceLeDiff, Nat.reduceMul, Nat.reduceSub, Nat.reduceDiv, Int.reduceToNat, Nat.reduceLT, Int.reduceLT, Int.reduceLE, ↓reduceIte, reduceCtorEq, forall_apply_eq_imp_iff₂, ints, rows, rat, rats, toNat_cast]
      have : i = m.length := by omega
      rw [this, withoutI_all]; rfl

theorem spec_l27Without_ok (m : List (List Int)) (r c : Nat) (hm : m.length ≤ 1000000) (hrow : ∀ x ∈ m, c < x.length ∧ x.length ≤ 1000000) (hr : r ≤ 1000000) : Fun Try.prog 99 [] [.t (rows m), .t (.i r), .t (.i c)] fun o res => o = [] ∧ res = rowsO (without m r c) := by
  refine fun_spec_l27Without (by simp) ?_
  simp -implicitDefEqProofs only [go_sem, List.reduceReplicate, Nat.reduceEqDiff, Nat.reduceAdd, Nat.reduceLeDiff, Nat.reduceMul, Nat.reduceSub, Nat.reduceDiv, Int.reduceToNat, Nat.reduceLT, Int.reduceLT, Int.reduceLE, ↓reduceIte, reduceCtorEq, forall_apply_eq_imp_iff₂, ints, rows, rat, rats, toNat_cast, c_spec_l27Without]
  refine SemC.loopR (σ := Nat) (fun i => St.of [(0, .t (rows m)), (1, .t (.i r)), (2, .t (.i c)), (7, .own 77), (8, .t (.i i))] [(77, .arr 1 ((withoutI m r c i).map intsO))]) (fun i => i ≤ m.length) (fun i => m.length - i) 0 (Weak.of _ _ [some 10] (by simp) (by simp) ?_ ?_) (by simp) fun i hi R hn hr' he => ?_
  · simp -implicitDefEqProofs only [ints, rows, Nat.reduceBEq, Int.add_zero, envOK, maA, maT, upd_apply, Nat.reduceEqDiff, ↓reduceIte, and_true, true_or, or_true, List.map_cons, List.map_nil, Nat.zero_ne_one, and_self, true_and, Int.natCast_zero, Int.cast_ofNat_Int, Int.ofNat_zero, piOf, List.zip_cons_cons, List.zip_nil_right, List.lookup_cons, List.lookup_nil, beq_self_eq_true, rootsOK, mkRoots, mkEnv]
  · exact ⟨⟨_, rfl, by rw [withoutI_zero]; exact .refl _⟩, rfl, trivial⟩
  · simp -implicitDefEqProofs only [go_sem, List.reduceReplicate, Nat.reduceEqDiff, Nat.reduceAdd, Nat.reduceLeDiff, Nat.reduceMul, Nat.reduceSub, Nat.reduceDiv, Int.reduceToNat, Nat.reduceLT, Int.reduceLT, Int.reduceLE, ↓reduceIte, reduceCtorEq, forall_apply_eq_imp_iff₂, ints, rows, rat, rats, toNat_cast]
    refine ⟨fun h => ⟨fun h1 => ?_, fun h1 => ?_⟩, fun h => he _ _ ?_⟩
    · obtain ⟨x, hx⟩ : ∃ x, m[i]? = some x := ⟨_, List.getElem?_eq_getElem (by omega)⟩
      have heq : i = r := by simp at h1; omega
      refine hn _ (i + 1) (Weak.of _ _ [some 77] (by simp) (by simp) ?_ ?_) (by omega) (by omega)
      · simp -implicitDefEqProofs only [ints, rows, Nat.reduceBEq, Int.add_zero, envOK, maA, maT, upd_apply, Nat.reduceEqDiff, ↓reduceIte, and_true, true_or, or_true, List.map_cons, List.map_nil, Nat.zero_ne_one, and_self, true_and, Int.natCast_zero, Int.cast_ofNat_Int, Int.ofNat_zero, piOf, List.zip_cons_cons, List.zip_nil_right, List.lookup_cons, List.lookup_nil, beq_self_eq_true, rootsOK, mkRoots, mkEnv, next64 (by omega : i < m.length) (by omega)]
      · exact ⟨⟨_, rfl, by rw [withoutI_same hx heq]; exact .refl _⟩, rfl, trivial⟩
    · obtain ⟨x, hx⟩ : ∃ x, m[i]? = some x := ⟨_, List.getElem?_eq_getElem (by omega)⟩
      have hne : i ≠ r := by simp at h1; omega
      have hxl := hrow x (List.mem_of_getElem? hx)
      refine ⟨by omega, by omega, by omega, fun y hy => ?_⟩
      rw [hx] at hy; cases hy
      have hw : IntKind.i64.wrap ((c : Int) + 1) = ((c + 1 : Nat) : Int) := by rw [wrap64 (by omega) (by omega)]; rfl
      simp -implicitDefEqProofs only [go_sem, List.reduceReplicate, Nat.reduceEqDiff, Nat.reduceAdd, Nat.reduceLeDiff, Nat.reduceMul, Nat.reduceSub, Nat.reduceDiv, Int.reduceToNat, Nat.reduceLT, Int.reduceLT, Int.reduceLE, ↓reduceIte, reduceCtorEq, forall_apply_eq_imp_iff₂, ints, rows, rat, rats, toNat_cast, ite_nn, Nat.sub_zero, ← List.map_take]
      refine ⟨by omega, by omega, ?_⟩
      refine CallC.res (spec_l01Own_ok (x.take c) (by simp; omega)) [] rfl Try.call90 (fun e R' hR => ?_) (.inl rfl) ?_
      · simp -implicitDefEqProofs only [Nat.le_refl, Nat.reduceLeDiff, Nat.sub_self, Nat.reduceSub, List.getElem?_cons_zero, List.getElem?_cons_succ, vt_self, vaL, vtL, va, vt, vb, maT, List.cons_append, List.nil_append, List.append_nil, true_or, or_true, go_sem, List.reduceReplicate, Nat.reduceEqDiff, Nat.reduceAdd, Nat.reduceLeDiff, Nat.reduceMul, Nat.reduceSub, Nat.reduceDiv, Int.reduceToNat, Nat.reduceLT, Int.reduceLT, Int.reduceLE, ↓reduceIte, reduceCtorEq, ints, rows, rat, rats, ratsO, toShL_ratC, List.mem_cons, List.mem_nil_iff, List.not_mem_nil, or_false, false_or, exists_eq_left, exists_eq_left', exists_eq_right', Root.live.injEq, eq_self_iff_true, exists_eq, and_true, T.toSh, toShL_ints, toShL_intsO, intsO, rowsO]
      simp -implicitDefEqProofs only [List.append_nil, List.cons_append, Nat.reduceLeDiff, afterCall, absT_rowsO, absT_intsO, absT, absL, updL, updS, freeAll, rid, T.noSh, T.noShL, Nat.zero_le, go_sem, List.reduceReplicate, Nat.reduceEqDiff, Nat.reduceAdd, Nat.reduceLeDiff, Nat.reduceMul, Nat.reduceSub, Nat.reduceDiv, Int.reduceToNat, Nat.reduceLT, Int.reduceLT, Int.reduceLE, ↓reduceIte, reduceCtorEq, rat, forall_apply_eq_imp_iff₂, toNat_cast, ints, intsO, hw, ite_nn, toNat_cast, Nat.sub_zero, ← List.map_drop, hx, Option.some.injEq, forall_eq']
      have hlen := withoutI_length m r c i
      have hl1 : (x.drop (c + 1)).length = x.length - (c + 1) := List.length_drop
      have htk : List.take (x.length - (c + 1)) (List.map T.i (List.drop (c + 1) x)) = List.map T.i (List.drop (c + 1) x) := List.take_of_length_le (by rw [List.length_map]; omega)
      rw [htk]
      refine ⟨by omega, by omega, by omega, by omega, by omega, all_cell_ints _, by rw [List.length_map, List.length_take]; omega, by omega, hn _ (i + 1) (Weak.of _ _ [some 38] (by simp) (by simp) ?_ ?_) (by omega) (by omega)⟩
      · simp -implicitDefEqProofs only [ints, rows, Nat.reduceBEq, Int.add_zero, envOK, maA, maT, upd_apply, Nat.reduceEqDiff, ↓reduceIte, and_true, true_or, or_true, List.map_cons, List.map_nil, Nat.zero_ne_one, and_self, true_and, Int.natCast_zero, Int.cast_ofNat_Int, Int.ofNat_zero, piOf, List.zip_cons_cons, List.zip_nil_right, List.lookup_cons, List.lookup_nil, beq_self_eq_true, rootsOK, mkRoots, mkEnv, next64 (by omega : i < m.length) (by omega)]
      · refine ⟨⟨_, rfl, ?_⟩, rfl, trivial⟩
        rw [withoutI_next hx hne, eraseIdx_cut]
        simp only [List.map_append, List.map_cons, List.map_nil, intsO]
        exact .refl _
    · simp -implicitDefEqProofs only [go_sem, List.reduceReplicate, Nat.reduceEqDiff, Nat.reduceAdd, Nat.reduceLeDiff, Nat.reduceMul, Nat.reduceSub, Nat.reduceDiv, Int.reduceToNat, Nat.reduceLT, Int.reduceLT, Int.reduceLE, ↓reduceIte, reduceCtorEq, forall_apply_eq_imp_iff₂, ints, rows, rat, rats, toNat_cast]
      have : i = m.length := by omega
      rw [this, withoutI_all]; rfl
end Go.Ab

/- Contracts: determinants. -/
set_option linter.unusedSimpArgs false
set_option linter.unusedVariables false
namespace Go.Ab
open Go.Proofs

def sumTo (f : Nat → Int) : Nat → Int
  | 0 => 0
  | k + 1 => sumTo f k + f k
def sg (k : Nat) : Int := 1 - 2 * ((k % 2 : Nat) : Int)
def detN : Nat → List (List Int) → Int
  | 0, _ => 1
  | n + 1, m => sumTo (fun k => sg k * (m.headD []).getD k 0 * detN n (without m 0 k)) (n + 1)
/-- A square matrix with small entries. -/
def sq (n : Nat) (m : List (List Int)) : Prop := m.length = n ∧ ∀ r ∈ m, r.length = n ∧ ∀ x ∈ r, -20 ≤ x ∧ x ≤ 20
theorem mem_eraseIdx {α : Type} {l : List α} {i : Nat} {x : α} (h : x ∈ l.eraseIdx i) : x ∈ l := (List.eraseIdx_sublist l i).subset h
theorem sq_without {n : Nat} {m : List (List Int)} (h : sq (n + 1) m) {r c : Nat} (hr : r < n + 1) (hc : c < n + 1) : sq n (without m r c) := by
  refine ⟨?_, fun x hx => ?_⟩
  · rw [without, List.length_map, List.length_eraseIdx_of_lt (by rw [h.1]; exact hr), h.1]; rfl
  · obtain ⟨y, hy, rfl⟩ := List.mem_map.1 hx
    obtain ⟨h1, h2⟩ := h.2 y (mem_eraseIdx hy)
    exact ⟨by rw [List.length_eraseIdx_of_lt (by rw [h1]; exact hc), h1]; rfl, fun z hz => h2 z (mem_eraseIdx hz)⟩
def detB : Nat → Nat
  | 0 => 1
  | n + 1 => (n + 1) * (20 * detB n)
theorem sg_abs (k : Nat) : sg k = 1 ∨ sg k = -1 := by
  rcases Nat.mod_two_eq_zero_or_one k with h | h <;> simp [sg, h]
theorem sumTo_abs {f : Nat → Int} {b : Nat} : ∀ {k : Nat}, (∀ j, j < k → (f j).natAbs ≤ b) → (sumTo f k).natAbs ≤ k * b
  | 0, _ => by simp [sumTo]
  | k + 1, h => by
    have h1 := sumTo_abs (k := k) fun j hj => h j (by omega)
    have h2 := h k (by omega)
    have := Int.natAbs_add_le (sumTo f k) (f k)
    rw [sumTo, Nat.add_mul]; omega
theorem head_small {n : Nat} {m : List (List Int)} (h : sq (n + 1) m) (k : Nat) (hk : k < n + 1) : ∃ r, m[0]? = some r ∧ m.headD [] = r ∧ r.length = n + 1 ∧ ∃ x, r[k]? = some x ∧ r.getD k 0 = x ∧ -20 ≤ x ∧ x ≤ 20 := by
  obtain ⟨h1, h2⟩ := h
  match m, h1 with
  | r :: m, _ =>
    obtain ⟨h3, h4⟩ := h2 r (by simp)
    refine ⟨r, rfl, rfl, h3, r[k]'(by omega), List.getElem?_eq_getElem (by omega), ?_, h4 _ (List.getElem_mem _)⟩
    rw [List.getD_eq_getElem?_getD, List.getElem?_eq_getElem (by omega)]; rfl
theorem detN_abs : ∀ {n : Nat} {m : List (List Int)}, sq n m → (detN n m).natAbs ≤ detB n
  | 0, m, _ => by simp [detN, detB]
  | n + 1, m, h => by
    rw [detN, detB]
    refine sumTo_abs fun k hk => ?_
    obtain ⟨r, _, h1, _, x, _, h2, h3, h4⟩ := head_small h k hk
    have h5 := detN_abs (sq_without h (r := 0) (c := k) (by omega) hk)
    rw [h1, h2, Int.natAbs_mul, Int.natAbs_mul]
    have h6 : (sg k).natAbs = 1 := by rcases sg_abs k with h | h <;> rw [h] <;> rfl
    rw [h6, Nat.one_mul]
    exact Nat.mul_le_mul (by omega) h5
theorem detB_le {n : Nat} (h : n ≤ 4) : detB n ≤ 3840000 := by
  match n, h with
  | 0, _ => decide
  | 1, _ => decide
  | 2, _ => decide
  | 3, _ => decide
  | 4, _ => decide
/-- The summand of a determinant, and its bound. -/
theorem term_abs {n : Nat} {m : List (List Int)} (h : sq (n + 1) m) (hn : n < 4) {k : Nat} (hk : k < n + 1) {x : Int} (hx : -20 ≤ x ∧ x ≤ 20) : -76800000 ≤ x * detN n (without m 0 k) ∧ x * detN n (without m 0 k) ≤ 76800000 := by
  have h5 := detN_abs (sq_without h (r := 0) (c := k) (by omega) hk)
  have h6 := detB_le (n := n) (by omega)
  have h7 : (x * detN n (without m 0 k)).natAbs ≤ 20 * 3840000 := by
    rw [Int.natAbs_mul]; exact Nat.mul_le_mul (by omega) (by omega)
  omega
theorem part_abs {n : Nat} {m : List (List Int)} (h : sq (n + 1) m) (hn : n < 4) {k : Nat} (hk : k ≤ n + 1) : -400000000 ≤ sumTo (fun k => sg k * (m.headD []).getD k 0 * detN n (without m 0 k)) k ∧ sumTo (fun k => sg k * (m.headD []).getD k 0 * detN n (without m 0 k)) k ≤ 400000000 := by
  have h1 := sumTo_abs (f := fun k => sg k * (m.headD []).getD k 0 * detN n (without m 0 k)) (b := 76800000) (k := k) fun j hj => by
    obtain ⟨r, _, e1, _, x, _, e2, h3⟩ := head_small h j (by omega)
    have := term_abs h hn (show j < n + 1 by omega) h3
    rw [e1, e2, Int.mul_assoc, Int.natAbs_mul]
    have h6 : (sg j).natAbs = 1 := by rcases sg_abs j with h | h <;> rw [h] <;> rfl
    rw [h6, Nat.one_mul]; omega
  have h2 : k * 76800000 ≤ 4 * 76800000 := Nat.mul_le_mul_right _ (by omega)
  omega
theorem tmod2 (k : Nat) : (k : Int).tmod 2 = ((k % 2 : Nat) : Int) := by
  rw [Int.tmod_eq_emod_of_nonneg (by omega)]; rfl

theorem impl_determinant_ok : ∀ (n : Nat), n ≤ 4 → ∀ m, sq n m → Pure Try.prog 76 [rows m] (.i (detN n m)) := by
  intro n
  induction n with
  | zero =>
    intro _ m hm
    refine fun_impl_determinant (by simp) ?_
    simp -implicitDefEqProofs only [go_sem, List.reduceReplicate, Nat.reduceEqDiff, Nat.reduceAdd, Nat.reduceLeDiff, Nat.reduceMul, Nat.reduceSub, Nat.reduceDiv, Int.reduceToNat, Nat.reduceLT, Int.reduceLT, Int.reduceLE, ↓reduceIte, reduceCtorEq, forall_apply_eq_imp_iff₂, ints, rows, rat, rats, toNat_cast, c_impl_determinant]
    refine ⟨fun h => rfl, fun h => absurd hm.1 (by simpa using h)⟩
  | succ n ih =>
    intro hn m hm
    refine fun_impl_determinant (by simp) ?_
    simp -implicitDefEqProofs only [go_sem, List.reduceReplicate, Nat.reduceEqDiff, Nat.reduceAdd, Nat.reduceLeDiff, Nat.reduceMul, Nat.reduceSub, Nat.reduceDiv, Int.reduceToNat, Nat.reduceLT, Int.reduceLT, Int.reduceLE, ↓reduceIte, reduceCtorEq, forall_apply_eq_imp_iff₂, ints, rows, rat, rats, toNat_cast, c_impl_determinant]
    have hml : m.length = n + 1 := hm.1
    refine ⟨fun h => absurd h (by simp [hml]; omega), fun h => ⟨by omega, by omega, fun r0 h0 => ?_⟩⟩
    obtain ⟨r, e1, e2, e3, _⟩ := head_small hm 0 (by omega)
    rw [h0] at e1; cases e1
    rw [e3]
    have hpart := fun k (hk : k ≤ n + 1) => part_abs hm (by omega) hk
    have hterm := fun k (hk : k < n + 1) x (hx : -20 ≤ x ∧ x ≤ 20) => term_abs hm (by omega) hk hx
    have hfin : detN (n + 1) m = sumTo (fun k => sg k * (m.headD []).getD k 0 * detN n (without m 0 k)) (n + 1) := rfl
    rw [hfin]
    rw [e2] at hpart ⊢
    generalize hS : (fun k => sg k * r0.getD k 0 * detN n (without m 0 k)) = f at hpart ⊢
    refine SemC.loopR (σ := Nat) (fun k => St.of [(0, .t (rows m)), (3, .t (.i (sumTo f k))), (12, .t (ints r0)), (13, .t (.i (n + 1 : Nat))), (14, .t (.i k))] []) (fun k => k ≤ n + 1) (fun k => n + 1 - k) 0 (Weak.of _ [] [] (by simp) (by simp) ?_ trivial) (by omega) fun k hk R hn' hr he => ?_
    · simp -implicitDefEqProofs only [ints, rows, Int.add_zero, envOK, maA, maT, upd_apply, Nat.reduceEqDiff, ↓reduceIte, and_true, true_or, or_true, List.map_cons, List.map_nil, Nat.zero_ne_one, and_self, true_and, Int.natCast_zero, Int.cast_ofNat_Int, Int.ofNat_zero, sumTo]
    · simp -implicitDefEqProofs only [go_sem, List.reduceReplicate, Nat.reduceEqDiff, Nat.reduceAdd, Nat.reduceLeDiff, Nat.reduceMul, Nat.reduceSub, Nat.reduceDiv, Int.reduceToNat, Nat.reduceLT, Int.reduceLT, Int.reduceLE, ↓reduceIte, reduceCtorEq, forall_apply_eq_imp_iff₂, ints, rows, rat, rats, toNat_cast]
      refine ⟨fun h => ⟨by omega, by omega, by omega, fun x hx => ?_⟩, fun h => he _ _ ?_⟩
      · have hk1 : k < n + 1 := by omega
        have hsx := (hm.2 r0 (List.mem_of_getElem? h0)).2 x (List.mem_of_getElem? hx)
        have hxd : r0.getD k 0 = x := by rw [List.getD_eq_getElem?_getD, hx]; rfl
        have ht := hterm k hk1 x hsx
        have hp1 := hpart k hk
        have hp2 := hpart (k + 1) hk1
        have hf : f k = sg k * x * detN n (without m 0 k) := by rw [← hS]; simp only [hxd]
        rw [sumTo, hf] at hp2
        refine CallW.res (impl_without_ok m 0 k (by omega) (fun y hy => by have := (hm.2 y hy).1; omega) (by omega)) [] rfl Try.call100 ?_ (.inl rfl) ?_
        · simp -implicitDefEqProofs only [Int.natCast_zero, Int.cast_ofNat_Int, Int.natCast_one, Nat.le_refl, Nat.reduceLeDiff, Nat.sub_self, Nat.reduceSub, List.getElem?_cons_zero, List.getElem?_cons_succ, vt_self, vaL, vtL, va, vt, vb, maT, List.cons_append, List.nil_append, List.append_nil, true_or, or_true, go_sem, List.reduceReplicate, Nat.reduceEqDiff, Nat.reduceAdd, Nat.reduceLeDiff, Nat.reduceMul, Nat.reduceSub, Nat.reduceDiv, Int.reduceToNat, Nat.reduceLT, Int.reduceLT, Int.reduceLE, ↓reduceIte, reduceCtorEq, ints, rows, rat, rats, ratsO, toShL_ratC, List.mem_cons, List.mem_nil_iff, List.not_mem_nil, or_false, false_or, exists_eq_left, exists_eq_left', exists_eq_right', Root.live.injEq, eq_self_iff_true, exists_eq, and_true, T.toSh, toShL_ints, toShL_intsO, intsO, rowsO]
        simp -implicitDefEqProofs only [List.append_nil, List.cons_append, Nat.reduceLeDiff, afterCall, absT_rowsO, absT_intsO, absT, absL, updL, updS, freeAll, rid, T.noSh, T.noShL, Nat.zero_le, go_sem, List.reduceReplicate, Nat.reduceEqDiff, Nat.reduceAdd, Nat.reduceLeDiff, Nat.reduceMul, Nat.reduceSub, Nat.reduceDiv, Int.reduceToNat, Nat.reduceLT, Int.reduceLT, Int.reduceLE, ↓reduceIte, reduceCtorEq, rat, forall_apply_eq_imp_iff₂, toNat_cast]
        refine CallW.pure (ih (by omega) (without m 0 k) (sq_without hm (by omega) hk1)) [22] rfl Try.call76 ?_ (by first | trivial | simp [T.noSh, T.noShL, rat]) rfl ?_
        · simp -implicitDefEqProofs only [Int.natCast_zero, Int.cast_ofNat_Int, Int.natCast_one, Nat.le_refl, Nat.reduceLeDiff, Nat.sub_self, Nat.reduceSub, List.getElem?_cons_zero, List.getElem?_cons_succ, vt_self, vaL, vtL, va, vt, vb, maT, List.cons_append, List.nil_append, List.append_nil, true_or, or_true, go_sem, List.reduceReplicate, Nat.reduceEqDiff, Nat.reduceAdd, Nat.reduceLeDiff, Nat.reduceMul, Nat.reduceSub, Nat.reduceDiv, Int.reduceToNat, Nat.reduceLT, Int.reduceLT, Int.reduceLE, ↓reduceIte, reduceCtorEq, ints, rows, rat, rats, ratsO, toShL_ratC, List.mem_cons, List.mem_nil_iff, List.not_mem_nil, or_false, false_or, exists_eq_left, exists_eq_left', exists_eq_right', Root.live.injEq, eq_self_iff_true, exists_eq, and_true, T.toSh, toShL_ints, toShL_intsO, intsO, rowsO]
        simp -implicitDefEqProofs only [go_sem, List.reduceReplicate, Nat.reduceEqDiff, Nat.reduceAdd, Nat.reduceLeDiff, Nat.reduceMul, Nat.reduceSub, Nat.reduceDiv, Int.reduceToNat, Nat.reduceLT, Int.reduceLT, Int.reduceLE, ↓reduceIte, reduceCtorEq, forall_apply_eq_imp_iff₂, ints, rows, rat, rats, toNat_cast]
        rw [wrap64 (n := x * detN n (without m 0 k)) (by omega) (by omega)]
        refine ⟨?_, fun h1 => ?_, fun h1 => ?_⟩
        · decide
        · have hodd : k % 2 = 1 := by rw [tmod2] at h1; simp at h1; omega
          have hs : sg k = -1 := by simp [sg, hodd]
          have e1 : sg k * x * detN n (without m 0 k) = -(x * detN n (without m 0 k)) := by rw [hs, Int.neg_one_mul, Int.neg_mul]
          rw [e1] at hp2 hf
          refine hn' _ (k + 1) (Weak.of _ [] [] (by simp) (by simp) ?_ trivial) (by omega) (by omega)
          have w1 : IntKind.i64.wrap (0 - x * detN n (without m 0 k)) = -(x * detN n (without m 0 k)) := by rw [wrap64 (by omega) (by omega)]; omega
          have w2 : IntKind.i64.wrap (sumTo f k + -(x * detN n (without m 0 k))) = sumTo f (k + 1) := by rw [wrap64 (by omega) (by omega), sumTo, hf]
          simp -implicitDefEqProofs only [ints, rows, Int.add_zero, envOK, maA, maT, upd_apply, Nat.reduceEqDiff, ↓reduceIte, and_true, true_or, or_true, List.map_cons, List.map_nil, Nat.zero_ne_one, and_self, true_and, Int.natCast_zero, Int.cast_ofNat_Int, Int.ofNat_zero, w1, w2, next64 (by omega : k < n + 1) (by omega)]
        · have hev : k % 2 = 0 := by rw [tmod2] at h1; simp at h1; omega
          have hs : sg k = 1 := by simp [sg, hev]
          have e1 : sg k * x * detN n (without m 0 k) = x * detN n (without m 0 k) := by rw [hs, Int.one_mul]
          rw [e1] at hp2 hf
          refine hn' _ (k + 1) (Weak.of _ [] [] (by simp) (by simp) ?_ trivial) (by omega) (by omega)
          have w2 : IntKind.i64.wrap (sumTo f k + x * detN n (without m 0 k)) = sumTo f (k + 1) := by rw [wrap64 (by omega) (by omega), sumTo, hf]
          simp -implicitDefEqProofs only [ints, rows, Int.add_zero, envOK, maA, maT, upd_apply, Nat.reduceEqDiff, ↓reduceIte, and_true, true_or, or_true, List.map_cons, List.map_nil, Nat.zero_ne_one, and_self, true_and, Int.natCast_zero, Int.cast_ofNat_Int, Int.ofNat_zero, w2, next64 (by omega : k < n + 1) (by omega)]
      · simp -implicitDefEqProofs only [go_sem, List.reduceReplicate, Nat.reduceEqDiff, Nat.reduceAdd, Nat.reduceLeDiff, Nat.reduceMul, Nat.reduceSub, Nat.reduceDiv, Int.reduceToNat, Nat.reduceLT, Int.reduceLT, Int.reduceLE, ↓reduceIte, reduceCtorEq, forall_apply_eq_imp_iff₂, ints, rows, rat, rats, toNat_cast]
        have : k = n + 1 := by omega
        rw [this]

theorem spec_l27Sign_ok (k : Nat) (hk : k ≤ 1000000000) : Pure Try.prog 98 [.i k] (.i (sg k)) := by
  refine fun_spec_l27Sign (by simp) ?_
  simp -implicitDefEqProofs only [go_sem, List.reduceReplicate, Nat.reduceEqDiff, Nat.reduceAdd, Nat.reduceLeDiff, Nat.reduceMul, Nat.reduceSub, Nat.reduceDiv, Int.reduceToNat, Nat.reduceLT, Int.reduceLT, Int.reduceLE, ↓reduceIte, reduceCtorEq, forall_apply_eq_imp_iff₂, ints, rows, rat, rats, toNat_cast, c_spec_l27Sign]
  have := Nat.mod_two_eq_zero_or_one k
  rw [tmod2, wrap64 (n := 2 * ((k % 2 : Nat) : Int)) (by omega) (by omega), wrap64 (by omega) (by omega)]
  exact ⟨by decide, rfl⟩

theorem spec_l27Det_ok : ∀ (n : Nat), n ≤ 4 → ∀ m, sq n m → Pure Try.prog 75 [rows m] (.i (detN n m)) := by
  intro n
  induction n with
  | zero =>
    intro _ m hm
    refine fun_spec_l27Det (by simp) ?_
    simp -implicitDefEqProofs only [go_sem, List.reduceReplicate, Nat.reduceEqDiff, Nat.reduceAdd, Nat.reduceLeDiff, Nat.reduceMul, Nat.reduceSub, Nat.reduceDiv, Int.reduceToNat, Nat.reduceLT, Int.reduceLT, Int.reduceLE, ↓reduceIte, reduceCtorEq, forall_apply_eq_imp_iff₂, ints, rows, rat, rats, toNat_cast, c_spec_l27Det]
    refine ⟨fun h => rfl, fun h => absurd hm.1 (by simpa using h)⟩
  | succ n ih =>
    intro hn m hm
    refine fun_spec_l27Det (by simp) ?_
    simp -implicitDefEqProofs only [go_sem, List.reduceReplicate, Nat.reduceEqDiff, Nat.reduceAdd, Nat.reduceLeDiff, Nat.reduceMul, Nat.reduceSub, Nat.reduceDiv, Int.reduceToNat, Nat.reduceLT, Int.reduceLT, Int.reduceLE, ↓reduceIte, reduceCtorEq, forall_apply_eq_imp_iff₂, ints, rows, rat, rats, toNat_cast, c_spec_l27Det]
    have hml : m.length = n + 1 := hm.1
    refine ⟨fun h => absurd h (by simp [hml]; omega), fun h => ?_⟩
    obtain ⟨r0, h0, e2, e3, _⟩ := head_small hm 0 (by omega)
    have hpart := fun k (hk : k ≤ n + 1) => part_abs hm (by omega) hk
    have hterm := fun k (hk : k < n + 1) x (hx : -20 ≤ x ∧ x ≤ 20) => term_abs hm (by omega) hk hx
    have hfin : detN (n + 1) m = sumTo (fun k => sg k * (m.headD []).getD k 0 * detN n (without m 0 k)) (n + 1) := rfl
    rw [hfin]
    rw [e2] at hpart ⊢
    generalize hS : (fun k => sg k * r0.getD k 0 * detN n (without m 0 k)) = f at hpart ⊢
    refine SemC.loopR (σ := Nat) (fun k => St.of [(0, .t (rows m)), (3, .t (.i (sumTo f k))), (4, .t (.i k))] []) (fun k => k ≤ n + 1) (fun k => n + 1 - k) 0 (Weak.of _ [] [] (by simp) (by simp) ?_ trivial) (by omega) fun k hk R hn' hr he => ?_
    · simp -implicitDefEqProofs only [ints, rows, Int.add_zero, envOK, maA, maT, upd_apply, Nat.reduceEqDiff, ↓reduceIte, and_true, true_or, or_true, List.map_cons, List.map_nil, Nat.zero_ne_one, and_self, true_and, Int.natCast_zero, Int.cast_ofNat_Int, Int.ofNat_zero, sumTo]
    · simp -implicitDefEqProofs only [go_sem, List.reduceReplicate, Nat.reduceEqDiff, Nat.reduceAdd, Nat.reduceLeDiff, Nat.reduceMul, Nat.reduceSub, Nat.reduceDiv, Int.reduceToNat, Nat.reduceLT, Int.reduceLT, Int.reduceLE, ↓reduceIte, reduceCtorEq, forall_apply_eq_imp_iff₂, ints, rows, rat, rats, toNat_cast]
      refine ⟨fun h => ?_, fun h => he _ _ ?_⟩
      · have hk1 : k < n + 1 := by omega
        obtain ⟨x, hx⟩ : ∃ x, r0[k]? = some x := ⟨_, List.getElem?_eq_getElem (by omega)⟩
        have hsx := (hm.2 r0 (List.mem_of_getElem? h0)).2 x (List.mem_of_getElem? hx)
        have hxd : r0.getD k 0 = x := by rw [List.getD_eq_getElem?_getD, hx]; rfl
        have ht := hterm k hk1 x hsx
        have hp1 := hpart k hk
        have hp2 := hpart (k + 1) hk1
        have hf : f k = sg k * x * detN n (without m 0 k) := by rw [← hS]; simp only [hxd]
        rw [sumTo, hf] at hp2
        have hs := sg_abs k
        refine CallV.pure (spec_l27Sign_ok k (by omega)) [] rfl Try.call98 (fun e R' hR => ?_) (by first | trivial | simp [T.noSh, T.noShL, rat]) (fun _ => rfl) ?_
        · simp -implicitDefEqProofs only [Int.natCast_zero, Int.cast_ofNat_Int, Int.natCast_one, Nat.le_refl, Nat.reduceLeDiff, Nat.sub_self, Nat.reduceSub, List.getElem?_cons_zero, List.getElem?_cons_succ, vt_self, vaL, vtL, va, vt, vb, maT, List.cons_append, List.nil_append, List.append_nil, true_or, or_true, go_sem, List.reduceReplicate, Nat.reduceEqDiff, Nat.reduceAdd, Nat.reduceLeDiff, Nat.reduceMul, Nat.reduceSub, Nat.reduceDiv, Int.reduceToNat, Nat.reduceLT, Int.reduceLT, Int.reduceLE, ↓reduceIte, reduceCtorEq, ints, rows, rat, rats, ratsO, toShL_ratC, List.mem_cons, List.mem_nil_iff, List.not_mem_nil, or_false, false_or, exists_eq_left, exists_eq_left', exists_eq_right', Root.live.injEq, eq_self_iff_true, exists_eq, and_true, T.toSh, toShL_ints, toShL_intsO, intsO, rowsO]
        simp -implicitDefEqProofs only [go_sem, List.reduceReplicate, Nat.reduceEqDiff, Nat.reduceAdd, Nat.reduceLeDiff, Nat.reduceMul, Nat.reduceSub, Nat.reduceDiv, Int.reduceToNat, Nat.reduceLT, Int.reduceLT, Int.reduceLE, ↓reduceIte, reduceCtorEq, forall_apply_eq_imp_iff₂, ints, rows, rat, rats, toNat_cast]
        refine ⟨by omega, by omega, fun r1 h1 => ?_⟩
        rw [h0] at h1; cases h1
        refine ⟨by omega, by omega, by omega, fun y hy => ?_⟩
        rw [hx] at hy; cases hy
        rw [wrap64 (n := sg k * x) (by rcases hs with h | h <;> rw [h] <;> omega) (by rcases hs with h | h <;> rw [h] <;> omega)]
        refine CallC.res (spec_l27Without_ok m 0 k (by omega) (fun y hy => by have := (hm.2 y hy).1; omega) (by omega)) [] rfl Try.call99 (fun e R' hR => ?_) (.inl rfl) ?_
        · simp -implicitDefEqProofs only [Int.natCast_zero, Int.cast_ofNat_Int, Int.natCast_one, Nat.le_refl, Nat.reduceLeDiff, Nat.sub_self, Nat.reduceSub, List.getElem?_cons_zero, List.getElem?_cons_succ, vt_self, vaL, vtL, va, vt, vb, maT, List.cons_append, List.nil_append, List.append_nil, true_or, or_true, go_sem, List.reduceReplicate, Nat.reduceEqDiff, Nat.reduceAdd, Nat.reduceLeDiff, Nat.reduceMul, Nat.reduceSub, Nat.reduceDiv, Int.reduceToNat, Nat.reduceLT, Int.reduceLT, Int.reduceLE, ↓reduceIte, reduceCtorEq, ints, rows, rat, rats, ratsO, toShL_ratC, List.mem_cons, List.mem_nil_iff, List.not_mem_nil, or_false, false_or, exists_eq_left, exists_eq_left', exists_eq_right', Root.live.injEq, eq_self_iff_true, exists_eq, and_true, T.toSh, toShL_ints, toShL_intsO, intsO, rowsO]
        simp -implicitDefEqProofs only [List.append_nil, List.cons_append, Nat.reduceLeDiff, afterCall, absT_rowsO, absT_intsO, absT, absL, updL, updS, freeAll, rid, T.noSh, T.noShL, Nat.zero_le, go_sem, List.reduceReplicate, Nat.reduceEqDiff, Nat.reduceAdd, Nat.reduceLeDiff, Nat.reduceMul, Nat.reduceSub, Nat.reduceDiv, Int.reduceToNat, Nat.reduceLT, Int.reduceLT, Int.reduceLE, ↓reduceIte, reduceCtorEq, rat, forall_apply_eq_imp_iff₂, toNat_cast]
        refine CallV.pure (ih (by omega) (without m 0 k) (sq_without hm (by omega) hk1)) [26] rfl Try.call75 (fun e R' hR => ?_) (by first | trivial | simp [T.noSh, T.noShL, rat]) (fun _ => rfl) ?_
        · have hq26 := (hR 26).resolve_left (by simp -implicitDefEqProofs only [go_sem, List.reduceReplicate, Nat.reduceEqDiff, Nat.reduceAdd, Nat.reduceLeDiff, Nat.reduceMul, Nat.reduceSub, Nat.reduceDiv, Int.reduceToNat, Nat.reduceLT, Int.reduceLT, Int.reduceLE, ↓reduceIte, reduceCtorEq, forall_apply_eq_imp_iff₂, ints, rows, rat, rats, toNat_cast, not_false_eq_true])
          simp -implicitDefEqProofs only [go_sem, List.reduceReplicate, Nat.reduceEqDiff, Nat.reduceAdd, Nat.reduceLeDiff, Nat.reduceMul, Nat.reduceSub, Nat.reduceDiv, Int.reduceToNat, Nat.reduceLT, Int.reduceLT, Int.reduceLE, ↓reduceIte, reduceCtorEq, forall_apply_eq_imp_iff₂, ints, rows, rat, rats, toNat_cast] at hq26
          simp -implicitDefEqProofs only [Int.natCast_zero, Int.cast_ofNat_Int, Int.natCast_one, Nat.le_refl, Nat.reduceLeDiff, Nat.sub_self, Nat.reduceSub, List.getElem?_cons_zero, List.getElem?_cons_succ, vt_self, vaL, vtL, va, vt, vb, maT, List.cons_append, List.nil_append, List.append_nil, true_or, or_true, go_sem, List.reduceReplicate, Nat.reduceEqDiff, Nat.reduceAdd, Nat.reduceLeDiff, Nat.reduceMul, Nat.reduceSub, Nat.reduceDiv, Int.reduceToNat, Nat.reduceLT, Int.reduceLT, Int.reduceLE, ↓reduceIte, reduceCtorEq, ints, rows, rat, rats, ratsO, toShL_ratC, List.mem_cons, List.mem_nil_iff, List.not_mem_nil, or_false, false_or, exists_eq_left, exists_eq_left', exists_eq_right', Root.live.injEq, eq_self_iff_true, exists_eq, and_true, T.toSh, toShL_ints, toShL_intsO, intsO, rowsO, hq26]
        simp -implicitDefEqProofs only [go_sem, List.reduceReplicate, Nat.reduceEqDiff, Nat.reduceAdd, Nat.reduceLeDiff, Nat.reduceMul, Nat.reduceSub, Nat.reduceDiv, Int.reduceToNat, Nat.reduceLT, Int.reduceLT, Int.reduceLE, ↓reduceIte, reduceCtorEq, forall_apply_eq_imp_iff₂, ints, rows, rat, rats, toNat_cast]
        have e1 : -76800000 ≤ sg k * x * detN n (without m 0 k) ∧ sg k * x * detN n (without m 0 k) ≤ 76800000 := by
          rcases hs with h | h <;> rw [h]
          · rw [Int.one_mul]; exact ht
          · rw [Int.neg_one_mul, Int.neg_mul]; omega
        rw [wrap64 (n := sg k * x * detN n (without m 0 k)) (by omega) (by omega)]
        refine hn' _ (k + 1) (Weak.of _ [] [] (by simp) (by simp) ?_ trivial) (by omega) (by omega)
        have w2 : IntKind.i64.wrap (sumTo f k + sg k * x * detN n (without m 0 k)) = sumTo f (k + 1) := by rw [wrap64 (by omega) (by omega), sumTo, hf]
        simp -implicitDefEqProofs only [ints, rows, Int.add_zero, envOK, maA, maT, upd_apply, Nat.reduceEqDiff, ↓reduceIte, and_true, true_or, or_true, List.map_cons, List.map_nil, Nat.zero_ne_one, and_self, true_and, Int.natCast_zero, Int.cast_ofNat_Int, Int.ofNat_zero, w2, next64 (by omega : k < n + 1) (by omega)]
      · simp -implicitDefEqProofs only [go_sem, List.reduceReplicate, Nat.reduceEqDiff, Nat.reduceAdd, Nat.reduceLeDiff, Nat.reduceMul, Nat.reduceSub, Nat.reduceDiv, Int.reduceToNat, Nat.reduceLT, Int.reduceLT, Int.reduceLE, ↓reduceIte, reduceCtorEq, forall_apply_eq_imp_iff₂, ints, rows, rat, rats, toNat_cast]
        have : k = n + 1 := by omega
        rw [this]
end Go.Ab

/- Contracts: adjugates. -/
set_option linter.unusedSimpArgs false
set_option linter.unusedVariables false
namespace Go.Ab
open Go.Proofs

/-- Rows that are filled one after the other: the first i are full, the next one holds cur. -/
def parts (full : Nat → List Int) (cur : List Int) (n i : Nat) : List (List Int) := (List.range n).map fun j => if j < i then full j else if j = i then cur else []
theorem parts_length (full : Nat → List Int) (cur : List Int) (n i : Nat) : (parts full cur n i).length = n := by simp [parts]
theorem parts_get {full : Nat → List Int} {cur : List Int} {n i : Nat} (h : i < n) : (parts full cur n i)[i]? = some cur := by simp [parts, h]
theorem parts_set {full : Nat → List Int} {cur : List Int} {n i : Nat} (cur' : List Int) (h : i < n) : (parts full cur n i).set i cur' = parts full cur' n i := by
  refine List.ext_getElem? fun j => ?_
  rw [List.getElem?_set]
  by_cases hj : i = j
  · subst hj
    rw [if_pos rfl, if_pos (by rw [parts_length]; exact h), parts_get h]
  · rw [if_neg hj]
    simp only [parts, List.getElem?_map]
    by_cases hjn : j < n
    · rw [List.getElem?_range hjn]; simp only [Option.map_some, if_neg (Ne.symm hj)]
    · rw [List.getElem?_eq_none (by simpa using hjn)]; rfl
theorem parts_zero (full : Nat → List Int) (n : Nat) : parts full [] n 0 = List.replicate n [] := by
  refine List.ext_getElem? fun j => ?_
  simp only [parts, List.getElem?_map, List.getElem?_replicate]
  by_cases hjn : j < n
  · rw [List.getElem?_range hjn, if_pos hjn]; simp
  · rw [List.getElem?_eq_none (by simpa using hjn), if_neg hjn]; rfl
theorem parts_next {full : Nat → List Int} {cur : List Int} {n i : Nat} (h : full i = cur) : parts full cur n i = parts full [] n (i + 1) := by
  refine List.map_congr_left fun j _ => ?_
  by_cases h1 : j < i
  · rw [if_pos h1, if_pos (by omega)]
  · by_cases h2 : j = i
    · subst h2; rw [if_neg h1, if_pos rfl, if_pos (by omega), h]
    · rw [if_neg h1, if_neg h2, if_neg (by omega)]
      split <;> rfl
theorem parts_all (full : Nat → List Int) (cur : List Int) (n : Nat) : parts full cur n n = (List.range n).map full := by
  refine List.map_congr_left fun j hj => ?_
  rw [if_pos (by simpa using hj)]

def adjRow (n : Nat) (m : List (List Int)) (i k : Nat) : List Int := (List.range k).map fun j => sg (i + j) * detN (n - 1) (without m j i)
def adjM (n : Nat) (m : List (List Int)) : List (List Int) := (List.range n).map fun i => adjRow n m i n
theorem adjRow_succ (n : Nat) (m : List (List Int)) (i k : Nat) : adjRow n m i (k + 1) = adjRow n m i k ++ [sg (i + k) * detN (n - 1) (without m k i)] := by
  simp only [adjRow, List.range_succ, List.map_append, List.map_cons, List.map_nil]
theorem adjRow_zero (n : Nat) (m : List (List Int)) (i : Nat) : adjRow n m i 0 = [] := rfl
theorem adjRow_length (n : Nat) (m : List (List Int)) (i k : Nat) : (adjRow n m i k).length = k := by simp [adjRow]
theorem minor_abs {n : Nat} {m : List (List Int)} (h : sq n m) (hn : n ≤ 4) {i k : Nat} (hi : i < n) (hk : k < n) : sq (n - 1) (without m k i) ∧ -3840000 ≤ detN (n - 1) (without m k i) ∧ detN (n - 1) (without m k i) ≤ 3840000 := by
  obtain ⟨p, rfl⟩ : ∃ p, n = p + 1 := ⟨n - 1, by omega⟩
  have h1 := sq_without h hk hi
  have h2 := detN_abs h1
  have h3 := detB_le (n := p) (by omega)
  exact ⟨h1, by simp only [Nat.add_sub_cancel]; omega, by simp only [Nat.add_sub_cancel]; omega⟩

theorem impl_adjugate_ok (n : Nat) (hn : n ≤ 4) (m : List (List Int)) (hm : sq n m) : Fun Try.prog 78 [] [.t (rows m)] fun o r => o = [] ∧ r = rowsO (adjM n m) := by
  refine fun_impl_adjugate (by simp) ?_
  simp -implicitDefEqProofs only [go_sem, List.reduceReplicate, Nat.reduceEqDiff, Nat.reduceAdd, Nat.reduceLeDiff, Nat.reduceMul, Nat.reduceSub, Nat.reduceDiv, Int.reduceToNat, Nat.reduceLT, Int.reduceLT, Int.reduceLE, ↓reduceIte, reduceCtorEq, forall_apply_eq_imp_iff₂, ints, rows, rat, rats, toNat_cast, c_impl_adjugate]
  have hml : m.length = n := hm.1
  rw [hml]
  refine ⟨by omega, by omega, ?_⟩
  have hfull : ∀ i, (fun i => adjRow n m i n) i = adjRow n m i n := fun _ => rfl
  refine SemC.loopR (σ := Nat) (fun i => St.of [(0, .t (rows m)), (3, .own 9), (11, .t (.i n)), (12, .t (.i i))] [(9, .arr 1 ((parts (fun i => adjRow n m i n) [] n i).map intsO))]) (fun i => i ≤ n) (fun i => n - i) 0 (Weak.of _ _ [some 9] (by simp) (by simp) ?_ ?_) (by simp) fun i hi R hn' hr' he => ?_
  · simp -implicitDefEqProofs only [ints, rows, Nat.reduceBEq, Int.add_zero, envOK, maA, maT, upd_apply, Nat.reduceEqDiff, ↓reduceIte, and_true, true_or, or_true, List.map_cons, List.map_nil, Nat.zero_ne_one, and_self, true_and, Int.natCast_zero, Int.cast_ofNat_Int, Int.ofNat_zero, piOf, List.zip_cons_cons, List.zip_nil_right, List.lookup_cons, List.lookup_nil, beq_self_eq_true, rootsOK, mkRoots, mkEnv]
  · exact ⟨⟨_, rfl, by rw [made_one, parts_zero]; exact le_nils _⟩, rfl, trivial⟩
  · simp -implicitDefEqProofs only [go_sem, List.reduceReplicate, Nat.reduceEqDiff, Nat.reduceAdd, Nat.reduceLeDiff, Nat.reduceMul, Nat.reduceSub, Nat.reduceDiv, Int.reduceToNat, Nat.reduceLT, Int.reduceLT, Int.reduceLE, ↓reduceIte, reduceCtorEq, forall_apply_eq_imp_iff₂, ints, rows, rat, rats, toNat_cast]
    refine ⟨fun h => ?_, fun h => he _ _ ?_⟩
    · rw [hml]
      refine SemC.loopR (σ := Nat) (fun k => St.of [(0, .t (rows m)), (3, .own 9), (4, .t (.i i)), (11, .t (.i n)), (12, .t (.i i)), (16, .t (.i n)), (17, .t (.i k))] [(9, .arr 1 ((parts (fun i => adjRow n m i n) (adjRow n m i k) n i).map intsO))]) (fun k => k ≤ n) (fun k => n - k) 0 (Weak.of _ _ [some 9] (by simp) (by simp) ?_ ?_) (by simp) fun k hk R2 hn2 hr2 he2 => ?_
      · simp -implicitDefEqProofs only [ints, rows, Nat.reduceBEq, Int.add_zero, envOK, maA, maT, upd_apply, Nat.reduceEqDiff, ↓reduceIte, and_true, true_or, or_true, List.map_cons, List.map_nil, Nat.zero_ne_one, and_self, true_and, Int.natCast_zero, Int.cast_ofNat_Int, Int.ofNat_zero, piOf, List.zip_cons_cons, List.zip_nil_right, List.lookup_cons, List.lookup_nil, beq_self_eq_true, rootsOK, mkRoots, mkEnv]
      · exact ⟨⟨_, rfl, by rw [adjRow_zero]; exact .refl _⟩, rfl, trivial⟩
      · have hin : i < n := by omega
        have hlen := parts_length (fun i => adjRow n m i n) (adjRow n m i k) n i
        simp -implicitDefEqProofs only [go_sem, List.reduceReplicate, Nat.reduceEqDiff, Nat.reduceAdd, Nat.reduceLeDiff, Nat.reduceMul, Nat.reduceSub, Nat.reduceDiv, Int.reduceToNat, Nat.reduceLT, Int.reduceLT, Int.reduceLE, ↓reduceIte, reduceCtorEq, forall_apply_eq_imp_iff₂, ints, rows, rat, rats, toNat_cast, hlen, intsO]
        refine ⟨fun h1 => ?_, fun h1 => he2 _ _ ?_⟩
        · have hkn : k < n := by omega
          obtain ⟨q1, q2, q3⟩ := minor_abs hm hn hin hkn
          refine CallW.res (impl_without_ok m k i (by omega) (fun y hy => by have := (hm.2 y hy).1; omega) (by omega)) [] rfl Try.call100 ?_ (.inl rfl) ?_
          · simp -implicitDefEqProofs only [Int.natCast_zero, Int.cast_ofNat_Int, Int.natCast_one, Nat.le_refl, Nat.reduceLeDiff, Nat.sub_self, Nat.reduceSub, List.getElem?_cons_zero, List.getElem?_cons_succ, vt_self, vaL, vtL, va, vt, vb, maT, List.cons_append, List.nil_append, List.append_nil, true_or, or_true, go_sem, List.reduceReplicate, Nat.reduceEqDiff, Nat.reduceAdd, Nat.reduceLeDiff, Nat.reduceMul, Nat.reduceSub, Nat.reduceDiv, Int.reduceToNat, Nat.reduceLT, Int.reduceLT, Int.reduceLE, ↓reduceIte, reduceCtorEq, ints, rows, rat, rats, ratsO, toShL_ratC, List.mem_cons, List.mem_nil_iff, List.not_mem_nil, or_false, false_or, exists_eq_left, exists_eq_left', exists_eq_right', Root.live.injEq, eq_self_iff_true, exists_eq, and_true, T.toSh, toShL_ints, toShL_intsO, intsO, rowsO]
          simp -implicitDefEqProofs only [List.append_nil, List.cons_append, Nat.reduceLeDiff, afterCall, absT_rowsO, absT_intsO, absT, absL, updL, updS, freeAll, rid, T.noSh, T.noShL, Nat.zero_le, go_sem, List.reduceReplicate, Nat.reduceEqDiff, Nat.reduceAdd, Nat.reduceLeDiff, Nat.reduceMul, Nat.reduceSub, Nat.reduceDiv, Int.reduceToNat, Nat.reduceLT, Int.reduceLT, Int.reduceLE, ↓reduceIte, reduceCtorEq, rat, forall_apply_eq_imp_iff₂, toNat_cast]
          refine CallW.pure (impl_determinant_ok (n - 1) (by omega) (without m k i) q1) [23] rfl Try.call76 ?_ (by first | trivial | simp [T.noSh, T.noShL, rat]) rfl ?_
          · simp -implicitDefEqProofs only [Int.natCast_zero, Int.cast_ofNat_Int, Int.natCast_one, Nat.le_refl, Nat.reduceLeDiff, Nat.sub_self, Nat.reduceSub, List.getElem?_cons_zero, List.getElem?_cons_succ, vt_self, vaL, vtL, va, vt, vb, maT, List.cons_append, List.nil_append, List.append_nil, true_or, or_true, go_sem, List.reduceReplicate, Nat.reduceEqDiff, Nat.reduceAdd, Nat.reduceLeDiff, Nat.reduceMul, Nat.reduceSub, Nat.reduceDiv, Int.reduceToNat, Nat.reduceLT, Int.reduceLT, Int.reduceLE, ↓reduceIte, reduceCtorEq, ints, rows, rat, rats, ratsO, toShL_ratC, List.mem_cons, List.mem_nil_iff, List.not_mem_nil, or_false, false_or, exists_eq_left, exists_eq_left', exists_eq_right', Root.live.injEq, eq_self_iff_true, exists_eq, and_true, T.toSh, toShL_ints, toShL_intsO, intsO, rowsO]
          simp -implicitDefEqProofs only [go_sem, List.reduceReplicate, Nat.reduceEqDiff, Nat.reduceAdd, Nat.reduceLeDiff, Nat.reduceMul, Nat.reduceSub, Nat.reduceDiv, Int.reduceToNat, Nat.reduceLT, Int.reduceLT, Int.reduceLE, ↓reduceIte, reduceCtorEq, forall_apply_eq_imp_iff₂, ints, rows, rat, rats, toNat_cast, intsO, hlen]
          have hw : IntKind.i64.wrap ((i : Int) + (k : Int)) = ((i + k : Nat) : Int) := by rw [wrap64 (by omega) (by omega)]; rfl
          rw [hw, tmod2]
          have hs1 : (i + k) % 2 = 1 → sg (i + k) = -1 := fun h => by simp [sg, h]
          have hs0 : (i + k) % 2 = 0 → sg (i + k) = 1 := fun h => by simp [sg, h]
          refine ⟨by decide, fun h2 => ⟨by omega, by omega, by omega, fun q hq => ?_⟩, fun h2 => ⟨by omega, by omega, by omega, fun q hq => ?_⟩⟩
          · have hodd : (i + k) % 2 = 1 := by simp at h2; omega
            rw [parts_get hin] at hq; cases hq
            have hw1 : IntKind.i64.wrap (0 - detN (n - 1) (without m k i)) = sg (i + k) * detN (n - 1) (without m k i) := by rw [wrap64 (by omega) (by omega), hs1 hodd, Int.neg_one_mul]; omega
            refine ⟨by simp only [List.length_map, adjRow_length]; omega, by omega, by omega, by omega, hn2 _ (k + 1) (Weak.of _ _ [some 9] (by simp) (by simp) ?_ ?_) (by omega) (by omega)⟩
            · simp -implicitDefEqProofs only [ints, rows, Nat.reduceBEq, Int.add_zero, envOK, maA, maT, upd_apply, Nat.reduceEqDiff, ↓reduceIte, and_true, true_or, or_true, List.map_cons, List.map_nil, Nat.zero_ne_one, and_self, true_and, Int.natCast_zero, Int.cast_ofNat_Int, Int.ofNat_zero, piOf, List.zip_cons_cons, List.zip_nil_right, List.lookup_cons, List.lookup_nil, beq_self_eq_true, rootsOK, mkRoots, mkEnv, next64 (by omega : k < n) (by omega)]
            · refine ⟨⟨_, rfl, ?_⟩, rfl, trivial⟩
              rw [← parts_set (adjRow n m i (k + 1)) hin, adjRow_succ, hw1]
              simp only [List.map_append, List.map_cons, List.map_nil, intsO, List.map_set]
              exact .refl _
          · have hev : (i + k) % 2 = 0 := by simp at h2; omega
            rw [parts_get hin] at hq; cases hq
            have hw1 : detN (n - 1) (without m k i) = sg (i + k) * detN (n - 1) (without m k i) := by rw [hs0 hev, Int.one_mul]
            refine ⟨by simp only [List.length_map, adjRow_length]; omega, by omega, by omega, by omega, hn2 _ (k + 1) (Weak.of _ _ [some 9] (by simp) (by simp) ?_ ?_) (by omega) (by omega)⟩
            · simp -implicitDefEqProofs only [ints, rows, Nat.reduceBEq, Int.add_zero, envOK, maA, maT, upd_apply, Nat.reduceEqDiff, ↓reduceIte, and_true, true_or, or_true, List.map_cons, List.map_nil, Nat.zero_ne_one, and_self, true_and, Int.natCast_zero, Int.cast_ofNat_Int, Int.ofNat_zero, piOf, List.zip_cons_cons, List.zip_nil_right, List.lookup_cons, List.lookup_nil, beq_self_eq_true, rootsOK, mkRoots, mkEnv, next64 (by omega : k < n) (by omega)]
            · refine ⟨⟨_, rfl, ?_⟩, rfl, trivial⟩
              rw [← parts_set (adjRow n m i (k + 1)) hin, adjRow_succ, ← hw1]
              simp only [List.map_append, List.map_cons, List.map_nil, intsO, List.map_set]
              exact .refl _
        · simp -implicitDefEqProofs only [go_sem, List.reduceReplicate, Nat.reduceEqDiff, Nat.reduceAdd, Nat.reduceLeDiff, Nat.reduceMul, Nat.reduceSub, Nat.reduceDiv, Int.reduceToNat, Nat.reduceLT, Int.reduceLT, Int.reduceLE, ↓reduceIte, reduceCtorEq, forall_apply_eq_imp_iff₂, ints, rows, rat, rats, toNat_cast]
          have : k = n := by omega
          refine hn' _ (i + 1) (Weak.of _ _ [some 9] (by simp) (by simp) ?_ ?_) (by omega) (by omega)
          · simp -implicitDefEqProofs only [ints, rows, Nat.reduceBEq, Int.add_zero, envOK, maA, maT, upd_apply, Nat.reduceEqDiff, ↓reduceIte, and_true, true_or, or_true, List.map_cons, List.map_nil, Nat.zero_ne_one, and_self, true_and, Int.natCast_zero, Int.cast_ofNat_Int, Int.ofNat_zero, piOf, List.zip_cons_cons, List.zip_nil_right, List.lookup_cons, List.lookup_nil, beq_self_eq_true, rootsOK, mkRoots, mkEnv, next64 (by omega : i < n) (by omega)]
          · exact ⟨⟨_, rfl, by rw [parts_next (by rw [this])]; exact .refl _⟩, rfl, trivial⟩
    · simp -implicitDefEqProofs only [go_sem, List.reduceReplicate, Nat.reduceEqDiff, Nat.reduceAdd, Nat.reduceLeDiff, Nat.reduceMul, Nat.reduceSub, Nat.reduceDiv, Int.reduceToNat, Nat.reduceLT, Int.reduceLT, Int.reduceLE, ↓reduceIte, reduceCtorEq, forall_apply_eq_imp_iff₂, ints, rows, rat, rats, toNat_cast]
      have : i = n := by omega
      rw [this, parts_all]; rfl

theorem adjM_succ (n : Nat) (m : List (List Int)) (k : Nat) : (List.range (k + 1)).map (fun i => adjRow n m i n) = (List.range k).map (fun i => adjRow n m i n) ++ [adjRow n m k n] := by
  rw [List.range_succ, List.map_append]; rfl
theorem spec_l27Adj_ok (n : Nat) (hn : n ≤ 4) (m : List (List Int)) (hm : sq n m) : Fun Try.prog 77 [] [.t (rows m)] fun o r => o = [] ∧ r = rowsO (adjM n m) := by
  refine fun_spec_l27Adj (by simp) ?_
  simp -implicitDefEqProofs only [go_sem, List.reduceReplicate, Nat.reduceEqDiff, Nat.reduceAdd, Nat.reduceLeDiff, Nat.reduceMul, Nat.reduceSub, Nat.reduceDiv, Int.reduceToNat, Nat.reduceLT, Int.reduceLT, Int.reduceLE, ↓reduceIte, reduceCtorEq, forall_apply_eq_imp_iff₂, ints, rows, rat, rats, toNat_cast, c_spec_l27Adj]
  have hml : m.length = n := hm.1
  refine SemC.loopR (σ := Nat) (fun i => St.of [(0, .t (rows m)), (3, .own 77), (4, .t (.i i))] [(77, .arr 1 (((List.range i).map fun i => adjRow n m i n).map intsO))]) (fun i => i ≤ n) (fun i => n - i) 0 (Weak.of _ _ [some 7] (by simp) (by simp) ?_ ?_) (by simp) fun i hi R hn' hr' he => ?_
  · simp -implicitDefEqProofs only [ints, rows, Nat.reduceBEq, Int.add_zero, envOK, maA, maT, upd_apply, Nat.reduceEqDiff, ↓reduceIte, and_true, true_or, or_true, List.map_cons, List.map_nil, Nat.zero_ne_one, and_self, true_and, Int.natCast_zero, Int.cast_ofNat_Int, Int.ofNat_zero, piOf, List.zip_cons_cons, List.zip_nil_right, List.lookup_cons, List.lookup_nil, beq_self_eq_true, rootsOK, mkRoots, mkEnv]
  · exact ⟨⟨_, rfl, .refl _⟩, rfl, trivial⟩
  · simp -implicitDefEqProofs only [go_sem, List.reduceReplicate, Nat.reduceEqDiff, Nat.reduceAdd, Nat.reduceLeDiff, Nat.reduceMul, Nat.reduceSub, Nat.reduceDiv, Int.reduceToNat, Nat.reduceLT, Int.reduceLT, Int.reduceLE, ↓reduceIte, reduceCtorEq, forall_apply_eq_imp_iff₂, ints, rows, rat, rats, toNat_cast, hml]
    refine ⟨fun h => ?_, fun h => he _ _ ?_⟩
    · have hin : i < n := by omega
      refine SemC.loopR (σ := Nat) (fun k => St.of [(0, .t (rows m)), (3, .own 77), (4, .t (.i i)), (5, .own 78), (6, .t (.i k))] [(77, .arr 1 (((List.range i).map fun i => adjRow n m i n).map intsO)), (78, .arr 1 ((adjRow n m i k).map T.i))]) (fun k => k ≤ n) (fun k => n - k) 0 (Weak.of _ _ [some 77, some 14] (by simp) (by simp) ?_ ?_) (by simp) fun k hk R2 hn2 hr2 he2 => ?_
      · simp -implicitDefEqProofs only [ints, rows, Nat.reduceBEq, Int.add_zero, envOK, maA, maT, upd_apply, Nat.reduceEqDiff, ↓reduceIte, and_true, true_or, or_true, List.map_cons, List.map_nil, Nat.zero_ne_one, and_self, true_and, Int.natCast_zero, Int.cast_ofNat_Int, Int.ofNat_zero, piOf, List.zip_cons_cons, List.zip_nil_right, List.lookup_cons, List.lookup_nil, beq_self_eq_true, rootsOK, mkRoots, mkEnv]
      · exact ⟨⟨_, rfl, .refl _⟩, rfl, ⟨_, rfl, .refl _⟩, rfl, trivial⟩
      · simp -implicitDefEqProofs only [go_sem, List.reduceReplicate, Nat.reduceEqDiff, Nat.reduceAdd, Nat.reduceLeDiff, Nat.reduceMul, Nat.reduceSub, Nat.reduceDiv, Int.reduceToNat, Nat.reduceLT, Int.reduceLT, Int.reduceLE, ↓reduceIte, reduceCtorEq, forall_apply_eq_imp_iff₂, ints, rows, rat, rats, toNat_cast, hml]
        refine ⟨fun h1 => ?_, fun h1 => he2 _ _ ?_⟩
        · have hkn : k < n := by omega
          obtain ⟨q1, q2, q3⟩ := minor_abs hm hn hin hkn
          have hw : IntKind.i64.wrap ((i : Int) + (k : Int)) = ((i + k : Nat) : Int) := by rw [wrap64 (by omega) (by omega)]; rfl
          rw [hw]
          refine CallW.pure (spec_l27Sign_ok (i + k) (by omega)) [] rfl Try.call98 ?_ (by first | trivial | simp [T.noSh, T.noShL, rat]) rfl ?_
          · simp -implicitDefEqProofs only [Int.natCast_zero, Int.cast_ofNat_Int, Int.natCast_one, Nat.le_refl, Nat.reduceLeDiff, Nat.sub_self, Nat.reduceSub, List.getElem?_cons_zero, List.getElem?_cons_succ, vt_self, vaL, vtL, va, vt, vb, maT, List.cons_append, List.nil_append, List.append_nil, true_or, or_true, go_sem, List.reduceReplicate, Nat.reduceEqDiff, Nat.reduceAdd, Nat.reduceLeDiff, Nat.reduceMul, Nat.reduceSub, Nat.reduceDiv, Int.reduceToNat, Nat.reduceLT, Int.reduceLT, Int.reduceLE, ↓reduceIte, reduceCtorEq, ints, rows, rat, rats, ratsO, toShL_ratC, List.mem_cons, List.mem_nil_iff, List.not_mem_nil, or_false, false_or, exists_eq_left, exists_eq_left', exists_eq_right', Root.live.injEq, eq_self_iff_true, exists_eq, and_true, T.toSh, toShL_ints, toShL_intsO, intsO, rowsO]
          simp -implicitDefEqProofs only [go_sem, List.reduceReplicate, Nat.reduceEqDiff, Nat.reduceAdd, Nat.reduceLeDiff, Nat.reduceMul, Nat.reduceSub, Nat.reduceDiv, Int.reduceToNat, Nat.reduceLT, Int.reduceLT, Int.reduceLE, ↓reduceIte, reduceCtorEq, forall_apply_eq_imp_iff₂, ints, rows, rat, rats, toNat_cast]
          refine CallW.res (spec_l27Without_ok m k i (by omega) (fun y hy => by have := (hm.2 y hy).1; omega) (by omega)) [] rfl Try.call99 ?_ (.inl rfl) ?_
          · simp -implicitDefEqProofs only [Int.natCast_zero, Int.cast_ofNat_Int, Int.natCast_one, Nat.le_refl, Nat.reduceLeDiff, Nat.sub_self, Nat.reduceSub, List.getElem?_cons_zero, List.getElem?_cons_succ, vt_self, vaL, vtL, va, vt, vb, maT, List.cons_append, List.nil_append, List.append_nil, true_or, or_true, go_sem, List.reduceReplicate, Nat.reduceEqDiff, Nat.reduceAdd, Nat.reduceLeDiff, Nat.reduceMul, Nat.reduceSub, Nat.reduceDiv, Int.reduceToNat, Nat.reduceLT, Int.reduceLT, Int.reduceLE, ↓reduceIte, reduceCtorEq, ints, rows, rat, rats, ratsO, toShL_ratC, List.mem_cons, List.mem_nil_iff, List.not_mem_nil, or_false, false_or, exists_eq_left, exists_eq_left', exists_eq_right', Root.live.injEq, eq_self_iff_true, exists_eq, and_true, T.toSh, toShL_ints, toShL_intsO, intsO, rowsO]
          simp -implicitDefEqProofs only [List.append_nil, List.cons_append, Nat.reduceLeDiff, afterCall, absT_rowsO, absT_intsO, absT, absL, updL, updS, freeAll, rid, T.noSh, T.noShL, Nat.zero_le, go_sem, List.reduceReplicate, Nat.reduceEqDiff, Nat.reduceAdd, Nat.reduceLeDiff, Nat.reduceMul, Nat.reduceSub, Nat.reduceDiv, Int.reduceToNat, Nat.reduceLT, Int.reduceLT, Int.reduceLE, ↓reduceIte, reduceCtorEq, rat, forall_apply_eq_imp_iff₂, toNat_cast]
          refine CallW.pure (spec_l27Det_ok (n - 1) (by omega) (without m k i) q1) [29] rfl Try.call75 ?_ (by first | trivial | simp [T.noSh, T.noShL, rat]) rfl ?_
          · simp -implicitDefEqProofs only [Int.natCast_zero, Int.cast_ofNat_Int, Int.natCast_one, Nat.le_refl, Nat.reduceLeDiff, Nat.sub_self, Nat.reduceSub, List.getElem?_cons_zero, List.getElem?_cons_succ, vt_self, vaL, vtL, va, vt, vb, maT, List.cons_append, List.nil_append, List.append_nil, true_or, or_true, go_sem, List.reduceReplicate, Nat.reduceEqDiff, Nat.reduceAdd, Nat.reduceLeDiff, Nat.reduceMul, Nat.reduceSub, Nat.reduceDiv, Int.reduceToNat, Nat.reduceLT, Int.reduceLT, Int.reduceLE, ↓reduceIte, reduceCtorEq, ints, rows, rat, rats, ratsO, toShL_ratC, List.mem_cons, List.mem_nil_iff, List.not_mem_nil, or_false, false_or, exists_eq_left, exists_eq_left', exists_eq_right', Root.live.injEq, eq_self_iff_true, exists_eq, and_true, T.toSh, toShL_ints, toShL_intsO, intsO, rowsO]
          simp -implicitDefEqProofs only [go_sem, List.reduceReplicate, Nat.reduceEqDiff, Nat.reduceAdd, Nat.reduceLeDiff, Nat.reduceMul, Nat.reduceSub, Nat.reduceDiv, Int.reduceToNat, Nat.reduceLT, Int.reduceLT, Int.reduceLE, ↓reduceIte, reduceCtorEq, forall_apply_eq_imp_iff₂, ints, rows, rat, rats, toNat_cast]
          have hs := sg_abs (i + k)
          have hw1 : IntKind.i64.wrap (sg (i + k) * detN (n - 1) (without m k i)) = sg (i + k) * detN (n - 1) (without m k i) := wrap64 (by rcases hs with h | h <;> rw [h] <;> omega) (by rcases hs with h | h <;> rw [h] <;> omega)
          have hal := adjRow_length n m i k
          refine ⟨by omega, hn2 _ (k + 1) (Weak.of _ _ [some 77, some 33] (by simp) (by simp) ?_ ?_) (by omega) (by omega)⟩
          · simp -implicitDefEqProofs only [ints, rows, Nat.reduceBEq, Int.add_zero, envOK, maA, maT, upd_apply, Nat.reduceEqDiff, ↓reduceIte, and_true, true_or, or_true, List.map_cons, List.map_nil, Nat.zero_ne_one, and_self, true_and, Int.natCast_zero, Int.cast_ofNat_Int, Int.ofNat_zero, piOf, List.zip_cons_cons, List.zip_nil_right, List.lookup_cons, List.lookup_nil, beq_self_eq_true, rootsOK, mkRoots, mkEnv, next64 (by omega : k < n) (by omega)]
          · refine ⟨⟨_, rfl, .refl _⟩, rfl, ⟨_, rfl, ?_⟩, rfl, trivial⟩
            rw [adjRow_succ, hw1]
            simp only [List.map_append, List.map_cons, List.map_nil]
            exact .refl _
        · simp -implicitDefEqProofs only [go_sem, List.reduceReplicate, Nat.reduceEqDiff, Nat.reduceAdd, Nat.reduceLeDiff, Nat.reduceMul, Nat.reduceSub, Nat.reduceDiv, Int.reduceToNat, Nat.reduceLT, Int.reduceLT, Int.reduceLE, ↓reduceIte, reduceCtorEq, forall_apply_eq_imp_iff₂, ints, rows, rat, rats, toNat_cast]
          have hkn : k = n := by omega
          have hal : ((List.range i).map fun i => adjRow n m i n).length = i := by simp
          refine ⟨by simp only [List.length_map, List.length_range]; omega, hn' _ (i + 1) (Weak.of _ _ [some 37] (by simp) (by simp) ?_ ?_) (by omega) (by omega)⟩
          · simp -implicitDefEqProofs only [ints, rows, Nat.reduceBEq, Int.add_zero, envOK, maA, maT, upd_apply, Nat.reduceEqDiff, ↓reduceIte, and_true, true_or, or_true, List.map_cons, List.map_nil, Nat.zero_ne_one, and_self, true_and, Int.natCast_zero, Int.cast_ofNat_Int, Int.ofNat_zero, piOf, List.zip_cons_cons, List.zip_nil_right, List.lookup_cons, List.lookup_nil, beq_self_eq_true, rootsOK, mkRoots, mkEnv, next64 (by omega : i < n) (by omega)]
          · refine ⟨⟨_, rfl, ?_⟩, rfl, trivial⟩
            rw [adjM_succ, hkn]
            simp only [List.map_append, List.map_cons, List.map_nil]
            exact .refl _
    · simp -implicitDefEqProofs only [go_sem, List.reduceReplicate, Nat.reduceEqDiff, Nat.reduceAdd, Nat.reduceLeDiff, Nat.reduceMul, Nat.reduceSub, Nat.reduceDiv, Int.reduceToNat, Nat.reduceLT, Int.reduceLT, Int.reduceLE, ↓reduceIte, reduceCtorEq, forall_apply_eq_imp_iff₂, ints, rows, rat, rats, toNat_cast]
      have : i = n := by omega
      rw [this]; rfl
end Go.Ab

/- Contracts: Determinant and Adjugate; the law FnExactDeterminant. -/
set_option linter.unusedSimpArgs false
set_option linter.unusedVariables false
namespace Go.Ab
open Go.Proofs

theorem sq_of_isMat {m : List (List Int)} (h : isMat m = true) (h' : m.length = (m.headD []).length) : m.length ≤ 4 ∧ sq m.length m := by
  obtain ⟨h1, h2, h3, h4, h5, h6⟩ := isMat_spec h
  exact ⟨h2, rfl, fun r hr => ⟨by rw [h', h5 r hr], h6 r hr⟩⟩
theorem headD_get {m : List (List Int)} {r : List Int} (h : m[0]? = some r) : m.headD [] = r := by
  cases m with
  | nil => simp at h
  | cons a m => simpa using h
/-- The code of a matrix that has to be square. -/
def sqCode (m : List (List Int)) : Int := if isMat m then (if m.length = (m.headD []).length then 0 else 5) else 1
theorem sqCode_zero {m : List (List Int)} (h : sqCode m = 0) : m.length ≤ 4 ∧ sq m.length m := by
  unfold sqCode at h
  split at h
  · rename_i h1
    split at h
    · rename_i h2; exact sq_of_isMat h1 h2
    · omega
  · omega
theorem spec_l27Square_ok (m : List (List Int)) : Pure Try.prog 74 [rows m] (.i (sqCode m)) := by
  refine fun_spec_l27Square (by simp) ?_
  simp -implicitDefEqProofs only [go_sem, List.reduceReplicate, Nat.reduceEqDiff, Nat.reduceAdd, Nat.reduceLeDiff, Nat.reduceMul, Nat.reduceSub, Nat.reduceDiv, Int.reduceToNat, Nat.reduceLT, Int.reduceLT, Int.reduceLE, ↓reduceIte, reduceCtorEq, forall_apply_eq_imp_iff₂, ints, rows, rat, rats, toNat_cast, c_spec_l27Square]
  refine CallW.pure (spec_IsMatrix_ok m) [] rfl Try.call16 ?_ (by first | trivial | simp [T.noSh, T.noShL, rat]) rfl ?_
  · simp -implicitDefEqProofs only [Int.natCast_zero, Int.cast_ofNat_Int, Int.natCast_one, Nat.le_refl, Nat.reduceLeDiff, Nat.sub_self, Nat.reduceSub, List.getElem?_cons_zero, List.getElem?_cons_succ, vt_self, vaL, vtL, va, vt, vb, maT, List.cons_append, List.nil_append, List.append_nil, true_or, or_true, go_sem, List.reduceReplicate, Nat.reduceEqDiff, Nat.reduceAdd, Nat.reduceLeDiff, Nat.reduceMul, Nat.reduceSub, Nat.reduceDiv, Int.reduceToNat, Nat.reduceLT, Int.reduceLT, Int.reduceLE, ↓reduceIte, reduceCtorEq, ints, rows, rat, rats, ratsO, toShL_ratC, List.mem_cons, List.mem_nil_iff, List.not_mem_nil, or_false, false_or, exists_eq_left, exists_eq_left', exists_eq_right', Root.live.injEq, eq_self_iff_true, exists_eq, and_true, T.toSh, toShL_ints, toShL_intsO, intsO, rowsO]
  simp -implicitDefEqProofs only [go_sem, List.reduceReplicate, Nat.reduceEqDiff, Nat.reduceAdd, Nat.reduceLeDiff, Nat.reduceMul, Nat.reduceSub, Nat.reduceDiv, Int.reduceToNat, Nat.reduceLT, Int.reduceLT, Int.reduceLE, ↓reduceIte, reduceCtorEq, forall_apply_eq_imp_iff₂, ints, rows, rat, rats, toNat_cast]
  refine ⟨fun h => ?_, fun h => ?_⟩
  · have h' : isMat m = false := by simpa using h
    rw [sqCode, h']; rfl
  · have hmat : isMat m = true := by simpa using h
    obtain ⟨h1, _⟩ := isMat_spec hmat
    refine ⟨by omega, by omega, fun r0 h0 => ?_⟩
    rw [sqCode, if_pos hmat, headD_get h0]
    refine ⟨fun h => ?_, fun h => ?_⟩
    · rw [if_neg (by simp at h; omega)]
    · rw [if_pos (by simp at h; omega)]
def detRes (m : List (List Int)) : Int × Int := if sqCode m = 0 then (detN m.length m, 0) else (0, sqCode m)
def detT (m : List (List Int)) : T := .tup [.i (detRes m).1, .i (detRes m).2]
def adjRes (m : List (List Int)) : List (List Int) × Int := if sqCode m = 0 then (adjM m.length m, 0) else ([], sqCode m)
def adjT (m : List (List Int)) : T := .tup [rowsO (adjRes m).1, .i (adjRes m).2]
theorem detT_noSh (m : List (List Int)) : (detT m).noSh := ⟨trivial, trivial, trivial⟩
theorem adjT_noSh (m : List (List Int)) : (adjT m).noSh := ⟨rowsO_noSh _, trivial, trivial⟩

theorem spec_Determinant_ok (m : List (List Int)) : Fun Try.prog 39 [] [.t (rows m)] fun o r => o = [] ∧ r = detT m := by
  refine fun_spec_Determinant (by simp) ?_
  simp -implicitDefEqProofs only [go_sem, List.reduceReplicate, Nat.reduceEqDiff, Nat.reduceAdd, Nat.reduceLeDiff, Nat.reduceMul, Nat.reduceSub, Nat.reduceDiv, Int.reduceToNat, Nat.reduceLT, Int.reduceLT, Int.reduceLE, ↓reduceIte, reduceCtorEq, forall_apply_eq_imp_iff₂, ints, rows, rat, rats, toNat_cast, c_spec_Determinant]
  refine CallW.pure (spec_l27Square_ok m) [] rfl Try.call74 ?_ (by first | trivial | simp [T.noSh, T.noShL, rat]) rfl ?_
  · simp -implicitDefEqProofs only [Int.natCast_zero, Int.cast_ofNat_Int, Int.natCast_one, Nat.le_refl, Nat.reduceLeDiff, Nat.sub_self, Nat.reduceSub, List.getElem?_cons_zero, List.getElem?_cons_succ, vt_self, vaL, vtL, va, vt, vb, maT, List.cons_append, List.nil_append, List.append_nil, true_or, or_true, go_sem, List.reduceReplicate, Nat.reduceEqDiff, Nat.reduceAdd, Nat.reduceLeDiff, Nat.reduceMul, Nat.reduceSub, Nat.reduceDiv, Int.reduceToNat, Nat.reduceLT, Int.reduceLT, Int.reduceLE, ↓reduceIte, reduceCtorEq, ints, rows, rat, rats, ratsO, toShL_ratC, List.mem_cons, List.mem_nil_iff, List.not_mem_nil, or_false, false_or, exists_eq_left, exists_eq_left', exists_eq_right', Root.live.injEq, eq_self_iff_true, exists_eq, and_true, T.toSh, toShL_ints, toShL_intsO, intsO, rowsO]
  simp -implicitDefEqProofs only [go_sem, List.reduceReplicate, Nat.reduceEqDiff, Nat.reduceAdd, Nat.reduceLeDiff, Nat.reduceMul, Nat.reduceSub, Nat.reduceDiv, Int.reduceToNat, Nat.reduceLT, Int.reduceLT, Int.reduceLE, ↓reduceIte, reduceCtorEq, forall_apply_eq_imp_iff₂, ints, rows, rat, rats, toNat_cast]
  refine ⟨fun h => ?_, fun h => ?_⟩
  · rw [detT, detRes, if_neg (by simpa using h)]
  · have h0 : sqCode m = 0 := by simpa using h
    obtain ⟨h1, h2⟩ := sqCode_zero h0
    refine CallW.pure (spec_l27Det_ok m.length h1 m h2) [] rfl Try.call75 ?_ (by first | trivial | simp [T.noSh, T.noShL, rat]) rfl ?_
    · simp -implicitDefEqProofs only [Int.natCast_zero, Int.cast_ofNat_Int, Int.natCast_one, Nat.le_refl, Nat.reduceLeDiff, Nat.sub_self, Nat.reduceSub, List.getElem?_cons_zero, List.getElem?_cons_succ, vt_self, vaL, vtL, va, vt, vb, maT, List.cons_append, List.nil_append, List.append_nil, true_or, or_true, go_sem, List.reduceReplicate, Nat.reduceEqDiff, Nat.reduceAdd, Nat.reduceLeDiff, Nat.reduceMul, Nat.reduceSub, Nat.reduceDiv, Int.reduceToNat, Nat.reduceLT, Int.reduceLT, Int.reduceLE, ↓reduceIte, reduceCtorEq, ints, rows, rat, rats, ratsO, toShL_ratC, List.mem_cons, List.mem_nil_iff, List.not_mem_nil, or_false, false_or, exists_eq_left, exists_eq_left', exists_eq_right', Root.live.injEq, eq_self_iff_true, exists_eq, and_true, T.toSh, toShL_ints, toShL_intsO, intsO, rowsO]
    simp -implicitDefEqProofs only [go_sem, List.reduceReplicate, Nat.reduceEqDiff, Nat.reduceAdd, Nat.reduceLeDiff, Nat.reduceMul, Nat.reduceSub, Nat.reduceDiv, Int.reduceToNat, Nat.reduceLT, Int.reduceLT, Int.reduceLE, ↓reduceIte, reduceCtorEq, forall_apply_eq_imp_iff₂, ints, rows, rat, rats, toNat_cast]
    rw [detT, detRes, if_pos h0]
theorem impl_Determinant_ok (m : List (List Int)) (hml : m.length ≤ 1000000000000) (hmr : ∀ r ∈ m, r.length ≤ 1000000000000) : Fun Try.prog 40 [] [.t (rows m)] fun o r => o = [] ∧ r = detT m := by
  refine fun_impl_Determinant (by simp) ?_
  simp -implicitDefEqProofs only [go_sem, List.reduceReplicate, Nat.reduceEqDiff, Nat.reduceAdd, Nat.reduceLeDiff, Nat.reduceMul, Nat.reduceSub, Nat.reduceDiv, Int.reduceToNat, Nat.reduceLT, Int.reduceLT, Int.reduceLE, ↓reduceIte, reduceCtorEq, forall_apply_eq_imp_iff₂, ints, rows, rat, rats, toNat_cast, c_impl_Determinant]
  refine CallW.pure (impl_IsMatrix_ok m (by omega) hmr) [] rfl Try.call18 ?_ (by first | trivial | simp [T.noSh, T.noShL, rat]) rfl ?_
  · simp -implicitDefEqProofs only [Int.natCast_zero, Int.cast_ofNat_Int, Int.natCast_one, Nat.le_refl, Nat.reduceLeDiff, Nat.sub_self, Nat.reduceSub, List.getElem?_cons_zero, List.getElem?_cons_succ, vt_self, vaL, vtL, va, vt, vb, maT, List.cons_append, List.nil_append, List.append_nil, true_or, or_true, go_sem, List.reduceReplicate, Nat.reduceEqDiff, Nat.reduceAdd, Nat.reduceLeDiff, Nat.reduceMul, Nat.reduceSub, Nat.reduceDiv, Int.reduceToNat, Nat.reduceLT, Int.reduceLT, Int.reduceLE, ↓reduceIte, reduceCtorEq, ints, rows, rat, rats, ratsO, toShL_ratC, List.mem_cons, List.mem_nil_iff, List.not_mem_nil, or_false, false_or, exists_eq_left, exists_eq_left', exists_eq_right', Root.live.injEq, eq_self_iff_true, exists_eq, and_true, T.toSh, toShL_ints, toShL_intsO, intsO, rowsO]
  simp -implicitDefEqProofs only [go_sem, List.reduceReplicate, Nat.reduceEqDiff, Nat.reduceAdd, Nat.reduceLeDiff, Nat.reduceMul, Nat.reduceSub, Nat.reduceDiv, Int.reduceToNat, Nat.reduceLT, Int.reduceLT, Int.reduceLE, ↓reduceIte, reduceCtorEq, forall_apply_eq_imp_iff₂, ints, rows, rat, rats, toNat_cast]
  refine ⟨fun h => ?_, fun h => ?_⟩
  · have h' : isMat m = false := by simpa using h
    rw [detT, detRes, sqCode, h']; rfl
  · have hmat : isMat m = true := by simpa using h
    obtain ⟨h1, _⟩ := isMat_spec hmat
    refine ⟨by omega, by omega, fun r0 h0 => ?_⟩
    refine ⟨fun h => ?_, fun h => ?_⟩
    · rw [detT, detRes, sqCode, if_pos hmat, headD_get h0, if_neg (c := m.length = r0.length) (by simp at h; omega)]; rfl
    · have hc : sqCode m = 0 := by rw [sqCode, if_pos hmat, headD_get h0, if_pos (by simp at h; omega)]
      obtain ⟨h1, h2⟩ := sqCode_zero hc
      refine CallW.pure (impl_determinant_ok m.length h1 m h2) [] rfl Try.call76 ?_ (by first | trivial | simp [T.noSh, T.noShL, rat]) rfl ?_
      · simp -implicitDefEqProofs only [Int.natCast_zero, Int.cast_ofNat_Int, Int.natCast_one, Nat.le_refl, Nat.reduceLeDiff, Nat.sub_self, Nat.reduceSub, List.getElem?_cons_zero, List.getElem?_cons_succ, vt_self, vaL, vtL, va, vt, vb, maT, List.cons_append, List.nil_append, List.append_nil, true_or, or_true, go_sem, List.reduceReplicate, Nat.reduceEqDiff, Nat.reduceAdd, Nat.reduceLeDiff, Nat.reduceMul, Nat.reduceSub, Nat.reduceDiv, Int.reduceToNat, Nat.reduceLT, Int.reduceLT, Int.reduceLE, ↓reduceIte, reduceCtorEq, ints, rows, rat, rats, ratsO, toShL_ratC, List.mem_cons, List.mem_nil_iff, List.not_mem_nil, or_false, false_or, exists_eq_left, exists_eq_left', exists_eq_right', Root.live.injEq, eq_self_iff_true, exists_eq, and_true, T.toSh, toShL_ints, toShL_intsO, intsO, rowsO]
      simp -implicitDefEqProofs only [go_sem, List.reduceReplicate, Nat.reduceEqDiff, Nat.reduceAdd, Nat.reduceLeDiff, Nat.reduceMul, Nat.reduceSub, Nat.reduceDiv, Int.reduceToNat, Nat.reduceLT, Int.reduceLT, Int.reduceLE, ↓reduceIte, reduceCtorEq, forall_apply_eq_imp_iff₂, ints, rows, rat, rats, toNat_cast]
      rw [detT, detRes, if_pos hc]
theorem spec_Adjugate_ok (m : List (List Int)) : Fun Try.prog 41 [] [.t (rows m)] fun o r => o = [] ∧ r = adjT m := by
  refine Fun.le (Q := fun o r => o = [] ∧ (r = adjT m ∨ (sqCode m ≠ 0 ∧ r = .tup [.v (.slice none 0 0), .i (sqCode m)]))) ?_ ?_
  case refine_2 =>
    rintro o r ⟨rfl, rfl | ⟨h, rfl⟩⟩
    · exact ⟨_, .refl _, rfl, rfl⟩
    · refine ⟨_, ?_, rfl, rfl⟩
      rw [adjT, adjRes, if_neg h]
      exact .tup2 (.nilArr 1) (.refl _)
  refine fun_spec_Adjugate (by simp) ?_
  simp -implicitDefEqProofs only [go_sem, List.reduceReplicate, Nat.reduceEqDiff, Nat.reduceAdd, Nat.reduceLeDiff, Nat.reduceMul, Nat.reduceSub, Nat.reduceDiv, Int.reduceToNat, Nat.reduceLT, Int.reduceLT, Int.reduceLE, ↓reduceIte, reduceCtorEq, forall_apply_eq_imp_iff₂, ints, rows, rat, rats, toNat_cast, c_spec_Adjugate]
  refine CallW.pure (spec_l27Square_ok m) [] rfl Try.call74 ?_ (by first | trivial | simp [T.noSh, T.noShL, rat]) rfl ?_
  · simp -implicitDefEqProofs only [Int.natCast_zero, Int.cast_ofNat_Int, Int.natCast_one, Nat.le_refl, Nat.reduceLeDiff, Nat.sub_self, Nat.reduceSub, List.getElem?_cons_zero, List.getElem?_cons_succ, vt_self, vaL, vtL, va, vt, vb, maT, List.cons_append, List.nil_append, List.append_nil, true_or, or_true, go_sem, List.reduceReplicate, Nat.reduceEqDiff, Nat.reduceAdd, Nat.reduceLeDiff, Nat.reduceMul, Nat.reduceSub, Nat.reduceDiv, Int.reduceToNat, Nat.reduceLT, Int.reduceLT, Int.reduceLE, ↓reduceIte, reduceCtorEq, ints, rows, rat, rats, ratsO, toShL_ratC, List.mem_cons, List.mem_nil_iff, List.not_mem_nil, or_false, false_or, exists_eq_left, exists_eq_left', exists_eq_right', Root.live.injEq, eq_self_iff_true, exists_eq, and_true, T.toSh, toShL_ints, toShL_intsO, intsO, rowsO]
  simp -implicitDefEqProofs only [go_sem, List.reduceReplicate, Nat.reduceEqDiff, Nat.reduceAdd, Nat.reduceLeDiff, Nat.reduceMul, Nat.reduceSub, Nat.reduceDiv, Int.reduceToNat, Nat.reduceLT, Int.reduceLT, Int.reduceLE, ↓reduceIte, reduceCtorEq, forall_apply_eq_imp_iff₂, ints, rows, rat, rats, toNat_cast]
  refine ⟨fun h => ?_, fun h => ?_⟩
  · have h : sqCode m ≠ 0 := by simpa using h
    exact .inr h
  · have h0 : sqCode m = 0 := by simpa using h
    obtain ⟨h1, h2⟩ := sqCode_zero h0
    refine CallW.res (spec_l27Adj_ok m.length h1 m h2) [] rfl Try.call77 ?_ (.inl rfl) ?_
    · simp -implicitDefEqProofs only [Int.natCast_zero, Int.cast_ofNat_Int, Int.natCast_one, Nat.le_refl, Nat.reduceLeDiff, Nat.sub_self, Nat.reduceSub, List.getElem?_cons_zero, List.getElem?_cons_succ, vt_self, vaL, vtL, va, vt, vb, maT, List.cons_append, List.nil_append, List.append_nil, true_or, or_true, go_sem, List.reduceReplicate, Nat.reduceEqDiff, Nat.reduceAdd, Nat.reduceLeDiff, Nat.reduceMul, Nat.reduceSub, Nat.reduceDiv, Int.reduceToNat, Nat.reduceLT, Int.reduceLT, Int.reduceLE, ↓reduceIte, reduceCtorEq, ints, rows, rat, rats, ratsO, toShL_ratC, List.mem_cons, List.mem_nil_iff, List.not_mem_nil, or_false, false_or, exists_eq_left, exists_eq_left', exists_eq_right', Root.live.injEq, eq_self_iff_true, exists_eq, and_true, T.toSh, toShL_ints, toShL_intsO, intsO, rowsO]
    simp -implicitDefEqProofs only [List.append_nil, List.cons_append, Nat.reduceLeDiff, afterCall, absT_rowsO, absT_intsO, absT, absL, updL, updS, freeAll, rid, T.noSh, T.noShL, Nat.zero_le, go_sem, List.reduceReplicate, Nat.reduceEqDiff, Nat.reduceAdd, Nat.reduceLeDiff, Nat.reduceMul, Nat.reduceSub, Nat.reduceDiv, Int.reduceToNat, Nat.reduceLT, Int.reduceLT, Int.reduceLE, ↓reduceIte, reduceCtorEq, rat, forall_apply_eq_imp_iff₂, toNat_cast, rowsO]
    rw [adjT, adjRes, if_pos h0]; exact .inl rfl
theorem impl_Adjugate_ok (m : List (List Int)) (hml : m.length ≤ 1000000000000) (hmr : ∀ r ∈ m, r.length ≤ 1000000000000) : Fun Try.prog 42 [] [.t (rows m)] fun o r => o = [] ∧ r = adjT m := by
  refine Fun.le (Q := fun o r => o = [] ∧ (r = adjT m ∨ (sqCode m ≠ 0 ∧ r = .tup [.v (.slice none 0 0), .i (sqCode m)]))) ?_ ?_
  case refine_2 =>
    rintro o r ⟨rfl, rfl | ⟨h, rfl⟩⟩
    · exact ⟨_, .refl _, rfl, rfl⟩
    · refine ⟨_, ?_, rfl, rfl⟩
      rw [adjT, adjRes, if_neg h]
      exact .tup2 (.nilArr 1) (.refl _)
  refine fun_impl_Adjugate (by simp) ?_
  simp -implicitDefEqProofs only [go_sem, List.reduceReplicate, Nat.reduceEqDiff, Nat.reduceAdd, Nat.reduceLeDiff, Nat.reduceMul, Nat.reduceSub, Nat.reduceDiv, Int.reduceToNat, Nat.reduceLT, Int.reduceLT, Int.reduceLE, ↓reduceIte, reduceCtorEq, forall_apply_eq_imp_iff₂, ints, rows, rat, rats, toNat_cast, c_impl_Adjugate]
  refine CallW.pure (impl_IsMatrix_ok m (by omega) hmr) [] rfl Try.call18 ?_ (by first | trivial | simp [T.noSh, T.noShL, rat]) rfl ?_
  · simp -implicitDefEqProofs only [Int.natCast_zero, Int.cast_ofNat_Int, Int.natCast_one, Nat.le_refl, Nat.reduceLeDiff, Nat.sub_self, Nat.reduceSub, List.getElem?_cons_zero, List.getElem?_cons_succ, vt_self, vaL, vtL, va, vt, vb, maT, List.cons_append, List.nil_append, List.append_nil, true_or, or_true, go_sem, List.reduceReplicate, Nat.reduceEqDiff, Nat.reduceAdd, Nat.reduceLeDiff, Nat.reduceMul, Nat.reduceSub, Nat.reduceDiv, Int.reduceToNat, Nat.reduceLT, Int.reduceLT, Int.reduceLE, ↓reduceIte, reduceCtorEq, ints, rows, rat, rats, ratsO, toShL_ratC, List.mem_cons, List.mem_nil_iff, List.not_mem_nil, or_false, false_or, exists_eq_left, exists_eq_left', exists_eq_right', Root.live.injEq, eq_self_iff_true, exists_eq, and_true, T.toSh, toShL_ints, toShL_intsO, intsO, rowsO]
  simp -implicitDefEqProofs only [go_sem, List.reduceReplicate, Nat.reduceEqDiff, Nat.reduceAdd, Nat.reduceLeDiff, Nat.reduceMul, Nat.reduceSub, Nat.reduceDiv, Int.reduceToNat, Nat.reduceLT, Int.reduceLT, Int.reduceLE, ↓reduceIte, reduceCtorEq, forall_apply_eq_imp_iff₂, ints, rows, rat, rats, toNat_cast]
  refine ⟨fun h => ?_, fun h => ?_⟩
  · have h' : isMat m = false := by simpa using h
    have hc : sqCode m = 1 := by rw [sqCode, h']; rfl
    exact .inr ⟨by omega, by rw [hc]⟩
  · have hmat : isMat m = true := by simpa using h
    obtain ⟨h1, _⟩ := isMat_spec hmat
    refine ⟨by omega, by omega, fun r0 h0 => ?_⟩
    refine ⟨fun h => ?_, fun h => ?_⟩
    · have hc : sqCode m = 5 := by rw [sqCode, if_pos hmat, headD_get h0, if_neg (by simp at h; omega)]
      exact .inr ⟨by omega, by rw [hc]⟩
    · have hc : sqCode m = 0 := by rw [sqCode, if_pos hmat, headD_get h0, if_pos (by simp at h; omega)]
      obtain ⟨h1, h2⟩ := sqCode_zero hc
      refine CallW.res (impl_adjugate_ok m.length h1 m h2) [] rfl Try.call78 ?_ (.inl rfl) ?_
      · simp -implicitDefEqProofs only [Int.natCast_zero, Int.cast_ofNat_Int, Int.natCast_one, Nat.le_refl, Nat.reduceLeDiff, Nat.sub_self, Nat.reduceSub, List.getElem?_cons_zero, List.getElem?_cons_succ, vt_self, vaL, vtL, va, vt, vb, maT, List.cons_append, List.nil_append, List.append_nil, true_or, or_true, go_sem, List.reduceReplicate, Nat.reduceEqDiff, Nat.reduceAdd, Nat.reduceLeDiff, Nat.reduceMul, Nat.reduceSub, Nat.reduceDiv, Int.reduceToNat, Nat.reduceLT, Int.reduceLT, Int.reduceLE, ↓reduceIte, reduceCtorEq, ints, rows, rat, rats, ratsO, toShL_ratC, List.mem_cons, List.mem_nil_iff, List.not_mem_nil, or_false, false_or, exists_eq_left, exists_eq_left', exists_eq_right', Root.live.injEq, eq_self_iff_true, exists_eq, and_true, T.toSh, toShL_ints, toShL_intsO, intsO, rowsO]
      simp -implicitDefEqProofs only [List.append_nil, List.cons_append, Nat.reduceLeDiff, afterCall, absT_rowsO, absT_intsO, absT, absL, updL, updS, freeAll, rid, T.noSh, T.noShL, Nat.zero_le, go_sem, List.reduceReplicate, Nat.reduceEqDiff, Nat.reduceAdd, Nat.reduceLeDiff, Nat.reduceMul, Nat.reduceSub, Nat.reduceDiv, Int.reduceToNat, Nat.reduceLT, Int.reduceLT, Int.reduceLE, ↓reduceIte, reduceCtorEq, rat, forall_apply_eq_imp_iff₂, toNat_cast, rowsO]
      rw [adjT, adjRes, if_pos hc]; exact .inl rfl

theorem laws_FnExactDeterminant_ok (m : List (List Int)) (hm : (m.length : Int) ≤ 9223372036854775807) (hr : ∀ r ∈ m, (r.length : Int) ≤ 9223372036854775807) : Pure Try.prog 9 [rows m] (.b true) := by
  refine fun_laws_FnExactDeterminant (by simp) ?_
  simp -implicitDefEqProofs only [go_sem, List.reduceReplicate, Nat.reduceEqDiff, Nat.reduceAdd, Nat.reduceLeDiff, Nat.reduceMul, Nat.reduceSub, Nat.reduceDiv, Int.reduceToNat, Nat.reduceLT, Int.reduceLT, Int.reduceLE, ↓reduceIte, reduceCtorEq, forall_apply_eq_imp_iff₂, ints, rows, rat, rats, toNat_cast, c_laws_FnExactDeterminant]
  refine CallW.pure (laws_szInt64SS_ok m 1048576 hm hr (by omega) (by omega)) [] rfl Try.call15 ?_ (by first | trivial | simp [T.noSh, T.noShL, rat]) rfl ?_
  · simp -implicitDefEqProofs only [Int.natCast_zero, Int.cast_ofNat_Int, Int.natCast_one, Nat.le_refl, Nat.reduceLeDiff, Nat.sub_self, Nat.reduceSub, List.getElem?_cons_zero, List.getElem?_cons_succ, vt_self, vaL, vtL, va, vt, vb, maT, List.cons_append, List.nil_append, List.append_nil, true_or, or_true, go_sem, List.reduceReplicate, Nat.reduceEqDiff, Nat.reduceAdd, Nat.reduceLeDiff, Nat.reduceMul, Nat.reduceSub, Nat.reduceDiv, Int.reduceToNat, Nat.reduceLT, Int.reduceLT, Int.reduceLE, ↓reduceIte, reduceCtorEq, ints, rows, rat, rats, ratsO, toShL_ratC, List.mem_cons, List.mem_nil_iff, List.not_mem_nil, or_false, false_or, exists_eq_left, exists_eq_left', exists_eq_right', Root.live.injEq, eq_self_iff_true, exists_eq, and_true, T.toSh, toShL_ints, toShL_intsO, intsO, rowsO]
  simp -implicitDefEqProofs only [go_sem, List.reduceReplicate, Nat.reduceEqDiff, Nat.reduceAdd, Nat.reduceLeDiff, Nat.reduceMul, Nat.reduceSub, Nat.reduceDiv, Int.reduceToNat, Nat.reduceLT, Int.reduceLT, Int.reduceLE, ↓reduceIte, reduceCtorEq, forall_apply_eq_imp_iff₂, ints, rows, rat, rats, toNat_cast]
  refine ⟨fun _ => trivial, fun hb => ?_⟩
  obtain ⟨hm1, hr1⟩ := budgetMat_ok (m := m) (left := 1048576) (by omega) (by omega)
  have hm2 : (m.length : Int) ≤ 1000000000000 := by omega
  have hr2 : ∀ r ∈ m, (r.length : Int) ≤ 1000000000000 := fun r h => by have := hr1 r h; omega
  have hr3 : ∀ r ∈ m, r.length ≤ 1000000000000 := fun r h => by have := hr1 r h; omega
  refine CallW.res (laws_toInt64SS_ok m hm2 hr2) [] rfl Try.call17 ?_ (.inl rfl) ?_
  · simp -implicitDefEqProofs only [Int.natCast_zero, Int.cast_ofNat_Int, Int.natCast_one, Nat.le_refl, Nat.reduceLeDiff, Nat.sub_self, Nat.reduceSub, List.getElem?_cons_zero, List.getElem?_cons_succ, vt_self, vaL, vtL, va, vt, vb, maT, List.cons_append, List.nil_append, List.append_nil, true_or, or_true, go_sem, List.reduceReplicate, Nat.reduceEqDiff, Nat.reduceAdd, Nat.reduceLeDiff, Nat.reduceMul, Nat.reduceSub, Nat.reduceDiv, Int.reduceToNat, Nat.reduceLT, Int.reduceLT, Int.reduceLE, ↓reduceIte, reduceCtorEq, ints, rows, rat, rats, ratsO, toShL_ratC, List.mem_cons, List.mem_nil_iff, List.not_mem_nil, or_false, false_or, exists_eq_left, exists_eq_left', exists_eq_right', Root.live.injEq, eq_self_iff_true, exists_eq, and_true, T.toSh, toShL_ints, toShL_intsO, intsO, rowsO]
  simp -implicitDefEqProofs only [List.append_nil, List.cons_append, Nat.reduceLeDiff, afterCall, absT_rowsO, absT_intsO, absT, absL, updL, updS, freeAll, rid, T.noSh, T.noShL, Nat.zero_le, go_sem, List.reduceReplicate, Nat.reduceEqDiff, Nat.reduceAdd, Nat.reduceLeDiff, Nat.reduceMul, Nat.reduceSub, Nat.reduceDiv, Int.reduceToNat, Nat.reduceLT, Int.reduceLT, Int.reduceLE, ↓reduceIte, reduceCtorEq, rat, forall_apply_eq_imp_iff₂, toNat_cast]
  refine CallW.res (spec_Determinant_ok m) [16] rfl Try.call39 ?_ (.inr (detT_noSh m)) ?_
  · simp -implicitDefEqProofs only [Int.natCast_zero, Int.cast_ofNat_Int, Int.natCast_one, Nat.le_refl, Nat.reduceLeDiff, Nat.sub_self, Nat.reduceSub, List.getElem?_cons_zero, List.getElem?_cons_succ, vt_self, vaL, vtL, va, vt, vb, maT, List.cons_append, List.nil_append, List.append_nil, true_or, or_true, go_sem, List.reduceReplicate, Nat.reduceEqDiff, Nat.reduceAdd, Nat.reduceLeDiff, Nat.reduceMul, Nat.reduceSub, Nat.reduceDiv, Int.reduceToNat, Nat.reduceLT, Int.reduceLT, Int.reduceLE, ↓reduceIte, reduceCtorEq, ints, rows, rat, rats, ratsO, toShL_ratC, List.mem_cons, List.mem_nil_iff, List.not_mem_nil, or_false, false_or, exists_eq_left, exists_eq_left', exists_eq_right', Root.live.injEq, eq_self_iff_true, exists_eq, and_true, T.toSh, toShL_ints, toShL_intsO, intsO, rowsO]
  simp -implicitDefEqProofs only [List.append_nil, List.cons_append, Nat.reduceLeDiff, afterCall, absT_rowsO, absT_intsO, absT, absL, updL, updS, freeAll, rid, T.noSh, T.noShL, Nat.zero_le, go_sem, List.reduceReplicate, Nat.reduceEqDiff, Nat.reduceAdd, Nat.reduceLeDiff, Nat.reduceMul, Nat.reduceSub, Nat.reduceDiv, Int.reduceToNat, Nat.reduceLT, Int.reduceLT, Int.reduceLE, ↓reduceIte, reduceCtorEq, rat, forall_apply_eq_imp_iff₂, toNat_cast, detT]
  refine CallW.res (laws_toInt64SS_ok m hm2 hr2) [] rfl Try.call17 ?_ (.inl rfl) ?_
  · simp -implicitDefEqProofs only [Int.natCast_zero, Int.cast_ofNat_Int, Int.natCast_one, Nat.le_refl, Nat.reduceLeDiff, Nat.sub_self, Nat.reduceSub, List.getElem?_cons_zero, List.getElem?_cons_succ, vt_self, vaL, vtL, va, vt, vb, maT, List.cons_append, List.nil_append, List.append_nil, true_or, or_true, go_sem, List.reduceReplicate, Nat.reduceEqDiff, Nat.reduceAdd, Nat.reduceLeDiff, Nat.reduceMul, Nat.reduceSub, Nat.reduceDiv, Int.reduceToNat, Nat.reduceLT, Int.reduceLT, Int.reduceLE, ↓reduceIte, reduceCtorEq, ints, rows, rat, rats, ratsO, toShL_ratC, List.mem_cons, List.mem_nil_iff, List.not_mem_nil, or_false, false_or, exists_eq_left, exists_eq_left', exists_eq_right', Root.live.injEq, eq_self_iff_true, exists_eq, and_true, T.toSh, toShL_ints, toShL_intsO, intsO, rowsO]
  simp -implicitDefEqProofs only [List.append_nil, List.cons_append, Nat.reduceLeDiff, afterCall, absT_rowsO, absT_intsO, absT, absL, updL, updS, freeAll, rid, T.noSh, T.noShL, Nat.zero_le, go_sem, List.reduceReplicate, Nat.reduceEqDiff, Nat.reduceAdd, Nat.reduceLeDiff, Nat.reduceMul, Nat.reduceSub, Nat.reduceDiv, Int.reduceToNat, Nat.reduceLT, Int.reduceLT, Int.reduceLE, ↓reduceIte, reduceCtorEq, rat, forall_apply_eq_imp_iff₂, toNat_cast]
  refine CallW.res (impl_Determinant_ok m (by omega) hr3) [21] rfl Try.call40 ?_ (.inr (detT_noSh m)) ?_
  · simp -implicitDefEqProofs only [Int.natCast_zero, Int.cast_ofNat_Int, Int.natCast_one, Nat.le_refl, Nat.reduceLeDiff, Nat.sub_self, Nat.reduceSub, List.getElem?_cons_zero, List.getElem?_cons_succ, vt_self, vaL, vtL, va, vt, vb, maT, List.cons_append, List.nil_append, List.append_nil, true_or, or_true, go_sem, List.reduceReplicate, Nat.reduceEqDiff, Nat.reduceAdd, Nat.reduceLeDiff, Nat.reduceMul, Nat.reduceSub, Nat.reduceDiv, Int.reduceToNat, Nat.reduceLT, Int.reduceLT, Int.reduceLE, ↓reduceIte, reduceCtorEq, ints, rows, rat, rats, ratsO, toShL_ratC, List.mem_cons, List.mem_nil_iff, List.not_mem_nil, or_false, false_or, exists_eq_left, exists_eq_left', exists_eq_right', Root.live.injEq, eq_self_iff_true, exists_eq, and_true, T.toSh, toShL_ints, toShL_intsO, intsO, rowsO]
  simp -implicitDefEqProofs only [List.append_nil, List.cons_append, Nat.reduceLeDiff, afterCall, absT_rowsO, absT_intsO, absT, absL, updL, updS, freeAll, rid, T.noSh, T.noShL, Nat.zero_le, go_sem, List.reduceReplicate, Nat.reduceEqDiff, Nat.reduceAdd, Nat.reduceLeDiff, Nat.reduceMul, Nat.reduceSub, Nat.reduceDiv, Int.reduceToNat, Nat.reduceLT, Int.reduceLT, Int.reduceLE, ↓reduceIte, reduceCtorEq, rat, forall_apply_eq_imp_iff₂, toNat_cast, detT, not_true_eq_false, decide_false]
  refine CallW.res (laws_toInt64SS_ok m hm2 hr2) [] rfl Try.call17 ?_ (.inl rfl) ?_
  · simp -implicitDefEqProofs only [Int.natCast_zero, Int.cast_ofNat_Int, Int.natCast_one, Nat.le_refl, Nat.reduceLeDiff, Nat.sub_self, Nat.reduceSub, List.getElem?_cons_zero, List.getElem?_cons_succ, vt_self, vaL, vtL, va, vt, vb, maT, List.cons_append, List.nil_append, List.append_nil, true_or, or_true, go_sem, List.reduceReplicate, Nat.reduceEqDiff, Nat.reduceAdd, Nat.reduceLeDiff, Nat.reduceMul, Nat.reduceSub, Nat.reduceDiv, Int.reduceToNat, Nat.reduceLT, Int.reduceLT, Int.reduceLE, ↓reduceIte, reduceCtorEq, ints, rows, rat, rats, ratsO, toShL_ratC, List.mem_cons, List.mem_nil_iff, List.not_mem_nil, or_false, false_or, exists_eq_left, exists_eq_left', exists_eq_right', Root.live.injEq, eq_self_iff_true, exists_eq, and_true, T.toSh, toShL_ints, toShL_intsO, intsO, rowsO]
  simp -implicitDefEqProofs only [List.append_nil, List.cons_append, Nat.reduceLeDiff, afterCall, absT_rowsO, absT_intsO, absT, absL, updL, updS, freeAll, rid, T.noSh, T.noShL, Nat.zero_le, go_sem, List.reduceReplicate, Nat.reduceEqDiff, Nat.reduceAdd, Nat.reduceLeDiff, Nat.reduceMul, Nat.reduceSub, Nat.reduceDiv, Int.reduceToNat, Nat.reduceLT, Int.reduceLT, Int.reduceLE, ↓reduceIte, reduceCtorEq, rat, forall_apply_eq_imp_iff₂, toNat_cast]
  refine CallW.pure (laws_eqInt64SS_ok m m (by omega) (by omega) hr3 hr3) [21, 37] rfl Try.call19 ?_ (by first | trivial | simp [T.noSh, T.noShL, rat]) rfl ?_
  · simp -implicitDefEqProofs only [Int.natCast_zero, Int.cast_ofNat_Int, Int.natCast_one, Nat.le_refl, Nat.reduceLeDiff, Nat.sub_self, Nat.reduceSub, List.getElem?_cons_zero, List.getElem?_cons_succ, vt_self, vaL, vtL, va, vt, vb, maT, List.cons_append, List.nil_append, List.append_nil, true_or, or_true, go_sem, List.reduceReplicate, Nat.reduceEqDiff, Nat.reduceAdd, Nat.reduceLeDiff, Nat.reduceMul, Nat.reduceSub, Nat.reduceDiv, Int.reduceToNat, Nat.reduceLT, Int.reduceLT, Int.reduceLE, ↓reduceIte, reduceCtorEq, ints, rows, rat, rats, ratsO, toShL_ratC, List.mem_cons, List.mem_nil_iff, List.not_mem_nil, or_false, false_or, exists_eq_left, exists_eq_left', exists_eq_right', Root.live.injEq, eq_self_iff_true, exists_eq, and_true, T.toSh, toShL_ints, toShL_intsO, intsO, rowsO]
  simp -implicitDefEqProofs only [go_sem, List.reduceReplicate, Nat.reduceEqDiff, Nat.reduceAdd, Nat.reduceLeDiff, Nat.reduceMul, Nat.reduceSub, Nat.reduceDiv, Int.reduceToNat, Nat.reduceLT, Int.reduceLT, Int.reduceLE, ↓reduceIte, reduceCtorEq, forall_apply_eq_imp_iff₂, ints, rows, rat, rats, toNat_cast]
end Go.Ab

/- The law FnExactAdjugate, as a contract. -/
set_option linter.unusedSimpArgs false
set_option linter.unusedVariables false
namespace Go.Ab
open Go.Proofs

theorem adjM_small {n : Nat} (m : List (List Int)) (hn : n ≤ 4) : (adjM n m).length ≤ 4 ∧ ∀ r ∈ adjM n m, r.length ≤ 4 := by
  refine ⟨by simp [adjM]; exact hn, fun r hr => ?_⟩
  obtain ⟨k, _, rfl⟩ := List.mem_map.1 hr
  rw [adjRow_length]; exact hn
theorem adjRes_small (m : List (List Int)) : (adjRes m).1.length ≤ 4 ∧ ∀ r ∈ (adjRes m).1, r.length ≤ 4 := by
  rw [adjRes]; split
  · rename_i h; exact adjM_small m (sqCode_zero h).1
  · simp
theorem laws_FnExactAdjugate_ok (m : List (List Int)) (hm : (m.length : Int) ≤ 9223372036854775807) (hr : ∀ r ∈ m, (r.length : Int) ≤ 9223372036854775807) : Pure Try.prog 10 [rows m] (.b true) := by
  refine fun_laws_FnExactAdjugate (by simp) ?_
  simp -implicitDefEqProofs only [go_sem, List.reduceReplicate, Nat.reduceEqDiff, Nat.reduceAdd, Nat.reduceLeDiff, Nat.reduceMul, Nat.reduceSub, Nat.reduceDiv, Int.reduceToNat, Nat.reduceLT, Int.reduceLT, Int.reduceLE, ↓reduceIte, reduceCtorEq, forall_apply_eq_imp_iff₂, ints, rows, rat, rats, toNat_cast, c_laws_FnExactAdjugate]
  refine CallW.pure (laws_szInt64SS_ok m 1048576 hm hr (by omega) (by omega)) [] rfl Try.call15 ?_ (by first | trivial | simp [T.noSh, T.noShL, rat]) rfl ?_
  · simp -implicitDefEqProofs only [Int.natCast_zero, Int.cast_ofNat_Int, Int.natCast_one, Nat.le_refl, Nat.reduceLeDiff, Nat.sub_self, Nat.reduceSub, List.getElem?_cons_zero, List.getElem?_cons_succ, vt_self, vaL, vtL, va, vt, vb, maT, List.cons_append, List.nil_append, List.append_nil, true_or, or_true, go_sem, List.reduceReplicate, Nat.reduceEqDiff, Nat.reduceAdd, Nat.reduceLeDiff, Nat.reduceMul, Nat.reduceSub, Nat.reduceDiv, Int.reduceToNat, Nat.reduceLT, Int.reduceLT, Int.reduceLE, ↓reduceIte, reduceCtorEq, ints, rows, rat, rats, ratsO, toShL_ratC, List.mem_cons, List.mem_nil_iff, List.not_mem_nil, or_false, false_or, exists_eq_left, exists_eq_left', exists_eq_right', Root.live.injEq, eq_self_iff_true, exists_eq, and_true, T.toSh, toShL_ints, toShL_intsO, intsO, rowsO]
  simp -implicitDefEqProofs only [go_sem, List.reduceReplicate, Nat.reduceEqDiff, Nat.reduceAdd, Nat.reduceLeDiff, Nat.reduceMul, Nat.reduceSub, Nat.reduceDiv, Int.reduceToNat, Nat.reduceLT, Int.reduceLT, Int.reduceLE, ↓reduceIte, reduceCtorEq, forall_apply_eq_imp_iff₂, ints, rows, rat, rats, toNat_cast]
  refine ⟨fun _ => trivial, fun hb => ?_⟩
  obtain ⟨hm1, hr1⟩ := budgetMat_ok (m := m) (left := 1048576) (by omega) (by omega)
  have htot := budgetMat_tot (m := m) (left := 1048576) (by omega) (by omega)
  have hm2 : (m.length : Int) ≤ 1000000000000 := by omega
  have hr2 : ∀ r ∈ m, (r.length : Int) ≤ 1000000000000 := fun r h => by have := hr1 r h; omega
  have hr3 : ∀ r ∈ m, r.length ≤ 1000000000000 := fun r h => by have := hr1 r h; omega
  obtain ⟨hf1, hf2⟩ := adjRes_small m
  have hf3 := tot_le hf2
  have hf4 : ∀ r ∈ (adjRes m).1, r.length ≤ 1000000000000 := fun r h => by have := hf2 r h; omega
  have hheld := heldR_marks (adjRes m).1 1 (by omega)
  refine CallW.res (laws_toInt64SS_ok m hm2 hr2) [] rfl Try.call17 ?_ (.inl rfl) ?_
  · simp -implicitDefEqProofs only [Int.natCast_zero, Int.cast_ofNat_Int, Int.natCast_one, Nat.le_refl, Nat.reduceLeDiff, Nat.sub_self, Nat.reduceSub, List.getElem?_cons_zero, List.getElem?_cons_succ, vt_self, vaL, vtL, va, vt, vb, maT, List.cons_append, List.nil_append, List.append_nil, true_or, or_true, go_sem, List.reduceReplicate, Nat.reduceEqDiff, Nat.reduceAdd, Nat.reduceLeDiff, Nat.reduceMul, Nat.reduceSub, Nat.reduceDiv, Int.reduceToNat, Nat.reduceLT, Int.reduceLT, Int.reduceLE, ↓reduceIte, reduceCtorEq, ints, rows, rat, rats, ratsO, toShL_ratC, List.mem_cons, List.mem_nil_iff, List.not_mem_nil, or_false, false_or, exists_eq_left, exists_eq_left', exists_eq_right', Root.live.injEq, eq_self_iff_true, exists_eq, and_true, T.toSh, toShL_ints, toShL_intsO, intsO, rowsO]
  simp -implicitDefEqProofs only [List.append_nil, List.cons_append, Nat.reduceLeDiff, afterCall, absT_rowsO, absT_intsO, absT, absL, updL, updS, freeAll, rid, T.noSh, T.noShL, Nat.zero_le, go_sem, List.reduceReplicate, Nat.reduceEqDiff, Nat.reduceAdd, Nat.reduceLeDiff, Nat.reduceMul, Nat.reduceSub, Nat.reduceDiv, Int.reduceToNat, Nat.reduceLT, Int.reduceLT, Int.reduceLE, ↓reduceIte, reduceCtorEq, rat, forall_apply_eq_imp_iff₂, toNat_cast]
  refine CallW.res (spec_Adjugate_ok m) [21] rfl Try.call41 ?_ (.inr (adjT_noSh m)) ?_
  · simp -implicitDefEqProofs only [Int.natCast_zero, Int.cast_ofNat_Int, Int.natCast_one, Nat.le_refl, Nat.reduceLeDiff, Nat.sub_self, Nat.reduceSub, List.getElem?_cons_zero, List.getElem?_cons_succ, vt_self, vaL, vtL, va, vt, vb, maT, List.cons_append, List.nil_append, List.append_nil, true_or, or_true, go_sem, List.reduceReplicate, Nat.reduceEqDiff, Nat.reduceAdd, Nat.reduceLeDiff, Nat.reduceMul, Nat.reduceSub, Nat.reduceDiv, Int.reduceToNat, Nat.reduceLT, Int.reduceLT, Int.reduceLE, ↓reduceIte, reduceCtorEq, ints, rows, rat, rats, ratsO, toShL_ratC, List.mem_cons, List.mem_nil_iff, List.not_mem_nil, or_false, false_or, exists_eq_left, exists_eq_left', exists_eq_right', Root.live.injEq, eq_self_iff_true, exists_eq, and_true, T.toSh, toShL_ints, toShL_intsO, intsO, rowsO]
  simp -implicitDefEqProofs only [List.append_nil, List.cons_append, Nat.reduceLeDiff, afterCall, absT_rowsO, absT_intsO, absT, absL, updL, updS, freeAll, rid, T.noSh, T.noShL, Nat.zero_le, go_sem, List.reduceReplicate, Nat.reduceEqDiff, Nat.reduceAdd, Nat.reduceLeDiff, Nat.reduceMul, Nat.reduceSub, Nat.reduceDiv, Int.reduceToNat, Nat.reduceLT, Int.reduceLT, Int.reduceLE, ↓reduceIte, reduceCtorEq, rat, forall_apply_eq_imp_iff₂, toNat_cast, adjT]
  refine CallW.res (laws_toInt64SS_ok m hm2 hr2) [] rfl Try.call17 ?_ (.inl rfl) ?_
  · simp -implicitDefEqProofs only [Int.natCast_zero, Int.cast_ofNat_Int, Int.natCast_one, Nat.le_refl, Nat.reduceLeDiff, Nat.sub_self, Nat.reduceSub, List.getElem?_cons_zero, List.getElem?_cons_succ, vt_self, vaL, vtL, va, vt, vb, maT, List.cons_append, List.nil_append, List.append_nil, true_or, or_true, go_sem, List.reduceReplicate, Nat.reduceEqDiff, Nat.reduceAdd, Nat.reduceLeDiff, Nat.reduceMul, Nat.reduceSub, Nat.reduceDiv, Int.reduceToNat, Nat.reduceLT, Int.reduceLT, Int.reduceLE, ↓reduceIte, reduceCtorEq, ints, rows, rat, rats, ratsO, toShL_ratC, List.mem_cons, List.mem_nil_iff, List.not_mem_nil, or_false, false_or, exists_eq_left, exists_eq_left', exists_eq_right', Root.live.injEq, eq_self_iff_true, exists_eq, and_true, T.toSh, toShL_ints, toShL_intsO, intsO, rowsO]
  simp -implicitDefEqProofs only [List.append_nil, List.cons_append, Nat.reduceLeDiff, afterCall, absT_rowsO, absT_intsO, absT, absL, updL, updS, freeAll, rid, T.noSh, T.noShL, Nat.zero_le, go_sem, List.reduceReplicate, Nat.reduceEqDiff, Nat.reduceAdd, Nat.reduceLeDiff, Nat.reduceMul, Nat.reduceSub, Nat.reduceDiv, Int.reduceToNat, Nat.reduceLT, Int.reduceLT, Int.reduceLE, ↓reduceIte, reduceCtorEq, rat, forall_apply_eq_imp_iff₂, toNat_cast]
  refine CallW.res (impl_Adjugate_ok m (by omega) hr3) [26] rfl Try.call42 ?_ (.inr (adjT_noSh m)) ?_
  · simp -implicitDefEqProofs only [Int.natCast_zero, Int.cast_ofNat_Int, Int.natCast_one, Nat.le_refl, Nat.reduceLeDiff, Nat.sub_self, Nat.reduceSub, List.getElem?_cons_zero, List.getElem?_cons_succ, vt_self, vaL, vtL, va, vt, vb, maT, List.cons_append, List.nil_append, List.append_nil, true_or, or_true, go_sem, List.reduceReplicate, Nat.reduceEqDiff, Nat.reduceAdd, Nat.reduceLeDiff, Nat.reduceMul, Nat.reduceSub, Nat.reduceDiv, Int.reduceToNat, Nat.reduceLT, Int.reduceLT, Int.reduceLE, ↓reduceIte, reduceCtorEq, ints, rows, rat, rats, ratsO, toShL_ratC, List.mem_cons, List.mem_nil_iff, List.not_mem_nil, or_false, false_or, exists_eq_left, exists_eq_left', exists_eq_right', Root.live.injEq, eq_self_iff_true, exists_eq, and_true, T.toSh, toShL_ints, toShL_intsO, intsO, rowsO]
  simp -implicitDefEqProofs only [List.append_nil, List.cons_append, Nat.reduceLeDiff, afterCall, absT_rowsO, absT_intsO, absT, absL, updL, updS, freeAll, rid, T.noSh, T.noShL, Nat.zero_le, go_sem, List.reduceReplicate, Nat.reduceEqDiff, Nat.reduceAdd, Nat.reduceLeDiff, Nat.reduceMul, Nat.reduceSub, Nat.reduceDiv, Int.reduceToNat, Nat.reduceLT, Int.reduceLT, Int.reduceLE, ↓reduceIte, reduceCtorEq, rat, forall_apply_eq_imp_iff₂, toNat_cast, adjT]
  refine CallW.pure (laws_eqInt64SS_ok (adjRes m).1 (adjRes m).1 (by omega) (by omega) hf4 hf4) [29, 22] rfl Try.call19 ?_ (by first | trivial | simp [T.noSh, T.noShL, rat]) rfl ?_
  · simp -implicitDefEqProofs only [Int.natCast_zero, Int.cast_ofNat_Int, Int.natCast_one, Nat.le_refl, Nat.reduceLeDiff, Nat.sub_self, Nat.reduceSub, List.getElem?_cons_zero, List.getElem?_cons_succ, vt_self, vaL, vtL, va, vt, vb, maT, List.cons_append, List.nil_append, List.append_nil, true_or, or_true, go_sem, List.reduceReplicate, Nat.reduceEqDiff, Nat.reduceAdd, Nat.reduceLeDiff, Nat.reduceMul, Nat.reduceSub, Nat.reduceDiv, Int.reduceToNat, Nat.reduceLT, Int.reduceLT, Int.reduceLE, ↓reduceIte, reduceCtorEq, ints, rows, rat, rats, ratsO, toShL_ratC, List.mem_cons, List.mem_nil_iff, List.not_mem_nil, or_false, false_or, exists_eq_left, exists_eq_left', exists_eq_right', Root.live.injEq, eq_self_iff_true, exists_eq, and_true, T.toSh, toShL_ints, toShL_intsO, intsO, rowsO]
  simp -implicitDefEqProofs only [go_sem, List.reduceReplicate, Nat.reduceEqDiff, Nat.reduceAdd, Nat.reduceLeDiff, Nat.reduceMul, Nat.reduceSub, Nat.reduceDiv, Int.reduceToNat, Nat.reduceLT, Int.reduceLT, Int.reduceLE, ↓reduceIte, reduceCtorEq, forall_apply_eq_imp_iff₂, ints, rows, rat, rats, toNat_cast]
  refine CallW.res (laws_toInt64SS_ok m hm2 hr2) [] rfl Try.call17 ?_ (.inl rfl) ?_
  · simp -implicitDefEqProofs only [Int.natCast_zero, Int.cast_ofNat_Int, Int.natCast_one, Nat.le_refl, Nat.reduceLeDiff, Nat.sub_self, Nat.reduceSub, List.getElem?_cons_zero, List.getElem?_cons_succ, vt_self, vaL, vtL, va, vt, vb, maT, List.cons_append, List.nil_append, List.append_nil, true_or, or_true, go_sem, List.reduceReplicate, Nat.reduceEqDiff, Nat.reduceAdd, Nat.reduceLeDiff, Nat.reduceMul, Nat.reduceSub, Nat.reduceDiv, Int.reduceToNat, Nat.reduceLT, Int.reduceLT, Int.reduceLE, ↓reduceIte, reduceCtorEq, ints, rows, rat, rats, ratsO, toShL_ratC, List.mem_cons, List.mem_nil_iff, List.not_mem_nil, or_false, false_or, exists_eq_left, exists_eq_left', exists_eq_right', Root.live.injEq, eq_self_iff_true, exists_eq, and_true, T.toSh, toShL_ints, toShL_intsO, intsO, rowsO]
  simp -implicitDefEqProofs only [List.append_nil, List.cons_append, Nat.reduceLeDiff, afterCall, absT_rowsO, absT_intsO, absT, absL, updL, updS, freeAll, rid, T.noSh, T.noShL, Nat.zero_le, go_sem, List.reduceReplicate, Nat.reduceEqDiff, Nat.reduceAdd, Nat.reduceLeDiff, Nat.reduceMul, Nat.reduceSub, Nat.reduceDiv, Int.reduceToNat, Nat.reduceLT, Int.reduceLT, Int.reduceLE, ↓reduceIte, reduceCtorEq, rat, forall_apply_eq_imp_iff₂, toNat_cast]
  refine CallW.pure (laws_eqInt64SS_ok m m (by omega) (by omega) hr3 hr3) [26, 43] rfl Try.call19 ?_ (by first | trivial | simp [T.noSh, T.noShL, rat]) rfl ?_
  · simp -implicitDefEqProofs only [Int.natCast_zero, Int.cast_ofNat_Int, Int.natCast_one, Nat.le_refl, Nat.reduceLeDiff, Nat.sub_self, Nat.reduceSub, List.getElem?_cons_zero, List.getElem?_cons_succ, vt_self, vaL, vtL, va, vt, vb, maT, List.cons_append, List.nil_append, List.append_nil, true_or, or_true, go_sem, List.reduceReplicate, Nat.reduceEqDiff, Nat.reduceAdd, Nat.reduceLeDiff, Nat.reduceMul, Nat.reduceSub, Nat.reduceDiv, Int.reduceToNat, Nat.reduceLT, Int.reduceLT, Int.reduceLE, ↓reduceIte, reduceCtorEq, ints, rows, rat, rats, ratsO, toShL_ratC, List.mem_cons, List.mem_nil_iff, List.not_mem_nil, or_false, false_or, exists_eq_left, exists_eq_left', exists_eq_right', Root.live.injEq, eq_self_iff_true, exists_eq, and_true, T.toSh, toShL_ints, toShL_intsO, intsO, rowsO]
  simp -implicitDefEqProofs only [go_sem, List.reduceReplicate, Nat.reduceEqDiff, Nat.reduceAdd, Nat.reduceLeDiff, Nat.reduceMul, Nat.reduceSub, Nat.reduceDiv, Int.reduceToNat, Nat.reduceLT, Int.reduceLT, Int.reduceLE, ↓reduceIte, reduceCtorEq, forall_apply_eq_imp_iff₂, ints, rows, rat, rats, toNat_cast]
  refine CallW.ref (laws_markInt64SS_ok m 1 (by omega) (by omega) (by omega) (by omega)) [26] [] rfl Try.call33 (by simp) ?_ (by simp) ?_ (.inl rfl) ?_
  · simp -implicitDefEqProofs only [rootOf_arr, rootOf_box, rootOf_any, srcsOK, updL, updS, upd_apply, Nat.reduceEqDiff, ↓reduceIte, mkRoots, and_true, ints, rows, intsO, rowsO]
  · simp -implicitDefEqProofs only [Int.natCast_zero, Int.cast_ofNat_Int, Int.natCast_one, Nat.le_refl, Nat.reduceLeDiff, Nat.sub_self, Nat.reduceSub, List.getElem?_cons_zero, List.getElem?_cons_succ, vt_self, vaL, vtL, va, vt, vb, maT, List.cons_append, List.nil_append, List.append_nil, true_or, or_true, go_sem, List.reduceReplicate, Nat.reduceEqDiff, Nat.reduceAdd, Nat.reduceLeDiff, Nat.reduceMul, Nat.reduceSub, Nat.reduceDiv, Int.reduceToNat, Nat.reduceLT, Int.reduceLT, Int.reduceLE, ↓reduceIte, reduceCtorEq, ints, rows, rat, rats, ratsO, toShL_ratC, List.mem_cons, List.mem_nil_iff, List.not_mem_nil, or_false, false_or, exists_eq_left, exists_eq_left', exists_eq_right', Root.live.injEq, eq_self_iff_true, exists_eq, and_true, T.toSh, toShL_ints, toShL_intsO, intsO, rowsO]
  simp -implicitDefEqProofs only [List.append_nil, List.cons_append, Nat.reduceLeDiff, afterCall, absT_rowsO, absT_intsO, absT, absL, updL, updS, freeAll, rid, T.noSh, T.noShL, Nat.zero_le, go_sem, List.reduceReplicate, Nat.reduceEqDiff, Nat.reduceAdd, Nat.reduceLeDiff, Nat.reduceMul, Nat.reduceSub, Nat.reduceDiv, Int.reduceToNat, Nat.reduceLT, Int.reduceLT, Int.reduceLE, ↓reduceIte, reduceCtorEq, rat, forall_apply_eq_imp_iff₂, toNat_cast]
  refine ⟨fun _ => ?_, fun h => absurd h (by omega)⟩
  refine CallW.pure (laws_eqInt64SS_ok (adjRes m).1 (adjRes m).1 (by omega) (by omega) hf4 hf4) [29, 22] rfl Try.call19 ?_ (by first | trivial | simp [T.noSh, T.noShL, rat]) rfl ?_
  · simp -implicitDefEqProofs only [Int.natCast_zero, Int.cast_ofNat_Int, Int.natCast_one, Nat.le_refl, Nat.reduceLeDiff, Nat.sub_self, Nat.reduceSub, List.getElem?_cons_zero, List.getElem?_cons_succ, vt_self, vaL, vtL, va, vt, vb, maT, List.cons_append, List.nil_append, List.append_nil, true_or, or_true, go_sem, List.reduceReplicate, Nat.reduceEqDiff, Nat.reduceAdd, Nat.reduceLeDiff, Nat.reduceMul, Nat.reduceSub, Nat.reduceDiv, Int.reduceToNat, Nat.reduceLT, Int.reduceLT, Int.reduceLE, ↓reduceIte, reduceCtorEq, ints, rows, rat, rats, ratsO, toShL_ratC, List.mem_cons, List.mem_nil_iff, List.not_mem_nil, or_false, false_or, exists_eq_left, exists_eq_left', exists_eq_right', Root.live.injEq, eq_self_iff_true, exists_eq, and_true, T.toSh, toShL_ints, toShL_intsO, intsO, rowsO]
  simp -implicitDefEqProofs only [go_sem, List.reduceReplicate, Nat.reduceEqDiff, Nat.reduceAdd, Nat.reduceLeDiff, Nat.reduceMul, Nat.reduceSub, Nat.reduceDiv, Int.reduceToNat, Nat.reduceLT, Int.reduceLT, Int.reduceLE, ↓reduceIte, reduceCtorEq, forall_apply_eq_imp_iff₂, ints, rows, rat, rats, toNat_cast]
  refine CallW.ref (laws_markInt64SS_ok (adjRes m).1 1 (by omega) (by omega) (by omega) (by omega)) [29] [] rfl Try.call33 (by simp) ?_ (by simp) ?_ (.inl rfl) ?_
  · simp -implicitDefEqProofs only [rootOf_arr, rootOf_box, rootOf_any, srcsOK, updL, updS, upd_apply, Nat.reduceEqDiff, ↓reduceIte, mkRoots, and_true, ints, rows, intsO, rowsO]
  · simp -implicitDefEqProofs only [Int.natCast_zero, Int.cast_ofNat_Int, Int.natCast_one, Nat.le_refl, Nat.reduceLeDiff, Nat.sub_self, Nat.reduceSub, List.getElem?_cons_zero, List.getElem?_cons_succ, vt_self, vaL, vtL, va, vt, vb, maT, List.cons_append, List.nil_append, List.append_nil, true_or, or_true, go_sem, List.reduceReplicate, Nat.reduceEqDiff, Nat.reduceAdd, Nat.reduceLeDiff, Nat.reduceMul, Nat.reduceSub, Nat.reduceDiv, Int.reduceToNat, Nat.reduceLT, Int.reduceLT, Int.reduceLE, ↓reduceIte, reduceCtorEq, ints, rows, rat, rats, ratsO, toShL_ratC, List.mem_cons, List.mem_nil_iff, List.not_mem_nil, or_false, false_or, exists_eq_left, exists_eq_left', exists_eq_right', Root.live.injEq, eq_self_iff_true, exists_eq, and_true, T.toSh, toShL_ints, toShL_intsO, intsO, rowsO]
  simp -implicitDefEqProofs only [List.append_nil, List.cons_append, Nat.reduceLeDiff, afterCall, absT_rowsO, absT_intsO, absT, absL, updL, updS, freeAll, rid, T.noSh, T.noShL, Nat.zero_le, go_sem, List.reduceReplicate, Nat.reduceEqDiff, Nat.reduceAdd, Nat.reduceLeDiff, Nat.reduceMul, Nat.reduceSub, Nat.reduceDiv, Int.reduceToNat, Nat.reduceLT, Int.reduceLT, Int.reduceLE, ↓reduceIte, reduceCtorEq, rat, forall_apply_eq_imp_iff₂, toNat_cast]
  refine CallW.pure (laws_heldInt64SS_ok (marksR (adjRes m).1 1) 1 (by rw [marksR_length]; omega) (fun r h => by have := marksR_rows hf2 r h; omega) (by rw [tot_marksR]; omega) (by omega) (by omega)) [29] rfl Try.call38 ?_ (by first | trivial | simp [T.noSh, T.noShL, rat]) rfl ?_
  · simp -implicitDefEqProofs only [Int.natCast_zero, Int.cast_ofNat_Int, Int.natCast_one, Nat.le_refl, Nat.reduceLeDiff, Nat.sub_self, Nat.reduceSub, List.getElem?_cons_zero, List.getElem?_cons_succ, vt_self, vaL, vtL, va, vt, vb, maT, List.cons_append, List.nil_append, List.append_nil, true_or, or_true, go_sem, List.reduceReplicate, Nat.reduceEqDiff, Nat.reduceAdd, Nat.reduceLeDiff, Nat.reduceMul, Nat.reduceSub, Nat.reduceDiv, Int.reduceToNat, Nat.reduceLT, Int.reduceLT, Int.reduceLE, ↓reduceIte, reduceCtorEq, ints, rows, rat, rats, ratsO, toShL_ratC, List.mem_cons, List.mem_nil_iff, List.not_mem_nil, or_false, false_or, exists_eq_left, exists_eq_left', exists_eq_right', Root.live.injEq, eq_self_iff_true, exists_eq, and_true, T.toSh, toShL_ints, toShL_intsO, intsO, rowsO]
  simp -implicitDefEqProofs only [go_sem, List.reduceReplicate, Nat.reduceEqDiff, Nat.reduceAdd, Nat.reduceLeDiff, Nat.reduceMul, Nat.reduceSub, Nat.reduceDiv, Int.reduceToNat, Nat.reduceLT, Int.reduceLT, Int.reduceLE, ↓reduceIte, reduceCtorEq, forall_apply_eq_imp_iff₂, ints, rows, rat, rats, toNat_cast, hheld]
  refine ⟨fun h => absurd h (by omega), fun _ => ?_⟩
  refine CallW.res (laws_toInt64SS_ok m hm2 hr2) [] rfl Try.call17 ?_ (.inl rfl) ?_
  · simp -implicitDefEqProofs only [Int.natCast_zero, Int.cast_ofNat_Int, Int.natCast_one, Nat.le_refl, Nat.reduceLeDiff, Nat.sub_self, Nat.reduceSub, List.getElem?_cons_zero, List.getElem?_cons_succ, vt_self, vaL, vtL, va, vt, vb, maT, List.cons_append, List.nil_append, List.append_nil, true_or, or_true, go_sem, List.reduceReplicate, Nat.reduceEqDiff, Nat.reduceAdd, Nat.reduceLeDiff, Nat.reduceMul, Nat.reduceSub, Nat.reduceDiv, Int.reduceToNat, Nat.reduceLT, Int.reduceLT, Int.reduceLE, ↓reduceIte, reduceCtorEq, ints, rows, rat, rats, ratsO, toShL_ratC, List.mem_cons, List.mem_nil_iff, List.not_mem_nil, or_false, false_or, exists_eq_left, exists_eq_left', exists_eq_right', Root.live.injEq, eq_self_iff_true, exists_eq, and_true, T.toSh, toShL_ints, toShL_intsO, intsO, rowsO]
  simp -implicitDefEqProofs only [List.append_nil, List.cons_append, Nat.reduceLeDiff, afterCall, absT_rowsO, absT_intsO, absT, absL, updL, updS, freeAll, rid, T.noSh, T.noShL, Nat.zero_le, go_sem, List.reduceReplicate, Nat.reduceEqDiff, Nat.reduceAdd, Nat.reduceLeDiff, Nat.reduceMul, Nat.reduceSub, Nat.reduceDiv, Int.reduceToNat, Nat.reduceLT, Int.reduceLT, Int.reduceLE, ↓reduceIte, reduceCtorEq, rat, forall_apply_eq_imp_iff₂, toNat_cast]
  refine CallW.res (impl_Adjugate_ok m (by omega) hr3) [75] rfl Try.call42 ?_ (.inr (adjT_noSh m)) ?_
  · simp -implicitDefEqProofs only [Int.natCast_zero, Int.cast_ofNat_Int, Int.natCast_one, Nat.le_refl, Nat.reduceLeDiff, Nat.sub_self, Nat.reduceSub, List.getElem?_cons_zero, List.getElem?_cons_succ, vt_self, vaL, vtL, va, vt, vb, maT, List.cons_append, List.nil_append, List.append_nil, true_or, or_true, go_sem, List.reduceReplicate, Nat.reduceEqDiff, Nat.reduceAdd, Nat.reduceLeDiff, Nat.reduceMul, Nat.reduceSub, Nat.reduceDiv, Int.reduceToNat, Nat.reduceLT, Int.reduceLT, Int.reduceLE, ↓reduceIte, reduceCtorEq, ints, rows, rat, rats, ratsO, toShL_ratC, List.mem_cons, List.mem_nil_iff, List.not_mem_nil, or_false, false_or, exists_eq_left, exists_eq_left', exists_eq_right', Root.live.injEq, eq_self_iff_true, exists_eq, and_true, T.toSh, toShL_ints, toShL_intsO, intsO, rowsO]
  simp -implicitDefEqProofs only [List.append_nil, List.cons_append, Nat.reduceLeDiff, afterCall, absT_rowsO, absT_intsO, absT, absL, updL, updS, freeAll, rid, T.noSh, T.noShL, Nat.zero_le, go_sem, List.reduceReplicate, Nat.reduceEqDiff, Nat.reduceAdd, Nat.reduceLeDiff, Nat.reduceMul, Nat.reduceSub, Nat.reduceDiv, Int.reduceToNat, Nat.reduceLT, Int.reduceLT, Int.reduceLE, ↓reduceIte, reduceCtorEq, rat, forall_apply_eq_imp_iff₂, toNat_cast, adjT]
  refine CallW.pure (laws_eqInt64SS_ok (adjRes m).1 (adjRes m).1 (by omega) (by omega) hf4 hf4) [76, 22] rfl Try.call19 ?_ (by first | trivial | simp [T.noSh, T.noShL, rat]) rfl ?_
  · simp -implicitDefEqProofs only [Int.natCast_zero, Int.cast_ofNat_Int, Int.natCast_one, Nat.le_refl, Nat.reduceLeDiff, Nat.sub_self, Nat.reduceSub, List.getElem?_cons_zero, List.getElem?_cons_succ, vt_self, vaL, vtL, va, vt, vb, maT, List.cons_append, List.nil_append, List.append_nil, true_or, or_true, go_sem, List.reduceReplicate, Nat.reduceEqDiff, Nat.reduceAdd, Nat.reduceLeDiff, Nat.reduceMul, Nat.reduceSub, Nat.reduceDiv, Int.reduceToNat, Nat.reduceLT, Int.reduceLT, Int.reduceLE, ↓reduceIte, reduceCtorEq, ints, rows, rat, rats, ratsO, toShL_ratC, List.mem_cons, List.mem_nil_iff, List.not_mem_nil, or_false, false_or, exists_eq_left, exists_eq_left', exists_eq_right', Root.live.injEq, eq_self_iff_true, exists_eq, and_true, T.toSh, toShL_ints, toShL_intsO, intsO, rowsO]
  simp -implicitDefEqProofs only [go_sem, List.reduceReplicate, Nat.reduceEqDiff, Nat.reduceAdd, Nat.reduceLeDiff, Nat.reduceMul, Nat.reduceSub, Nat.reduceDiv, Int.reduceToNat, Nat.reduceLT, Int.reduceLT, Int.reduceLE, ↓reduceIte, reduceCtorEq, forall_apply_eq_imp_iff₂, ints, rows, rat, rats, toNat_cast]
  refine CallW.pure (laws_heldInt64SS_ok (marksR (adjRes m).1 1) 1 (by rw [marksR_length]; omega) (fun r h => by have := marksR_rows hf2 r h; omega) (by rw [tot_marksR]; omega) (by omega) (by omega)) [29] rfl Try.call38 ?_ (by first | trivial | simp [T.noSh, T.noShL, rat]) rfl ?_
  · simp -implicitDefEqProofs only [Int.natCast_zero, Int.cast_ofNat_Int, Int.natCast_one, Nat.le_refl, Nat.reduceLeDiff, Nat.sub_self, Nat.reduceSub, List.getElem?_cons_zero, List.getElem?_cons_succ, vt_self, vaL, vtL, va, vt, vb, maT, List.cons_append, List.nil_append, List.append_nil, true_or, or_true, go_sem, List.reduceReplicate, Nat.reduceEqDiff, Nat.reduceAdd, Nat.reduceLeDiff, Nat.reduceMul, Nat.reduceSub, Nat.reduceDiv, Int.reduceToNat, Nat.reduceLT, Int.reduceLT, Int.reduceLE, ↓reduceIte, reduceCtorEq, ints, rows, rat, rats, ratsO, toShL_ratC, List.mem_cons, List.mem_nil_iff, List.not_mem_nil, or_false, false_or, exists_eq_left, exists_eq_left', exists_eq_right', Root.live.injEq, eq_self_iff_true, exists_eq, and_true, T.toSh, toShL_ints, toShL_intsO, intsO, rowsO]
  simp -implicitDefEqProofs only [go_sem, List.reduceReplicate, Nat.reduceEqDiff, Nat.reduceAdd, Nat.reduceLeDiff, Nat.reduceMul, Nat.reduceSub, Nat.reduceDiv, Int.reduceToNat, Nat.reduceLT, Int.reduceLT, Int.reduceLE, ↓reduceIte, reduceCtorEq, forall_apply_eq_imp_iff₂, ints, rows, rat, rats, toNat_cast, hheld]
  exact ⟨fun h => absurd h (by omega), fun _ => trivial⟩
end Go.Ab

set_option linter.unusedSimpArgs false
set_option linter.unusedVariables false
namespace Go.Proofs.Ytbilpaghpgomeaa
open Go.ChangeShapes Go.WideShapes Go.ChangeAt Go.RowKit Go.Ab

namespace fnExactAdjugate
theorem said : ∀ xs, wtL [tyRows] xs → Pure Try.prog 10 xs (.b true)
  | [x], h => by
    obtain ⟨m, rfl, hm, hr⟩ := wt_rows h.1
    exact laws_FnExactAdjugate_ok m (by omega) (fun r h => by have := (hr r h).1; omega)
  | [], h => h.elim
  | _ :: _ :: _, h => h.2.elim

set_option maxRecDepth 100000 in
theorem lifted (os : Os) (started : os.Started) (H : Type) (enc : TypeId × Value → H) :
    ReturnsInHanded {} Try.checked os 10 .any (Rows.fnExactAdjugateSpec.pre6 enc Try.prog Try.f10 Rows.fnExactAdjugateRow.domain false) (Rows.fnExactAdjugateSpec.post enc Try.prog Try.f10 false true false false) := by
  refine returnsInHanded_of_change (C := Try.checked) (by kernel_rfl) started (by kernel_rfl) Try.func10
    (ChangeSpec.witness6 (enc := enc) (C := Try.checked) false ⟨#[], #[.slice none 0 0], []⟩ 8 (by kernel_rfl) (by kernel_rfl) (by kernel_rfl) (by kernel_rfl)) ?_
  intro W base args ds gs before hval hW _ _
  refine law_contract (tys := [tyRows]) (by kernel_rfl) (by kernel_rfl) rfl (by kernel_rfl) rfl (fun ds h => ?_) said W base args ds gs before hval hW
  match ds, h with
  | [d0], _ => rfl

theorem over : Rows.fnExactAdjugateRow.holds Try.pinned (OpenSpec.ofChange Rows.fnExactAdjugateSpec) :=
  OpenClaim.holds_of_wide 10 Try.f10 rfl rfl rfl rfl rfl rfl rfl ⟨rfl, rfl, rfl, rfl, rfl⟩ rfl rfl rfl rfl rfl (by kernel_rfl) Try.func10 (by kernel_rfl)
    (of_decide_eq_true (by kernel_rfl)) (by unfold Func.isWrapper; first | (rw [if_pos (by decide +kernel)]; kernel_rfl) | (rw [if_neg (by decide +kernel)]; exact ⟨rfl, rfl⟩))
    (fun os started H enc _ => lifted os started H enc)
end fnExactAdjugate

theorem fnExactAdjugate_holds : Rows.FnExactAdjugateSaid := fnExactAdjugate.over
#print axioms fnExactAdjugate_holds
end Go.Proofs.Ytbilpaghpgomeaa
