/- A matrix times its adjugate has the determinant in the diagonal, and 0 elsewhere: the law FnAdjugates returns true for every list of bytes. No conditions. -/
import Derived.Test.YtbnlplhpnbijhaaRows
import Derived.Test.YtbnlplhpnbijhaaQ3
/- Contracts: picks. -/
set_option linter.unusedSimpArgs false
set_option linter.unusedVariables false
namespace Go.Ab
open Go.Proofs

theorem nextS_seed {cs : List Int} {a : Nat × Int} (hl : cs.length ≤ 100000000000) (ha : seedOK a) (n : Int) : seedOK (nextS cs a n).2 := by
  obtain ⟨h1, h2, h3⟩ := ha
  have hs1 := Int.emod_nonneg (a.2 * 48271 + 29) (show (2147483647 : Int) ≠ 0 by decide)
  have hs2 := Int.emod_lt_of_pos (a.2 * 48271 + 29) (show (0 : Int) < 2147483647 by decide)
  unfold nextS
  split
  · exact ⟨h1, h2, h3⟩
  · split
    · exact ⟨hs1, hs2, by show a.1 + 1 ≤ _; omega⟩
    · exact ⟨hs1, hs2, h3⟩
theorem seed_from (l : List Int) : seedOK (0, fromS l) := ⟨(fromS_bound l).1, (fromS_bound l).2, Nat.zero_le _⟩
/-- One out of a list. -/
def pickS (cs : List Int) (a : Nat × Int) (l : List Int) : Int × (Nat × Int) := (l.getD (nextS cs a l.length).1.toNat 0, (nextS cs a l.length).2)
theorem pickS_mem {cs : List Int} {a : Nat × Int} {l : List Int} (h : 1 ≤ l.length) : (pickS cs a l).1 ∈ l := by
  have hb := nextS_bound (cs := cs) (a := a) (show (1 : Int) ≤ l.length by omega)
  unfold pickS
  rw [List.getD_eq_getElem?_getD, List.getElem?_eq_getElem (show (nextS cs a l.length).1.toNat < l.length by omega)]
  exact List.getElem_mem _
/-- The same, with the source's tree in sight. -/
theorem next_box (cs : List Int) (hc : bytesOK cs) (hl : cs.length ≤ 100000000000) (a : Nat × Int) (ha : seedOK a) (n : Int) (hn : n ≤ 1000000000000) : Fun Try.prog 95 [.box [bytes cs, .i a.1, .i a.2]] [.own 1000000000, .t (.i n)] fun o r => o = [.box [bytes cs, .i (nextS cs a n).2.1, .i (nextS cs a n).2.2]] ∧ r = .i (nextS cs a n).1 := spec_l01Next_ok cs hc hl a ha n hn
theorem pickS_seed {cs : List Int} {a : Nat × Int} (hl : cs.length ≤ 100000000000) (ha : seedOK a) (l : List Int) : seedOK (pickS cs a l).2 := nextS_seed hl ha _
/-- The list handed over as an owned slice (a root that is lent may not stand beside shared data in what comes back). -/
theorem pick_own (cs : List Int) (hc : bytesOK cs) (hl : cs.length ≤ 100000000000) (a : Nat × Int) (ha : seedOK a) (l : List Int) (h1 : 1 ≤ l.length) (h2 : l.length ≤ 1000000) : Fun Try.prog 96 [.box [bytes cs, .i a.1, .i a.2], intsO l] [.own 1000000000, .own 1000000001] fun o r => o = [.box [bytes cs, .i (pickS cs a l).2.1, .i (pickS cs a l).2.2], intsO l] ∧ r = .i (pickS cs a l).1 := by
  have hb := nextS_bound (cs := cs) (a := a) (show (1 : Int) ≤ l.length by omega)
  obtain ⟨x, hx⟩ : ∃ x, l[(nextS cs a l.length).1.toNat]? = some x := ⟨_, List.getElem?_eq_getElem (show (nextS cs a l.length).1.toNat < l.length by omega)⟩
  have hg : (pickS cs a l).1 = x := by rw [pickS, List.getD_eq_getElem?_getD, hx]; rfl
  refine fun_spec_l01Pick (by simp) ?_
  simp -implicitDefEqProofs only [go_sem, List.reduceReplicate, Nat.reduceEqDiff, Nat.reduceAdd, Nat.reduceLeDiff, Nat.reduceMul, Nat.reduceSub, Nat.reduceDiv, Int.reduceToNat, Nat.reduceLT, Int.reduceLT, Int.reduceLE, ↓reduceIte, reduceCtorEq, forall_apply_eq_imp_iff₂, ints, rows, rat, rats, toNat_cast, c_spec_l01Pick, intsO]
  refine CallW.ref (next_box cs hc hl a ha l.length (by omega)) [1000000000] [] rfl Try.call95 (by simp) ?_ (by simp) ?_ (.inl rfl) ?_
  · simp -implicitDefEqProofs only [rootOf_arr, rootOf_box, rootOf_any, srcsOK, updL, updS, upd_apply, Nat.reduceEqDiff, ↓reduceIte, mkRoots, and_true, ints, rows, intsO, rowsO]
  · simp -implicitDefEqProofs only [Int.natCast_zero, Int.cast_ofNat_Int, Int.natCast_one, Nat.le_refl, Nat.reduceLeDiff, Nat.sub_self, Nat.reduceSub, List.getElem?_cons_zero, List.getElem?_cons_succ, vt_self, vaL, vtL, va, vt, vb, maT, List.cons_append, List.nil_append, List.append_nil, true_or, or_true, go_sem, List.reduceReplicate, Nat.reduceEqDiff, Nat.reduceAdd, Nat.reduceLeDiff, Nat.reduceMul, Nat.reduceSub, Nat.reduceDiv, Int.reduceToNat, Nat.reduceLT, Int.reduceLT, Int.reduceLE, ↓reduceIte, reduceCtorEq, ints, rows, rat, rats, ratsO, toShL_ratC, List.mem_cons, List.mem_nil_iff, List.not_mem_nil, or_false, false_or, exists_eq_left, exists_eq_left', exists_eq_right', Root.live.injEq, eq_self_iff_true, exists_eq, and_true, T.toSh, toShL_ints, toShL_intsO, intsO, rowsO]
  simp -implicitDefEqProofs only [List.append_nil, List.cons_append, Nat.reduceLeDiff, afterCall, absT_rowsO, absT_intsO, absT, absL, updL, updS, freeAll, rid, T.noSh, T.noShL, Nat.zero_le, go_sem, List.reduceReplicate, Nat.reduceEqDiff, Nat.reduceAdd, Nat.reduceLeDiff, Nat.reduceMul, Nat.reduceSub, Nat.reduceDiv, Int.reduceToNat, Nat.reduceLT, Int.reduceLT, Int.reduceLE, ↓reduceIte, reduceCtorEq, rat, forall_apply_eq_imp_iff₂, toNat_cast]
  refine ⟨by omega, by omega, by omega, fun y hy => ?_⟩
  rw [hx] at hy; cases hy
  exact ⟨rfl, by rw [hg]⟩
end Go.Ab

/- Contracts: small functions of the laws. -/
set_option linter.unusedSimpArgs false
set_option linter.unusedVariables false
namespace Go.Ab
open Go.Proofs

theorem laws_big_ok (cs : List Int) : Pure Try.prog 16 [bytes cs] (.b (decide ((cs.length : Int) > 4096))) := by
  refine fun_laws_big (by simp) ?_
  simp -implicitDefEqProofs only [go_sem, List.reduceReplicate, Nat.reduceEqDiff, Nat.reduceAdd, Nat.reduceLeDiff, Nat.reduceMul, Nat.reduceSub, Nat.reduceDiv, Int.reduceToNat, Nat.reduceLT, Int.reduceLT, Int.reduceLE, ↓reduceIte, reduceCtorEq, forall_apply_eq_imp_iff₂, ints, rows, rat, rats, toNat_cast, c_laws_big, bytes]
theorem laws_likeInts_ok (a b : List Int) (ha : a.length ≤ 1000000000000) (hb : b.length ≤ 1000000000000) : Pure Try.prog 23 [ints a, ints b] (.b (decide (a = b))) := by
  refine fun_laws_likeInts (by simp) ?_
  simp -implicitDefEqProofs only [c_laws_likeInts, ints, go_sem, List.reduceReplicate, Nat.reduceEqDiff, Nat.reduceAdd, Nat.reduceLeDiff, Nat.reduceMul, Nat.reduceSub, Nat.reduceDiv, Int.reduceToNat, Nat.reduceLT, Int.reduceLT, Int.reduceLE, ↓reduceIte, reduceCtorEq]
  refine ⟨fun h => ?_, fun h => ?_⟩
  · have : a ≠ b := by rintro rfl; simp at h
    simp [this]
  · have hab : a.length = b.length := by simp at h; omega
    refine SemC.loopR (σ := Nat) (fun i => St.of [(0, .t (ints a)), (1, .t (ints b)), (5, .t (.i i))] []) (fun i => i ≤ a.length ∧ ∀ j, j < i → a[j]? = b[j]?) (fun i => a.length - i) 0 (Weak.of _ [] [] (by simp) (by simp) ?_ trivial) ⟨by simp, fun j hj => by omega⟩ fun i hI R hn hr he => ?_
    · simp -implicitDefEqProofs only [ints, Int.add_zero, envOK, maA, maT, upd_apply, Nat.reduceEqDiff, ↓reduceIte, and_true, true_or, or_true, List.map_cons, List.map_nil, Nat.zero_ne_one, and_self, true_and, Int.natCast_zero, Int.cast_ofNat_Int, Int.ofNat_zero]
    · simp -implicitDefEqProofs only [ints, go_sem, List.reduceReplicate, Nat.reduceEqDiff, Nat.reduceAdd, Nat.reduceLeDiff, Nat.reduceMul, Nat.reduceSub, Nat.reduceDiv, Int.reduceToNat, Nat.reduceLT, Int.reduceLT, Int.reduceLE, ↓reduceIte, reduceCtorEq, toNat_cast]
      refine ⟨fun h => ⟨by omega, by omega, by omega, fun c x hx hc => ⟨by omega, by omega, by omega, fun c' y hy hc' => ?_⟩⟩, fun h => he _ _ ?_⟩
      · subst hc hc'
        simp -implicitDefEqProofs only [go_sem, List.reduceReplicate, Nat.reduceEqDiff, Nat.reduceAdd, Nat.reduceLeDiff, Nat.reduceMul, Nat.reduceSub, Nat.reduceDiv, Int.reduceToNat, Nat.reduceLT, Int.reduceLT, Int.reduceLE, ↓reduceIte, reduceCtorEq]
        refine ⟨fun h1 => hr _ ?_, fun h1 => hn _ (i + 1) (Weak.of _ [] [] (by simp) (by simp) ?_ trivial) ⟨by omega, fun j hj => ?_⟩ (by omega)⟩
        · simp -implicitDefEqProofs only [go_sem, List.reduceReplicate, Nat.reduceEqDiff, Nat.reduceAdd, Nat.reduceLeDiff, Nat.reduceMul, Nat.reduceSub, Nat.reduceDiv, Int.reduceToNat, Nat.reduceLT, Int.reduceLT, Int.reduceLE, ↓reduceIte, reduceCtorEq]
          have : a ≠ b := by rintro rfl; rw [hx] at hy; cases hy; simp at h1
          simp [this]
        · simp -implicitDefEqProofs only [ints, Int.add_zero, envOK, maA, maT, upd_apply, Nat.reduceEqDiff, ↓reduceIte, and_true, true_or, or_true, List.map_cons, List.map_nil, Nat.zero_ne_one, and_self, true_and, Int.natCast_zero, Int.cast_ofNat_Int, Int.ofNat_zero, next64 (by omega : i < a.length) ha]
        · rcases Nat.lt_or_ge j i with h | h
          · exact hI.2 j h
          · have : j = i := by omega
            subst this
            rw [hx, hy]; simpa using h1
      · simp -implicitDefEqProofs only [go_sem, List.reduceReplicate, Nat.reduceEqDiff, Nat.reduceAdd, Nat.reduceLeDiff, Nat.reduceMul, Nat.reduceSub, Nat.reduceDiv, Int.reduceToNat, Nat.reduceLT, Int.reduceLT, Int.reduceLE, ↓reduceIte, reduceCtorEq]
        have : a = b := by
          refine List.ext_getElem? fun j => ?_
          rcases Nat.lt_or_ge j i with h | h
          · exact hI.2 j h
          · rw [List.getElem?_eq_none (by omega), List.getElem?_eq_none (by omega)]
        simp [this]
end Go.Ab

/- Functions in compact form, with hints. -/
set_option linter.unusedVariables false
namespace Go.Ab
open Go.Proofs

def c_spec_l27DrawSquare_h : CC :=
  (.seq (.reg [.o (.move 2 (cv (.slice none 0 0)))])
  ((.seq (.reg [.o (.move 5 (sl 0)),
     .o (.call (some 6) (cf 132) [(sl 5)]),
     .o (.move 3 (sl 6))])
  ((.seq (.seq (.reg [.o (.move 7 (sl 3)),
      .o (.call (some 8) (cf 68) [(sl 7)]),
      .o (.un 9 .not (sl 8)),
      .o (.move 10 (sl 9)),
      .g 10 false (some 11) (.move 11 (sl 0)),
      .g 10 false (some 12) (.call (some 12) (cf 95) [(sl 11), (ci 8)]),
      .g 10 false (some 13) (.bin 13 .eql (sl 12) (ci 0)),
      .o (.pick 14 (sl 10) (cb true) (sl 13))])
   ((.cond (sl 14) (.seq (.reg [.o (.move 15 (sl 3)),
       .o (.move 2 (sl 15))])
    (.ret))
    .skip)))
  ((.seq (.weak (.reg [.o (.move 16 (sl 3)),
      .o (.lenS 17 (sl 16)),
      .o (.move 18 (sl 3)),
      .o (.idx 19 1 (sl 18) (ci 0)),
      .o (.load1 20 (sl 19)),
      .o (.lenS 21 (sl 20)),
      .o (.mm 22 false (sl 17) (sl 21)),
      .o (.move 4 (sl 22))]))
  ((.seq (.reg [.o (.move 23 (sl 3)),
     .o (.move 24 (sl 4)),
     .o (.call (some 25) (cf 153) [(sl 24)]),
     .o (.move 26 (sl 4)),
     .o (.call (some 27) (cf 153) [(sl 26)]),
     .o (.call (some 28) (cf 152) [(sl 23), (sl 25), (sl 27)]),
     .o (.move 2 (sl 28))])
  (.ret))))))))))
theorem fun_spec_l27DrawSquare_h {rin : List T} {args : List A} {Q : List T → T → Prop} (ha : args.length ≤ 29) (h : cW Try.prog 29 c_spec_l27DrawSquare_h (retP Try.prog [.tmp 2] rin.length Q) (St.of (enum 0 args) (enum 1000000000 rin))) :
    Fun Try.prog 105 rin args Q :=
  Fun.of (H := ⟨[], [4]⟩) Try.func105 rfl rfl rfl (by kernel_rfl) ha (by decide) h

def c_spec_l26Draw_h : CC :=
  (.seq (.reg [.o (.move 2 (cv (.slice none 0 0)))])
  ((.seq (.reg [.o (.move 10 (sl 0)),
     .o (.call (some 11) (cf 95) [(sl 10), (ci 4)]),
     .o (.bin 12 .add (ci 1) (sl 11)),
     .o (.move 13 (sl 0)),
     .o (.call (some 14) (cf 95) [(sl 13), (ci 4)]),
     .o (.bin 15 .add (ci 1) (sl 14)),
     .o (.move 3 (sl 12)),
     .o (.move 4 (sl 15))])
  ((.seq (.reg [.o (.move 16 (sl 0)),
     .o (.bslice 17 1 3 [(0, (ci 2)), (1, (ci 5)), (2, (ci 20))]),
     .o (.call (some 18) (cf 96) [(sl 16), (sl 17)]),
     .o (.move 5 (sl 18))])
  ((.seq (.reg [.o (.bslice 19 1 0 []),
     .o (.move 6 (sl 19))])
  ((.seq (.seq (.reg [.o (.move 7 (ci 0))])
   ((.block 0 (.loop (.seq (.seq (.reg [.o (.move 20 (sl 7)),
         .o (.move 21 (sl 3)),
         .o (.bin 22 .lss (sl 20) (sl 21))])
      ((.cond (sl 22) .skip
       (.exit 0))))
     ((.seq (.block 1 (.seq (.reg [.o (.bslice 25 1 0 []),
          .o (.move 8 (sl 25))])
       ((.seq (.seq (.reg [.o (.move 9 (ci 0))])
        ((.block 2 (.loop (.seq (.seq (.reg [.o (.move 26 (sl 9)),
              .o (.move 27 (sl 4)),
              .o (.bin 28 .lss (sl 26) (sl 27))])
           ((.cond (sl 28) .skip
            (.exit 2))))
          ((.seq (.block 3 (.reg [.o (.move 31 (sl 8)),
              .o (.move 32 (sl 0)),
              .o (.move 33 (sl 5)),
              .o (.bin 34 .mul (ci 2) (sl 33)),
              .o (.bin 35 .add (sl 34) (ci 1)),
              .o (.call (some 36) (cf 95) [(sl 32), (sl 35)]),
              .o (.move 37 (sl 5)),
              .o (.bin 38 .sub (sl 36) (sl 37)),
              .o (.bslice 39 1 1 [(0, (sl 38))]),
              .o (.app 40 1 8 (sl 31) (sl 39)),
              .o (.move 8 (sl 40))]))
          ((.reg [.o (.move 29 (sl 9)),
            .o (.bin 30 .add (sl 29) (ci 1)),
            .o (.move 9 (sl 30))])))))))))
       ((.reg [.o (.move 41 (sl 6)),
         .o (.move 42 (sl 8)),
         .o (.bslice 43 1 1 [(0, (sl 42))]),
         .o (.app 44 1 24 (sl 41) (sl 43)),
         .o (.move 6 (sl 44))]))))))
     ((.reg [.o (.move 23 (sl 7)),
       .o (.bin 24 .add (sl 23) (ci 1)),
       .o (.move 7 (sl 24))])))))))))
  ((.seq (.seq (.reg [.o (.move 45 (sl 0)),
      .o (.call (some 46) (cf 95) [(sl 45), (ci 24)])])
   ((.block 4 (.seq (.reg [.o (.bin 48 .eql (sl 46) (ci 0)),
       .o (.move 47 (sl 48))])
    ((.cond (sl 47) (.weak (.draw [53] [(kE, .o (.move 49 (sl 6))),
        (.r false [1000000000, 54, 53], .o (.idx 50 1 (sl 49) (ci 0))),
        (.r false [1000000000, 54, 53], .o (.load1 51 (sl 50))),
        (kR, .o (.move 52 (sl 0))),
        (kN, .o (.bslice 53 1 3 [(0, (ci 20)), (1, (ci 21)), (2, (ci (-21)))])),
        (.h (some [1000000000, 53]) [], .o (.call (some 54) (cf 96) [(sl 52), (sl 53)])),
        (kR, .o (.idx 55 1 (sl 51) (ci 0))),
        (kH, .o (.store 1 (sl 55) (sl 54)))]))
     (.seq (.reg [.o (.bin 57 .eql (sl 46) (ci 1)),
        .o (.move 56 (sl 57))])
     ((.cond (sl 56) (.reg [.o (.move 58 (sl 6)),
        .o (.bslice 59 1 5 [(0, (ci 1)), (1, (ci 2)), (2, (ci 3)), (3, (ci 4)), (4, (ci 5))]),
        .o (.bslice 60 1 1 [(0, (sl 59))]),
        .o (.app 61 1 24 (sl 58) (sl 60)),
        .o (.move 6 (sl 61))])
      (.seq (.reg [.o (.bin 63 .eql (sl 46) (ci 2)),
         .o (.move 62 (sl 63))])
      ((.cond (sl 62) (.seq (.reg [.o (.move 2 (cv (.slice none 0 0)))])
       (.ret))
       .skip))))))))))))
  ((.seq (.weak (.reg [.o (.move 64 (sl 6)),
      .o (.move 2 (sl 64))]))
  (.ret))))))))))))))
theorem fun_spec_l26Draw_h {rin : List T} {args : List A} {Q : List T → T → Prop} (ha : args.length ≤ 65) (h : cW Try.prog 65 c_spec_l26Draw_h (retP Try.prog [.tmp 2] rin.length Q) (St.of (enum 0 args) (enum 1000000000 rin))) :
    Fun Try.prog 132 rin args Q :=
  Fun.of (H := ⟨[(15, 1, .r false [1000000000, 54, 53]), (15, 2, .r false [1000000000, 54, 53]), (15, 5, .h (some [1000000000, 53]) [])], [15, 20]⟩) Try.func132 rfl rfl rfl (by kernel_rfl) ha (by decide) h

end Go.Ab

/- Contracts: drawn matrices. -/
set_option linter.unusedSimpArgs false
set_option linter.unusedVariables false
namespace Go.Ab
open Go.Proofs

/-- A drawn matrix is small. -/
def smallM (m : List (List Int)) : Prop := m.length ≤ 6 ∧ ∀ r ∈ m, r.length ≤ 6
theorem smallM_snoc {m : List (List Int)} {r : List Int} (h : ∀ r ∈ m, r.length ≤ 6) (hr : r.length ≤ 6) : ∀ x ∈ m ++ [r], x.length ≤ 6 := by
  intro x hx
  rcases List.mem_append.1 hx with hx | hx
  · exact h x hx
  · simp at hx; rw [hx]; exact hr
set_option maxRecDepth 20000 in
theorem spec_l26Draw_ok (cs : List Int) (hc : bytesOK cs) (hl : cs.length ≤ 100000000000) (a : Nat × Int) (ha : seedOK a) : Fun Try.prog 132 [.box [bytes cs, .i a.1, .i a.2]] [.own 1000000000] fun o r => ∃ x : List (List Int) × (Nat × Int), o = [.box [bytes cs, .i x.2.1, .i x.2.2]] ∧ r = rowsO x.1 ∧ (smallM x.1 ∧ seedOK x.2) := by
  refine Fun.le (Q := fun o r => ∃ x : List (List Int) × (Nat × Int), o = [.box [bytes cs, .i x.2.1, .i x.2.2]] ∧ (r = rowsO x.1 ∨ (r = .v (.slice none 0 0) ∧ x.1 = [])) ∧ (smallM x.1 ∧ seedOK x.2)) ?_ ?_
  · refine fun_spec_l26Draw_h (by simp) ?_
    simp -implicitDefEqProofs only [go_sem, List.reduceReplicate, Nat.reduceEqDiff, Nat.reduceAdd, Nat.reduceLeDiff, Nat.reduceMul, Nat.reduceSub, Nat.reduceDiv, Int.reduceToNat, Nat.reduceLT, Int.reduceLT, Int.reduceLE, ↓reduceIte, reduceCtorEq, forall_apply_eq_imp_iff₂, ints, rows, rat, rats, toNat_cast, c_spec_l26Draw_h]
    refine CallW.ref (next_box cs hc hl a ha 4 (by omega)) [1000000000] [] rfl Try.call95 (by simp) ?_ (by simp) ?_ (.inl rfl) ?_
    · simp -implicitDefEqProofs only [rootOf_arr, rootOf_box, rootOf_any, srcsOK, updL, updS, upd_apply, Nat.reduceEqDiff, ↓reduceIte, mkRoots, and_true, ints, rows, intsO, rowsO]
    · simp -implicitDefEqProofs only [Int.natCast_zero, Int.cast_ofNat_Int, Int.natCast_one, Nat.le_refl, Nat.reduceLeDiff, Nat.sub_self, Nat.reduceSub, List.getElem?_cons_zero, List.getElem?_cons_succ, vt_self, vaL, vtL, va, vt, vb, maT, List.cons_append, List.nil_append, List.append_nil, true_or, or_true, go_sem, List.reduceReplicate, Nat.reduceEqDiff, Nat.reduceAdd, Nat.reduceLeDiff, Nat.reduceMul, Nat.reduceSub, Nat.reduceDiv, Int.reduceToNat, Nat.reduceLT, Int.reduceLT, Int.reduceLE, ↓reduceIte, reduceCtorEq, ints, rows, rat, rats, ratsO, toShL_ratC, List.mem_cons, List.mem_nil_iff, List.not_mem_nil, or_false, false_or, exists_eq_left, exists_eq_left', exists_eq_right', Root.live.injEq, eq_self_iff_true, exists_eq, and_true, T.toSh, toShL_ints, toShL_intsO, intsO, rowsO]
    simp -implicitDefEqProofs only [List.append_nil, List.cons_append, Nat.reduceLeDiff, afterCall, absT_rowsO, absT_intsO, absT, absL, updL, updS, freeAll, rid, T.noSh, T.noShL, Nat.zero_le, go_sem, List.reduceReplicate, Nat.reduceEqDiff, Nat.reduceAdd, Nat.reduceLeDiff, Nat.reduceMul, Nat.reduceSub, Nat.reduceDiv, Int.reduceToNat, Nat.reduceLT, Int.reduceLT, Int.reduceLE, ↓reduceIte, reduceCtorEq, rat, forall_apply_eq_imp_iff₂, toNat_cast]
    have hb1 := nextS_bound (cs := cs) (a := a) (show (1 : Int) ≤ 4 by omega)
    have hs1 := nextS_seed (cs := cs) hl ha 4
    generalize nextS cs a 4 = z at hb1 hs1 ⊢
    obtain ⟨n, a1⟩ := z
    simp only [] at hb1 hs1 ⊢
    refine CallW.ref (next_box cs hc hl a1 hs1 4 (by omega)) [1000000000] [] rfl Try.call95 (by simp) ?_ (by simp) ?_ (.inl rfl) ?_
    · simp -implicitDefEqProofs only [rootOf_arr, rootOf_box, rootOf_any, srcsOK, updL, updS, upd_apply, Nat.reduceEqDiff, ↓reduceIte, mkRoots, and_true, ints, rows, intsO, rowsO]
    · simp -implicitDefEqProofs only [Int.natCast_zero, Int.cast_ofNat_Int, Int.natCast_one, Nat.le_refl, Nat.reduceLeDiff, Nat.sub_self, Nat.reduceSub, List.getElem?_cons_zero, List.getElem?_cons_succ, vt_self, vaL, vtL, va, vt, vb, maT, List.cons_append, List.nil_append, List.append_nil, true_or, or_true, go_sem, List.reduceReplicate, Nat.reduceEqDiff, Nat.reduceAdd, Nat.reduceLeDiff, Nat.reduceMul, Nat.reduceSub, Nat.reduceDiv, Int.reduceToNat, Nat.reduceLT, Int.reduceLT, Int.reduceLE, ↓reduceIte, reduceCtorEq, ints, rows, rat, rats, ratsO, toShL_ratC, List.mem_cons, List.mem_nil_iff, List.not_mem_nil, or_false, false_or, exists_eq_left, exists_eq_left', exists_eq_right', Root.live.injEq, eq_self_iff_true, exists_eq, and_true, T.toSh, toShL_ints, toShL_intsO, intsO, rowsO]
    simp -implicitDefEqProofs only [List.append_nil, List.cons_append, Nat.reduceLeDiff, afterCall, absT_rowsO, absT_intsO, absT, absL, updL, updS, freeAll, rid, T.noSh, T.noShL, Nat.zero_le, go_sem, List.reduceReplicate, Nat.reduceEqDiff, Nat.reduceAdd, Nat.reduceLeDiff, Nat.reduceMul, Nat.reduceSub, Nat.reduceDiv, Int.reduceToNat, Nat.reduceLT, Int.reduceLT, Int.reduceLE, ↓reduceIte, reduceCtorEq, rat, forall_apply_eq_imp_iff₂, toNat_cast]
    have hb2 := nextS_bound (cs := cs) (a := a1) (show (1 : Int) ≤ 4 by omega)
    have hs2 := nextS_seed (cs := cs) hl hs1 4
    generalize nextS cs a1 4 = z at hb2 hs2 ⊢
    obtain ⟨n2, a2⟩ := z
    simp only [] at hb2 hs2 ⊢
    rw [wrap64 (n := 1 + n) (by omega) (by omega), wrap64 (n := 1 + n2) (by omega) (by omega)]
    obtain ⟨N, hN⟩ : ∃ N : Nat, 1 + n = (N : Int) := ⟨(1 + n).toNat, by omega⟩
    obtain ⟨M, hM⟩ : ∃ M : Nat, 1 + n2 = (M : Int) := ⟨(1 + n2).toNat, by omega⟩
    rw [hN, hM]
    have hp := pick_own cs hc hl a2 hs2 [2, 5, 20] (by simp) (by simp)
    simp only [intsO, List.map_cons, List.map_nil] at hp
    refine CallW.ref hp [1000000000, 17] [] rfl Try.call96 (by simp) ?_ (by simp) ?_ (.inl rfl) ?_
    · simp -implicitDefEqProofs only [rootOf_arr, rootOf_box, rootOf_any, srcsOK, updL, updS, upd_apply, Nat.reduceEqDiff, ↓reduceIte, mkRoots, and_true, ints, rows, intsO, rowsO]
    · simp -implicitDefEqProofs only [Int.natCast_zero, Int.cast_ofNat_Int, Int.natCast_one, Nat.le_refl, Nat.reduceLeDiff, Nat.sub_self, Nat.reduceSub, List.getElem?_cons_zero, List.getElem?_cons_succ, vt_self, vaL, vtL, va, vt, vb, maT, List.cons_append, List.nil_append, List.append_nil, true_or, or_true, go_sem, List.reduceReplicate, Nat.reduceEqDiff, Nat.reduceAdd, Nat.reduceLeDiff, Nat.reduceMul, Nat.reduceSub, Nat.reduceDiv, Int.reduceToNat, Nat.reduceLT, Int.reduceLT, Int.reduceLE, ↓reduceIte, reduceCtorEq, ints, rows, rat, rats, ratsO, toShL_ratC, List.mem_cons, List.mem_nil_iff, List.not_mem_nil, or_false, false_or, exists_eq_left, exists_eq_left', exists_eq_right', Root.live.injEq, eq_self_iff_true, exists_eq, and_true, T.toSh, toShL_ints, toShL_intsO, intsO, rowsO]
    simp -implicitDefEqProofs only [List.append_nil, List.cons_append, Nat.reduceLeDiff, afterCall, absT_rowsO, absT_intsO, absT, absL, updL, updS, freeAll, rid, T.noSh, T.noShL, Nat.zero_le, go_sem, List.reduceReplicate, Nat.reduceEqDiff, Nat.reduceAdd, Nat.reduceLeDiff, Nat.reduceMul, Nat.reduceSub, Nat.reduceDiv, Int.reduceToNat, Nat.reduceLT, Int.reduceLT, Int.reduceLE, ↓reduceIte, reduceCtorEq, rat, forall_apply_eq_imp_iff₂, toNat_cast]
    have hs3 := pickS_seed (cs := cs) hl hs2 [2, 5, 20]
    have hm3 := pickS_mem (cs := cs) (a := a2) (l := [2, 5, 20]) (by simp)
    generalize pickS cs a2 [2, 5, 20] = z at hs3 hm3 ⊢
    obtain ⟨most, a3⟩ := z
    simp only [List.mem_cons, List.not_mem_nil, or_false] at hs3 hm3 ⊢
    refine SemC.loopR (σ := List (List Int) × (Nat × Int)) (fun s => St.of [(0, .own 1000000000), (3, .t (.i N)), (4, .t (.i M)), (5, .t (.i most)), (6, .own 96), (7, .t (.i s.1.length))] [(1000000000, .box [bytes cs, .i s.2.1, .i s.2.2]), (96, .arr 1 (s.1.map intsO))]) (fun s => seedOK s.2 ∧ s.1.length ≤ N ∧ ∀ r ∈ s.1, r.length = M) (fun s => N - s.1.length) ([], a3) (Weak.of _ _ [some 1000000000, some 19] (by simp) (by simp) ?_ ?_) ⟨hs3, by simp, by simp⟩ fun s hI R hn hr he => ?_
    · simp -implicitDefEqProofs only [ints, rows, Nat.reduceBEq, Int.add_zero, envOK, maA, maT, upd_apply, Nat.reduceEqDiff, ↓reduceIte, and_true, true_or, or_true, List.map_cons, List.map_nil, Nat.zero_ne_one, and_self, true_and, Int.natCast_zero, Int.cast_ofNat_Int, Int.ofNat_zero, piOf, List.zip_cons_cons, List.zip_nil_right, List.lookup_cons, List.lookup_nil, beq_self_eq_true, rootsOK, mkRoots, mkEnv, List.length_nil]
    · exact ⟨⟨_, rfl, .refl _⟩, rfl, ⟨_, rfl, .refl _⟩, rfl, trivial⟩
    · obtain ⟨m, b⟩ := s
      obtain ⟨hb, hmN, hmr⟩ := hI
      (try simp only [] at hb hmN hmr)
      simp -implicitDefEqProofs only [go_sem, List.reduceReplicate, Nat.reduceEqDiff, Nat.reduceAdd, Nat.reduceLeDiff, Nat.reduceMul, Nat.reduceSub, Nat.reduceDiv, Int.reduceToNat, Nat.reduceLT, Int.reduceLT, Int.reduceLE, ↓reduceIte, reduceCtorEq, forall_apply_eq_imp_iff₂, ints, rows, rat, rats, toNat_cast]
      refine ⟨fun h => ?_, fun h => he _ _ ?_⟩
      · refine SemC.loopR (σ := List Int × (Nat × Int)) (fun s => St.of [(0, .own 1000000000), (3, .t (.i N)), (4, .t (.i M)), (5, .t (.i most)), (6, .own 96), (7, .t (.i m.length)), (8, .own 97), (9, .t (.i s.1.length))] [(1000000000, .box [bytes cs, .i s.2.1, .i s.2.2]), (96, .arr 1 (m.map intsO)), (97, .arr 1 (s.1.map T.i))]) (fun s => seedOK s.2 ∧ s.1.length ≤ M) (fun s => M - s.1.length) ([], b) (Weak.of _ _ [some 1000000000, some 96, some 25] (by simp) (by simp) ?_ ?_) ⟨hb, by simp⟩ fun s hI R2 hn2 hr2 he2 => ?_
        · simp -implicitDefEqProofs only [ints, rows, Nat.reduceBEq, Int.add_zero, envOK, maA, maT, upd_apply, Nat.reduceEqDiff, ↓reduceIte, and_true, true_or, or_true, List.map_cons, List.map_nil, Nat.zero_ne_one, and_self, true_and, Int.natCast_zero, Int.cast_ofNat_Int, Int.ofNat_zero, piOf, List.zip_cons_cons, List.zip_nil_right, List.lookup_cons, List.lookup_nil, beq_self_eq_true, rootsOK, mkRoots, mkEnv, List.length_nil]
        · exact ⟨⟨_, rfl, .refl _⟩, rfl, ⟨_, rfl, .refl _⟩, rfl, ⟨_, rfl, .refl _⟩, rfl, trivial⟩
        · obtain ⟨l, c⟩ := s
          obtain ⟨hc1, hlM⟩ := hI
          (try simp only [] at hc1 hlM)
          simp -implicitDefEqProofs only [go_sem, List.reduceReplicate, Nat.reduceEqDiff, Nat.reduceAdd, Nat.reduceLeDiff, Nat.reduceMul, Nat.reduceSub, Nat.reduceDiv, Int.reduceToNat, Nat.reduceLT, Int.reduceLT, Int.reduceLE, ↓reduceIte, reduceCtorEq, forall_apply_eq_imp_iff₂, ints, rows, rat, rats, toNat_cast]
          refine ⟨fun h1 => ?_, fun h1 => he2 _ _ ?_⟩
          · rw [wrap64 (n := 2 * most) (by omega) (by omega), wrap64 (n := 2 * most + 1) (by omega) (by omega)]
            refine CallW.ref (next_box cs hc hl c hc1 (2 * most + 1) (by omega)) [1000000000] [] rfl Try.call95 (by simp) ?_ (by simp) ?_ (.inl rfl) ?_
            · simp -implicitDefEqProofs only [rootOf_arr, rootOf_box, rootOf_any, srcsOK, updL, updS, upd_apply, Nat.reduceEqDiff, ↓reduceIte, mkRoots, and_true, ints, rows, intsO, rowsO]
            · simp -implicitDefEqProofs only [Int.natCast_zero, Int.cast_ofNat_Int, Int.natCast_one, Nat.le_refl, Nat.reduceLeDiff, Nat.sub_self, Nat.reduceSub, List.getElem?_cons_zero, List.getElem?_cons_succ, vt_self, vaL, vtL, va, vt, vb, maT, List.cons_append, List.nil_append, List.append_nil, true_or, or_true, go_sem, List.reduceReplicate, Nat.reduceEqDiff, Nat.reduceAdd, Nat.reduceLeDiff, Nat.reduceMul, Nat.reduceSub, Nat.reduceDiv, Int.reduceToNat, Nat.reduceLT, Int.reduceLT, Int.reduceLE, ↓reduceIte, reduceCtorEq, ints, rows, rat, rats, ratsO, toShL_ratC, List.mem_cons, List.mem_nil_iff, List.not_mem_nil, or_false, false_or, exists_eq_left, exists_eq_left', exists_eq_right', Root.live.injEq, eq_self_iff_true, exists_eq, and_true, T.toSh, toShL_ints, toShL_intsO, intsO, rowsO]
            simp -implicitDefEqProofs only [List.append_nil, List.cons_append, Nat.reduceLeDiff, afterCall, absT_rowsO, absT_intsO, absT, absL, updL, updS, freeAll, rid, T.noSh, T.noShL, Nat.zero_le, go_sem, List.reduceReplicate, Nat.reduceEqDiff, Nat.reduceAdd, Nat.reduceLeDiff, Nat.reduceMul, Nat.reduceSub, Nat.reduceDiv, Int.reduceToNat, Nat.reduceLT, Int.reduceLT, Int.reduceLE, ↓reduceIte, reduceCtorEq, rat, forall_apply_eq_imp_iff₂, toNat_cast]
            have hs4 := nextS_seed (cs := cs) hl hc1 (2 * most + 1)
            generalize nextS cs c (2 * most + 1) = z at hs4 ⊢
            obtain ⟨x, c2⟩ := z
            simp only [] at hs4 ⊢
            refine ⟨by omega, hn2 _ (l ++ [IntKind.i64.wrap (x - most)], c2) (Weak.of _ _ [some 1000000000, some 96, some 40] (by simp) (by simp) ?_ ?_) ⟨hs4, by simp; omega⟩ (by simp only [List.length_append, List.length_cons, List.length_nil]; omega)⟩
            · simp -implicitDefEqProofs only [ints, rows, Nat.reduceBEq, Int.add_zero, envOK, maA, maT, upd_apply, Nat.reduceEqDiff, ↓reduceIte, and_true, true_or, or_true, List.map_cons, List.map_nil, Nat.zero_ne_one, and_self, true_and, Int.natCast_zero, Int.cast_ofNat_Int, Int.ofNat_zero, piOf, List.zip_cons_cons, List.zip_nil_right, List.lookup_cons, List.lookup_nil, beq_self_eq_true, rootsOK, mkRoots, mkEnv, next64 (by omega : l.length < M) (by omega), List.length_append, List.length_cons, List.length_nil]
            · refine ⟨⟨_, rfl, .refl _⟩, rfl, ⟨_, rfl, .refl _⟩, rfl, ⟨_, rfl, ?_⟩, rfl, trivial⟩
              rw [List.map_append]; exact .refl _
          · simp -implicitDefEqProofs only [go_sem, List.reduceReplicate, Nat.reduceEqDiff, Nat.reduceAdd, Nat.reduceLeDiff, Nat.reduceMul, Nat.reduceSub, Nat.reduceDiv, Int.reduceToNat, Nat.reduceLT, Int.reduceLT, Int.reduceLE, ↓reduceIte, reduceCtorEq, forall_apply_eq_imp_iff₂, ints, rows, rat, rats, toNat_cast]
            refine ⟨by omega, hn _ (m ++ [l], c) (Weak.of _ _ [some 1000000000, some 44] (by simp) (by simp) ?_ ?_) ⟨hc1, by simp; omega, ?_⟩ (by simp only [List.length_append, List.length_cons, List.length_nil]; omega)⟩
            · simp -implicitDefEqProofs only [ints, rows, Nat.reduceBEq, Int.add_zero, envOK, maA, maT, upd_apply, Nat.reduceEqDiff, ↓reduceIte, and_true, true_or, or_true, List.map_cons, List.map_nil, Nat.zero_ne_one, and_self, true_and, Int.natCast_zero, Int.cast_ofNat_Int, Int.ofNat_zero, piOf, List.zip_cons_cons, List.zip_nil_right, List.lookup_cons, List.lookup_nil, beq_self_eq_true, rootsOK, mkRoots, mkEnv, next64 (by omega : m.length < N) (by omega), List.length_append, List.length_cons, List.length_nil]
            · refine ⟨⟨_, rfl, .refl _⟩, rfl, ⟨_, rfl, ?_⟩, rfl, trivial⟩
              rw [List.map_append]; exact .refl _
            · intro r hr'
              rcases List.mem_append.1 hr' with hr' | hr'
              · exact hmr r hr'
              · simp at hr'; rw [hr']; omega
      · simp -implicitDefEqProofs only [go_sem, List.reduceReplicate, Nat.reduceEqDiff, Nat.reduceAdd, Nat.reduceLeDiff, Nat.reduceMul, Nat.reduceSub, Nat.reduceDiv, Int.reduceToNat, Nat.reduceLT, Int.reduceLT, Int.reduceLE, ↓reduceIte, reduceCtorEq, forall_apply_eq_imp_iff₂, ints, rows, rat, rats, toNat_cast]
        have hmN' : m.length = N := by omega
        have hsm : smallM m := ⟨by omega, fun r hr' => by rw [hmr r hr']; omega⟩
        refine CallW.ref (next_box cs hc hl b hb 24 (by omega)) [1000000000] [] rfl Try.call95 (by simp) ?_ (by simp) ?_ (.inl rfl) ?_
        · simp -implicitDefEqProofs only [rootOf_arr, rootOf_box, rootOf_any, srcsOK, updL, updS, upd_apply, Nat.reduceEqDiff, ↓reduceIte, mkRoots, and_true, ints, rows, intsO, rowsO]
        · simp -implicitDefEqProofs only [Int.natCast_zero, Int.cast_ofNat_Int, Int.natCast_one, Nat.le_refl, Nat.reduceLeDiff, Nat.sub_self, Nat.reduceSub, List.getElem?_cons_zero, List.getElem?_cons_succ, vt_self, vaL, vtL, va, vt, vb, maT, List.cons_append, List.nil_append, List.append_nil, true_or, or_true, go_sem, List.reduceReplicate, Nat.reduceEqDiff, Nat.reduceAdd, Nat.reduceLeDiff, Nat.reduceMul, Nat.reduceSub, Nat.reduceDiv, Int.reduceToNat, Nat.reduceLT, Int.reduceLT, Int.reduceLE, ↓reduceIte, reduceCtorEq, ints, rows, rat, rats, ratsO, toShL_ratC, List.mem_cons, List.mem_nil_iff, List.not_mem_nil, or_false, false_or, exists_eq_left, exists_eq_left', exists_eq_right', Root.live.injEq, eq_self_iff_true, exists_eq, and_true, T.toSh, toShL_ints, toShL_intsO, intsO, rowsO]
        simp -implicitDefEqProofs only [List.append_nil, List.cons_append, Nat.reduceLeDiff, afterCall, absT_rowsO, absT_intsO, absT, absL, updL, updS, freeAll, rid, T.noSh, T.noShL, Nat.zero_le, go_sem, List.reduceReplicate, Nat.reduceEqDiff, Nat.reduceAdd, Nat.reduceLeDiff, Nat.reduceMul, Nat.reduceSub, Nat.reduceDiv, Int.reduceToNat, Nat.reduceLT, Int.reduceLT, Int.reduceLE, ↓reduceIte, reduceCtorEq, rat, forall_apply_eq_imp_iff₂, toNat_cast]
        have hs4 := nextS_seed (cs := cs) hl hb 24
        generalize nextS cs b 24 = z at hs4 ⊢
        obtain ⟨q, b2⟩ := z
        simp only [] at hs4 ⊢
        have hN1 : 1 ≤ m.length := by omega
        have hfit : ∀ (m' : List (List Int)), m'.length ≤ 6 → (∀ r ∈ m', r.length ≤ 6) → smallM m' := fun m' h1 h2 => ⟨h1, h2⟩
        refine ⟨fun hq => ?_, fun hq => ?_⟩
        · obtain ⟨r0, m', rfl⟩ : ∃ r0 m', m = r0 :: m' := by
            cases m with
            | nil => simp at hN1
            | cons r0 m' => exact ⟨r0, m', rfl⟩
          have hr0 : r0.length = M := hmr r0 (by simp)
          refine ⟨_, Weak.open 96 0 98 rfl rfl rfl (by decide) rfl, ?_⟩
          simp -implicitDefEqProofs only [go_sem, List.reduceReplicate, Nat.reduceEqDiff, Nat.reduceAdd, Nat.reduceLeDiff, Nat.reduceMul, Nat.reduceSub, Nat.reduceDiv, Int.reduceToNat, Nat.reduceLT, Int.reduceLT, Int.reduceLE, ↓reduceIte, reduceCtorEq, forall_apply_eq_imp_iff₂, ints, rows, rat, rats, toNat_cast, List.lookup_cons, beq_self_eq_true]
          have hp := pick_own cs hc hl b2 hs4 [20, 21, -21] (by simp) (by simp)
          simp only [intsO, List.map_cons, List.map_nil] at hp
          refine ⟨by omega, ?_⟩
          refine CallH.ref hp [1000000000, 53] [] rfl Try.call96 (by simp) ?_ (by simp) (fun e R' hR => ?_) (.inl rfl) ?_
          · simp -implicitDefEqProofs only [rootOf_arr, rootOf_box, rootOf_any, srcsOK, updL, updS, upd_apply, Nat.reduceEqDiff, ↓reduceIte, mkRoots, and_true, ints, rows, intsO, rowsO]
          · simp -implicitDefEqProofs only [Int.natCast_zero, Int.cast_ofNat_Int, Int.natCast_one, Nat.le_refl, Nat.reduceLeDiff, Nat.sub_self, Nat.reduceSub, List.getElem?_cons_zero, List.getElem?_cons_succ, vt_self, vaL, vtL, va, vt, vb, maT, List.cons_append, List.nil_append, List.append_nil, true_or, or_true, go_sem, List.reduceReplicate, Nat.reduceEqDiff, Nat.reduceAdd, Nat.reduceLeDiff, Nat.reduceMul, Nat.reduceSub, Nat.reduceDiv, Int.reduceToNat, Nat.reduceLT, Int.reduceLT, Int.reduceLE, ↓reduceIte, reduceCtorEq, ints, rows, rat, rats, ratsO, toShL_ratC, List.mem_cons, List.mem_nil_iff, List.not_mem_nil, or_false, false_or, exists_eq_left, exists_eq_left', exists_eq_right', Root.live.injEq, eq_self_iff_true, exists_eq, and_true, T.toSh, toShL_ints, toShL_intsO, intsO, rowsO]
          simp -implicitDefEqProofs only [List.append_nil, List.cons_append, Nat.reduceLeDiff, afterCall, absT_rowsO, absT_intsO, absT, absL, updL, updS, freeAll, rid, T.noSh, T.noShL, Nat.zero_le, go_sem, List.reduceReplicate, Nat.reduceEqDiff, Nat.reduceAdd, Nat.reduceLeDiff, Nat.reduceMul, Nat.reduceSub, Nat.reduceDiv, Int.reduceToNat, Nat.reduceLT, Int.reduceLT, Int.reduceLE, ↓reduceIte, reduceCtorEq, rat, forall_apply_eq_imp_iff₂, toNat_cast]
          have hs5 := pickS_seed (cs := cs) hl hs4 [20, 21, -21]
          refine ⟨?_, ((frameOK.refl _ _ _).upd _ (.inl (by simp))).upd _ (.inl (by simp))⟩
          simp -implicitDefEqProofs only [go_sem, List.reduceReplicate, Nat.reduceEqDiff, Nat.reduceAdd, Nat.reduceLeDiff, Nat.reduceMul, Nat.reduceSub, Nat.reduceDiv, Int.reduceToNat, Nat.reduceLT, Int.reduceLT, Int.reduceLE, ↓reduceIte, reduceCtorEq, forall_apply_eq_imp_iff₂, ints, rows, rat, rats, toNat_cast, intsO]
          refine ⟨by omega, by omega, ?_⟩
          refine ⟨_, Weak.join2 Try.prog tyOne (sl 50) (sl 51) rfl rfl rfl rfl (by decide) (by simp), ?_⟩
          simp -implicitDefEqProofs only [go_sem, List.reduceReplicate, Nat.reduceEqDiff, Nat.reduceAdd, Nat.reduceLeDiff, Nat.reduceMul, Nat.reduceSub, Nat.reduceDiv, Int.reduceToNat, Nat.reduceLT, Int.reduceLT, Int.reduceLE, ↓reduceIte, reduceCtorEq, forall_apply_eq_imp_iff₂, ints, rows, rat, rats, toNat_cast]
          refine ⟨(r0.set 0 (pickS cs b2 [20, 21, -21]).1 :: m', (pickS cs b2 [20, 21, -21]).2), rfl, .inl ?_, ⟨by simpa using hsm.1, fun r hr' => ?_⟩, hs5⟩
          · rw [rowsO, List.map_cons, intsO, List.map_set]
          · rcases List.mem_cons.1 hr' with rfl | hr'
            · rw [List.length_set, hr0]; omega
            · exact hsm.2 r (by simp [hr'])
        · refine ⟨fun hq1 => ⟨by omega, _, Weak.refl _ _, ?_⟩, fun hq1 => ⟨fun hq2 => ⟨([], b2), rfl, .inr rfl, ⟨by simp, by simp⟩, hs4⟩, fun hq2 => ⟨_, Weak.refl _ _, ?_⟩⟩⟩
          · simp -implicitDefEqProofs only [go_sem, List.reduceReplicate, Nat.reduceEqDiff, Nat.reduceAdd, Nat.reduceLeDiff, Nat.reduceMul, Nat.reduceSub, Nat.reduceDiv, Int.reduceToNat, Nat.reduceLT, Int.reduceLT, Int.reduceLE, ↓reduceIte, reduceCtorEq, forall_apply_eq_imp_iff₂, ints, rows, rat, rats, toNat_cast]
            refine ⟨(m ++ [[1, 2, 3, 4, 5]], b2), rfl, .inl ?_, ⟨by simp; omega, smallM_snoc (fun r hr' => by rw [hmr r hr']; omega) (by simp)⟩, hs4⟩
            rw [rowsO, List.map_append]; rfl
          · simp -implicitDefEqProofs only [go_sem, List.reduceReplicate, Nat.reduceEqDiff, Nat.reduceAdd, Nat.reduceLeDiff, Nat.reduceMul, Nat.reduceSub, Nat.reduceDiv, Int.reduceToNat, Nat.reduceLT, Int.reduceLT, Int.reduceLE, ↓reduceIte, reduceCtorEq, forall_apply_eq_imp_iff₂, ints, rows, rat, rats, toNat_cast]
            exact ⟨(m, b2), rfl, .inl rfl, hsm, hs4⟩
  · rintro o r ⟨x, rfl, rfl | ⟨rfl, hx⟩, h⟩
    · exact ⟨_, .refl _, x, rfl, rfl, h⟩
    · refine ⟨_, .nilArr 1, x, rfl, ?_, h⟩
      rw [hx]; rfl
end Go.Ab

/- Contracts: drawn square matrices; likeLists; the law FnAdjugates. -/
set_option linter.unusedSimpArgs false
set_option linter.unusedVariables false
namespace Go.Ab
open Go.Proofs

def numsI (n : Nat) : List Int := (List.range n).map Int.ofNat
theorem numsI_succ (n : Nat) : numsI (n + 1) = numsI n ++ [(n : Int)] := by simp [numsI, List.range_succ]
theorem numsI_length (n : Nat) : (numsI n).length = n := by simp [numsI]
theorem numsI_mem {n : Nat} {x : Int} (h : x ∈ numsI n) : ∃ i : Nat, x = i ∧ i < n := by
  obtain ⟨i, hi, rfl⟩ := List.mem_map.1 h
  exact ⟨i, rfl, List.mem_range.1 hi⟩
theorem spec_l27Numbers_ok (n : Nat) (hn : n ≤ 1000000) : Fun Try.prog 153 [] [.t (.i n)] fun o r => o = [] ∧ r = intsO (numsI n) := by
  refine fun_spec_l27Numbers (by simp) ?_
  simp -implicitDefEqProofs only [go_sem, List.reduceReplicate, Nat.reduceEqDiff, Nat.reduceAdd, Nat.reduceLeDiff, Nat.reduceMul, Nat.reduceSub, Nat.reduceDiv, Int.reduceToNat, Nat.reduceLT, Int.reduceLT, Int.reduceLE, ↓reduceIte, reduceCtorEq, forall_apply_eq_imp_iff₂, ints, rows, rat, rats, toNat_cast, c_spec_l27Numbers]
  refine SemC.loopR (σ := Nat) (fun i => St.of [(0, .t (.i n)), (3, .own 96), (4, .t (.i i))] [(96, .arr 1 ((numsI i).map T.i))]) (fun i => i ≤ n) (fun i => n - i) 0 (Weak.of _ _ [some 5] (by simp) (by simp) ?_ ?_) (by simp) fun i hi R hn' hr he => ?_
  · simp -implicitDefEqProofs only [ints, rows, Nat.reduceBEq, Int.add_zero, envOK, maA, maT, upd_apply, Nat.reduceEqDiff, ↓reduceIte, and_true, true_or, or_true, List.map_cons, List.map_nil, Nat.zero_ne_one, and_self, true_and, Int.natCast_zero, Int.cast_ofNat_Int, Int.ofNat_zero, piOf, List.zip_cons_cons, List.zip_nil_right, List.lookup_cons, List.lookup_nil, beq_self_eq_true, rootsOK, mkRoots, mkEnv]
  · exact ⟨⟨_, rfl, .refl _⟩, rfl, trivial⟩
  · simp -implicitDefEqProofs only [go_sem, List.reduceReplicate, Nat.reduceEqDiff, Nat.reduceAdd, Nat.reduceLeDiff, Nat.reduceMul, Nat.reduceSub, Nat.reduceDiv, Int.reduceToNat, Nat.reduceLT, Int.reduceLT, Int.reduceLE, ↓reduceIte, reduceCtorEq, forall_apply_eq_imp_iff₂, ints, rows, rat, rats, toNat_cast]
    refine ⟨fun h => ⟨by rw [numsI_length]; omega, hn' _ (i + 1) (Weak.of _ _ [some 14] (by simp) (by simp) ?_ ?_) (by omega) (by omega)⟩, fun h => he _ _ ?_⟩
    · simp -implicitDefEqProofs only [ints, rows, Nat.reduceBEq, Int.add_zero, envOK, maA, maT, upd_apply, Nat.reduceEqDiff, ↓reduceIte, and_true, true_or, or_true, List.map_cons, List.map_nil, Nat.zero_ne_one, and_self, true_and, Int.natCast_zero, Int.cast_ofNat_Int, Int.ofNat_zero, piOf, List.zip_cons_cons, List.zip_nil_right, List.lookup_cons, List.lookup_nil, beq_self_eq_true, rootsOK, mkRoots, mkEnv, next64 (by omega : i < n) (by omega)]
    · refine ⟨⟨_, rfl, ?_⟩, rfl, trivial⟩
      rw [numsI_succ, List.map_append]; exact .refl _
    · simp -implicitDefEqProofs only [go_sem, List.reduceReplicate, Nat.reduceEqDiff, Nat.reduceAdd, Nat.reduceLeDiff, Nat.reduceMul, Nat.reduceSub, Nat.reduceDiv, Int.reduceToNat, Nat.reduceLT, Int.reduceLT, Int.reduceLE, ↓reduceIte, reduceCtorEq, forall_apply_eq_imp_iff₂, ints, rows, rat, rats, toNat_cast]
      have : i = n := by omega
      rw [this]; rfl
/-- A part of a matrix. -/
def partM (m : List (List Int)) (R C : List Int) : List (List Int) := R.map fun i => C.map fun j => (m.getD i.toNat []).getD j.toNat 0
theorem partM_length (m : List (List Int)) (R C : List Int) : (partM m R C).length = R.length := by simp [partM]
theorem spec_l27Part_ok (m : List (List Int)) (R C : List Int) (hR : ∀ x ∈ R, 0 ≤ x ∧ x < m.length) (hC : ∀ x ∈ C, 0 ≤ x ∧ ∀ r ∈ m, x < r.length) (hRl : R.length ≤ 1000000) (hCl : C.length ≤ 1000000) : Fun Try.prog 152 [] [.t (rows m), .t (ints R), .t (ints C)] fun o r => o = [] ∧ r = rowsO (partM m R C) := by
  refine fun_spec_l27Part (by simp) ?_
  simp -implicitDefEqProofs only [go_sem, List.reduceReplicate, Nat.reduceEqDiff, Nat.reduceAdd, Nat.reduceLeDiff, Nat.reduceMul, Nat.reduceSub, Nat.reduceDiv, Int.reduceToNat, Nat.reduceLT, Int.reduceLT, Int.reduceLE, ↓reduceIte, reduceCtorEq, forall_apply_eq_imp_iff₂, ints, rows, rat, rats, toNat_cast, c_spec_l27Part]
  refine SemC.loopR (σ := Nat) (fun i => St.of [(0, .t (rows m)), (1, .t (ints R)), (2, .t (ints C)), (7, .own 96), (8, .t (.i i))] [(96, .arr 1 ((partM m (R.take i) C).map intsO))]) (fun i => i ≤ R.length) (fun i => R.length - i) 0 (Weak.of _ _ [some 11] (by simp) (by simp) ?_ ?_) (by simp) fun i hi Q hn hr he => ?_
  · simp -implicitDefEqProofs only [ints, rows, Nat.reduceBEq, Int.add_zero, envOK, maA, maT, upd_apply, Nat.reduceEqDiff, ↓reduceIte, and_true, true_or, or_true, List.map_cons, List.map_nil, Nat.zero_ne_one, and_self, true_and, Int.natCast_zero, Int.cast_ofNat_Int, Int.ofNat_zero, piOf, List.zip_cons_cons, List.zip_nil_right, List.lookup_cons, List.lookup_nil, beq_self_eq_true, rootsOK, mkRoots, mkEnv]
  · exact ⟨⟨_, rfl, .refl _⟩, rfl, trivial⟩
  · have hpl := partM_length m (R.take i) C
    rw [List.length_take, Nat.min_eq_left hi] at hpl
    simp -implicitDefEqProofs only [go_sem, List.reduceReplicate, Nat.reduceEqDiff, Nat.reduceAdd, Nat.reduceLeDiff, Nat.reduceMul, Nat.reduceSub, Nat.reduceDiv, Int.reduceToNat, Nat.reduceLT, Int.reduceLT, Int.reduceLE, ↓reduceIte, reduceCtorEq, forall_apply_eq_imp_iff₂, ints, rows, rat, rats, toNat_cast]
    refine ⟨fun h => ?_, fun h => he _ _ ?_⟩
    · obtain ⟨ri, hri⟩ : ∃ x, R[i]? = some x := ⟨_, List.getElem?_eq_getElem (by omega)⟩
      have hrb := hR ri (List.mem_of_getElem? hri)
      obtain ⟨row, hrow⟩ : ∃ x, m[ri.toNat]? = some x := ⟨_, List.getElem?_eq_getElem (by omega)⟩
      have hgd : m.getD ri.toNat [] = row := by rw [List.getD_eq_getElem?_getD, hrow]; rfl
      refine SemC.loopR (σ := Nat) (fun k => St.of [(0, .t (rows m)), (1, .t (ints R)), (2, .t (ints C)), (7, .own 96), (8, .t (.i i)), (9, .own 97), (10, .t (.i k))] [(96, .arr 1 ((partM m (R.take i) C).map intsO)), (97, .arr 1 (((C.take k).map fun j : Int => row.getD j.toNat 0).map T.i))]) (fun k => k ≤ C.length) (fun k => C.length - k) 0 (Weak.of _ _ [some 96, some 18] (by simp) (by simp) ?_ ?_) (by simp) fun k hk Q2 hn2 hr2 he2 => ?_
      · simp -implicitDefEqProofs only [ints, rows, Nat.reduceBEq, Int.add_zero, envOK, maA, maT, upd_apply, Nat.reduceEqDiff, ↓reduceIte, and_true, true_or, or_true, List.map_cons, List.map_nil, Nat.zero_ne_one, and_self, true_and, Int.natCast_zero, Int.cast_ofNat_Int, Int.ofNat_zero, piOf, List.zip_cons_cons, List.zip_nil_right, List.lookup_cons, List.lookup_nil, beq_self_eq_true, rootsOK, mkRoots, mkEnv]
      · exact ⟨⟨_, rfl, .refl _⟩, rfl, ⟨_, rfl, .refl _⟩, rfl, trivial⟩
      · simp -implicitDefEqProofs only [go_sem, List.reduceReplicate, Nat.reduceEqDiff, Nat.reduceAdd, Nat.reduceLeDiff, Nat.reduceMul, Nat.reduceSub, Nat.reduceDiv, Int.reduceToNat, Nat.reduceLT, Int.reduceLT, Int.reduceLE, ↓reduceIte, reduceCtorEq, forall_apply_eq_imp_iff₂, ints, rows, rat, rats, toNat_cast]
        refine ⟨fun h1 => ?_, fun h1 => he2 _ _ ?_⟩
        · obtain ⟨cj, hcj⟩ : ∃ x, C[k]? = some x := ⟨_, List.getElem?_eq_getElem (by omega)⟩
          have hcb := hC cj (List.mem_of_getElem? hcj)
          have hcl := hcb.2 row (List.mem_of_getElem? hrow)
          obtain ⟨x, hx⟩ : ∃ x, row[cj.toNat]? = some x := ⟨_, List.getElem?_eq_getElem (by omega)⟩
          have hxd : row.getD cj.toNat 0 = x := by rw [List.getD_eq_getElem?_getD, hx]; rfl
          simp only [hri, hrow, hcj, hx, Option.some.injEq, forall_eq']
          refine ⟨by omega, by omega, by omega, by omega, by omega, by omega, by omega, by omega, by omega, by omega, by omega, by omega, by rw [List.length_take]; omega, hn2 _ (k + 1) (Weak.of _ _ [some 96, some 40] (by simp) (by simp) ?_ ?_) (by omega) (by omega)⟩
          · simp -implicitDefEqProofs only [ints, rows, Nat.reduceBEq, Int.add_zero, envOK, maA, maT, upd_apply, Nat.reduceEqDiff, ↓reduceIte, and_true, true_or, or_true, List.map_cons, List.map_nil, Nat.zero_ne_one, and_self, true_and, Int.natCast_zero, Int.cast_ofNat_Int, Int.ofNat_zero, piOf, List.zip_cons_cons, List.zip_nil_right, List.lookup_cons, List.lookup_nil, beq_self_eq_true, rootsOK, mkRoots, mkEnv, next64 (by omega : k < C.length) (by omega)]
          · refine ⟨⟨_, rfl, .refl _⟩, rfl, ⟨_, rfl, ?_⟩, rfl, trivial⟩
            rw [take_snoc hcj]
            simp only [List.map_append, List.map_cons, List.map_nil, hxd]
            exact .refl _
        · simp -implicitDefEqProofs only [go_sem, List.reduceReplicate, Nat.reduceEqDiff, Nat.reduceAdd, Nat.reduceLeDiff, Nat.reduceMul, Nat.reduceSub, Nat.reduceDiv, Int.reduceToNat, Nat.reduceLT, Int.reduceLT, Int.reduceLE, ↓reduceIte, reduceCtorEq, forall_apply_eq_imp_iff₂, ints, rows, rat, rats, toNat_cast]
          refine ⟨by rw [hpl]; omega, hn _ (i + 1) (Weak.of _ _ [some 44] (by simp) (by simp) ?_ ?_) (by omega) (by omega)⟩
          · simp -implicitDefEqProofs only [ints, rows, Nat.reduceBEq, Int.add_zero, envOK, maA, maT, upd_apply, Nat.reduceEqDiff, ↓reduceIte, and_true, true_or, or_true, List.map_cons, List.map_nil, Nat.zero_ne_one, and_self, true_and, Int.natCast_zero, Int.cast_ofNat_Int, Int.ofNat_zero, piOf, List.zip_cons_cons, List.zip_nil_right, List.lookup_cons, List.lookup_nil, beq_self_eq_true, rootsOK, mkRoots, mkEnv, next64 (by omega : i < R.length) (by omega)]
          · refine ⟨⟨_, rfl, ?_⟩, rfl, trivial⟩
            rw [take_snoc hri]
            have hk' : C.take k = C := List.take_of_length_le (by omega)
            simp only [partM, List.map_append, List.map_cons, List.map_nil, hk', hgd, intsO]
            exact .refl _
    · simp -implicitDefEqProofs only [go_sem, List.reduceReplicate, Nat.reduceEqDiff, Nat.reduceAdd, Nat.reduceLeDiff, Nat.reduceMul, Nat.reduceSub, Nat.reduceDiv, Int.reduceToNat, Nat.reduceLT, Int.reduceLT, Int.reduceLE, ↓reduceIte, reduceCtorEq, forall_apply_eq_imp_iff₂, ints, rows, rat, rats, toNat_cast]
      rw [List.take_of_length_le (by omega)]; rfl

theorem laws_likeLists_ok (a b : List (List Int)) (ha : a.length ≤ 1000000000000) (hb : b.length ≤ 1000000000000) (hra : ∀ r ∈ a, r.length ≤ 1000000000000) (hrb : ∀ r ∈ b, r.length ≤ 1000000000000) :
    Pure Try.prog 31 [rows a, rows b] (.b (decide (a = b))) := by
  refine fun_laws_likeLists (by simp) ?_
  simp -implicitDefEqProofs only [c_laws_likeLists, rows, go_sem, List.reduceReplicate, Nat.reduceEqDiff, Nat.reduceAdd, Nat.reduceLeDiff, Nat.reduceMul, Nat.reduceSub, Nat.reduceDiv, Int.reduceToNat, Nat.reduceLT, Int.reduceLT, Int.reduceLE, ↓reduceIte, reduceCtorEq]
  refine ⟨fun h => ?_, fun h => ?_⟩
  · have : a ≠ b := by rintro rfl; simp at h
    simp [this]
  · have hab : a.length = b.length := by simp at h; omega
    refine SemC.loopR (σ := Nat) (fun i => St.of [(0, .t (rows a)), (1, .t (rows b)), (5, .t (.i i))] []) (fun i => i ≤ a.length ∧ ∀ j, j < i → a[j]? = b[j]?) (fun i => a.length - i) 0 (Weak.of _ [] [] (by simp) (by simp) ?_ trivial) ⟨by simp, fun j hj => by omega⟩ fun i hI R hn hr he => ?_
    · simp -implicitDefEqProofs only [rows, Int.add_zero, envOK, maA, maT, upd_apply, Nat.reduceEqDiff, ↓reduceIte, and_true, true_or, or_true, List.map_cons, List.map_nil, Nat.zero_ne_one, and_self, true_and, Int.natCast_zero, Int.cast_ofNat_Int, Int.ofNat_zero]
    · simp -implicitDefEqProofs only [rows, go_sem, List.reduceReplicate, Nat.reduceEqDiff, Nat.reduceAdd, Nat.reduceLeDiff, Nat.reduceMul, Nat.reduceSub, Nat.reduceDiv, Int.reduceToNat, Nat.reduceLT, Int.reduceLT, Int.reduceLE, ↓reduceIte, reduceCtorEq, toNat_cast]
      refine ⟨fun h => ⟨by omega, by omega, by omega, fun c x hx hc => ⟨by omega, by omega, by omega, fun c' y hy hc' => ?_⟩⟩, fun h => he _ _ ?_⟩
      · subst hc hc'
        refine CallV.pure (laws_likeInts_ok x y (hra x (List.mem_of_getElem? hx)) (hrb y (List.mem_of_getElem? hy))) [] rfl Try.call23 (fun e R' _ => ?_) trivial (fun _ => rfl) ?_
        · simp -implicitDefEqProofs only [vt_self, vaL, vtL, va, vt, vb, maT, List.cons_append, List.nil_append, List.append_nil, true_or, or_true, go_sem, List.reduceReplicate, Nat.reduceEqDiff, Nat.reduceAdd, Nat.reduceLeDiff, Nat.reduceMul, Nat.reduceSub, Nat.reduceDiv, Int.reduceToNat, Nat.reduceLT, Int.reduceLT, Int.reduceLE, ↓reduceIte, reduceCtorEq]
        · simp -implicitDefEqProofs only [go_sem, List.reduceReplicate, Nat.reduceEqDiff, Nat.reduceAdd, Nat.reduceLeDiff, Nat.reduceMul, Nat.reduceSub, Nat.reduceDiv, Int.reduceToNat, Nat.reduceLT, Int.reduceLT, Int.reduceLE, ↓reduceIte, reduceCtorEq]
          refine ⟨fun h1 => hr _ ?_, fun h1 => hn _ (i + 1) (Weak.of _ [] [] (by simp) (by simp) ?_ trivial) ⟨by omega, fun j hj => ?_⟩ (by omega)⟩
          · simp -implicitDefEqProofs only [go_sem, List.reduceReplicate, Nat.reduceEqDiff, Nat.reduceAdd, Nat.reduceLeDiff, Nat.reduceMul, Nat.reduceSub, Nat.reduceDiv, Int.reduceToNat, Nat.reduceLT, Int.reduceLT, Int.reduceLE, ↓reduceIte, reduceCtorEq]
            have : a ≠ b := by rintro rfl; rw [hx] at hy; cases hy; simp at h1
            simp [this]
          · simp -implicitDefEqProofs only [rows, Int.add_zero, envOK, maA, maT, upd_apply, Nat.reduceEqDiff, ↓reduceIte, and_true, true_or, or_true, List.map_cons, List.map_nil, Nat.zero_ne_one, and_self, true_and, Int.natCast_zero, Int.cast_ofNat_Int, Int.ofNat_zero, next64 (by omega : i < a.length) ha]
          · rcases Nat.lt_or_ge j i with h | h
            · exact hI.2 j h
            · have : j = i := by omega
              subst this
              rw [hx, hy]; simpa using h1
      · simp -implicitDefEqProofs only [go_sem, List.reduceReplicate, Nat.reduceEqDiff, Nat.reduceAdd, Nat.reduceLeDiff, Nat.reduceMul, Nat.reduceSub, Nat.reduceDiv, Int.reduceToNat, Nat.reduceLT, Int.reduceLT, Int.reduceLE, ↓reduceIte, reduceCtorEq]
        have : a = b := by
          refine List.ext_getElem? fun j => ?_
          rcases Nat.lt_or_ge j i with h | h
          · exact hI.2 j h
          · rw [List.getElem?_eq_none (by omega), List.getElem?_eq_none (by omega)]
        simp [this]

theorem smallM_part {m : List (List Int)} {R C : List Int} (hR : R.length ≤ 6) (hC : C.length ≤ 6) : smallM (partM m R C) := by
  refine ⟨by rw [partM_length]; exact hR, fun r hr => ?_⟩
  obtain ⟨i, _, rfl⟩ := List.mem_map.1 hr
  simpa using hC
theorem spec_l27DrawSquare_ok (cs : List Int) (hc : bytesOK cs) (hl : cs.length ≤ 100000000000) (a : Nat × Int) (ha : seedOK a) : Fun Try.prog 105 [.box [bytes cs, .i a.1, .i a.2]] [.own 1000000000] fun o r => ∃ x : List (List Int) × (Nat × Int), o = [.box [bytes cs, .i x.2.1, .i x.2.2]] ∧ r = rowsO x.1 ∧ (smallM x.1 ∧ seedOK x.2) := by
  refine fun_spec_l27DrawSquare_h (by simp) ?_
  simp -implicitDefEqProofs only [go_sem, List.reduceReplicate, Nat.reduceEqDiff, Nat.reduceAdd, Nat.reduceLeDiff, Nat.reduceMul, Nat.reduceSub, Nat.reduceDiv, Int.reduceToNat, Nat.reduceLT, Int.reduceLT, Int.reduceLE, ↓reduceIte, reduceCtorEq, forall_apply_eq_imp_iff₂, ints, rows, rat, rats, toNat_cast, c_spec_l27DrawSquare_h]
  refine CallW.exi (spec_l26Draw_ok cs hc hl a ha) [1000000000] [] rfl Try.call132 (by simp) ?_ (by simp) ?_ (.inl rfl) (fun x hx => ?_)
  · simp -implicitDefEqProofs only [rootOf_arr, rootOf_box, rootOf_any, srcsOK, updL, updS, upd_apply, Nat.reduceEqDiff, ↓reduceIte, mkRoots, and_true, ints, rows, intsO, rowsO]
  · simp -implicitDefEqProofs only [Int.natCast_zero, Int.cast_ofNat_Int, Int.natCast_one, Nat.le_refl, Nat.reduceLeDiff, Nat.sub_self, Nat.reduceSub, List.getElem?_cons_zero, List.getElem?_cons_succ, vt_self, vaL, vtL, va, vt, vb, maT, List.cons_append, List.nil_append, List.append_nil, true_or, or_true, go_sem, List.reduceReplicate, Nat.reduceEqDiff, Nat.reduceAdd, Nat.reduceLeDiff, Nat.reduceMul, Nat.reduceSub, Nat.reduceDiv, Int.reduceToNat, Nat.reduceLT, Int.reduceLT, Int.reduceLE, ↓reduceIte, reduceCtorEq, ints, rows, rat, rats, ratsO, toShL_ratC, List.mem_cons, List.mem_nil_iff, List.not_mem_nil, or_false, false_or, exists_eq_left, exists_eq_left', exists_eq_right', Root.live.injEq, eq_self_iff_true, exists_eq, and_true, T.toSh, toShL_ints, toShL_intsO, intsO, rowsO]
  simp -implicitDefEqProofs only [List.append_nil, List.cons_append, Nat.reduceLeDiff, afterCall, absT_rowsO, absT_intsO, absT, absL, updL, updS, freeAll, rid, T.noSh, T.noShL, Nat.zero_le, go_sem, List.reduceReplicate, Nat.reduceEqDiff, Nat.reduceAdd, Nat.reduceLeDiff, Nat.reduceMul, Nat.reduceSub, Nat.reduceDiv, Int.reduceToNat, Nat.reduceLT, Int.reduceLT, Int.reduceLE, ↓reduceIte, reduceCtorEq, rat, forall_apply_eq_imp_iff₂, toNat_cast]
  obtain ⟨m, a1⟩ := x
  obtain ⟨hm, ha1⟩ := hx
  (try simp only [] at hm ha1)
  refine CallW.pure (spec_IsMatrix_ok m) [6] rfl Try.call68 ?_ (by first | trivial | simp [T.noSh, T.noShL, rat]) rfl ?_
  · simp -implicitDefEqProofs only [Int.natCast_zero, Int.cast_ofNat_Int, Int.natCast_one, Nat.le_refl, Nat.reduceLeDiff, Nat.sub_self, Nat.reduceSub, List.getElem?_cons_zero, List.getElem?_cons_succ, vt_self, vaL, vtL, va, vt, vb, maT, List.cons_append, List.nil_append, List.append_nil, true_or, or_true, go_sem, List.reduceReplicate, Nat.reduceEqDiff, Nat.reduceAdd, Nat.reduceLeDiff, Nat.reduceMul, Nat.reduceSub, Nat.reduceDiv, Int.reduceToNat, Nat.reduceLT, Int.reduceLT, Int.reduceLE, ↓reduceIte, reduceCtorEq, ints, rows, rat, rats, ratsO, toShL_ratC, List.mem_cons, List.mem_nil_iff, List.not_mem_nil, or_false, false_or, exists_eq_left, exists_eq_left', exists_eq_right', Root.live.injEq, eq_self_iff_true, exists_eq, and_true, T.toSh, toShL_ints, toShL_intsO, intsO, rowsO]
  simp -implicitDefEqProofs only [go_sem, List.reduceReplicate, Nat.reduceEqDiff, Nat.reduceAdd, Nat.reduceLeDiff, Nat.reduceMul, Nat.reduceSub, Nat.reduceDiv, Int.reduceToNat, Nat.reduceLT, Int.reduceLT, Int.reduceLE, ↓reduceIte, reduceCtorEq, forall_apply_eq_imp_iff₂, ints, rows, rat, rats, toNat_cast]
  refine ⟨fun hmat => ?_, fun hmat => ⟨(m, a1), rfl, rfl, hm, ha1⟩⟩
  have hmat : isMat m = true := by simpa using hmat
  obtain ⟨h1, h2, h3, h4, h5, h6⟩ := isMat_spec hmat
  refine CallW.ref (next_box cs hc hl a1 ha1 8 (by omega)) [1000000000] [] rfl Try.call95 (by simp) ?_ (by simp) ?_ (.inl rfl) ?_
  · simp -implicitDefEqProofs only [rootOf_arr, rootOf_box, rootOf_any, srcsOK, updL, updS, upd_apply, Nat.reduceEqDiff, ↓reduceIte, mkRoots, and_true, ints, rows, intsO, rowsO]
  · simp -implicitDefEqProofs only [Int.natCast_zero, Int.cast_ofNat_Int, Int.natCast_one, Nat.le_refl, Nat.reduceLeDiff, Nat.sub_self, Nat.reduceSub, List.getElem?_cons_zero, List.getElem?_cons_succ, vt_self, vaL, vtL, va, vt, vb, maT, List.cons_append, List.nil_append, List.append_nil, true_or, or_true, go_sem, List.reduceReplicate, Nat.reduceEqDiff, Nat.reduceAdd, Nat.reduceLeDiff, Nat.reduceMul, Nat.reduceSub, Nat.reduceDiv, Int.reduceToNat, Nat.reduceLT, Int.reduceLT, Int.reduceLE, ↓reduceIte, reduceCtorEq, ints, rows, rat, rats, ratsO, toShL_ratC, List.mem_cons, List.mem_nil_iff, List.not_mem_nil, or_false, false_or, exists_eq_left, exists_eq_left', exists_eq_right', Root.live.injEq, eq_self_iff_true, exists_eq, and_true, T.toSh, toShL_ints, toShL_intsO, intsO, rowsO]
  simp -implicitDefEqProofs only [List.append_nil, List.cons_append, Nat.reduceLeDiff, afterCall, absT_rowsO, absT_intsO, absT, absL, updL, updS, freeAll, rid, T.noSh, T.noShL, Nat.zero_le, go_sem, List.reduceReplicate, Nat.reduceEqDiff, Nat.reduceAdd, Nat.reduceLeDiff, Nat.reduceMul, Nat.reduceSub, Nat.reduceDiv, Int.reduceToNat, Nat.reduceLT, Int.reduceLT, Int.reduceLE, ↓reduceIte, reduceCtorEq, rat, forall_apply_eq_imp_iff₂, toNat_cast]
  have hs2 := nextS_seed (cs := cs) hl ha1 8
  generalize nextS cs a1 8 = z at hs2 ⊢
  obtain ⟨q, a2⟩ := z
  simp only [] at hs2 ⊢
  refine ⟨fun hq => ⟨(m, a2), rfl, rfl, hm, hs2⟩, fun hq => ⟨_, Weak.share 6 rfl, ?_⟩⟩
  simp -implicitDefEqProofs only [go_sem, List.reduceReplicate, Nat.reduceEqDiff, Nat.reduceAdd, Nat.reduceLeDiff, Nat.reduceMul, Nat.reduceSub, Nat.reduceDiv, Int.reduceToNat, Nat.reduceLT, Int.reduceLT, Int.reduceLE, ↓reduceIte, reduceCtorEq, forall_apply_eq_imp_iff₂, ints, rows, rat, rats, toNat_cast, shareA, rowsO_toSh]
  refine ⟨by omega, by omega, fun r0 hr0 => ?_⟩
  have hh := headD_get hr0
  rw [hh] at h3 h4 h5
  have e : min (m.length : Int) (r0.length : Int) = ((min m.length r0.length : Nat) : Int) := by omega
  rw [e]
  generalize hN : min m.length r0.length = N
  refine CallW.res (spec_l27Numbers_ok N (by omega)) [] rfl Try.call153 ?_ (.inl rfl) ?_
  · simp -implicitDefEqProofs only [Int.natCast_zero, Int.cast_ofNat_Int, Int.natCast_one, Nat.le_refl, Nat.reduceLeDiff, Nat.sub_self, Nat.reduceSub, List.getElem?_cons_zero, List.getElem?_cons_succ, vt_self, vaL, vtL, va, vt, vb, maT, List.cons_append, List.nil_append, List.append_nil, true_or, or_true, go_sem, List.reduceReplicate, Nat.reduceEqDiff, Nat.reduceAdd, Nat.reduceLeDiff, Nat.reduceMul, Nat.reduceSub, Nat.reduceDiv, Int.reduceToNat, Nat.reduceLT, Int.reduceLT, Int.reduceLE, ↓reduceIte, reduceCtorEq, ints, rows, rat, rats, ratsO, toShL_ratC, List.mem_cons, List.mem_nil_iff, List.not_mem_nil, or_false, false_or, exists_eq_left, exists_eq_left', exists_eq_right', Root.live.injEq, eq_self_iff_true, exists_eq, and_true, T.toSh, toShL_ints, toShL_intsO, intsO, rowsO]
  simp -implicitDefEqProofs only [List.append_nil, List.cons_append, Nat.reduceLeDiff, afterCall, absT_rowsO, absT_intsO, absT, absL, updL, updS, freeAll, rid, T.noSh, T.noShL, Nat.zero_le, go_sem, List.reduceReplicate, Nat.reduceEqDiff, Nat.reduceAdd, Nat.reduceLeDiff, Nat.reduceMul, Nat.reduceSub, Nat.reduceDiv, Int.reduceToNat, Nat.reduceLT, Int.reduceLT, Int.reduceLE, ↓reduceIte, reduceCtorEq, rat, forall_apply_eq_imp_iff₂, toNat_cast]
  refine CallW.res (spec_l27Numbers_ok N (by omega)) [] rfl Try.call153 ?_ (.inl rfl) ?_
  · simp -implicitDefEqProofs only [Int.natCast_zero, Int.cast_ofNat_Int, Int.natCast_one, Nat.le_refl, Nat.reduceLeDiff, Nat.sub_self, Nat.reduceSub, List.getElem?_cons_zero, List.getElem?_cons_succ, vt_self, vaL, vtL, va, vt, vb, maT, List.cons_append, List.nil_append, List.append_nil, true_or, or_true, go_sem, List.reduceReplicate, Nat.reduceEqDiff, Nat.reduceAdd, Nat.reduceLeDiff, Nat.reduceMul, Nat.reduceSub, Nat.reduceDiv, Int.reduceToNat, Nat.reduceLT, Int.reduceLT, Int.reduceLE, ↓reduceIte, reduceCtorEq, ints, rows, rat, rats, ratsO, toShL_ratC, List.mem_cons, List.mem_nil_iff, List.not_mem_nil, or_false, false_or, exists_eq_left, exists_eq_left', exists_eq_right', Root.live.injEq, eq_self_iff_true, exists_eq, and_true, T.toSh, toShL_ints, toShL_intsO, intsO, rowsO]
  simp -implicitDefEqProofs only [List.append_nil, List.cons_append, Nat.reduceLeDiff, afterCall, absT_rowsO, absT_intsO, absT, absL, updL, updS, freeAll, rid, T.noSh, T.noShL, Nat.zero_le, go_sem, List.reduceReplicate, Nat.reduceEqDiff, Nat.reduceAdd, Nat.reduceLeDiff, Nat.reduceMul, Nat.reduceSub, Nat.reduceDiv, Int.reduceToNat, Nat.reduceLT, Int.reduceLT, Int.reduceLE, ↓reduceIte, reduceCtorEq, rat, forall_apply_eq_imp_iff₂, toNat_cast]
  have hRb : ∀ x ∈ numsI N, 0 ≤ x ∧ x < m.length := fun x hx => by obtain ⟨i, rfl, hi⟩ := numsI_mem hx; omega
  have hCb : ∀ x ∈ numsI N, 0 ≤ x ∧ ∀ r ∈ m, x < r.length := fun x hx => by
    obtain ⟨i, rfl, hi⟩ := numsI_mem hx
    exact ⟨by omega, fun r hr => by rw [h5 r hr]; omega⟩
  refine CallW.res (spec_l27Part_ok m (numsI N) (numsI N) hRb hCb (by rw [numsI_length]; omega) (by rw [numsI_length]; omega)) [25, 27] rfl Try.call152 ?_ (.inr (rowsO_noSh _)) ?_
  · simp -implicitDefEqProofs only [Int.natCast_zero, Int.cast_ofNat_Int, Int.natCast_one, Nat.le_refl, Nat.reduceLeDiff, Nat.sub_self, Nat.reduceSub, List.getElem?_cons_zero, List.getElem?_cons_succ, vt_self, vaL, vtL, va, vt, vb, maT, List.cons_append, List.nil_append, List.append_nil, true_or, or_true, go_sem, List.reduceReplicate, Nat.reduceEqDiff, Nat.reduceAdd, Nat.reduceLeDiff, Nat.reduceMul, Nat.reduceSub, Nat.reduceDiv, Int.reduceToNat, Nat.reduceLT, Int.reduceLT, Int.reduceLE, ↓reduceIte, reduceCtorEq, ints, rows, rat, rats, ratsO, toShL_ratC, List.mem_cons, List.mem_nil_iff, List.not_mem_nil, or_false, false_or, exists_eq_left, exists_eq_left', exists_eq_right', Root.live.injEq, eq_self_iff_true, exists_eq, and_true, T.toSh, toShL_ints, toShL_intsO, intsO, rowsO]
  simp -implicitDefEqProofs only [List.append_nil, List.cons_append, Nat.reduceLeDiff, afterCall, absT_rowsO, absT_intsO, absT, absL, updL, updS, freeAll, rid, T.noSh, T.noShL, Nat.zero_le, go_sem, List.reduceReplicate, Nat.reduceEqDiff, Nat.reduceAdd, Nat.reduceLeDiff, Nat.reduceMul, Nat.reduceSub, Nat.reduceDiv, Int.reduceToNat, Nat.reduceLT, Int.reduceLT, Int.reduceLE, ↓reduceIte, reduceCtorEq, rat, forall_apply_eq_imp_iff₂, toNat_cast]
  exact ⟨(partM m (numsI N) (numsI N), a2), rfl, rfl, smallM_part (by rw [numsI_length]; omega) (by rw [numsI_length]; omega), hs2⟩
theorem spec_DrawAdjugate_ok (cs : List Int) (hc : bytesOK cs) (hl : cs.length ≤ 100000000000) : Fun Try.prog 25 [] [.t (bytes cs)] fun o r => ∃ x : List (List Int), o = [] ∧ r = rowsO x ∧ smallM x := by
  refine fun_spec_DrawAdjugate (by simp) ?_
  simp -implicitDefEqProofs only [go_sem, List.reduceReplicate, Nat.reduceEqDiff, Nat.reduceAdd, Nat.reduceLeDiff, Nat.reduceMul, Nat.reduceSub, Nat.reduceDiv, Int.reduceToNat, Nat.reduceLT, Int.reduceLT, Int.reduceLE, ↓reduceIte, reduceCtorEq, forall_apply_eq_imp_iff₂, ints, rows, rat, rats, toNat_cast, c_spec_DrawAdjugate]
  refine CallW.res (spec_l01From_ok cs hc (by omega)) [] rfl Try.call94 ?_ (.inl rfl) ?_
  · simp -implicitDefEqProofs only [Int.natCast_zero, Int.cast_ofNat_Int, Int.natCast_one, Nat.le_refl, Nat.reduceLeDiff, Nat.sub_self, Nat.reduceSub, List.getElem?_cons_zero, List.getElem?_cons_succ, vt_self, vaL, vtL, va, vt, vb, maT, List.cons_append, List.nil_append, List.append_nil, true_or, or_true, go_sem, List.reduceReplicate, Nat.reduceEqDiff, Nat.reduceAdd, Nat.reduceLeDiff, Nat.reduceMul, Nat.reduceSub, Nat.reduceDiv, Int.reduceToNat, Nat.reduceLT, Int.reduceLT, Int.reduceLE, ↓reduceIte, reduceCtorEq, ints, rows, rat, rats, ratsO, toShL_ratC, List.mem_cons, List.mem_nil_iff, List.not_mem_nil, or_false, false_or, exists_eq_left, exists_eq_left', exists_eq_right', Root.live.injEq, eq_self_iff_true, exists_eq, and_true, T.toSh, toShL_ints, toShL_intsO, intsO, rowsO]
  simp -implicitDefEqProofs only [List.append_nil, List.cons_append, Nat.reduceLeDiff, afterCall, absT_rowsO, absT_intsO, absT, absL, updL, updS, freeAll, rid, T.noSh, T.noShL, Nat.zero_le, go_sem, List.reduceReplicate, Nat.reduceEqDiff, Nat.reduceAdd, Nat.reduceLeDiff, Nat.reduceMul, Nat.reduceSub, Nat.reduceDiv, Int.reduceToNat, Nat.reduceLT, Int.reduceLT, Int.reduceLE, ↓reduceIte, reduceCtorEq, rat, forall_apply_eq_imp_iff₂, toNat_cast, srcT]
  have hs0 := seed_from (cs.take 64)
  generalize fromS (cs.take 64) = sd at hs0 ⊢
  refine CallW.exi (spec_l27DrawSquare_ok cs hc hl (0, sd) hs0) [4] [] rfl Try.call105 (by simp) ?_ (by simp) ?_ (.inl rfl) (fun x hx => ?_)
  · simp -implicitDefEqProofs only [rootOf_arr, rootOf_box, rootOf_any, srcsOK, updL, updS, upd_apply, Nat.reduceEqDiff, ↓reduceIte, mkRoots, and_true, ints, rows, intsO, rowsO]
  · simp -implicitDefEqProofs only [Int.natCast_zero, Int.cast_ofNat_Int, Int.natCast_one, Nat.le_refl, Nat.reduceLeDiff, Nat.sub_self, Nat.reduceSub, List.getElem?_cons_zero, List.getElem?_cons_succ, vt_self, vaL, vtL, va, vt, vb, maT, List.cons_append, List.nil_append, List.append_nil, true_or, or_true, go_sem, List.reduceReplicate, Nat.reduceEqDiff, Nat.reduceAdd, Nat.reduceLeDiff, Nat.reduceMul, Nat.reduceSub, Nat.reduceDiv, Int.reduceToNat, Nat.reduceLT, Int.reduceLT, Int.reduceLE, ↓reduceIte, reduceCtorEq, ints, rows, rat, rats, ratsO, toShL_ratC, List.mem_cons, List.mem_nil_iff, List.not_mem_nil, or_false, false_or, exists_eq_left, exists_eq_left', exists_eq_right', Root.live.injEq, eq_self_iff_true, exists_eq, and_true, T.toSh, toShL_ints, toShL_intsO, intsO, rowsO]
  simp -implicitDefEqProofs only [List.append_nil, List.cons_append, Nat.reduceLeDiff, afterCall, absT_rowsO, absT_intsO, absT, absL, updL, updS, freeAll, rid, T.noSh, T.noShL, Nat.zero_le, go_sem, List.reduceReplicate, Nat.reduceEqDiff, Nat.reduceAdd, Nat.reduceLeDiff, Nat.reduceMul, Nat.reduceSub, Nat.reduceDiv, Int.reduceToNat, Nat.reduceLT, Int.reduceLT, Int.reduceLE, ↓reduceIte, reduceCtorEq, rat, forall_apply_eq_imp_iff₂, toNat_cast]
  exact ⟨x.1, rfl, hx.1⟩
theorem spec_DrawDeterminant_ok (cs : List Int) (hc : bytesOK cs) (hl : cs.length ≤ 100000000000) : Fun Try.prog 28 [] [.t (bytes cs)] fun o r => ∃ x : List (List Int), o = [] ∧ r = rowsO x ∧ smallM x := by
  refine fun_spec_DrawDeterminant (by simp) ?_
  simp -implicitDefEqProofs only [go_sem, List.reduceReplicate, Nat.reduceEqDiff, Nat.reduceAdd, Nat.reduceLeDiff, Nat.reduceMul, Nat.reduceSub, Nat.reduceDiv, Int.reduceToNat, Nat.reduceLT, Int.reduceLT, Int.reduceLE, ↓reduceIte, reduceCtorEq, forall_apply_eq_imp_iff₂, ints, rows, rat, rats, toNat_cast, c_spec_DrawDeterminant]
  refine CallW.res (spec_l01From_ok cs hc (by omega)) [] rfl Try.call94 ?_ (.inl rfl) ?_
  · simp -implicitDefEqProofs only [Int.natCast_zero, Int.cast_ofNat_Int, Int.natCast_one, Nat.le_refl, Nat.reduceLeDiff, Nat.sub_self, Nat.reduceSub, List.getElem?_cons_zero, List.getElem?_cons_succ, vt_self, vaL, vtL, va, vt, vb, maT, List.cons_append, List.nil_append, List.append_nil, true_or, or_true, go_sem, List.reduceReplicate, Nat.reduceEqDiff, Nat.reduceAdd, Nat.reduceLeDiff, Nat.reduceMul, Nat.reduceSub, Nat.reduceDiv, Int.reduceToNat, Nat.reduceLT, Int.reduceLT, Int.reduceLE, ↓reduceIte, reduceCtorEq, ints, rows, rat, rats, ratsO, toShL_ratC, List.mem_cons, List.mem_nil_iff, List.not_mem_nil, or_false, false_or, exists_eq_left, exists_eq_left', exists_eq_right', Root.live.injEq, eq_self_iff_true, exists_eq, and_true, T.toSh, toShL_ints, toShL_intsO, intsO, rowsO]
  simp -implicitDefEqProofs only [List.append_nil, List.cons_append, Nat.reduceLeDiff, afterCall, absT_rowsO, absT_intsO, absT, absL, updL, updS, freeAll, rid, T.noSh, T.noShL, Nat.zero_le, go_sem, List.reduceReplicate, Nat.reduceEqDiff, Nat.reduceAdd, Nat.reduceLeDiff, Nat.reduceMul, Nat.reduceSub, Nat.reduceDiv, Int.reduceToNat, Nat.reduceLT, Int.reduceLT, Int.reduceLE, ↓reduceIte, reduceCtorEq, rat, forall_apply_eq_imp_iff₂, toNat_cast, srcT]
  have hs0 := seed_from (cs.take 64)
  generalize fromS (cs.take 64) = sd at hs0 ⊢
  refine CallW.exi (spec_l27DrawSquare_ok cs hc hl (0, sd) hs0) [4] [] rfl Try.call105 (by simp) ?_ (by simp) ?_ (.inl rfl) (fun x hx => ?_)
  · simp -implicitDefEqProofs only [rootOf_arr, rootOf_box, rootOf_any, srcsOK, updL, updS, upd_apply, Nat.reduceEqDiff, ↓reduceIte, mkRoots, and_true, ints, rows, intsO, rowsO]
  · simp -implicitDefEqProofs only [Int.natCast_zero, Int.cast_ofNat_Int, Int.natCast_one, Nat.le_refl, Nat.reduceLeDiff, Nat.sub_self, Nat.reduceSub, List.getElem?_cons_zero, List.getElem?_cons_succ, vt_self, vaL, vtL, va, vt, vb, maT, List.cons_append, List.nil_append, List.append_nil, true_or, or_true, go_sem, List.reduceReplicate, Nat.reduceEqDiff, Nat.reduceAdd, Nat.reduceLeDiff, Nat.reduceMul, Nat.reduceSub, Nat.reduceDiv, Int.reduceToNat, Nat.reduceLT, Int.reduceLT, Int.reduceLE, ↓reduceIte, reduceCtorEq, ints, rows, rat, rats, ratsO, toShL_ratC, List.mem_cons, List.mem_nil_iff, List.not_mem_nil, or_false, false_or, exists_eq_left, exists_eq_left', exists_eq_right', Root.live.injEq, eq_self_iff_true, exists_eq, and_true, T.toSh, toShL_ints, toShL_intsO, intsO, rowsO]
  simp -implicitDefEqProofs only [List.append_nil, List.cons_append, Nat.reduceLeDiff, afterCall, absT_rowsO, absT_intsO, absT, absL, updL, updS, freeAll, rid, T.noSh, T.noShL, Nat.zero_le, go_sem, List.reduceReplicate, Nat.reduceEqDiff, Nat.reduceAdd, Nat.reduceLeDiff, Nat.reduceMul, Nat.reduceSub, Nat.reduceDiv, Int.reduceToNat, Nat.reduceLT, Int.reduceLT, Int.reduceLE, ↓reduceIte, reduceCtorEq, rat, forall_apply_eq_imp_iff₂, toNat_cast]
  exact ⟨x.1, rfl, hx.1⟩

theorem adjM_get {n j k : Nat} (m : List (List Int)) (hj : j < n) (hk : k < n) : (adjM n m)[j]? = some (adjRow n m j n) ∧ (adjRow n m j n)[k]? = some (sg (j + k) * detN (n - 1) (without m k j)) := by
  constructor
  · simp [adjM, hj]
  · simp [adjRow, hk]
set_option maxRecDepth 20000 in
theorem laws_FnAdjugates_ok (cs : List Int) (hc : bytesOK cs) : Pure Try.prog 4 [bytes cs] (.b true) := by
  refine fun_laws_FnAdjugates (by simp) ?_
  simp -implicitDefEqProofs only [go_sem, List.reduceReplicate, Nat.reduceEqDiff, Nat.reduceAdd, Nat.reduceLeDiff, Nat.reduceMul, Nat.reduceSub, Nat.reduceDiv, Int.reduceToNat, Nat.reduceLT, Int.reduceLT, Int.reduceLE, ↓reduceIte, reduceCtorEq, forall_apply_eq_imp_iff₂, ints, rows, rat, rats, toNat_cast, c_laws_FnAdjugates]
  refine CallW.pure (laws_big_ok cs) [] rfl Try.call16 ?_ (by first | trivial | simp [T.noSh, T.noShL, rat]) rfl ?_
  · simp -implicitDefEqProofs only [Int.natCast_zero, Int.cast_ofNat_Int, Int.natCast_one, Nat.le_refl, Nat.reduceLeDiff, Nat.sub_self, Nat.reduceSub, List.getElem?_cons_zero, List.getElem?_cons_succ, vt_self, vaL, vtL, va, vt, vb, maT, List.cons_append, List.nil_append, List.append_nil, true_or, or_true, go_sem, List.reduceReplicate, Nat.reduceEqDiff, Nat.reduceAdd, Nat.reduceLeDiff, Nat.reduceMul, Nat.reduceSub, Nat.reduceDiv, Int.reduceToNat, Nat.reduceLT, Int.reduceLT, Int.reduceLE, ↓reduceIte, reduceCtorEq, ints, rows, rat, rats, ratsO, toShL_ratC, List.mem_cons, List.mem_nil_iff, List.not_mem_nil, or_false, false_or, exists_eq_left, exists_eq_left', exists_eq_right', Root.live.injEq, eq_self_iff_true, exists_eq, and_true, T.toSh, toShL_ints, toShL_intsO, intsO, rowsO]
  simp -implicitDefEqProofs only [go_sem, List.reduceReplicate, Nat.reduceEqDiff, Nat.reduceAdd, Nat.reduceLeDiff, Nat.reduceMul, Nat.reduceSub, Nat.reduceDiv, Int.reduceToNat, Nat.reduceLT, Int.reduceLT, Int.reduceLE, ↓reduceIte, reduceCtorEq, forall_apply_eq_imp_iff₂, ints, rows, rat, rats, toNat_cast]
  refine ⟨fun _ => trivial, fun hbig => ?_⟩
  have hl : cs.length ≤ 4096 := by have : (cs.length : Int) ≤ 4096 := by simpa using hbig
                                   omega
  refine CallW.exi (spec_DrawAdjugate_ok cs hc (by omega)) [] [] rfl Try.call25 (by simp) ?_ (by simp) ?_ (.inl rfl) (fun m hm => ?_)
  · simp -implicitDefEqProofs only [rootOf_arr, rootOf_box, rootOf_any, srcsOK, updL, updS, upd_apply, Nat.reduceEqDiff, ↓reduceIte, mkRoots, and_true, ints, rows, intsO, rowsO]
  · simp -implicitDefEqProofs only [Int.natCast_zero, Int.cast_ofNat_Int, Int.natCast_one, Nat.le_refl, Nat.reduceLeDiff, Nat.sub_self, Nat.reduceSub, List.getElem?_cons_zero, List.getElem?_cons_succ, vt_self, vaL, vtL, va, vt, vb, maT, List.cons_append, List.nil_append, List.append_nil, true_or, or_true, go_sem, List.reduceReplicate, Nat.reduceEqDiff, Nat.reduceAdd, Nat.reduceLeDiff, Nat.reduceMul, Nat.reduceSub, Nat.reduceDiv, Int.reduceToNat, Nat.reduceLT, Int.reduceLT, Int.reduceLE, ↓reduceIte, reduceCtorEq, ints, rows, rat, rats, ratsO, toShL_ratC, List.mem_cons, List.mem_nil_iff, List.not_mem_nil, or_false, false_or, exists_eq_left, exists_eq_left', exists_eq_right', Root.live.injEq, eq_self_iff_true, exists_eq, and_true, T.toSh, toShL_ints, toShL_intsO, intsO, rowsO]
  simp -implicitDefEqProofs only [List.append_nil, List.cons_append, Nat.reduceLeDiff, afterCall, absT_rowsO, absT_intsO, absT, absL, updL, updS, freeAll, rid, T.noSh, T.noShL, Nat.zero_le, go_sem, List.reduceReplicate, Nat.reduceEqDiff, Nat.reduceAdd, Nat.reduceLeDiff, Nat.reduceMul, Nat.reduceSub, Nat.reduceDiv, Int.reduceToNat, Nat.reduceLT, Int.reduceLT, Int.reduceLE, ↓reduceIte, reduceCtorEq, rat, forall_apply_eq_imp_iff₂, toNat_cast]
  have hmr : ∀ r ∈ m, r.length ≤ 1000000000000 := fun r hr => by have := hm.2 r hr; omega
  have hml : m.length ≤ 1000000000000 := by have := hm.1; omega
  refine CallW.res (impl_Adjugate_ok m hml hmr) [22] rfl Try.call26 ?_ (.inr (adjT_noSh m)) ?_
  · simp -implicitDefEqProofs only [Int.natCast_zero, Int.cast_ofNat_Int, Int.natCast_one, Nat.le_refl, Nat.reduceLeDiff, Nat.sub_self, Nat.reduceSub, List.getElem?_cons_zero, List.getElem?_cons_succ, vt_self, vaL, vtL, va, vt, vb, maT, List.cons_append, List.nil_append, List.append_nil, true_or, or_true, go_sem, List.reduceReplicate, Nat.reduceEqDiff, Nat.reduceAdd, Nat.reduceLeDiff, Nat.reduceMul, Nat.reduceSub, Nat.reduceDiv, Int.reduceToNat, Nat.reduceLT, Int.reduceLT, Int.reduceLE, ↓reduceIte, reduceCtorEq, ints, rows, rat, rats, ratsO, toShL_ratC, List.mem_cons, List.mem_nil_iff, List.not_mem_nil, or_false, false_or, exists_eq_left, exists_eq_left', exists_eq_right', Root.live.injEq, eq_self_iff_true, exists_eq, and_true, T.toSh, toShL_ints, toShL_intsO, intsO, rowsO]
  simp -implicitDefEqProofs only [List.append_nil, List.cons_append, Nat.reduceLeDiff, afterCall, absT_rowsO, absT_intsO, absT, absL, updL, updS, freeAll, rid, T.noSh, T.noShL, Nat.zero_le, go_sem, List.reduceReplicate, Nat.reduceEqDiff, Nat.reduceAdd, Nat.reduceLeDiff, Nat.reduceMul, Nat.reduceSub, Nat.reduceDiv, Int.reduceToNat, Nat.reduceLT, Int.reduceLT, Int.reduceLE, ↓reduceIte, reduceCtorEq, rat, forall_apply_eq_imp_iff₂, toNat_cast, adjT]
  refine CallW.res (spec_Adjugate_ok m) [22] rfl Try.call27 ?_ (.inr (adjT_noSh m)) ?_
  · simp -implicitDefEqProofs only [Int.natCast_zero, Int.cast_ofNat_Int, Int.natCast_one, Nat.le_refl, Nat.reduceLeDiff, Nat.sub_self, Nat.reduceSub, List.getElem?_cons_zero, List.getElem?_cons_succ, vt_self, vaL, vtL, va, vt, vb, maT, List.cons_append, List.nil_append, List.append_nil, true_or, or_true, go_sem, List.reduceReplicate, Nat.reduceEqDiff, Nat.reduceAdd, Nat.reduceLeDiff, Nat.reduceMul, Nat.reduceSub, Nat.reduceDiv, Int.reduceToNat, Nat.reduceLT, Int.reduceLT, Int.reduceLE, ↓reduceIte, reduceCtorEq, ints, rows, rat, rats, ratsO, toShL_ratC, List.mem_cons, List.mem_nil_iff, List.not_mem_nil, or_false, false_or, exists_eq_left, exists_eq_left', exists_eq_right', Root.live.injEq, eq_self_iff_true, exists_eq, and_true, T.toSh, toShL_ints, toShL_intsO, intsO, rowsO]
  simp -implicitDefEqProofs only [List.append_nil, List.cons_append, Nat.reduceLeDiff, afterCall, absT_rowsO, absT_intsO, absT, absL, updL, updS, freeAll, rid, T.noSh, T.noShL, Nat.zero_le, go_sem, List.reduceReplicate, Nat.reduceEqDiff, Nat.reduceAdd, Nat.reduceLeDiff, Nat.reduceMul, Nat.reduceSub, Nat.reduceDiv, Int.reduceToNat, Nat.reduceLT, Int.reduceLT, Int.reduceLE, ↓reduceIte, reduceCtorEq, rat, forall_apply_eq_imp_iff₂, toNat_cast, adjT]
  refine CallW.exi (spec_DrawDeterminant_ok cs hc (by omega)) [] [] rfl Try.call28 (by simp) ?_ (by simp) ?_ (.inl rfl) (fun x hx => ?_)
  · simp -implicitDefEqProofs only [rootOf_arr, rootOf_box, rootOf_any, srcsOK, updL, updS, upd_apply, Nat.reduceEqDiff, ↓reduceIte, mkRoots, and_true, ints, rows, intsO, rowsO]
  · simp -implicitDefEqProofs only [Int.natCast_zero, Int.cast_ofNat_Int, Int.natCast_one, Nat.le_refl, Nat.reduceLeDiff, Nat.sub_self, Nat.reduceSub, List.getElem?_cons_zero, List.getElem?_cons_succ, vt_self, vaL, vtL, va, vt, vb, maT, List.cons_append, List.nil_append, List.append_nil, true_or, or_true, go_sem, List.reduceReplicate, Nat.reduceEqDiff, Nat.reduceAdd, Nat.reduceLeDiff, Nat.reduceMul, Nat.reduceSub, Nat.reduceDiv, Int.reduceToNat, Nat.reduceLT, Int.reduceLT, Int.reduceLE, ↓reduceIte, reduceCtorEq, ints, rows, rat, rats, ratsO, toShL_ratC, List.mem_cons, List.mem_nil_iff, List.not_mem_nil, or_false, false_or, exists_eq_left, exists_eq_left', exists_eq_right', Root.live.injEq, eq_self_iff_true, exists_eq, and_true, T.toSh, toShL_ints, toShL_intsO, intsO, rowsO]
  simp -implicitDefEqProofs only [List.append_nil, List.cons_append, Nat.reduceLeDiff, afterCall, absT_rowsO, absT_intsO, absT, absL, updL, updS, freeAll, rid, T.noSh, T.noShL, Nat.zero_le, go_sem, List.reduceReplicate, Nat.reduceEqDiff, Nat.reduceAdd, Nat.reduceLeDiff, Nat.reduceMul, Nat.reduceSub, Nat.reduceDiv, Int.reduceToNat, Nat.reduceLT, Int.reduceLT, Int.reduceLE, ↓reduceIte, reduceCtorEq, rat, forall_apply_eq_imp_iff₂, toNat_cast]
  have hxr : ∀ r ∈ x, r.length ≤ 1000000000000 := fun r hr => by have := hx.2 r hr; omega
  have hxl : x.length ≤ 1000000000000 := by have := hx.1; omega
  refine CallW.res (impl_Determinant_ok x hxl hxr) [34] rfl Try.call29 ?_ (.inr (detT_noSh x)) ?_
  · simp -implicitDefEqProofs only [Int.natCast_zero, Int.cast_ofNat_Int, Int.natCast_one, Nat.le_refl, Nat.reduceLeDiff, Nat.sub_self, Nat.reduceSub, List.getElem?_cons_zero, List.getElem?_cons_succ, vt_self, vaL, vtL, va, vt, vb, maT, List.cons_append, List.nil_append, List.append_nil, true_or, or_true, go_sem, List.reduceReplicate, Nat.reduceEqDiff, Nat.reduceAdd, Nat.reduceLeDiff, Nat.reduceMul, Nat.reduceSub, Nat.reduceDiv, Int.reduceToNat, Nat.reduceLT, Int.reduceLT, Int.reduceLE, ↓reduceIte, reduceCtorEq, ints, rows, rat, rats, ratsO, toShL_ratC, List.mem_cons, List.mem_nil_iff, List.not_mem_nil, or_false, false_or, exists_eq_left, exists_eq_left', exists_eq_right', Root.live.injEq, eq_self_iff_true, exists_eq, and_true, T.toSh, toShL_ints, toShL_intsO, intsO, rowsO]
  simp -implicitDefEqProofs only [List.append_nil, List.cons_append, Nat.reduceLeDiff, afterCall, absT_rowsO, absT_intsO, absT, absL, updL, updS, freeAll, rid, T.noSh, T.noShL, Nat.zero_le, go_sem, List.reduceReplicate, Nat.reduceEqDiff, Nat.reduceAdd, Nat.reduceLeDiff, Nat.reduceMul, Nat.reduceSub, Nat.reduceDiv, Int.reduceToNat, Nat.reduceLT, Int.reduceLT, Int.reduceLE, ↓reduceIte, reduceCtorEq, rat, forall_apply_eq_imp_iff₂, toNat_cast, detT]
  refine CallW.res (spec_Determinant_ok x) [34] rfl Try.call30 ?_ (.inr (detT_noSh x)) ?_
  · simp -implicitDefEqProofs only [Int.natCast_zero, Int.cast_ofNat_Int, Int.natCast_one, Nat.le_refl, Nat.reduceLeDiff, Nat.sub_self, Nat.reduceSub, List.getElem?_cons_zero, List.getElem?_cons_succ, vt_self, vaL, vtL, va, vt, vb, maT, List.cons_append, List.nil_append, List.append_nil, true_or, or_true, go_sem, List.reduceReplicate, Nat.reduceEqDiff, Nat.reduceAdd, Nat.reduceLeDiff, Nat.reduceMul, Nat.reduceSub, Nat.reduceDiv, Int.reduceToNat, Nat.reduceLT, Int.reduceLT, Int.reduceLE, ↓reduceIte, reduceCtorEq, ints, rows, rat, rats, ratsO, toShL_ratC, List.mem_cons, List.mem_nil_iff, List.not_mem_nil, or_false, false_or, exists_eq_left, exists_eq_left', exists_eq_right', Root.live.injEq, eq_self_iff_true, exists_eq, and_true, T.toSh, toShL_ints, toShL_intsO, intsO, rowsO]
  simp -implicitDefEqProofs only [List.append_nil, List.cons_append, Nat.reduceLeDiff, afterCall, absT_rowsO, absT_intsO, absT, absL, updL, updS, freeAll, rid, T.noSh, T.noShL, Nat.zero_le, go_sem, List.reduceReplicate, Nat.reduceEqDiff, Nat.reduceAdd, Nat.reduceLeDiff, Nat.reduceMul, Nat.reduceSub, Nat.reduceDiv, Int.reduceToNat, Nat.reduceLT, Int.reduceLT, Int.reduceLE, ↓reduceIte, reduceCtorEq, rat, forall_apply_eq_imp_iff₂, toNat_cast, detT, not_true_eq_false, decide_false]
  obtain ⟨hf1, hf2⟩ := adjRes_small m
  have hf4 : ∀ r ∈ (adjRes m).1, r.length ≤ 1000000000000 := fun r h => by have := hf2 r h; omega
  refine CallW.pure (laws_likeLists_ok (adjRes m).1 (adjRes m).1 (by omega) (by omega) hf4 hf4) [25, 30] rfl Try.call31 ?_ (by first | trivial | simp [T.noSh, T.noShL, rat]) rfl ?_
  · simp -implicitDefEqProofs only [Int.natCast_zero, Int.cast_ofNat_Int, Int.natCast_one, Nat.le_refl, Nat.reduceLeDiff, Nat.sub_self, Nat.reduceSub, List.getElem?_cons_zero, List.getElem?_cons_succ, vt_self, vaL, vtL, va, vt, vb, maT, List.cons_append, List.nil_append, List.append_nil, true_or, or_true, go_sem, List.reduceReplicate, Nat.reduceEqDiff, Nat.reduceAdd, Nat.reduceLeDiff, Nat.reduceMul, Nat.reduceSub, Nat.reduceDiv, Int.reduceToNat, Nat.reduceLT, Int.reduceLT, Int.reduceLE, ↓reduceIte, reduceCtorEq, ints, rows, rat, rats, ratsO, toShL_ratC, List.mem_cons, List.mem_nil_iff, List.not_mem_nil, or_false, false_or, exists_eq_left, exists_eq_left', exists_eq_right', Root.live.injEq, eq_self_iff_true, exists_eq, and_true, T.toSh, toShL_ints, toShL_intsO, intsO, rowsO]
  simp -implicitDefEqProofs only [go_sem, List.reduceReplicate, Nat.reduceEqDiff, Nat.reduceAdd, Nat.reduceLeDiff, Nat.reduceMul, Nat.reduceSub, Nat.reduceDiv, Int.reduceToNat, Nat.reduceLT, Int.reduceLT, Int.reduceLE, ↓reduceIte, reduceCtorEq, forall_apply_eq_imp_iff₂, ints, rows, rat, rats, toNat_cast, not_true_eq_false, decide_false]
  refine ⟨fun h => trivial, fun h => ?_⟩
  have h0 : sqCode m = 0 := by
    by_cases hc0 : sqCode m = 0
    · exact hc0
    · rw [adjRes, if_neg hc0] at h; simp at h; exact absurd h hc0
  obtain ⟨hn4, hsq⟩ := sqCode_zero h0
  refine CallW.res (impl_Determinant_ok m hml hmr) [22] rfl Try.call29 ?_ (.inr (detT_noSh m)) ?_
  · simp -implicitDefEqProofs only [Int.natCast_zero, Int.cast_ofNat_Int, Int.natCast_one, Nat.le_refl, Nat.reduceLeDiff, Nat.sub_self, Nat.reduceSub, List.getElem?_cons_zero, List.getElem?_cons_succ, vt_self, vaL, vtL, va, vt, vb, maT, List.cons_append, List.nil_append, List.append_nil, true_or, or_true, go_sem, List.reduceReplicate, Nat.reduceEqDiff, Nat.reduceAdd, Nat.reduceLeDiff, Nat.reduceMul, Nat.reduceSub, Nat.reduceDiv, Int.reduceToNat, Nat.reduceLT, Int.reduceLT, Int.reduceLE, ↓reduceIte, reduceCtorEq, ints, rows, rat, rats, ratsO, toShL_ratC, List.mem_cons, List.mem_nil_iff, List.not_mem_nil, or_false, false_or, exists_eq_left, exists_eq_left', exists_eq_right', Root.live.injEq, eq_self_iff_true, exists_eq, and_true, T.toSh, toShL_ints, toShL_intsO, intsO, rowsO]
  simp -implicitDefEqProofs only [List.append_nil, List.cons_append, Nat.reduceLeDiff, afterCall, absT_rowsO, absT_intsO, absT, absL, updL, updS, freeAll, rid, T.noSh, T.noShL, Nat.zero_le, go_sem, List.reduceReplicate, Nat.reduceEqDiff, Nat.reduceAdd, Nat.reduceLeDiff, Nat.reduceMul, Nat.reduceSub, Nat.reduceDiv, Int.reduceToNat, Nat.reduceLT, Int.reduceLT, Int.reduceLE, ↓reduceIte, reduceCtorEq, rat, forall_apply_eq_imp_iff₂, toNat_cast, detT]
  have hd : detRes m = (detN m.length m, 0) := by rw [detRes, if_pos h0]
  have hadj : adjRes m = (adjM m.length m, 0) := by rw [adjRes, if_pos h0]
  simp only [hd, hadj]
  refine ⟨fun h => absurd h (by decide), fun _ => ?_⟩
  have hent : ∀ i j, i < m.length → j < m.length → ∃ row y, m[i]? = some row ∧ row[j]? = some y ∧ (m.getD i []).getD j 0 = y ∧ -20 ≤ y ∧ y ≤ 20 := fun i j hi hj => by
    obtain ⟨row, hrow⟩ : ∃ row, m[i]? = some row := ⟨_, List.getElem?_eq_getElem hi⟩
    obtain ⟨h1, h2⟩ := hsq.2 row (List.mem_of_getElem? hrow)
    obtain ⟨y, hy⟩ : ∃ y, row[j]? = some y := ⟨_, List.getElem?_eq_getElem (by omega)⟩
    refine ⟨row, y, hrow, hy, ?_, h2 y (List.mem_of_getElem? hy)⟩
    rw [List.getD_eq_getElem?_getD, List.getD_eq_getElem?_getD, hrow, Option.getD_some, hy]; rfl
  have hal : (adjM m.length m).length = m.length := by simp [adjM]
  refine SemC.loopR (σ := Nat) (fun i => St.of [(3, .t (rows m)), (4, .t (rows (adjM m.length m))), (13, .t (.i (detN m.length m))), (15, .t (.i i))] []) (fun i => i ≤ m.length) (fun i => m.length - i) 0 (Weak.trans (Weak.share 22 rfl) (Weak.trans (Weak.share 25 rfl) (Weak.of _ [] [] (by simp) (by simp) ?_ trivial))) (by simp) fun i hi R hn hr he => ?_
  · simp -implicitDefEqProofs only [ints, rows, Int.add_zero, envOK, maA, maT, upd_apply, Nat.reduceEqDiff, ↓reduceIte, and_true, true_or, or_true, List.map_cons, List.map_nil, Nat.zero_ne_one, and_self, true_and, Int.natCast_zero, Int.cast_ofNat_Int, Int.ofNat_zero, shareA, rowsO_toSh]
  · simp -implicitDefEqProofs only [go_sem, List.reduceReplicate, Nat.reduceEqDiff, Nat.reduceAdd, Nat.reduceLeDiff, Nat.reduceMul, Nat.reduceSub, Nat.reduceDiv, Int.reduceToNat, Nat.reduceLT, Int.reduceLT, Int.reduceLE, ↓reduceIte, reduceCtorEq, forall_apply_eq_imp_iff₂, ints, rows, rat, rats, toNat_cast]
    refine ⟨fun h1 => ?_, fun h1 => he _ _ ?_⟩
    · have hil : i < m.length := by omega
      refine SemC.loopR (σ := Nat) (fun k => St.of [(3, .t (rows m)), (4, .t (rows (adjM m.length m))), (13, .t (.i (detN m.length m))), (15, .t (.i i)), (16, .t (.i k))] []) (fun k => k ≤ m.length) (fun k => m.length - k) 0 (Weak.of _ [] [] (by simp) (by simp) ?_ trivial) (by simp) fun k hk R2 hn2 hr2 he2 => ?_
      · simp -implicitDefEqProofs only [ints, rows, Int.add_zero, envOK, maA, maT, upd_apply, Nat.reduceEqDiff, ↓reduceIte, and_true, true_or, or_true, List.map_cons, List.map_nil, Nat.zero_ne_one, and_self, true_and, Int.natCast_zero, Int.cast_ofNat_Int, Int.ofNat_zero]
      · simp -implicitDefEqProofs only [go_sem, List.reduceReplicate, Nat.reduceEqDiff, Nat.reduceAdd, Nat.reduceLeDiff, Nat.reduceMul, Nat.reduceSub, Nat.reduceDiv, Int.reduceToNat, Nat.reduceLT, Int.reduceLT, Int.reduceLE, ↓reduceIte, reduceCtorEq, forall_apply_eq_imp_iff₂, ints, rows, rat, rats, toNat_cast]
        refine ⟨fun h2 => ?_, fun h2 => he2 _ _ ?_⟩
        · have hkl : k < m.length := by omega
          obtain ⟨f, hf⟩ : ∃ f : Nat → Int, f = fun j => (m.getD i []).getD j 0 * (sg (j + k) * detN (m.length - 1) (without m k j)) := ⟨_, rfl⟩
          have hfb : ∀ j, j < m.length → -76800000 ≤ f j ∧ f j ≤ 76800000 := fun j hj => by
            obtain ⟨row, y, _, _, e, hy1, hy2⟩ := hent i j hil hj
            obtain ⟨_, q1, q2⟩ := minor_abs hsq hn4 hj hkl
            rw [hf]
            simp only [e]
            have h7 : (y * (sg (j + k) * detN (m.length - 1) (without m k j))).natAbs ≤ 20 * 3840000 := by
              rw [Int.natAbs_mul, Int.natAbs_mul]
              have h6 : (sg (j + k)).natAbs = 1 := by rcases sg_abs (j + k) with h | h <;> rw [h] <;> rfl
              rw [h6, Nat.one_mul]
              exact Nat.mul_le_mul (by omega) (by omega)
            omega
          have hsb : ∀ j, j ≤ m.length → -307200000 ≤ sumTo f j ∧ sumTo f j ≤ 307200000 := fun j hj => by
            have := sumTo_abs (f := f) (b := 76800000) (k := j) fun q hq => by have := hfb q (by omega); omega
            have : j * 76800000 ≤ 4 * 76800000 := Nat.mul_le_mul_right _ (by omega)
            omega
          refine SemC.loopR (σ := Nat) (fun j => St.of [(3, .t (rows m)), (4, .t (rows (adjM m.length m))), (13, .t (.i (detN m.length m))), (15, .t (.i i)), (16, .t (.i k)), (17, .t (.i (sumTo f j))), (18, .t (.i j))] []) (fun j => j ≤ m.length) (fun j => m.length - j) 0 (Weak.of _ [] [] (by simp) (by simp) ?_ trivial) (by simp) fun j hj R3 hn3 hr3 he3 => ?_
          · simp -implicitDefEqProofs only [ints, rows, Int.add_zero, envOK, maA, maT, upd_apply, Nat.reduceEqDiff, ↓reduceIte, and_true, true_or, or_true, List.map_cons, List.map_nil, Nat.zero_ne_one, and_self, true_and, Int.natCast_zero, Int.cast_ofNat_Int, Int.ofNat_zero, sumTo]
          · simp -implicitDefEqProofs only [go_sem, List.reduceReplicate, Nat.reduceEqDiff, Nat.reduceAdd, Nat.reduceLeDiff, Nat.reduceMul, Nat.reduceSub, Nat.reduceDiv, Int.reduceToNat, Nat.reduceLT, Int.reduceLT, Int.reduceLE, ↓reduceIte, reduceCtorEq, forall_apply_eq_imp_iff₂, ints, rows, rat, rats, toNat_cast]
            refine ⟨fun h3 => ?_, fun h3 => he3 _ _ ?_⟩
            · have hjl : j < m.length := by omega
              obtain ⟨row, y, hrow, hy, e, hy1, hy2⟩ := hent i j hil hjl
              obtain ⟨ga, gb⟩ := adjM_get m hjl hkl
              have hrl : row.length = m.length := (hsq.2 row (List.mem_of_getElem? hrow)).1
              have harl := adjRow_length m.length m j m.length
              have hfj : y * (sg (j + k) * detN (m.length - 1) (without m k j)) = f j := by rw [hf, ← e]
              have b1 := hfb j hjl
              have b2 := hsb (j + 1) hjl
              rw [sumTo] at b2
              simp only [hrow, hy, ga, gb, Option.some.injEq, forall_eq', hfj]
              rw [wrap64 (n := f j) (by omega) (by omega), wrap64 (n := sumTo f j + f j) (by omega) (by omega)]
              refine ⟨by omega, by omega, by omega, by omega, by omega, by omega, by omega, by omega, by omega, by omega, by omega, by omega, ?_⟩
              refine hn3 _ (j + 1) (Weak.of _ [] [] (by simp) (by simp) ?_ trivial) (by omega) (by omega)
              simp -implicitDefEqProofs only [ints, rows, Int.add_zero, envOK, maA, maT, upd_apply, Nat.reduceEqDiff, ↓reduceIte, and_true, true_or, or_true, List.map_cons, List.map_nil, Nat.zero_ne_one, and_self, true_and, Int.natCast_zero, Int.cast_ofNat_Int, Int.ofNat_zero, sumTo, next64 hjl hml]
            · simp -implicitDefEqProofs only [go_sem, List.reduceReplicate, Nat.reduceEqDiff, Nat.reduceAdd, Nat.reduceLeDiff, Nat.reduceMul, Nat.reduceSub, Nat.reduceDiv, Int.reduceToNat, Nat.reduceLT, Int.reduceLT, Int.reduceLE, ↓reduceIte, reduceCtorEq, forall_apply_eq_imp_iff₂, ints, rows, rat, rats, toNat_cast]
              have hdot := adj_mul hn4 hsq hil hkl
              have hje : j = m.length := by omega
              have hdot : sumTo f j = if i = k then detN m.length m else 0 := by rw [hje, hf]; exact hdot
              rw [hdot]
              by_cases hik : i = k
              · rw [if_pos hik]
                refine ⟨fun e1 => ⟨fun e2 => ⟨fun e3 => absurd e3 (by simp [hik]), fun e3 => ?_⟩, fun e2 => absurd e2 (by simp)⟩, fun e1 => absurd e1 (by simp [hik])⟩
                refine hn2 _ (k + 1) (Weak.of _ [] [] (by simp) (by simp) ?_ trivial) (by omega) (by omega)
                simp -implicitDefEqProofs only [ints, rows, Int.add_zero, envOK, maA, maT, upd_apply, Nat.reduceEqDiff, ↓reduceIte, and_true, true_or, or_true, List.map_cons, List.map_nil, Nat.zero_ne_one, and_self, true_and, Int.natCast_zero, Int.cast_ofNat_Int, Int.ofNat_zero, next64 hkl hml]
              · rw [if_neg hik]
                have hik' : ¬ (i : Int) = (k : Int) := by omega
                refine ⟨fun e1 => absurd e1 (by simp [hik']), fun e1 => ⟨fun e3 => ⟨fun e4 => absurd e4 (by simp), fun e4 => ?_⟩, fun e3 => absurd e3 (by simp [hik'])⟩⟩
                refine hn2 _ (k + 1) (Weak.of _ [] [] (by simp) (by simp) ?_ trivial) (by omega) (by omega)
                simp -implicitDefEqProofs only [ints, rows, Int.add_zero, envOK, maA, maT, upd_apply, Nat.reduceEqDiff, ↓reduceIte, and_true, true_or, or_true, List.map_cons, List.map_nil, Nat.zero_ne_one, and_self, true_and, Int.natCast_zero, Int.cast_ofNat_Int, Int.ofNat_zero, next64 hkl hml]
        · simp -implicitDefEqProofs only [go_sem, List.reduceReplicate, Nat.reduceEqDiff, Nat.reduceAdd, Nat.reduceLeDiff, Nat.reduceMul, Nat.reduceSub, Nat.reduceDiv, Int.reduceToNat, Nat.reduceLT, Int.reduceLT, Int.reduceLE, ↓reduceIte, reduceCtorEq, forall_apply_eq_imp_iff₂, ints, rows, rat, rats, toNat_cast]
          refine hn _ (i + 1) (Weak.of _ [] [] (by simp) (by simp) ?_ trivial) (by omega) (by omega)
          simp -implicitDefEqProofs only [ints, rows, Int.add_zero, envOK, maA, maT, upd_apply, Nat.reduceEqDiff, ↓reduceIte, and_true, true_or, or_true, List.map_cons, List.map_nil, Nat.zero_ne_one, and_self, true_and, Int.natCast_zero, Int.cast_ofNat_Int, Int.ofNat_zero, next64 hil hml]
    · simp -implicitDefEqProofs only [go_sem, List.reduceReplicate, Nat.reduceEqDiff, Nat.reduceAdd, Nat.reduceLeDiff, Nat.reduceMul, Nat.reduceSub, Nat.reduceDiv, Int.reduceToNat, Nat.reduceLT, Int.reduceLT, Int.reduceLE, ↓reduceIte, reduceCtorEq, forall_apply_eq_imp_iff₂, ints, rows, rat, rats, toNat_cast]
end Go.Ab

set_option linter.unusedSimpArgs false
set_option linter.unusedVariables false
namespace Go.Proofs.Ytbnlplhpnbijhaa
open Go.ChangeShapes Go.WideShapes Go.ChangeAt Go.RowKit Go.Ab

namespace fnAdjugates
theorem said : ∀ xs, wtL [tyU8s] xs → Pure Try.prog 4 xs (.b true)
  | [x], h => by
    obtain ⟨cs, rfl, _, hc⟩ := wt_bytes h.1
    exact laws_FnAdjugates_ok cs hc
  | [], h => h.elim
  | _ :: _ :: _, h => h.2.elim

set_option maxRecDepth 100000 in
theorem lifted (os : Os) (started : os.Started) (H : Type) (enc : TypeId × Value → H) :
    ReturnsInHanded {} Try.checked os 4 .any (Rows.fnAdjugatesSpec.pre6 enc Try.prog Try.f4 Rows.fnAdjugatesRow.domain false) (Rows.fnAdjugatesSpec.post enc Try.prog Try.f4 false true false false) := by
  refine returnsInHanded_of_change (C := Try.checked) (by kernel_rfl) started (by kernel_rfl) Try.func4
    (ChangeSpec.witness6 (enc := enc) (C := Try.checked) false ⟨#[], #[.slice none 0 0], []⟩ 8 (by kernel_rfl) (by kernel_rfl) (by kernel_rfl) (by kernel_rfl)) ?_
  intro W base args ds gs before hval hW _ _
  refine law_contract (tys := [tyU8s]) (by kernel_rfl) (by kernel_rfl) rfl (by kernel_rfl) rfl (fun ds h => ?_) said W base args ds gs before hval hW
  match ds, h with
  | [d0], _ => rfl

theorem over : Rows.fnAdjugatesRow.holds Try.pinned (OpenSpec.ofChange Rows.fnAdjugatesSpec) :=
  OpenClaim.holds_of_wide 4 Try.f4 rfl rfl rfl rfl rfl rfl rfl ⟨rfl, rfl, rfl, rfl, rfl⟩ rfl rfl rfl rfl rfl (by kernel_rfl) Try.func4 (by kernel_rfl)
    (of_decide_eq_true (by kernel_rfl)) (by unfold Func.isWrapper; first | (rw [if_pos (by decide +kernel)]; kernel_rfl) | (rw [if_neg (by decide +kernel)]; exact ⟨rfl, rfl⟩))
    (fun os started H enc _ => lifted os started H enc)
end fnAdjugates

theorem fnAdjugates_holds : Rows.FnAdjugatesSaid := fnAdjugates.over
#print axioms fnAdjugates_holds
end Go.Proofs.Ytbnlplhpnbijhaa
