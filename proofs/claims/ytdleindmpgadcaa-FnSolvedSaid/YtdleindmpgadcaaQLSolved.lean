/- Every matrix has a solution, the solver gives one, and no solution has another value; both sides answer alike: the law FnSolved returns true for every list of bytes. No conditions. -/
import Derived.Test.YtdleindmpgadcaaRows
import Derived.Test.YtdleindmpgadcaaQ6
/- The law FnSolved, as a contract. -/
set_option linter.unusedSimpArgs false
set_option linter.unusedVariables false
namespace Go.Ab
open Go.Proofs
theorem kerSol_hit {m : List (List Int)} (hm : isMat m = true) : isSolB m (kerSol m) = true := by
  obtain ⟨r, c, hf⟩ := firstF_hit hm
  have h := (firstF_ix hm hf).1
  simp only [hitB, Bool.and_eq_true] at h
  rw [kerSol, hf]; exact h.2
theorem kerSol_len (m : List (List Int)) (hm : isMat m = true) : (kerSol m).r.length ≤ 4 ∧ (kerSol m).c.length ≤ 4 := by
  obtain ⟨m1, m2, m3, m4, m5, m6⟩ := isMat_spec hm
  simp only [kerSol]
  cases hf : firstF m with
  | none => simp
  | some x => obtain ⟨r, c⟩ := x; simp only [kernX, mixK, mixI_length]; exact ⟨m2, m4⟩
theorem smR_len4 (m : List (List Int)) : (smR m).1.r.length ≤ 4 ∧ (smR m).1.c.length ≤ 4 := by
  unfold smR
  cases hm : isMat m with
  | false => simp
  | true => simpa using kerSol_len m hm
section
attribute [-go_sem] load1C load1V fldC lenC idxC loadNV nilCheckW
theorem laws_likeSolutions_ok (x y : Sol) (hr : x.r.length ≤ 1000000000000) (hc : x.c.length ≤ 1000000000000) (hr' : y.r.length ≤ 1000000000000) (hc' : y.c.length ≤ 1000000000000) : Pure Try.prog 49 [solT x, solT y] (.b (decide (x = y))) := by
  refine fun_laws_likeSolutions (by simp) ?_
  simp -implicitDefEqProofs only [go_sem, evR, ints, rows, rat, rats, c_laws_likeSolutions, solT]
  refine CallW.pure (laws_likeRatios_ok x.r y.r hr hr') [] rfl Try.call75 ?_ (by first | trivial | simp [T.noSh, T.noShL, rat]) rfl ?_
  · simp -implicitDefEqProofs only [agR, Nat.reduceLeDiff, Nat.reduceSub, vaR, go_sem, ints, rows, rat, rats, ratsO, rtR, intsO, rowsO]
  simp -implicitDefEqProofs only [go_sem, evR, ints, rows, rat, rats]
  refine ⟨fun h1 => ?_, fun h1 => ?_⟩
  · have h1 : x.r = y.r := by simpa using h1
    refine CallW.pure (laws_likeRatios_ok x.c y.c hc hc') [] rfl Try.call75 ?_ (by first | trivial | simp [T.noSh, T.noShL, rat]) rfl ?_
    · simp -implicitDefEqProofs only [agR, Nat.reduceLeDiff, Nat.reduceSub, vaR, go_sem, ints, rows, rat, rats, ratsO, rtR, intsO, rowsO]
    simp -implicitDefEqProofs only [go_sem, evR, ints, rows, rat, rats]
    refine ⟨fun h2 => ?_, fun h2 => ?_⟩
    · have h2 : x.c = y.c := by simpa using h2
      have h3 : decide ([x.v.1, x.v.2] = [y.v.1, y.v.2]) = decide (x = y) := by
        congr 1
        obtain ⟨x1, x2, x3⟩ := x
        obtain ⟨y1, y2, y3⟩ := y
        simp only [List.cons.injEq, and_true, Sol.mk.injEq]
        have h1' : x1 = y1 := h1
        have h2' : x2 = y2 := h2
        simp [h1', h2', Prod.ext_iff]
      rw [h3]
    · have h2 : ¬ x.c = y.c := by simpa using h2
      rw [decide_eq_false (fun h => h2 (by rw [h]))]
  · have h1 : ¬ x.r = y.r := by simpa using h1
    rw [decide_eq_false (fun h => h1 (by rw [h]))]
theorem spec_DrawSolveMatrix_ok (cs : List Int) (hc : bytesOK cs) (hl : cs.length ≤ 100000000000) : Fun Try.prog 46 [] [.t (bytes cs)] fun o r => ∃ x : List (List Int), o = [] ∧ r = rowsO x ∧ smallM x := by
  refine fun_spec_DrawSolveMatrix (by simp) ?_
  simp -implicitDefEqProofs only [go_sem, evR, ints, rows, rat, rats, c_spec_DrawSolveMatrix]
  refine CallW.res (spec_l01From_ok cs hc (by omega)) [] rfl Try.call61 ?_ (.inl rfl) ?_
  · simp -implicitDefEqProofs only [agR, Nat.reduceLeDiff, Nat.reduceSub, vaR, go_sem, ints, rows, rat, rats, ratsO, rtR, intsO, rowsO]
  simp -implicitDefEqProofs only [clR, Nat.reduceLeDiff, go_sem, evR, rat, srcT]
  have hs0 := seed_from (cs.take 64)
  generalize fromS (cs.take 64) = sd at hs0 ⊢
  refine CallW.exi (spec_l26Draw_ok cs hc hl (0, sd) hs0) [4] [] rfl Try.call60 (by simp) ?_ (by simp) ?_ (.inl rfl) (fun x hx => ?_)
  · simp -implicitDefEqProofs only [srR, Nat.reduceEqDiff, ↓reduceIte, ints, rows, intsO, rowsO]
  · simp -implicitDefEqProofs only [agR, Nat.reduceLeDiff, Nat.reduceSub, vaR, go_sem, ints, rows, rat, rats, ratsO, rtR, intsO, rowsO]
  simp -implicitDefEqProofs only [clR, Nat.reduceLeDiff, go_sem, evR, rat]
  exact ⟨x.1, rfl, hx.1⟩
set_option maxRecDepth 20000 in
theorem spec_DrawIsMatrixSolution_ok (cs : List Int) (hc : bytesOK cs) (hl : cs.length ≤ 100000000000) : Fun Try.prog 47 [] [.t (bytes cs)] fun o r => ∃ y : List (List Int) × Sol, o = [] ∧ r = .tup [rows y.1, solT y.2] ∧ smallM y.1 ∧ y.2.r.length ≤ 8 ∧ y.2.c.length ≤ 8 := by
  refine Fun.le (Q := fun o r => o = [] ∧ ∃ y : List (List Int) × Sol, (r = .tup [rows y.1, solT y.2] ∨ r = .tup [rows y.1, zeroT] ∧ y.2 = ⟨[], [], (0, 0)⟩) ∧ smallM y.1 ∧ y.2.r.length ≤ 8 ∧ y.2.c.length ≤ 8) ?_ ?_
  rotate_left
  · rintro o r ⟨rfl, y, hy, h1, h2, h3⟩
    rcases hy with rfl | ⟨rfl, e⟩
    · exact ⟨_, .refl _, y, rfl, rfl, h1, h2, h3⟩
    · refine ⟨.tup [rows y.1, solT y.2], ?_, y, rfl, rfl, h1, h2, h3⟩
      rw [e]
      refine .tup rfl fun i h h' => ?_
      match i, h with
      | 0, _ => exact .refl _
      | 1, _ => exact zeroS
  refine fun_spec_DrawIsMatrixSolution_h (by simp) ?_
  simp -implicitDefEqProofs only [go_sem, evR, ints, rows, rat, rats, c_spec_DrawIsMatrixSolution_h]
  refine CallW.res (spec_l01From_ok cs hc (by omega)) [] rfl Try.call61 ?_ (.inl rfl) ?_
  · simp -implicitDefEqProofs only [agR, Nat.reduceLeDiff, Nat.reduceSub, vaR, go_sem, ints, rows, rat, rats, ratsO, rtR, intsO, rowsO]
  simp -implicitDefEqProofs only [clR, Nat.reduceLeDiff, go_sem, evR, rat, srcT]
  have hs0 := seed_from (cs.take 64)
  generalize fromS (cs.take 64) = sd at hs0 ⊢
  refine CallW.exi (spec_l26Draw_ok cs hc hl (0, sd) hs0) [10] [] rfl Try.call60 (by simp) ?_ (by simp) ?_ (.inl rfl) (fun x hx => ?_)
  · simp -implicitDefEqProofs only [srR, Nat.reduceEqDiff, ↓reduceIte, ints, rows, intsO, rowsO]
  · simp -implicitDefEqProofs only [agR, Nat.reduceLeDiff, Nat.reduceSub, vaR, go_sem, ints, rows, rat, rats, ratsO, rtR, intsO, rowsO]
  simp -implicitDefEqProofs only [clR, Nat.reduceLeDiff, go_sem, evR, rat]
  have hml := hx.1.1
  have hmr := hx.1.2
  refine CallW.weak (Weak.trans (Weak.share 12 rfl) (Weak.of [(3, .own 3), (4, .own 10), (5, .t (rows x.1)), (13, .t (rows x.1))] [(3, .box [.v (.slice none 0 0), .v (.slice none 0 0), .i 0, .i 0]), (10, .box [bytes cs, .i x.2.1, .i x.2.2])] [some 3, some 10] (by simp) (by simp) ?_ ?_)) ?_
  · simp -implicitDefEqProofs only [ints, rows, Nat.reduceBEq, wkR, Nat.reduceEqDiff, ↓reduceIte, wrR, shareA, rowsO_toSh]
  · exact ⟨⟨_, rfl, .refl _⟩, rfl, ⟨_, rfl, .refl _⟩, rfl, trivial⟩
  refine CallW.pure (spec_IsMatrix_ok x.1) [] rfl Try.call39 ?_ (by first | trivial | simp [T.noSh, T.noShL, rat]) rfl ?_
  · simp -implicitDefEqProofs only [agR, Nat.reduceLeDiff, Nat.reduceSub, vaR, go_sem, ints, rows, rat, rats, ratsO, rtR, intsO, rowsO]
  simp -implicitDefEqProofs only [go_sem, evR, ints, rows, rat, rats]
  refine ⟨fun hm => ?_, fun hm => ?_⟩
  rotate_left
  · have hm : isMat x.1 = true := by simpa using hm
    have hk := kerSol_len x.1 hm
    have hp := spec_l27First_le x.1 hm
    simp only [rows, ints, solT, rats] at hp
    refine CallW.res hp [] rfl Try.call56 ?_ (.inl rfl) ?_
    · simp -implicitDefEqProofs only [agR, Nat.reduceLeDiff, Nat.reduceSub, vaR, go_sem, ints, rows, rat, rats, ratsO, rtR, intsO, rowsO]
    simp -implicitDefEqProofs only [clR, Nat.reduceLeDiff, go_sem, evR, rat]
    refine CallW.ref (next_box cs hc hl x.2 hx.2 5 (by omega)) [10] [] rfl Try.call71 (by simp) ?_ (by simp) ?_ (.inl rfl) ?_
    · simp -implicitDefEqProofs only [srR, Nat.reduceEqDiff, ↓reduceIte, ints, rows, intsO, rowsO]
    · simp -implicitDefEqProofs only [agR, Nat.reduceLeDiff, Nat.reduceSub, vaR, go_sem, ints, rows, rat, rats, ratsO, rtR, intsO, rowsO]
    simp -implicitDefEqProofs only [clR, Nat.reduceLeDiff, go_sem, evR, rat]
    have hs2 := nextS_seed (cs := cs) hl hx.2 5
    generalize nextS cs x.2 5 = z at hs2 ⊢
    obtain ⟨k, b⟩ := z
    simp only [] at hs2 ⊢
    obtain ⟨m1, -⟩ := isMat_spec hm
    obtain ⟨r0, hr0⟩ : ∃ r0, x.1[0]? = some r0 := ⟨_, List.getElem?_eq_getElem (by omega)⟩
    have hr0l := hmr r0 (List.mem_of_getElem? hr0)
    refine ⟨fun h0 => ?_, fun h0 => ⟨fun h1 => ?_, fun h1 => ⟨fun h2 => ⟨by omega, by omega, ?_⟩, fun h2 => ?_⟩⟩⟩
    · have hp := pick_own cs hc hl b hs2 [-1, 1] (by simp) (by simp)
      simp only [intsO, List.map_cons, List.map_nil] at hp
      refine CallH.ref hp [10, 32] [] rfl Try.call72 (by simp) ?_ (by simp) (fun e R' hR => ?_) (.inl rfl) ?_
      · simp -implicitDefEqProofs only [srR, Nat.reduceEqDiff, ↓reduceIte, ints, rows, intsO, rowsO]
      · simp -implicitDefEqProofs only [agR, Nat.reduceLeDiff, Nat.reduceSub, vaR, go_sem, ints, rows, rat, rats, ratsO, rtR, intsO, rowsO]
      simp -implicitDefEqProofs only [clR, Nat.reduceLeDiff, go_sem, evR, rat]
      refine ⟨?_, ((frameOK.refl _ _ _).upd _ (.inl (by simp))).upd _ (.inl (by simp))⟩
      refine ⟨_, Weak.trans (Weak.share 8 rfl) (Weak.of [(3, .own 3), (5, .t (rows x.1)), (8, .t (.pin [rats (kerSol x.1).r, rats (kerSol x.1).c, .i (IntKind.i64.wrap ((kerSol x.1).v.1 + (pickS cs b [-1, 1]).1)), .i (kerSol x.1).v.2] 0))] [(3, .box [.v (.slice none 0 0), .v (.slice none 0 0), .i 0, .i 0])] [some 3] (by simp) (by simp) ?_ ?_), ?_⟩
      · simp -implicitDefEqProofs only [ints, rows, Nat.reduceBEq, wkR, Nat.reduceEqDiff, ↓reduceIte, wrR, shareA, T.toSh, T.toShL, rats, ratsO, toShL_ratC]
      · exact ⟨⟨_, rfl, .refl _⟩, rfl, trivial⟩
      simp -implicitDefEqProofs only [go_sem, evR, ints, rows, rat, rats, rats]
      exact ⟨(x.1, ⟨(kerSol x.1).r, (kerSol x.1).c, ((IntKind.i64.wrap ((kerSol x.1).v.1 + (pickS cs b [-1, 1]).1)), (kerSol x.1).v.2)⟩), .inl rfl, hx.1, by have := hk.1; show (kerSol x.1).r.length ≤ 8; omega, by have := hk.2; show (kerSol x.1).c.length ≤ 8; omega⟩
    · refine CallW.exi (spec_l26DrawMix_ok cs hc hl b hs2 x.1.length hml) [10] [] rfl Try.call73 (by simp) ?_ (by simp) ?_ (.inl rfl) (fun y hy => ?_)
      · simp -implicitDefEqProofs only [srR, Nat.reduceEqDiff, ↓reduceIte, ints, rows, intsO, rowsO]
      · simp -implicitDefEqProofs only [agR, Nat.reduceLeDiff, Nat.reduceSub, vaR, go_sem, ints, rows, rat, rats, ratsO, rtR, intsO, rowsO]
      simp -implicitDefEqProofs only [clR, Nat.reduceLeDiff, go_sem, evR, rat]
      refine ⟨_, Weak.trans (Weak.share 8 rfl) (Weak.of [(3, .own 3), (5, .t (rows x.1)), (8, .t (.pin [rats y.1, rats (kerSol x.1).c, .i (kerSol x.1).v.1, .i (kerSol x.1).v.2] 0))] [(3, .box [.v (.slice none 0 0), .v (.slice none 0 0), .i 0, .i 0])] [some 3] (by simp) (by simp) ?_ ?_), ?_⟩
      · simp -implicitDefEqProofs only [ints, rows, Nat.reduceBEq, wkR, Nat.reduceEqDiff, ↓reduceIte, wrR, shareA, T.toSh, T.toShL, rats, ratsO, toShL_ratC]
      · exact ⟨⟨_, rfl, .refl _⟩, rfl, trivial⟩
      simp -implicitDefEqProofs only [go_sem, evR, ints, rows, rat, rats, rats]
      exact ⟨(x.1, ⟨y.1, (kerSol x.1).c, ((kerSol x.1).v.1, (kerSol x.1).v.2)⟩), .inl rfl, hx.1, by have := hy.1; show y.1.length ≤ 8; omega, by have := hk.2; show (kerSol x.1).c.length ≤ 8; omega⟩
    · simp -implicitDefEqProofs only [go_sem, evR, ints, rows, rat, rats, hr0, Option.map_some, Option.getD_some, ints]
      refine CallW.exi (spec_l26DrawMix_ok cs hc hl b hs2 r0.length hr0l) [10] [] rfl Try.call73 (by simp) ?_ (by simp) ?_ (.inl rfl) (fun y hy => ?_)
      · simp -implicitDefEqProofs only [srR, Nat.reduceEqDiff, ↓reduceIte, ints, rows, intsO, rowsO]
      · simp -implicitDefEqProofs only [agR, Nat.reduceLeDiff, Nat.reduceSub, vaR, go_sem, ints, rows, rat, rats, ratsO, rtR, intsO, rowsO]
      simp -implicitDefEqProofs only [clR, Nat.reduceLeDiff, go_sem, evR, rat]
      refine ⟨_, Weak.trans (Weak.share 8 rfl) (Weak.of [(3, .own 3), (5, .t (rows x.1)), (8, .t (.pin [rats (kerSol x.1).r, rats y.1, .i (kerSol x.1).v.1, .i (kerSol x.1).v.2] 0))] [(3, .box [.v (.slice none 0 0), .v (.slice none 0 0), .i 0, .i 0])] [some 3] (by simp) (by simp) ?_ ?_), ?_⟩
      · simp -implicitDefEqProofs only [ints, rows, Nat.reduceBEq, wkR, Nat.reduceEqDiff, ↓reduceIte, wrR, shareA, T.toSh, T.toShL, rats, ratsO, toShL_ratC]
      · exact ⟨⟨_, rfl, .refl _⟩, rfl, trivial⟩
      simp -implicitDefEqProofs only [go_sem, evR, ints, rows, rat, rats, rats]
      exact ⟨(x.1, ⟨(kerSol x.1).r, y.1, ((kerSol x.1).v.1, (kerSol x.1).v.2)⟩), .inl rfl, hx.1, by have := hk.1; show (kerSol x.1).r.length ≤ 8; omega, by have := hy.1; show y.1.length ≤ 8; omega⟩
    · refine ⟨_, Weak.trans (Weak.share 8 rfl) (Weak.of [(3, .own 3), (5, .t (rows x.1)), (8, .t (.pin [rats (kerSol x.1).r, rats (kerSol x.1).c, .i (kerSol x.1).v.1, .i (kerSol x.1).v.2] 0))] [(3, .box [.v (.slice none 0 0), .v (.slice none 0 0), .i 0, .i 0])] [some 3] (by simp) (by simp) ?_ ?_), ?_⟩
      · simp -implicitDefEqProofs only [ints, rows, Nat.reduceBEq, wkR, Nat.reduceEqDiff, ↓reduceIte, wrR, shareA, T.toSh, T.toShL, rats, ratsO, toShL_ratC]
      · exact ⟨⟨_, rfl, .refl _⟩, rfl, trivial⟩
      simp -implicitDefEqProofs only [go_sem, evR, ints, rows, rat, rats, rats]
      exact ⟨(x.1, ⟨(kerSol x.1).r, (kerSol x.1).c, ((kerSol x.1).v.1, (kerSol x.1).v.2)⟩), .inl rfl, hx.1, by have := hk.1; show (kerSol x.1).r.length ≤ 8; omega, by have := hk.2; show (kerSol x.1).c.length ≤ 8; omega⟩
  · exact ⟨(x.1, ⟨[], [], (0, 0)⟩), .inr ⟨rfl, rfl⟩, hx.1, by simp, by simp⟩
set_option maxRecDepth 20000 in
theorem laws_FnSolved_ok (cs : List Int) (hc : bytesOK cs) : Pure Try.prog 9 [bytes cs] (.b true) := by
  refine fun_laws_FnSolved (by simp) ?_
  simp -implicitDefEqProofs only [go_sem, evR, ints, rows, rat, rats, c_laws_FnSolved]
  refine CallW.pure (laws_big_ok cs) [] rfl Try.call30 ?_ (by first | trivial | simp [T.noSh, T.noShL, rat]) rfl ?_
  · simp -implicitDefEqProofs only [agR, Nat.reduceLeDiff, Nat.reduceSub, vaR, go_sem, ints, rows, rat, rats, ratsO, rtR, intsO, rowsO]
  simp -implicitDefEqProofs only [go_sem, evR, ints, rows, rat, rats]
  refine ⟨fun _ => trivial, fun hbig => ?_⟩
  have hl : cs.length ≤ 4096 := by have : (cs.length : Int) ≤ 4096 := by simpa using hbig
                                   omega
  refine CallW.exi (spec_DrawSolveMatrix_ok cs hc (by omega)) [] [] rfl Try.call46 (by simp) ?_ (by simp) ?_ (.inl rfl) (fun m hm => ?_)
  · simp -implicitDefEqProofs only [srR, Nat.reduceEqDiff, ↓reduceIte, ints, rows, intsO, rowsO]
  · simp -implicitDefEqProofs only [agR, Nat.reduceLeDiff, Nat.reduceSub, vaR, go_sem, ints, rows, rat, rats, ratsO, rtR, intsO, rowsO]
  simp -implicitDefEqProofs only [clR, Nat.reduceLeDiff, go_sem, evR, rat]
  have hml : m.length ≤ 1000000000000 := by have := hm.1; omega
  have hmr : ∀ r ∈ m, r.length ≤ 1000000000000 := fun r hr => by have := hm.2 r hr; omega
  refine CallW.weak (Weak.trans (Weak.share 16 rfl) (Weak.of [(0, .t (bytes cs)), (3, .t (rows m)), (18, .t (rows m))] [] [] (by simp) (by simp) ?_ ?_)) ?_
  · simp -implicitDefEqProofs only [ints, rows, Nat.reduceBEq, wkR, Nat.reduceEqDiff, ↓reduceIte, wrR, shareA, rowsO_toSh]
  · exact trivial
  obtain ⟨hk1, hk2⟩ := smR_len4 m
  have hp := impl_SolveMatrix_ok m (by omega) hmr
  simp only [rows, solO, ratsO] at hp
  refine CallW.res hp [] rfl Try.call26 ?_ (.inl rfl) ?_
  · simp -implicitDefEqProofs only [agR, Nat.reduceLeDiff, Nat.reduceSub, vaR, go_sem, ints, rows, rat, rats, ratsO, rtR, intsO, rowsO]
  simp -implicitDefEqProofs only [clR, Nat.reduceLeDiff, go_sem, evR, rat]
  have hp2 := spec_SolveMatrix_ok m
  simp only [rows, solT, rats] at hp2
  refine CallW.res hp2 [] rfl Try.call25 ?_ (.inl rfl) ?_
  · simp -implicitDefEqProofs only [agR, Nat.reduceLeDiff, Nat.reduceSub, vaR, go_sem, ints, rows, rat, rats, ratsO, rtR, intsO, rowsO]
  simp -implicitDefEqProofs only [clR, Nat.reduceLeDiff, go_sem, evR, rat]
  refine CallW.exi (spec_DrawIsMatrixSolution_ok cs hc (by omega)) [] [] rfl Try.call47 (by simp) ?_ (by simp) ?_ (.inl rfl) (fun y hy => ?_)
  · simp -implicitDefEqProofs only [srR, Nat.reduceEqDiff, ↓reduceIte, ints, rows, intsO, rowsO]
  · simp -implicitDefEqProofs only [agR, Nat.reduceLeDiff, Nat.reduceSub, vaR, go_sem, ints, rows, rat, rats, ratsO, rtR, intsO, rowsO]
  simp -implicitDefEqProofs only [clR, Nat.reduceLeDiff, go_sem, evR, rat, rows, solT, rats]
  obtain ⟨hy1, hy2, hy3⟩ := hy
  refine CallW.weak (Weak.trans (Weak.share 4 rfl) (Weak.of [(3, .t (rows m)), (4, .t (.pin [rats (smR m).1.r, rats (smR m).1.c, .i (smR m).1.v.1, .i (smR m).1.v.2] 0)), (5, .t (.i (matC m))), (6, .own 6), (7, .t (.i (matC m))), (8, .t (rows y.1)), (9, .own 9), (32, .t (rows y.1)), (33, .t (solT y.2))] [(6, .box [rats (smR m).1.r, rats (smR m).1.c, .i (smR m).1.v.1, .i (smR m).1.v.2]), (9, .box [rats y.2.r, rats y.2.c, .i y.2.v.1, .i y.2.v.2])] [some 6, some 9] (by simp) (by simp) ?_ ?_)) ?_
  · simp -implicitDefEqProofs only [ints, rows, Nat.reduceBEq, wkR, Nat.reduceEqDiff, ↓reduceIte, wrR, shareA, T.toSh, T.toShL, rats, toShL_ratC, solT]
  · exact ⟨⟨_, rfl, .refl _⟩, rfl, ⟨_, rfl, .refl _⟩, rfl, trivial⟩
  have hyl : y.1.length ≤ 1000000000000 := by have := hy1.1; omega
  have hyr : ∀ r ∈ y.1, r.length ≤ 1000000000000 := fun r hr => by have := hy1.2 r hr; omega
  refine CallW.pure (impl_IsMatrixSolution_ok y.1 hyl hyr y.2 (by omega) (by omega)) [] rfl Try.call48 ?_ (by first | trivial | simp [T.noSh, T.noShL, rat]) rfl ?_
  · simp -implicitDefEqProofs only [agR, Nat.reduceLeDiff, Nat.reduceSub, vaR, go_sem, ints, rows, rat, rats, ratsO, rtR, intsO, rowsO]
  simp -implicitDefEqProofs only [go_sem, evR, ints, rows, rat, rats]
  have hq := laws_likeSolutions_ok (smR m).1 (smR m).1 (by omega) (by omega) (by omega) (by omega)
  simp only [solT] at hq
  refine CallW.pure hq [] rfl Try.call49 ?_ (by first | trivial | simp [T.noSh, T.noShL, rat]) rfl ?_
  · simp -implicitDefEqProofs only [agR, Nat.reduceLeDiff, Nat.reduceSub, vaR, go_sem, ints, rows, rat, rats, ratsO, rtR, intsO, rowsO]
  simp -implicitDefEqProofs only [go_sem, evR, ints, rows, rat, rats, not_true_eq_false, decide_false, decide_true]
  have hq2 := spec_IsMatrixSolution_ok y.1 y.2 (by omega) (by omega)
  simp only [solT] at hq2
  refine CallW.pure hq2 [] rfl Try.call50 ?_ (by first | trivial | simp [T.noSh, T.noShL, rat]) rfl ?_
  · simp -implicitDefEqProofs only [agR, Nat.reduceLeDiff, Nat.reduceSub, vaR, go_sem, ints, rows, rat, rats, ratsO, rtR, intsO, rowsO]
  simp -implicitDefEqProofs only [go_sem, evR, ints, rows, rat, rats, bne_self_eq_false]
  refine ⟨fun hi => ?_, fun hi => ?_⟩
  · obtain ⟨hi1, hi2⟩ : isMat y.1 = true ∧ isSolB y.1 y.2 = true := by simpa [imsB] using hi
    have hv : vmR y.1 = (y.2.v, 0) := by
      rw [vmR, if_pos hi1, sol_unique (isMat_spec hi1).2.2.2.2.1 (kerSol_hit hi1) hi2]
    have hq4 := impl_ValueOfMatrix_ok y.1 (by omega) hyr
    rw [hv] at hq4
    refine CallW.pure hq4 [] rfl Try.call17 ?_ (by first | trivial | simp [T.noSh, T.noShL, rat]) rfl ?_
    · simp -implicitDefEqProofs only [agR, Nat.reduceLeDiff, Nat.reduceSub, vaR, go_sem, ints, rows, rat, rats, ratsO, rtR, intsO, rowsO]
    simp -implicitDefEqProofs only [go_sem, evR, ints, rows, rat, rats, redT, rat, bne_self_eq_false, not_true_eq_false, decide_false, decide_true]
    refine ⟨fun _ => trivial, fun h0 => ?_⟩
    have hM : isMat m = true := by
      cases hM : isMat m with
      | true => rfl
      | false => rw [matC, hM] at h0; simp at h0
    have hq3 := impl_IsMatrixSolution_ok m hml hmr (smR m).1 (by omega) (by omega)
    have hS : imsB m (smR m).1 = true := by
      have : smR m = (kerSol m, 0) := by rw [smR, if_pos hM]
      rw [this, imsB, hM, kerSol_hit hM]; rfl
    simp only [solT, hS] at hq3
    refine CallW.pure hq3 [] rfl Try.call48 ?_ (by first | trivial | simp [T.noSh, T.noShL, rat]) rfl ?_
    · simp -implicitDefEqProofs only [agR, Nat.reduceLeDiff, Nat.reduceSub, vaR, go_sem, ints, rows, rat, rats, ratsO, rtR, intsO, rowsO]
    simp -implicitDefEqProofs only [go_sem, evR, ints, rows, rat, rats]
  · refine ⟨fun _ => trivial, fun h0 => ?_⟩
    have hM : isMat m = true := by
      cases hM : isMat m with
      | true => rfl
      | false => rw [matC, hM] at h0; simp at h0
    have hq3 := impl_IsMatrixSolution_ok m hml hmr (smR m).1 (by omega) (by omega)
    have hS : imsB m (smR m).1 = true := by
      have : smR m = (kerSol m, 0) := by rw [smR, if_pos hM]
      rw [this, imsB, hM, kerSol_hit hM]; rfl
    simp only [solT, hS] at hq3
    refine CallW.pure hq3 [] rfl Try.call48 ?_ (by first | trivial | simp [T.noSh, T.noShL, rat]) rfl ?_
    · simp -implicitDefEqProofs only [agR, Nat.reduceLeDiff, Nat.reduceSub, vaR, go_sem, ints, rows, rat, rats, ratsO, rtR, intsO, rowsO]
    simp -implicitDefEqProofs only [go_sem, evR, ints, rows, rat, rats]
end
end Go.Ab

set_option linter.unusedSimpArgs false
set_option linter.unusedVariables false
namespace Go.Proofs.Ytdleindmpgadcaa
open Go.ChangeShapes Go.WideShapes Go.ChangeAt Go.RowKit Go.Ab

namespace fnSolved
theorem said : ∀ xs, wtL [tyU8s] xs → Pure Try.prog 9 xs (.b true)
  | [x], h => by
    obtain ⟨cs, rfl, _, hc⟩ := wt_bytes h.1
    exact laws_FnSolved_ok cs hc
  | [], h => h.elim
  | _ :: _ :: _, h => h.2.elim

set_option maxRecDepth 100000 in
theorem lifted (os : Os) (started : os.Started) (H : Type) (enc : TypeId × Value → H) :
    ReturnsInHanded {} Try.checked os 9 .any (Rows.fnSolvedSpec.pre6 enc Try.prog Try.f9 Rows.fnSolvedRow.domain false) (Rows.fnSolvedSpec.post enc Try.prog Try.f9 false true false false) := by
  refine returnsInHanded_of_change (C := Try.checked) (by kernel_rfl) started (by kernel_rfl) Try.func9
    (ChangeSpec.witness6 (enc := enc) (C := Try.checked) false ⟨#[], #[.slice none 0 0], []⟩ 8 (by kernel_rfl) (by kernel_rfl) (by kernel_rfl) (by kernel_rfl)) ?_
  intro W base args ds gs before hval hW _ _
  refine law_contract (tys := [tyU8s]) (by kernel_rfl) (by kernel_rfl) rfl (by kernel_rfl) rfl (fun ds h => ?_) said W base args ds gs before hval hW
  match ds, h with
  | [d0], _ => rfl

theorem andT {a b : Bool} (ha : a = true) (hb : b = true) : (a && b) = true := by rw [ha, hb]; rfl
theorem joined0 : ((Rows.fnSolvedRow.wf (OpenSpec.ofChange Rows.fnSolvedSpec))) = true := by kernel_rfl
theorem joined1 : (laidOutB Try.prog) = true := Try.laidOutT
theorem joined2 : (mapsRowed Try.prog) = true := Try.mapsRowedT
theorem joined3 : (Try.f9.params.all (Try.prog.readableRec ·)) = true := by kernel_rfl
theorem joined4 : (namedTie Try.prog Rows.fnSolvedRow.named Rows.fnSolvedSpec.vars) = true := by kernel_rfl
theorem joined5 : ((Rows.fnSolvedRow.stops == [])) = true := by kernel_rfl
theorem joined6 : ((Try.prog.stops == [])) = true := by kernel_rfl
theorem joined7 : ((Rows.fnSolvedRow.knobs == [])) = true := by kernel_rfl
theorem joined8 : ((Try.prog.stopKnobs == [])) = true := by kernel_rfl
theorem joined9 : ((Rows.fnSolvedRow.inPlace == Try.prog.inPlace 9)) = true := by kernel_rfl
theorem joined10 : ((Rows.fnSolvedRow.unfollowed == Try.prog.unfollowed 9)) = true := by kernel_rfl
theorem joined11 : ((Rows.fnSolvedRow.recurses == Try.prog.recurses 9)) = true := by kernel_rfl
theorem joined12 : ((Rows.fnSolvedRow.named == Try.prog.varsNamed 9)) = true := by kernel_rfl
theorem joined13 : ((Rows.fnSolvedRow.maps == (Try.f9.params.toList ++ Rows.fnSolvedSpec.plain.varTypes Try.prog).any (Try.prog.mapsRec ·))) = true := by kernel_rfl
theorem joined14 : ((Rows.fnSolvedRow.ifaces == (Try.f9.params.toList ++ Rows.fnSolvedSpec.plain.varTypes Try.prog).any (Try.prog.ifacesRec ·))) = true := by kernel_rfl
theorem joined15 : ((Rows.fnSolvedRow.mapsOut == Try.prog.mapsAmong Try.f9.resultTypes.toList)) = true := by kernel_rfl
theorem joined16 : ((Rows.fnSolvedRow.loops == (Try.f9.params.toList ++ Rows.fnSolvedSpec.plain.varTypes Try.prog).any (Try.prog.loopsFrom ·))) = true := by kernel_rfl
theorem joined17 : ((Rows.fnSolvedRow.wideKeys == (Try.f9.params.toList ++ Rows.fnSolvedSpec.plain.varTypes Try.prog ++ Try.f9.resultTypes.toList).any (Try.prog.wideKeysFrom ·))) = true := by kernel_rfl
theorem joined18 : (Rows.fnSolvedSpec.vars.all (Try.prog.varReadable ·)) = true := by kernel_rfl
theorem joined19 : (Try.f9.resultTypes.all (fun t => Try.prog.readableRec t && decide (t < Try.prog.types.size))) = true := by kernel_rfl
theorem joined20 : ((Rows.fnSolvedRow.ifacesOut == Try.f9.resultTypes.toList.any (Try.prog.ifacesRec ·))) = true := by kernel_rfl
theorem joined21 : ((Rows.fnSolvedRow.loopsOut == Try.f9.resultTypes.toList.any (Try.prog.loopsFrom ·))) = true := by kernel_rfl
theorem joined22 : ((Rows.fnSolvedRow.plainKeys == Try.prog.plainKeys)) = true := by kernel_rfl
theorem joined23 : (Rows.fnSolvedRow.shortTexts.isNone) = true := by kernel_rfl
theorem joined24 : (Try.prog.stopsHeard) = true := Try.heardT
theorem joined25 : (Try.prog.mayEnter) = true := Try.mayEnterT
theorem joined26 : ((Rows.fnSolvedRow.lifted == Try.prog.liftsFinal)) = true := (by rw [Try.liftsF]; rfl)
theorem joined27 : ((Try.prog.make == some Rows.fnSolvedRow.make)) = true := (by rw [Try.makeC]; rfl)
theorem joined28 : ((Rows.fnSolvedRow.kinds == (if Rows.fnSolvedRow.domain.isEmpty then [] else Try.f9.params.toList.map fun t => match Try.prog.underlying t with | some (.int k) => some k | _ => none))) = true := by kernel_rfl
theorem joined29 : ((Rows.fnSolvedRow.pinned == Rows.fnSolvedRow.pinnedBy)) = true := by kernel_rfl
theorem joined30 : ((Rows.fnSolvedRow.veiled == (Try.f9.params.toList ++ Rows.fnSolvedSpec.plain.varTypes Try.prog ++ Try.f9.resultTypes.toList).any (Try.prog.veiledRec ·))) = true := by kernel_rfl
theorem joined31 : (Rows.fnSolvedRow.veiledFits Try.prog Try.f9.params.toList (Try.f9.params.toList ++ Rows.fnSolvedSpec.plain.varTypes Try.prog ++ Try.f9.resultTypes.toList)) = true := by kernel_rfl
set_option maxRecDepth 100000 in
theorem joined : joinedFacts Try.prog 9 Try.f9 Rows.fnSolvedSpec Rows.fnSolvedRow = true := by
  unfold joinedFacts
  exact andT (andT (andT (andT (andT (andT (andT (andT (andT (andT (andT (andT (andT (andT (andT (andT (andT (andT (andT (andT (andT (andT (andT (andT (andT (andT (andT (andT (andT (andT (andT (joined0) joined1) joined2) joined3) joined4) joined5) joined6) joined7) joined8) joined9) joined10) joined11) joined12) joined13) joined14) joined15) joined16) joined17) joined18) joined19) joined20) joined21) joined22) joined23) joined24) joined25) joined26) joined27) joined28) joined29) joined30) joined31
theorem over : Rows.fnSolvedRow.holds Try.pinned (OpenSpec.ofChange Rows.fnSolvedSpec) :=
  OpenClaim.holds_of_wide 9 Try.f9 rfl rfl rfl rfl rfl rfl rfl ⟨rfl, rfl, rfl, rfl, rfl⟩ rfl rfl rfl rfl rfl (by kernel_rfl) Try.func9 joined
    (of_decide_eq_true (by kernel_rfl)) (by unfold Func.isWrapper; first | (rw [if_pos (by decide +kernel)]; kernel_rfl) | (rw [if_neg (by decide +kernel)]; exact ⟨rfl, rfl⟩))
    (fun os started H enc _ => lifted os started H enc)
end fnSolved

theorem fnSolved_holds : Rows.FnSolvedSaid := fnSolved.over
#print axioms fnSolved_holds
end Go.Proofs.Ytdleindmpgadcaa
