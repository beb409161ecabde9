/- No strategy has a greater value than a best response: the law FnBestResponses returns true for every list of bytes. No conditions. -/
import Derived.Test.YtkmmkgpnlmdcfaaRows
import Derived.Test.YtkmmkgpnlmdcfaaQ6
/- Contracts: pairs of strategies; best numbers, bounds, equilibria, exported. -/
set_option linter.unusedSimpArgs false
set_option linter.unusedVariables false
namespace Go.Ab
open Go.Proofs

theorem strB_parts {g : Gm} {s : Int × List (List Int)} (h : strB g s = true) : isGameB g = true ∧ (s.1 = 0 ∨ s.1 = 1) ∧ isStratB g s.1 s.2 = true := by
  simp only [strB, Bool.and_eq_true, decide_eq_true_eq] at h
  exact ⟨h.1.1, by omega, h.2⟩
theorem strB_run {g : Gm} {s : Int × List (List Int)} (h : strB g s = true) : isGameB g = true ∧ (1 - s.1 = 0 ∨ 1 - s.1 = 1) ∧ partsOK g s.2 (1 - (1 - s.1)) ∧ (1 - (1 - s.1), s.2) = s := by
  obtain ⟨h1, h2, h3⟩ := strB_parts h
  refine ⟨h1, by omega, ?_, ?_⟩
  · rw [show 1 - (1 - s.1) = s.1 by omega]; exact partsOK_of h3
  · rw [show 1 - (1 - s.1) = s.1 by omega]
theorem spec_run {g : Gm} {s : Int × List (List Int)} (h : strB g s = true) : Fun Try.prog 132 [] [.t (.agg [.sh 5 (chunk nodeC g.nd), .sh 1 (g.w.map ints), .sh 1 (g.v.map ints)]), .t (.agg [.i s.1, .sh 1 (s.2.map ints)])] fun o r => o = [] ∧ r = runT g s.2 (1 - s.1) := by
  obtain ⟨h1, h2, h3, h4⟩ := strB_run h
  have := spec_l24Run_ok h1 h2 h3
  rw [h4] at this
  exact this
theorem impl_run {g : Gm} {s : Int × List (List Int)} (h : strB g s = true) : Fun Try.prog 122 [] [.t (.agg [.sh 5 (chunk nodeC g.nd), .sh 1 (g.w.map ints), .sh 1 (g.v.map ints)]), .t (.agg [.i s.1, .sh 1 (s.2.map ints)])] fun o r => o = [] ∧ r = runT g s.2 (1 - s.1) := by
  obtain ⟨h1, h2, h3, h4⟩ := strB_run h
  have := impl_bestAgainst_ok h1 h2 h3
  rw [h4] at this
  exact this
def bestN (g : Gm) (s : Int × List (List Int)) : Int := runV g s.2 (1 - s.1) g.w.length
def bestS (g : Gm) (s : Int × List (List Int)) : Int × List (List Int) := (1 - s.1, runB g s.2 (1 - s.1) g.w.length)
theorem bestN_abs {g : Gm} {s : Int × List (List Int)} (h : strB g s = true) : -25194240000000 ≤ bestN g s ∧ bestN g s ≤ 25194240000000 := by
  obtain ⟨h1, h2, h3, h4⟩ := strB_run h
  obtain ⟨_, hk, _⟩ := isGameB_spec h1
  have hv := runV_abs h1 h2 h3 g.w.length
  have hcv : capV = 4199040000000 := rfl
  have hk6 : ((g.w.length : Nat) : Int) * capV ≤ 6 * capV := Int.mul_le_mul_of_nonneg_right (by omega) (by decide)
  unfold bestN
  omega
def pairG (g : Gm) (s t : Int × List (List Int)) : Bool := strB g s && strB g t && decide (s.1 = 0) && decide (t.1 = 1)
theorem pairG_iff {g : Gm} {s t : Int × List (List Int)} : pairG g s t = true ↔ isGameB g = true ∧ s.1 = 0 ∧ t.1 = 1 ∧ isStratB g s.1 s.2 = true ∧ isStratB g t.1 t.2 = true := by
  simp only [pairG, strB, Bool.and_eq_true, decide_eq_true_eq]
  constructor
  · rintro ⟨⟨⟨⟨⟨h1, h2⟩, h3⟩, ⟨_, h4⟩, h5⟩, h6⟩, h7⟩
    exact ⟨h1, h6, h7, h3, h5⟩
  · rintro ⟨h1, h2, h3, h4, h5⟩
    exact ⟨⟨⟨⟨⟨h1, by omega⟩, h4⟩, ⟨h1, by omega⟩, h5⟩, h2⟩, h3⟩
theorem pairG_no {g : Gm} {s t : Int × List (List Int)} (h : ¬ (isGameB g = true ∧ s.1 = 0 ∧ t.1 = 1 ∧ isStratB g s.1 s.2 = true ∧ isStratB g t.1 t.2 = true)) : pairG g s t = false := by
  cases hp : pairG g s t with
  | false => rfl
  | true => exact (h (pairG_iff.1 hp)).elim
section
attribute [-go_sem] load1C load1V fldC lenC idxC loadNV nilCheckW
theorem isStr_t {f : FuncId} {g : Gm} {s : Int × List (List Int)} {b : Bool} (h : Pure Try.prog f [gameT g, stratT s] (.b b)) : Pure Try.prog f [.agg [.sh 5 (chunk nodeC g.nd), .sh 1 (g.w.map ints), .sh 1 (g.v.map ints)], .agg [.i s.1, .sh 1 (s.2.map ints)]] (.b b) := h
theorem unit_t {f : FuncId} {g : Gm} {n : Int} (h : Pure Try.prog f [gameT g] (.i n)) : Pure Try.prog f [.agg [.sh 5 (chunk nodeC g.nd), .sh 1 (g.w.map ints), .sh 1 (g.v.map ints)]] (.i n) := h
set_option maxRecDepth 20000 in
theorem impl_arePair_ok (g : Gm) (s t : Int × List (List Int)) (hg : gameL g) (hs : rowsL s.2) (ht : rowsL t.2) : Pure Try.prog 120 [gameT g, stratT s, stratT t] (.b (pairG g s t)) := by
  refine fun_impl_arePair (by simp) ?_
  have h1 := isGame_t (impl_IsGame_ok g hg)
  simp -implicitDefEqProofs only [go_sem, evR, ints, rows, rat, rats, c_impl_arePair, gameT, stratT, nodes]
  cases hb1 : isGameB g <;> rw [hb1] at h1
  · refine CallW.pure h1 [] rfl Try.call115 ?_ (by first | trivial | simp [T.noSh, T.noShL, rat]) rfl ?_
    · simp -implicitDefEqProofs only [agR, Nat.reduceLeDiff, Nat.reduceSub, vaR, go_sem, ints, rows, rat, rats, ratsO, rtR, intsO, rowsO]
    simp -implicitDefEqProofs only [go_sem, evR, ints, rows, rat, rats]
    rw [pairG_no fun h => by rw [hb1] at h; exact absurd h.1 (by simp)]
  · have h2 := isStr_t (impl_isStrategy_ok g s hb1 hs)
    have h3 := isStr_t (impl_isStrategy_ok g t hb1 ht)
    refine CallW.pure h1 [] rfl Try.call115 ?_ (by first | trivial | simp [T.noSh, T.noShL, rat]) rfl ?_
    · simp -implicitDefEqProofs only [agR, Nat.reduceLeDiff, Nat.reduceSub, vaR, go_sem, ints, rows, rat, rats, ratsO, rtR, intsO, rowsO]
    simp -implicitDefEqProofs only [go_sem, evR, ints, rows, rat, rats]
    refine ⟨fun h4 => ⟨fun h5 => ?_, fun h5 => ?_⟩, fun h4 => ?_⟩
    · have h4 : s.1 = 0 := by simpa using h4
      have h5 : t.1 = 1 := by simpa using h5
      cases hb2 : isStratB g s.1 s.2 <;> rw [hb2] at h2
      · refine CallW.pure h2 [] rfl Try.call153 ?_ (by first | trivial | simp [T.noSh, T.noShL, rat]) rfl ?_
        · simp -implicitDefEqProofs only [agR, Nat.reduceLeDiff, Nat.reduceSub, vaR, go_sem, ints, rows, rat, rats, ratsO, rtR, intsO, rowsO]
        simp -implicitDefEqProofs only [go_sem, evR, ints, rows, rat, rats]
        rw [pairG_no fun h => by rw [hb2] at h; exact absurd h.2.2.2.1 (by simp)]
      · refine CallW.pure h2 [] rfl Try.call153 ?_ (by first | trivial | simp [T.noSh, T.noShL, rat]) rfl ?_
        · simp -implicitDefEqProofs only [agR, Nat.reduceLeDiff, Nat.reduceSub, vaR, go_sem, ints, rows, rat, rats, ratsO, rtR, intsO, rowsO]
        simp -implicitDefEqProofs only [go_sem, evR, ints, rows, rat, rats]
        cases hb3 : isStratB g t.1 t.2 <;> rw [hb3] at h3
        · refine CallW.pure h3 [] rfl Try.call153 ?_ (by first | trivial | simp [T.noSh, T.noShL, rat]) rfl ?_
          · simp -implicitDefEqProofs only [agR, Nat.reduceLeDiff, Nat.reduceSub, vaR, go_sem, ints, rows, rat, rats, ratsO, rtR, intsO, rowsO]
          simp -implicitDefEqProofs only [go_sem, evR, ints, rows, rat, rats]
          rw [pairG_no fun h => by rw [hb3] at h; exact absurd h.2.2.2.2 (by simp)]
        · refine CallW.pure h3 [] rfl Try.call153 ?_ (by first | trivial | simp [T.noSh, T.noShL, rat]) rfl ?_
          · simp -implicitDefEqProofs only [agR, Nat.reduceLeDiff, Nat.reduceSub, vaR, go_sem, ints, rows, rat, rats, ratsO, rtR, intsO, rowsO]
          simp -implicitDefEqProofs only [go_sem, evR, ints, rows, rat, rats]
          rw [pairG_iff.2 ⟨hb1, h4, h5, hb2, hb3⟩]
    · have h5 : ¬ t.1 = 1 := by simpa using h5
      rw [pairG_no fun h => h5 h.2.2.1]
    · have h4 : ¬ s.1 = 0 := by simpa using h4
      rw [pairG_no fun h => h4 h.2.1]
theorem pair_t {f : FuncId} {g : Gm} {s t : Int × List (List Int)} {b : Bool} (h : Pure Try.prog f [gameT g, stratT s, stratT t] (.b b)) : Pure Try.prog f [.agg [.sh 5 (chunk nodeC g.nd), .sh 1 (g.w.map ints), .sh 1 (g.v.map ints)], .agg [.i s.1, .sh 1 (s.2.map ints)], .agg [.i t.1, .sh 1 (t.2.map ints)]] (.b b) := h
def bnumT (g : Gm) (s : Int × List (List Int)) : T := if strB g s = true then .tup [.i (bestN g s), .i (unit g), .i 0] else .tup [.i 0, .i 0, .i 1]
set_option maxRecDepth 20000 in
theorem spec_BestNumber_ok (g : Gm) (s : Int × List (List Int)) (hg : gameL g) (hs : rowsL s.2) : Pure Try.prog 64 [gameT g, stratT s] (bnumT g s) := by
  refine fun_spec_BestNumber (by simp) ?_
  have h1 := isStr_t (spec_IsStrategy_ok g s hg hs)
  simp -implicitDefEqProofs only [go_sem, evR, ints, rows, rat, rats, c_spec_BestNumber, gameT, stratT, nodes]
  cases hb1 : strB g s <;> rw [hb1] at h1
  · refine CallW.pure h1 [] rfl Try.call131 ?_ (by first | trivial | simp [T.noSh, T.noShL, rat]) rfl ?_
    · simp -implicitDefEqProofs only [agR, Nat.reduceLeDiff, Nat.reduceSub, vaR, go_sem, ints, rows, rat, rats, ratsO, rtR, intsO, rowsO]
    simp -implicitDefEqProofs only [go_sem, evR, ints, rows, rat, rats]
    rw [bnumT, hb1]; rfl
  · refine CallW.pure h1 [] rfl Try.call131 ?_ (by first | trivial | simp [T.noSh, T.noShL, rat]) rfl ?_
    · simp -implicitDefEqProofs only [agR, Nat.reduceLeDiff, Nat.reduceSub, vaR, go_sem, ints, rows, rat, rats, ratsO, rtR, intsO, rowsO]
    simp -implicitDefEqProofs only [go_sem, evR, ints, rows, rat, rats]
    refine CallW.res (spec_run hb1) [] rfl Try.call132 ?_ (.inl rfl) ?_
    · simp -implicitDefEqProofs only [agR, Nat.reduceLeDiff, Nat.reduceSub, vaR, go_sem, ints, rows, rat, rats, ratsO, rtR, intsO, rowsO]
    simp -implicitDefEqProofs only [clR, Nat.reduceLeDiff, go_sem, evR, rat, runT, rowsO]
    refine CallW.pure (unit_t (spec_l23Unit_ok g (strB_parts hb1).1)) [] rfl Try.call134 ?_ (by first | trivial | simp [T.noSh, T.noShL, rat]) rfl ?_
    · simp -implicitDefEqProofs only [agR, Nat.reduceLeDiff, Nat.reduceSub, vaR, go_sem, ints, rows, rat, rats, ratsO, rtR, intsO, rowsO]
    simp -implicitDefEqProofs only [go_sem, evR, ints, rows, rat, rats]
    rw [bnumT, hb1]; rfl
set_option maxRecDepth 20000 in
theorem impl_BestNumber_ok (g : Gm) (s : Int × List (List Int)) (hg : gameL g) (hs : rowsL s.2) : Pure Try.prog 63 [gameT g, stratT s] (bnumT g s) := by
  refine fun_impl_BestNumber (by simp) ?_
  have h1 := isStr_t (impl_IsStrategy_ok g s hg hs)
  simp -implicitDefEqProofs only [go_sem, evR, ints, rows, rat, rats, c_impl_BestNumber, gameT, stratT, nodes]
  cases hb1 : strB g s <;> rw [hb1] at h1
  · refine CallW.pure h1 [] rfl Try.call91 ?_ (by first | trivial | simp [T.noSh, T.noShL, rat]) rfl ?_
    · simp -implicitDefEqProofs only [agR, Nat.reduceLeDiff, Nat.reduceSub, vaR, go_sem, ints, rows, rat, rats, ratsO, rtR, intsO, rowsO]
    simp -implicitDefEqProofs only [go_sem, evR, ints, rows, rat, rats]
    rw [bnumT, hb1]; rfl
  · refine CallW.pure h1 [] rfl Try.call91 ?_ (by first | trivial | simp [T.noSh, T.noShL, rat]) rfl ?_
    · simp -implicitDefEqProofs only [agR, Nat.reduceLeDiff, Nat.reduceSub, vaR, go_sem, ints, rows, rat, rats, ratsO, rtR, intsO, rowsO]
    simp -implicitDefEqProofs only [go_sem, evR, ints, rows, rat, rats]
    refine CallW.res (impl_run hb1) [] rfl Try.call122 ?_ (.inl rfl) ?_
    · simp -implicitDefEqProofs only [agR, Nat.reduceLeDiff, Nat.reduceSub, vaR, go_sem, ints, rows, rat, rats, ratsO, rtR, intsO, rowsO]
    simp -implicitDefEqProofs only [clR, Nat.reduceLeDiff, go_sem, evR, rat, runT, rowsO]
    refine CallW.pure (unit_t (impl_unitOf_ok g (strB_parts hb1).1)) [] rfl Try.call130 ?_ (by first | trivial | simp [T.noSh, T.noShL, rat]) rfl ?_
    · simp -implicitDefEqProofs only [agR, Nat.reduceLeDiff, Nat.reduceSub, vaR, go_sem, ints, rows, rat, rats, ratsO, rtR, intsO, rowsO]
    simp -implicitDefEqProofs only [go_sem, evR, ints, rows, rat, rats]
    rw [bnumT, hb1]; rfl
theorem vb_t {f : FuncId} {g : Gm} {s t : Int × List (List Int)} {r : T} (h : Pure Try.prog f [gameT g, stratT s, stratT t] r) : Pure Try.prog f [.agg [.sh 5 (chunk nodeC g.nd), .sh 1 (g.w.map ints), .sh 1 (g.v.map ints)], .agg [.i s.1, .sh 1 (s.2.map ints)], .agg [.i t.1, .sh 1 (t.2.map ints)]] r := h
def tr3 (r : Int × Int × Int) : T := .tup [.i r.1, .i r.2.1, .i r.2.2]
def brR (g : Gm) (s : Int × List (List Int)) : (Int × List (List Int)) × Int := if strB g s = true then (bestS g s, 0) else ((0, []), 1)
def brO (r : (Int × List (List Int)) × Int) : T := .tup [.agg [.i r.1.1, rowsO r.1.2], .i r.2]
theorem brO_le : Le (.tup [.agg [.i 0, .v (.slice none 0 0)], .i 1]) (brO ((0, []), 1)) := by
  refine .tup2 (.agg rfl fun i h h' => ?_) (.refl _)
  match i with
  | 0 => exact .refl _
  | 1 => exact .nilArr 1
set_option maxRecDepth 20000 in
theorem spec_BestResponse_ok (g : Gm) (s : Int × List (List Int)) (hg : gameL g) (hs : rowsL s.2) : Fun Try.prog 61 [] [.t (gameT g), .t (stratT s)] fun o r => o = [] ∧ r = brO (brR g s) := by
  refine Fun.le (Q := fun o r => o = [] ∧ (r = brO (brR g s) ∨ (strB g s = false ∧ r = .tup [.agg [.i 0, .v (.slice none 0 0)], .i 1]))) ?_ ?_
  case refine_2 =>
    rintro o r ⟨rfl, rfl | ⟨h, rfl⟩⟩
    · exact ⟨_, .refl _, rfl, rfl⟩
    · refine ⟨_, brO_le, rfl, ?_⟩
      rw [brR, h]; rfl
  refine fun_spec_BestResponse (by simp) ?_
  have h1 := isStr_t (spec_IsStrategy_ok g s hg hs)
  simp -implicitDefEqProofs only [go_sem, evR, ints, rows, rat, rats, c_spec_BestResponse, gameT, stratT, nodes]
  cases hb1 : strB g s <;> rw [hb1] at h1
  · refine CallW.pure h1 [] rfl Try.call131 ?_ (by first | trivial | simp [T.noSh, T.noShL, rat]) rfl ?_
    · simp -implicitDefEqProofs only [agR, Nat.reduceLeDiff, Nat.reduceSub, vaR, go_sem, ints, rows, rat, rats, ratsO, rtR, intsO, rowsO]
    simp -implicitDefEqProofs only [go_sem, evR, ints, rows, rat, rats]
    exact .inr trivial
  · refine CallW.pure h1 [] rfl Try.call131 ?_ (by first | trivial | simp [T.noSh, T.noShL, rat]) rfl ?_
    · simp -implicitDefEqProofs only [agR, Nat.reduceLeDiff, Nat.reduceSub, vaR, go_sem, ints, rows, rat, rats, ratsO, rtR, intsO, rowsO]
    simp -implicitDefEqProofs only [go_sem, evR, ints, rows, rat, rats]
    refine CallW.res (spec_run hb1) [] rfl Try.call132 ?_ (.inl rfl) ?_
    · simp -implicitDefEqProofs only [agR, Nat.reduceLeDiff, Nat.reduceSub, vaR, go_sem, ints, rows, rat, rats, ratsO, rtR, intsO, rowsO]
    simp -implicitDefEqProofs only [clR, Nat.reduceLeDiff, go_sem, evR, rat, runT, rowsO, opR, Nat.reduceBEq]
    exact .inl (by rw [brR, hb1]; rfl)
set_option maxRecDepth 20000 in
theorem impl_BestResponse_ok (g : Gm) (s : Int × List (List Int)) (hg : gameL g) (hs : rowsL s.2) : Fun Try.prog 60 [] [.t (gameT g), .t (stratT s)] fun o r => o = [] ∧ r = brO (brR g s) := by
  refine Fun.le (Q := fun o r => o = [] ∧ (r = brO (brR g s) ∨ (strB g s = false ∧ r = .tup [.agg [.i 0, .v (.slice none 0 0)], .i 1]))) ?_ ?_
  case refine_2 =>
    rintro o r ⟨rfl, rfl | ⟨h, rfl⟩⟩
    · exact ⟨_, .refl _, rfl, rfl⟩
    · refine ⟨_, brO_le, rfl, ?_⟩
      rw [brR, h]; rfl
  refine fun_impl_BestResponse (by simp) ?_
  have h1 := isStr_t (impl_IsStrategy_ok g s hg hs)
  simp -implicitDefEqProofs only [go_sem, evR, ints, rows, rat, rats, c_impl_BestResponse, gameT, stratT, nodes]
  cases hb1 : strB g s <;> rw [hb1] at h1
  · refine CallW.pure h1 [] rfl Try.call91 ?_ (by first | trivial | simp [T.noSh, T.noShL, rat]) rfl ?_
    · simp -implicitDefEqProofs only [agR, Nat.reduceLeDiff, Nat.reduceSub, vaR, go_sem, ints, rows, rat, rats, ratsO, rtR, intsO, rowsO]
    simp -implicitDefEqProofs only [go_sem, evR, ints, rows, rat, rats]
    exact .inr trivial
  · refine CallW.pure h1 [] rfl Try.call91 ?_ (by first | trivial | simp [T.noSh, T.noShL, rat]) rfl ?_
    · simp -implicitDefEqProofs only [agR, Nat.reduceLeDiff, Nat.reduceSub, vaR, go_sem, ints, rows, rat, rats, ratsO, rtR, intsO, rowsO]
    simp -implicitDefEqProofs only [go_sem, evR, ints, rows, rat, rats]
    refine CallW.res (impl_run hb1) [] rfl Try.call122 ?_ (.inl rfl) ?_
    · simp -implicitDefEqProofs only [agR, Nat.reduceLeDiff, Nat.reduceSub, vaR, go_sem, ints, rows, rat, rats, ratsO, rtR, intsO, rowsO]
    simp -implicitDefEqProofs only [clR, Nat.reduceLeDiff, go_sem, evR, rat, runT, rowsO, opR, Nat.reduceBEq]
    exact .inl (by rw [brR, hb1]; rfl)
end
end Go.Ab

/- Contracts: copies of games, strategies and claims, and when they are equal. -/
set_option linter.unusedSimpArgs false
set_option linter.unusedVariables false
namespace Go.Ab
open Go.Proofs

section
attribute [-go_sem] load1C load1V fldC lenC idxC loadNV
def rows12 (m : List (List Int)) : Prop := m.length ≤ 1000000000000 ∧ ∀ r ∈ m, r.length ≤ 1000000000000
end
end Go.Ab

/- Sizes of games, strategies and claims behind the laws' budgets. -/
set_option linter.unusedSimpArgs false
set_option linter.unusedVariables false
namespace Go.Ab
open Go.Proofs

def rowsS (m : List (List Int)) : Prop := m.length ≤ 1048576 ∧ tot m ≤ 1048576
theorem rowsS_12 {m : List (List Int)} (h : rowsS m) : rows12 m := ⟨by have := h.1; omega, fun r hr => by have := tot_mem hr; have := h.2; omega⟩
end Go.Ab

/- Functions in compact form, with hints. -/
set_option linter.unusedVariables false
namespace Go.Ab
open Go.Proofs

def c_impl_newEvaluator_h : CC :=
 (.seq (.reg [.o (.box 3 (sl 0)),
 .o (.box 4 (sl 1)),
 .o (.box 5 (sl 2)),
 .o (.move 6 (cv (.pointer none)))])
 ((.seq (.draw [25] [(kR, .o (.loadN 15 3 (sl 3))),
 (kR, .o (.fld 16 1 (sl 4))),
 (kR, .o (.load1 17 (sl 16))),
 (kR, .o (.fld 18 1 (sl 5))),
 (kR, .o (.load1 19 (sl 18))),
 (kR, .o (.build 20 [.v (.slice none 0 0), .v (.slice none 0 0)] [(0, 1), (1, 1)] [(0, (sl 17)), (1, (sl 19))])),
 (kR, .o (.fld 21 0 (sl 3))),
 (kR, .o (.fld 22 0 (sl 21))),
 (kR, .o (.load1 23 (sl 22))),
 (kR, .o (.lenS 24 (sl 23))),
 (kN, .o (.make 25 [.v (.int .i64 0)] 8 (sl 24) (sl 24))),
 (kR, .o (.build 26 [.v (.slice none 0 0), .v (.slice none 0 0), .v (.slice none 0 0), .v (.slice none 0 0), .v (.slice none 0 0), .v (.slice none 0 0), .v (.slice none 0 0), .v (.slice none 0 0)] [(0, 3), (3, 2), (5, 2), (7, 1)] [(0, (sl 15)), (2, (sl 20)), (3, (sl 25))])),
 (kH, .o (.box 27 (sl 26))),
 (kR, .o (.move 7 (sl 27)))])
 ((.seq (.seq (.reg [.o (.move 28 (ci 0))])
 ((.block 0 (.loop (.seq (.reg [.o (.bin 29 .lss (sl 28) (ci 2))])
 ((.seq (.cond (sl 29) .skip
 (.exit 0))
 ((.seq (.block 1 (.seq (.reg [.o (.move 30 (sl 28)),
 .o (.move 8 (sl 30))])
 ((.seq (.draw [37] [(kR, .o (.move 31 (sl 7))),
 (kR, .o (.move 32 (sl 8))),
 (kR, .o (.fld 33 0 (sl 3))),
 (kR, .o (.fld 34 0 (sl 33))),
 (kR, .o (.load1 35 (sl 34))),
 (kR, .o (.lenS 36 (sl 35))),
 (kN, .o (.make 37 [.v (.int .i64 0)] 8 (sl 36) (sl 36))),
 (.r false [37], .o (.nilc 38 (sl 31))),
 (.r false [37], .o (.fld 39 3 (sl 38))),
 (kR, .o (.idxA 40 2 1 (sl 39) (sl 32))),
 (kH, .o (.store 1 (sl 40) (sl 37)))])
 ((.seq (.reg [.o (.fld 41 0 (sl 3)),
 .o (.loadN 42 1 (sl 41)),
 .o (.move 43 (sl 8)),
 .o (.call (some 44) (cf 181) [(sl 42), (sl 43)]),
 .o (.lenS 45 (sl 44)),
 .o (.move 46 (ci 0))])
 ((.block 2 (.loop (.seq (.reg [.o (.bin 47 .lss (sl 46) (sl 45))])
 ((.seq (.cond (sl 47) .skip
 (.exit 2))
 ((.seq (.block 3 (.seq (.reg [.o (.move 48 (sl 46)),
 .o (.idx 49 1 (sl 44) (sl 46)),
 .o (.load1 50 (sl 49)),
 .o (.move 9 (sl 48)),
 .o (.move 10 (sl 50))])
 ((.weak (.draw [] [(kR, .o (.move 51 (sl 7))),
 (kR, .o (.move 52 (sl 8))),
 (kR, .o (.nilc 53 (sl 51))),
 (kR, .o (.fld 54 3 (sl 53))),
 (kR, .o (.idxA 55 2 1 (sl 54) (sl 52))),
 (kR, .o (.load1 56 (sl 55))),
 (kR, .o (.move 57 (sl 10))),
 (kR, .o (.move 58 (sl 9))),
 (kR, .o (.fld 59 1 (sl 3))),
 (kR, .o (.load1 60 (sl 59))),
 (kR, .o (.lenS 61 (sl 60))),
 (kR, .o (.bin 62 .mul (sl 58) (sl 61))),
 (kR, .o (.idx 63 1 (sl 56) (sl 57))),
 (kH, .o (.store 1 (sl 63) (sl 62)))])))))
 ((.reg [.o (.bin 64 .add (sl 46) (ci 1)),
 .o (.move 46 (sl 64))]))))))))))))))))
 ((.reg [.o (.bin 65 .add (sl 28) (ci 1)),
 .o (.move 28 (sl 65))])))))))))))
 ((.seq (.seq (.reg [.o (.fld 66 0 (sl 3)),
 .o (.fld 67 0 (sl 66)),
 .o (.load1 68 (sl 67)),
 .o (.lenS 69 (sl 68)),
 .o (.move 70 (ci 0))])
 ((.block 4 (.loop (.seq (.reg [.o (.bin 71 .lss (sl 70) (sl 69))])
 ((.seq (.cond (sl 71) .skip
 (.exit 4))
 ((.seq (.block 5 (.seq (.reg [.o (.move 72 (sl 70)),
 .o (.idx 73 5 (sl 68) (sl 70)),
 .o (.loadN 74 5 (sl 73)),
 .o (.alloc 12 [.v (.int .i64 0), .v (.int .i64 0), .v (.int .i64 0), .v (.int .i64 0), .v (.slice none 0 0)]),
 .o (.move 11 (sl 72)),
 .o (.store 5 (sl 12) (sl 74))])
 ((.seq (.reg [.o (.fld 75 4 (sl 12)),
 .o (.load1 76 (sl 75)),
 .o (.lenS 77 (sl 76)),
 .o (.move 78 (ci 0))])
 ((.block 6 (.loop (.seq (.reg [.o (.bin 79 .lss (sl 78) (sl 77))])
 ((.seq (.cond (sl 79) .skip
 (.exit 6))
 ((.seq (.block 7 (.seq (.reg [.o (.idx 80 1 (sl 76) (sl 78)),
 .o (.load1 81 (sl 80)),
 .o (.move 14 (sl 81))])
 ((.reg [.o (.move 82 (sl 7)),
 .o (.nilc 83 (sl 82)),
 .o (.fld 84 7 (sl 83)),
 .o (.load1 85 (sl 84)),
 .o (.move 86 (sl 14)),
 .o (.move 87 (sl 11)),
 .o (.idx 88 1 (sl 85) (sl 86)),
 .o (.store 1 (sl 88) (sl 87))]))))
 ((.reg [.o (.bin 89 .add (sl 78) (ci 1)),
 .o (.move 78 (sl 89))]))))))))))))))
 ((.reg [.o (.bin 90 .add (sl 70) (ci 1)),
 .o (.move 70 (sl 90))])))))))))))
 ((.seq (.reg [.o (.move 91 (sl 7)),
 .o (.move 6 (sl 91))])
 (.ret))))))))))
theorem fun_impl_newEvaluator_h {rin : List T} {args : List A} {Q : List T → T → Prop} (ha : args.length ≤ 92) (h : cW Try.prog 92 c_impl_newEvaluator_h (retP Try.prog [.tmp 6] rin.length Q) (St.of (enum 0 args) (enum 1000000000 rin))) :
    Fun Try.prog 179 rin args Q :=
  Fun.of (H := ⟨[], [9]⟩) Try.func179 rfl rfl rfl (by kernel_rfl) ha (by decide) h

end Go.Ab

/- Contracts: copies of strategies; responses in turn; claims made and joined. -/
set_option linter.unusedSimpArgs false
set_option linter.unusedVariables false
namespace Go.Ab
open Go.Proofs

theorem bestS_strB {g : Gm} {s : Int × List (List Int)} (h : strB g s = true) : strB g (bestS g s) = true := by
  obtain ⟨h1, h2, h3, h4⟩ := strB_run h
  have h5 := runB_strat h1 s.2 h2
  have h6 : 0 ≤ 1 - s.1 ∧ 1 - s.1 ≤ 1 := by omega
  show (isGameB g && decide (0 ≤ 1 - s.1 ∧ 1 - s.1 ≤ 1) && isStratB g (1 - s.1) _) = true
  rw [h1, decide_eq_true h6]; exact h5
theorem bestS_rowsS {g : Gm} {s : Int × List (List Int)} (h : strB g s = true) : rowsS (bestS g s).2 := by
  obtain ⟨h1, h2, h3, h4⟩ := strB_run h
  obtain ⟨p1, p2, _⟩ := isGameB_parts h1
  obtain ⟨t1, t2, t3, t4⟩ := isTreeB_spec p1
  have hr := runB_rows t2 s.2 (1 - s.1) g.w.length
  have hl := sets_len g (1 - s.1) t1.2 p2.2
  have ht : ∀ (m : List (List Int)), (∀ r ∈ m, r.length ≤ 4) → tot m ≤ m.length * 4 := by
    intro m
    induction m with
    | nil => intro _; simp [tot]
    | cons r m ih =>
      intro h
      have h1 := ih fun r hr => h r (by simp [hr])
      have h2 := h r (by simp)
      simp only [tot, List.length_cons]; omega
  have h5 := ht _ hr.2
  have h6 := hr.1
  exact ⟨by show (runB g s.2 (1 - s.1) g.w.length).length ≤ _; omega, by show tot (runB g s.2 (1 - s.1) g.w.length) ≤ _; omega⟩
section
attribute [-go_sem] load1C load1V fldC lenC idxC loadNV nilCheckW
theorem brR_rowsS (g : Gm) (s : Int × List (List Int)) : rowsS (brR g s).1.2 := by
  unfold brR
  cases hb : strB g s with
  | false => exact ⟨by simp, by simp [tot]⟩
  | true => exact bestS_rowsS hb
end
end Go.Ab

/- Games as data: parents; values over the first children; bounds of values. -/
set_option linter.unusedSimpArgs false
set_option linter.unusedVariables false
namespace Go.Ab

def parN (l : List Nd) : Nat → List Int
  | 0 => List.replicate l.length 0
  | i + 1 => (l.getD i nd0).ch.foldl (fun P (c : Int) => P.set c.toNat (i : Int)) (parN l i)
theorem foldl_set_length (i : Int) : ∀ (cs : List Int) (P : List Int), (cs.foldl (fun P (c : Int) => P.set c.toNat i) P).length = P.length
  | [], P => rfl
  | c :: cs, P => by rw [List.foldl_cons, foldl_set_length i cs]; simp
theorem parN_length (l : List Nd) : ∀ i, (parN l i).length = l.length
  | 0 => by simp [parN]
  | i + 1 => by rw [parN, foldl_set_length, parN_length l i]
def valK (g : Gm) (s t : List (List Int)) (f a b p : Nat) (q ch : List Int) (k : Nat) : Int := sumI ((List.zipWith (fun x c => x * val g s t f c.toNat a b p) q ch).take k)
theorem valK_succ {g : Gm} {s t : List (List Int)} {f a b p : Nat} {q ch : List Int} {k : Nat} {x c : Int} (hx : q[k]? = some x) (hc : ch[k]? = some c) : valK g s t f a b p q ch (k + 1) = valK g s t f a b p q ch k + x * val g s t f c.toNat a b p := by
  unfold valK
  have h : (List.zipWith (fun x c => x * val g s t f c.toNat a b p) q ch)[k]? = some (x * val g s t f c.toNat a b p) := by
    rw [List.getElem?_zipWith, hx, hc]
  rw [List.take_add_one, h, Option.toList_some, sumI_snoc]
theorem val_abs {g : Gm} {s t : List (List Int)} (hnd : ndsOK g.nd) (hs : partsOK g s 0) (ht : partsOK g t 1) {a b : Nat} (ha : a < g.w.length) (hb : b < g.w.length) : ∀ (f i p : Nat), i < g.nd.length → dep g.nd f i ≤ p → -(100 * pw p) ≤ val g s t f i a b p ∧ val g s t f i a b p ≤ 100 * pw p
  | 0, i, p, _, _ => by
    have := pw_pos p
    simp only [val]; omega
  | f + 1, i, p, hi, hd => by
    have hpp := pw_pos p
    rw [val]
    (try simp only [])
    by_cases h2 : (g.nd.getD i nd0).p = 2
    · rw [if_pos h2]
      obtain ⟨q1, q2⟩ := payOK_of hnd i a b
      have e1 := Int.mul_le_mul_of_nonneg_right q1 (Int.le_of_lt hpp)
      have e2 := Int.mul_le_mul_of_nonneg_right q2 (Int.le_of_lt hpp)
      rw [Int.neg_mul] at e1
      exact ⟨e1, e2⟩
    · rw [if_neg h2]
      obtain ⟨d1, d2⟩ := dep_child (f := f) h2
      have hx : g.nd[i]? = some (g.nd.getD i nd0) := by rw [List.getD_eq_getElem?_getD, List.getElem?_eq_getElem hi]; rfl
      have hch := ndOK_child (hnd i _ hx)
      obtain ⟨p', rfl⟩ : ∃ p', p = p' + 1 := ⟨p - 1, by omega⟩
      obtain ⟨q, hq, hql, hq0, hqs⟩ : ∃ q, (if (g.nd.getD i nd0).p = 0 then partsOf g s 0 i a else partsOf g t 1 i b) = q ∧ q.length = (g.nd.getD i nd0).ch.length ∧ (∀ x ∈ q, 0 ≤ x ∧ x ≤ 60) ∧ sumI q = 60 := by
        by_cases h0 : (g.nd.getD i nd0).p = 0
        · rw [if_pos h0]
          obtain ⟨m1, m2, m3⟩ := hs i a hi ha h0
          exact ⟨_, rfl, m1, m2, m3⟩
        · rw [if_neg h0]
          obtain ⟨⟨r1, r2⟩, _⟩ := ndOK_fields (hnd i _ hx)
          obtain ⟨m1, m2, m3⟩ := ht i b hi hb (by omega)
          exact ⟨_, rfl, m1, m2, m3⟩
      rw [hq, zipW_sum _ _ _ hql, Nat.add_sub_cancel]
      have hb := sumI_abs (l := List.range (g.nd.getD i nd0).ch.length) (F := fun k => q.getD k 0 * val g s t f ((g.nd.getD i nd0).ch.getD k 0).toNat a b p') (G := fun k => (100 * pw p') * q.getD k 0) fun k hk => by
        have hk := List.mem_range.1 hk
        have hmem : (g.nd.getD i nd0).ch.getD k 0 ∈ (g.nd.getD i nd0).ch := getD_mem 0 hk
        have h1 := hch _ hmem
        have h3 := d2 _ hmem
        have ih := val_abs hnd hs ht ha hb f ((g.nd.getD i nd0).ch.getD k 0).toNat p' (by omega) (by omega)
        have hqk := hq0 _ (getD_mem 0 (show k < q.length by omega))
        obtain ⟨m1, m2⟩ := mul_abs hqk.1 ih.1 ih.2
        exact ⟨m1, m2⟩
      rw [sumI_map_mul, ← hql, map_getD_range, hqs] at hb
      rw [hql] at hb
      have e : 100 * pw (p' + 1) = 100 * pw p' * 60 := by rw [pw_succ]; omega
      rw [e]; exact hb
end Go.Ab

/- Contracts: numbers of games. -/
set_option linter.unusedSimpArgs false
set_option linter.unusedVariables false
namespace Go.Ab
open Go.Proofs

def evO (g : Gm) (s t : List (List Int)) : T := .box [nodes g.nd, rows g.w, rows g.v, intsO (ownL g 0), intsO (ownL g 1), rows s, rows t, intsO (parN g.nd g.nd.length)]
def evL (g : Gm) (s t : List (List Int)) : List T := [nodes g.nd, rows g.w, rows g.v, ints (ownL g 0), ints (ownL g 1), rows s, rows t, ints (parN g.nd g.nd.length)]
def evB (g : Gm) (s t : List (List Int)) (c3 c4 : T) (par : List Int) : T := .box [nodes g.nd, rows g.w, rows g.v, c3, c4, rows s, rows t, intsO par]
def evC (g : Gm) (q : Int) (b : Bool) : T := if b = true then intsO (ownL g q) else .v (.slice none 0 0)
theorem parN_step {l : List Nd} {i : Nat} {x : Nd} (hx : l[i]? = some x) : parN l (i + 1) = x.ch.foldl (fun P (c : Int) => P.set c.toNat (i : Int)) (parN l i) := by
  rw [parN, List.getD_eq_getElem?_getD, hx]; rfl
def parK (P ch : List Int) (i k : Nat) : List Int := (ch.take k).foldl (fun P (c : Int) => P.set c.toNat (i : Int)) P
theorem parK_succ {P ch : List Int} {i k m : Nat} (h : ch[k]? = some (m : Int)) : parK P ch i (k + 1) = (parK P ch i k).set m (i : Int) := by
  simp only [parK, take_snoc h, List.foldl_append, List.foldl_cons, List.foldl_nil, Int.toNat_natCast]
theorem parK_length (P ch : List Int) (i k : Nat) : (parK P ch i k).length = P.length := by rw [parK, foldl_set_length]
section
attribute [-go_sem] load1C load1V fldC lenC idxC loadNV nilCheckW
set_option maxRecDepth 20000 in
theorem impl_newEvaluator_ok (g : Gm) (s t : Int × List (List Int)) (hg : isGameB g = true) : Fun Try.prog 179 [] [.t (gameT g), .t (stratT s), .t (stratT t)] fun o r => o = [] ∧ r = evO g s.2 t.2 := by
  obtain ⟨p1, p2, p3, p4, p5⟩ := isGameB_parts hg
  obtain ⟨t1, t2, t3, t4⟩ := isTreeB_spec p1
  have hfl : ∀ q j, (fillN (idxs g.nd q g.nd.length) g.w.length g.nd.length j).length = g.nd.length := fun q j => fillN_length _ _ _ _
  have hfs : ∀ q j (n : Nat), (idxs g.nd q g.nd.length)[j]? = some (n : Int) → fillN (idxs g.nd q g.nd.length) g.w.length g.nd.length (j + 1) = (fillN (idxs g.nd q g.nd.length) g.w.length g.nd.length j).set n ((j * g.w.length : Nat) : Int) := fun q j n h => by
    rw [fillN, List.getD_eq_getElem?_getD, h]; rfl
  have hmul : ∀ n : Nat, n ≤ g.nd.length → n * g.w.length ≤ 60 * 6 := fun n hn => Nat.mul_le_mul (by omega) p2.2
  have hoL : ∀ q, ownL g q = fillN (idxs g.nd q g.nd.length) g.w.length g.nd.length (idxs g.nd q g.nd.length).length := fun q => rfl
  have w1 : IntKind.i64.wrap 1 = 1 := rfl
  have w2' : IntKind.i64.wrap (1 + 1) = 2 := rfl
  refine fun_impl_newEvaluator_h (by simp) ?_
  simp -implicitDefEqProofs only [go_sem, evR, ints, rows, rat, rats, c_impl_newEvaluator_h, gameT, stratT, nodes, made_one]
  refine ⟨by omega, by omega, ?_⟩
  refine SemC.loopR (σ := Nat) (fun q => St.of [(3, .own 3), (7, .own 27), (28, .t (.i q))] [(3, .box [nodes g.nd, rows g.w, rows g.v]), (27, evB g s.2 t.2 (evC g 0 (decide (0 < q))) (evC g 1 (decide (1 < q))) (List.replicate g.nd.length 0))]) (fun q => q ≤ 2) (fun q => 2 - q) 0 (Weak.of _ _ [some 3, some 27] (by simp) (by simp) ?_ ?_) (by omega) fun q hq R hn hr he => ?_
  · simp -implicitDefEqProofs only [ints, rows, Nat.reduceBEq, wkR, Nat.reduceEqDiff, ↓reduceIte, wrR, nodes]
  · refine ⟨⟨_, rfl, .refl _⟩, rfl, ⟨_, rfl, ?_⟩, rfl, trivial⟩
    rw [evB, intsO, List.map_replicate]; exact .refl _
  · match q, hq with
    | 0, _ =>
      simp -implicitDefEqProofs only [go_sem, evR, ints, rows, rat, rats, evB, evC, nodes, intsO, decide_eq_true (show (0 : Int) < 2 by omega), Nat.lt_irrefl, decide_false, Bool.false_eq_true, Int.natCast_zero, Int.cast_ofNat_Int, opR, Nat.reduceBEq]
      refine ⟨by omega, by omega, ?_⟩
      refine CallW.res (impl_nodesOf_t g.nd 0 (by omega)) [] rfl Try.call181 ?_ (.inl rfl) ?_
      · simp -implicitDefEqProofs only [agR, Nat.reduceLeDiff, Nat.reduceSub, vaR, go_sem, ints, rows, rat, rats, ratsO, rtR, intsO, rowsO]
      simp -implicitDefEqProofs only [clR, Nat.reduceLeDiff, go_sem, evR, rat, intsO]
      have hil := idxs_length g.nd 0 g.nd.length
      refine SemC.loopR (σ := Nat) (fun j => St.of [(3, .own 3), (7, .own 27), (8, .t (.i 0)), (28, .t (.i 0)), (44, .own 44), (45, .t (.i (idxs g.nd 0 g.nd.length).length)), (46, .t (.i j))] [(3, .box [nodes g.nd, rows g.w, rows g.v]), (27, evB g s.2 t.2 (intsO (fillN (idxs g.nd 0 g.nd.length) g.w.length g.nd.length j)) (.v (.slice none 0 0)) (List.replicate g.nd.length 0)), (44, intsO (idxs g.nd 0 g.nd.length))]) (fun j => j ≤ (idxs g.nd 0 g.nd.length).length) (fun j => (idxs g.nd 0 g.nd.length).length - j) 0 (Weak.of _ _ [some 3, some 27, some 44] (by simp) (by simp) ?_ ?_) (by omega) fun j hj R2 hn2 hr2 he2 => ?_
      · simp -implicitDefEqProofs only [ints, rows, Nat.reduceBEq, wkR, Nat.reduceEqDiff, ↓reduceIte, wrR, nodes]
      · refine ⟨⟨_, rfl, .refl _⟩, rfl, ⟨_, rfl, ?_⟩, rfl, ⟨_, rfl, .refl _⟩, rfl, trivial⟩
        simp only [evB, fillN, made_one, intsO, List.map_replicate]; exact .refl _
      · rcases Nat.lt_or_ge j (idxs g.nd 0 g.nd.length).length with h9 | h9
        · obtain ⟨y, hy⟩ : ∃ y, (idxs g.nd 0 g.nd.length)[j]? = some y := ⟨_, List.getElem?_eq_getElem h9⟩
          obtain ⟨n, rfl, hn1⟩ := idxs_lt' hy
          have hjm := hmul j (by omega)
          simp -implicitDefEqProofs only [go_sem, evR, ints, rows, rat, rats, evB, nodes, hy, intsO, decide_eq_true (show (j : Int) < ((idxs g.nd 0 g.nd.length).length : Int) by omega), hfl]
          refine ⟨by omega, by omega, by omega, ?_⟩
          refine ⟨_, Weak.open 27 3 500 rfl rfl rfl (by decide) rfl, ?_⟩
          simp -implicitDefEqProofs only [go_sem, evR, ints, rows, rat, rats, opR, Nat.reduceBEq, hfl]
          refine ⟨by omega, by omega, by omega, by omega, hn2 _ (j + 1) (Weak.trans (Weak.close1 27 3 500 rfl rfl (by decide) rfl) (Weak.of _ _ [some 3, some 27, some 44] (by simp) (by simp) ?_ ?_)) (by omega) (by omega)⟩
          · simp -implicitDefEqProofs only [ints, rows, Nat.reduceBEq, wkR, Nat.reduceEqDiff, ↓reduceIte, wrR, nodes, next64 h9 (by omega)]
          · refine ⟨⟨_, rfl, .refl _⟩, rfl, ⟨_, rfl, ?_⟩, rfl, ⟨_, rfl, .refl _⟩, rfl, trivial⟩
            rw [hfs _ _ _ hy]; simp only [evB, intsO, List.map_set]; rw [wrap64 (n := (j : Int) * (g.w.length : Int)) (by omega) (by omega), ← Int.natCast_mul]; exact .refl _
        · have hjl : j = (idxs g.nd 0 g.nd.length).length := by omega
          subst hjl
          simp -implicitDefEqProofs only [go_sem, evR, ints, rows, rat, rats, evB, nodes, intsO, decide_eq_false (show ¬ ((idxs g.nd 0 g.nd.length).length : Int) < ((idxs g.nd 0 g.nd.length).length : Int) by omega)]
          refine he2 _ _ ?_
          simp -implicitDefEqProofs only [go_sem, evR, ints, rows, rat, rats]
          rw [← hoL]
          refine hn _ 1 (Weak.of _ _ [some 3, some 27] (by simp) (by simp) ?_ ?_) (by omega) (by omega)
          · simp -implicitDefEqProofs only [ints, rows, Nat.reduceBEq, wkR, Nat.reduceEqDiff, ↓reduceIte, wrR, nodes, Int.zero_add, w1]
          · exact ⟨⟨_, rfl, .refl _⟩, rfl, ⟨_, rfl, .refl _⟩, rfl, trivial⟩
    | 1, _ =>
      simp -implicitDefEqProofs only [go_sem, evR, ints, rows, rat, rats, evB, evC, nodes, intsO, decide_eq_true (show (1 : Int) < 2 by omega), Nat.lt_irrefl, Nat.zero_lt_one, decide_true, decide_false, Bool.false_eq_true, Int.natCast_zero, Int.cast_ofNat_Int, opR, Nat.reduceBEq]
      refine ⟨by omega, by omega, ?_⟩
      refine CallW.res (impl_nodesOf_t g.nd 1 (by omega)) [] rfl Try.call181 ?_ (.inl rfl) ?_
      · simp -implicitDefEqProofs only [agR, Nat.reduceLeDiff, Nat.reduceSub, vaR, go_sem, ints, rows, rat, rats, ratsO, rtR, intsO, rowsO]
      simp -implicitDefEqProofs only [clR, Nat.reduceLeDiff, go_sem, evR, rat, intsO]
      have hil := idxs_length g.nd 1 g.nd.length
      refine SemC.loopR (σ := Nat) (fun j => St.of [(3, .own 3), (7, .own 27), (8, .t (.i 1)), (28, .t (.i 1)), (44, .own 44), (45, .t (.i (idxs g.nd 1 g.nd.length).length)), (46, .t (.i j))] [(3, .box [nodes g.nd, rows g.w, rows g.v]), (27, evB g s.2 t.2 (intsO (ownL g 0)) (intsO (fillN (idxs g.nd 1 g.nd.length) g.w.length g.nd.length j)) (List.replicate g.nd.length 0)), (44, intsO (idxs g.nd 1 g.nd.length))]) (fun j => j ≤ (idxs g.nd 1 g.nd.length).length) (fun j => (idxs g.nd 1 g.nd.length).length - j) 0 (Weak.of _ _ [some 3, some 27, some 44] (by simp) (by simp) ?_ ?_) (by omega) fun j hj R2 hn2 hr2 he2 => ?_
      · simp -implicitDefEqProofs only [ints, rows, Nat.reduceBEq, wkR, Nat.reduceEqDiff, ↓reduceIte, wrR, nodes]
      · refine ⟨⟨_, rfl, .refl _⟩, rfl, ⟨_, rfl, ?_⟩, rfl, ⟨_, rfl, .refl _⟩, rfl, trivial⟩
        simp only [evB, fillN, made_one, intsO, List.map_replicate]; exact .refl _
      · rcases Nat.lt_or_ge j (idxs g.nd 1 g.nd.length).length with h9 | h9
        · obtain ⟨y, hy⟩ : ∃ y, (idxs g.nd 1 g.nd.length)[j]? = some y := ⟨_, List.getElem?_eq_getElem h9⟩
          obtain ⟨n, rfl, hn1⟩ := idxs_lt' hy
          have hjm := hmul j (by omega)
          simp -implicitDefEqProofs only [go_sem, evR, ints, rows, rat, rats, evB, nodes, hy, intsO, decide_eq_true (show (j : Int) < ((idxs g.nd 1 g.nd.length).length : Int) by omega), hfl]
          refine ⟨by omega, by omega, by omega, ?_⟩
          refine ⟨_, Weak.open 27 4 500 rfl rfl rfl (by decide) rfl, ?_⟩
          simp -implicitDefEqProofs only [go_sem, evR, ints, rows, rat, rats, opR, Nat.reduceBEq, hfl]
          refine ⟨by omega, by omega, by omega, by omega, hn2 _ (j + 1) (Weak.trans (Weak.close1 27 4 500 rfl rfl (by decide) rfl) (Weak.of _ _ [some 3, some 27, some 44] (by simp) (by simp) ?_ ?_)) (by omega) (by omega)⟩
          · simp -implicitDefEqProofs only [ints, rows, Nat.reduceBEq, wkR, Nat.reduceEqDiff, ↓reduceIte, wrR, nodes, next64 h9 (by omega)]
          · refine ⟨⟨_, rfl, .refl _⟩, rfl, ⟨_, rfl, ?_⟩, rfl, ⟨_, rfl, .refl _⟩, rfl, trivial⟩
            rw [hfs _ _ _ hy]; simp only [evB, intsO, List.map_set]; rw [wrap64 (n := (j : Int) * (g.w.length : Int)) (by omega) (by omega), ← Int.natCast_mul]; exact .refl _
        · have hjl : j = (idxs g.nd 1 g.nd.length).length := by omega
          subst hjl
          simp -implicitDefEqProofs only [go_sem, evR, ints, rows, rat, rats, evB, nodes, intsO, decide_eq_false (show ¬ ((idxs g.nd 1 g.nd.length).length : Int) < ((idxs g.nd 1 g.nd.length).length : Int) by omega)]
          refine he2 _ _ ?_
          simp -implicitDefEqProofs only [go_sem, evR, ints, rows, rat, rats]
          rw [← hoL]
          refine hn _ 2 (Weak.of _ _ [some 3, some 27] (by simp) (by simp) ?_ ?_) (by omega) (by omega)
          · simp -implicitDefEqProofs only [ints, rows, Nat.reduceBEq, wkR, Nat.reduceEqDiff, ↓reduceIte, wrR, nodes, w2']
          · exact ⟨⟨_, rfl, .refl _⟩, rfl, ⟨_, rfl, .refl _⟩, rfl, trivial⟩
    | 2, _ =>
      simp -implicitDefEqProofs only [go_sem, evR, ints, rows, rat, rats, evB, evC, nodes, intsO, decide_eq_false (show ¬ (2 : Int) < 2 by omega), Nat.lt_irrefl, decide_false, Bool.false_eq_true, Int.natCast_zero, Int.cast_ofNat_Int]
      refine he _ _ ?_
      simp -implicitDefEqProofs only [go_sem, evR, ints, rows, rat, rats]
      refine SemC.loopR (σ := Nat) (fun i => St.of [(7, .own 27), (68, .t (nodes g.nd)), (69, .t (.i g.nd.length)), (70, .t (.i i))] [(27, evB g s.2 t.2 (intsO (ownL g 0)) (intsO (ownL g 1)) (parN g.nd i))]) (fun i => i ≤ g.nd.length) (fun i => g.nd.length - i) 0 (Weak.of _ _ [some 27] (by simp) (by simp) ?_ ?_) (by omega) fun i hi R3 hn3 hr3 he3 => ?_
      · simp -implicitDefEqProofs only [ints, rows, Nat.reduceBEq, wkR, Nat.reduceEqDiff, ↓reduceIte, wrR, nodes, nd_len]
      · exact ⟨⟨_, rfl, .refl _⟩, rfl, trivial⟩
      · rcases Nat.lt_or_ge i g.nd.length with h9 | h9
        · obtain ⟨x, hx⟩ : ∃ x, g.nd[i]? = some x := ⟨_, List.getElem?_eq_getElem h9⟩
          have hch := ndOK_child (t2 i _ hx)
          obtain ⟨_, _, _, _, _, hch4⟩ := ndOK_fields (t2 i _ hx)
          simp -implicitDefEqProofs only [go_sem, evR, ints, rows, rat, rats, nodes, nd_at hx, decide_eq_true (show (i : Int) < (g.nd.length : Int) by omega), opR, Nat.reduceBEq]
          refine ⟨by omega, by rw [nd_len]; omega, by rw [nd_len]; omega, ?_⟩
          refine SemC.loopR (σ := Nat) (fun k => St.of [(7, .own 27), (11, .t (.i i)), (68, .t (nodes g.nd)), (69, .t (.i g.nd.length)), (70, .t (.i i)), (76, .t (ints x.ch)), (77, .t (.i x.ch.length)), (78, .t (.i k))] [(27, evB g s.2 t.2 (intsO (ownL g 0)) (intsO (ownL g 1)) (parK (parN g.nd i) x.ch i k))]) (fun k => k ≤ x.ch.length) (fun k => x.ch.length - k) 0 (Weak.of _ _ [some 27] (by simp) (by simp) ?_ ?_) (by omega) fun k hk R4 hn4 hr4 he4 => ?_
          · simp -implicitDefEqProofs only [ints, rows, Nat.reduceBEq, wkR, Nat.reduceEqDiff, ↓reduceIte, wrR, nodes]
          · exact ⟨⟨_, rfl, .refl _⟩, rfl, trivial⟩
          · rcases Nat.lt_or_ge k x.ch.length with h10 | h10
            · obtain ⟨c, hc⟩ : ∃ c, x.ch[k]? = some c := ⟨_, List.getElem?_eq_getElem h10⟩
              have hcb := hch c (List.mem_of_getElem? hc)
              obtain ⟨m, rfl⟩ : ∃ m : Nat, c = m := ⟨c.toNat, by omega⟩
              have hpl : (parK (parN g.nd i) x.ch i k).length = g.nd.length := by rw [parK_length, parN_length]
              simp -implicitDefEqProofs only [go_sem, evR, ints, rows, rat, rats, evB, nodes, intsO, hc, decide_eq_true (show (k : Int) < (x.ch.length : Int) by omega), hpl, opR, Nat.reduceBEq]
              refine ⟨by omega, by omega, by omega, by omega, by omega, by omega, hn4 _ (k + 1) (Weak.trans (Weak.close1 27 7 85 rfl rfl (by decide) rfl) (Weak.of _ _ [some 27] (by simp) (by simp) ?_ ?_)) (by omega) (by omega)⟩
              · simp -implicitDefEqProofs only [ints, rows, Nat.reduceBEq, wkR, Nat.reduceEqDiff, ↓reduceIte, wrR, nodes, next64 h10 (show x.ch.length ≤ 1000000000000 by omega)]
              · refine ⟨⟨_, rfl, ?_⟩, rfl, trivial⟩
                rw [parK_succ hc]; simp only [evB, intsO, List.map_set]; exact .refl _
            · simp -implicitDefEqProofs only [go_sem, evR, ints, rows, rat, rats, evB, nodes, intsO, decide_eq_false (show ¬ (k : Int) < (x.ch.length : Int) by omega)]
              refine he4 _ _ ?_
              simp -implicitDefEqProofs only [go_sem, evR, ints, rows, rat, rats]
              refine hn3 _ (i + 1) (Weak.of _ _ [some 27] (by simp) (by simp) ?_ ?_) (by omega) (by omega)
              · simp -implicitDefEqProofs only [ints, rows, Nat.reduceBEq, wkR, Nat.reduceEqDiff, ↓reduceIte, wrR, nodes, next64 h9 (by omega)]
              · refine ⟨⟨_, rfl, ?_⟩, rfl, trivial⟩
                rw [parN_step hx, show k = x.ch.length by omega, parK, List.take_of_length_le (Nat.le_refl _)]; exact .refl _
        · simp -implicitDefEqProofs only [go_sem, evR, ints, rows, rat, rats, nodes, decide_eq_false (show ¬ (i : Int) < (g.nd.length : Int) by omega)]
          refine he3 _ _ ?_
          simp -implicitDefEqProofs only [go_sem, evR, ints, rows, rat, rats, evB]
          rw [show i = g.nd.length by omega]; rfl
end
end Go.Ab

/- Contracts: values of nodes and numbers of games. -/
set_option linter.unusedSimpArgs false
set_option linter.unusedVariables false
namespace Go.Ab
open Go.Proofs

def chP (g : Gm) (s t : List (List Int)) (i a b : Nat) : List Int := if (g.nd.getD i nd0).p = 0 then partsOf g s 0 i a else partsOf g t 1 i b
theorem partsOK_row {g : Gm} {pt : List (List Int)} {pl : Int} (hnd : ndsOK g.nd) (hpl : pl ≠ 2) (h : partsOK g pt pl) {i c : Nat} (hi : i < g.nd.length) (hc : c < g.w.length) (hp : (g.nd.getD i nd0).p = pl) : pt[setI g pl i c]? = some (partsOf g pt pl i c) := by
  obtain ⟨m1, m2, m3⟩ := h i c hi hc hp
  unfold partsOf at m3 ⊢
  rw [List.getD_eq_getElem?_getD] at m3 ⊢
  cases hx : pt[setI g pl i c]? with
  | some x => rfl
  | none => rw [hx] at m3; simp [sumI] at m3
theorem chP_spec {g : Gm} {s t : List (List Int)} (hnd : ndsOK g.nd) (hs : partsOK g s 0) (ht : partsOK g t 1) {i a b : Nat} (hi : i < g.nd.length) (ha : a < g.w.length) (hb : b < g.w.length) (h2 : (g.nd.getD i nd0).p ≠ 2) :
    (chP g s t i a b).length = (g.nd.getD i nd0).ch.length ∧ (∀ x ∈ chP g s t i a b, 0 ≤ x ∧ x ≤ 60) ∧ sumI (chP g s t i a b) = 60 := by
  have hx : g.nd[i]? = some (g.nd.getD i nd0) := by rw [List.getD_eq_getElem?_getD, List.getElem?_eq_getElem hi]; rfl
  obtain ⟨⟨r1, r2⟩, _⟩ := ndOK_fields (hnd i _ hx)
  unfold chP
  by_cases h0 : (g.nd.getD i nd0).p = 0
  · rw [if_pos h0]; exact hs i a hi ha h0
  · rw [if_neg h0]; exact ht i b hi hb (by omega)
theorem valK_all {g : Gm} {s t : List (List Int)} {f i a b p : Nat} (h2 : (g.nd.getD i nd0).p ≠ 2) {n : Nat} (hn : (g.nd.getD i nd0).ch.length ≤ n) : valK g s t f a b (p - 1) (chP g s t i a b) (g.nd.getD i nd0).ch n = val g s t (f + 1) i a b p := by
  rw [val]
  (try simp only [])
  rw [if_neg h2, valK, chP, List.take_of_length_le]
  rw [List.length_zipWith]; omega
theorem valK_abs {g : Gm} {s t : List (List Int)} (hnd : ndsOK g.nd) (hs : partsOK g s 0) (ht : partsOK g t 1) {a b : Nat} (ha : a < g.w.length) (hb : b < g.w.length) {f p : Nat} {q ch : List Int} (hq : ∀ x ∈ q, 0 ≤ x ∧ x ≤ 60) (hc : ∀ c ∈ ch, 0 ≤ c ∧ c.toNat < g.nd.length ∧ dep g.nd f c.toNat ≤ p) : ∀ k, k ≤ q.length → k ≤ ch.length → -(k * (6000 * pw p)) ≤ valK g s t f a b p q ch k ∧ valK g s t f a b p q ch k ≤ k * (6000 * pw p)
  | 0, _, _ => by simp [valK, sumI]
  | k + 1, h, h' => by
    have ih := valK_abs hnd hs ht ha hb hq hc k (by omega) (by omega)
    have hx := List.getElem?_eq_getElem (show k < q.length by omega)
    have hy := List.getElem?_eq_getElem (show k < ch.length by omega)
    rw [valK_succ hx hy]
    have h1 := hq _ (List.getElem_mem (show k < q.length by omega))
    have h2 := hc _ (List.getElem_mem (show k < ch.length by omega))
    have h3 := val_abs hnd hs ht ha hb f _ p h2.2.1 h2.2.2
    obtain ⟨m1, m2⟩ := mul_abs h1.1 h3.1 h3.2
    have hp := pw_pos p
    have m3 : 100 * pw p * q[k] ≤ 100 * pw p * 60 := Int.mul_le_mul_of_nonneg_left h1.2 (by omega)
    have e : ((k + 1 : Nat) : Int) * (6000 * pw p) = (k : Int) * (6000 * pw p) + 6000 * pw p := by rw [Int.natCast_succ, Int.add_mul, Int.one_mul]
    rw [e]
    generalize (k : Int) * (6000 * pw p) = Z at ih ⊢
    generalize q[k] * val g s t f (ch[k]).toNat a b p = Y at m1 m2 ⊢
    generalize 100 * pw p * q[k] = U at m1 m2 m3
    omega
theorem pw_le5 {p : Nat} (h : p ≤ 5) : 1 ≤ pw p ∧ pw p ≤ 777600000 := by
  have : p = 0 ∨ p = 1 ∨ p = 2 ∨ p = 3 ∨ p = 4 ∨ p = 5 := by omega
  rcases this with rfl | rfl | rfl | rfl | rfl | rfl <;> decide

def gF (g : Gm) (s t : List (List Int)) (a b : Nat) : Int := (g.w.getD a []).getD b 0 * val g s t g.nd.length 0 a b (dpt g)
theorem gnum_eq (g : Gm) (s t : List (List Int)) : gnum g s t = sumI ((List.range g.w.length).map fun a => sumI ((List.range g.w.length).map (gF g s t a))) := rfl
theorem gF_abs {g : Gm} {s t : List (List Int)} (hg : isGameB g = true) (hs : partsOK g s 0) (ht : partsOK g t 1) {a b : Nat} (ha : a < g.w.length) (hb : b < g.w.length) : -700000000000 ≤ gF g s t a b ∧ gF g s t a b ≤ 700000000000 := by
  obtain ⟨p1, p2, p3, p4, p5⟩ := isGameB_parts hg
  obtain ⟨t1, t2, t3, t4⟩ := isTreeB_spec p1
  obtain ⟨u1, u2, u3, u4, u5, u6, u7⟩ := game_unit hg
  obtain ⟨r, y, h1, h2, h3, h4⟩ := game_w hg ha hb
  have hv := val_abs t2 hs ht ha hb g.nd.length 0 (dpt g) (by omega) (by omega)
  unfold gF
  rw [show (g.w.getD a []).getD b 0 = y by simp only [List.getD_eq_getElem?_getD, h1, Option.getD_some, h2]]
  obtain ⟨m1, m2⟩ := mul_abs h3 hv.1 hv.2
  have m3 : 100 * pw (dpt g) * y ≤ 77760000000 * 9 := Int.mul_le_mul (by omega) h4 h3 (by decide)
  omega
theorem sumI_rsucc (F : Nat → Int) (n : Nat) : sumI ((List.range (n + 1)).map F) = sumI ((List.range n).map F) + F n := by
  rw [List.range_succ, List.map_append, List.map_cons, List.map_nil, sumI_snoc]
theorem gR_abs {g : Gm} {s t : List (List Int)} (hg : isGameB g = true) (hs : partsOK g s 0) (ht : partsOK g t 1) {a : Nat} (ha : a < g.w.length) {n : Nat} (hn : n ≤ g.w.length) : -(n * 700000000000) ≤ sumI ((List.range n).map (gF g s t a)) ∧ sumI ((List.range n).map (gF g s t a)) ≤ n * 700000000000 :=
  sumI_range_abs fun b hb => gF_abs hg hs ht ha (by omega)
theorem gS_abs {g : Gm} {s t : List (List Int)} (hg : isGameB g = true) (hs : partsOK g s 0) (ht : partsOK g t 1) {n : Nat} (hn : n ≤ g.w.length) : -(n * 4200000000000) ≤ sumI ((List.range n).map fun a => sumI ((List.range g.w.length).map (gF g s t a))) ∧ sumI ((List.range n).map fun a => sumI ((List.range g.w.length).map (gF g s t a))) ≤ n * 4200000000000 := by
  obtain ⟨p1, p2, p3, p4, p5⟩ := isGameB_parts hg
  refine sumI_range_abs fun a ha => ?_
  have h := gR_abs hg hs ht (a := a) (by omega) (Nat.le_refl g.w.length)
  omega
theorem gnum_abs {g : Gm} {s t : List (List Int)} (hg : isGameB g = true) (hs : partsOK g s 0) (ht : partsOK g t 1) : -25200000000000 ≤ gnum g s t ∧ gnum g s t ≤ 25200000000000 := by
  obtain ⟨p1, p2, p3, p4, p5⟩ := isGameB_parts hg
  have h := gS_abs hg hs ht (Nat.le_refl g.w.length)
  rw [gnum_eq]
  omega
section
attribute [-go_sem] load1C load1V fldC lenC idxC loadNV nilCheckW
set_option maxRecDepth 20000 in
theorem impl_partsAt_ok {g : Gm} {s t : List (List Int)} (hg : isGameB g = true) (hs : partsOK g s 0) (ht : partsOK g t 1) {i a b : Nat} (hi : i < g.nd.length) (ha : a < g.w.length) (hb : b < g.w.length) (h2 : (g.nd.getD i nd0).p ≠ 2) :
    Pure Try.prog 214 [.pin (evL g s t) 0, .i i, .i a, .i b] (ints (chP g s t i a b)) := by
  obtain ⟨p1, p2, p3, p4, p5⟩ := isGameB_parts hg
  obtain ⟨t1, t2, t3, t4⟩ := isTreeB_spec p1
  obtain ⟨x, hx⟩ : ∃ x, g.nd[i]? = some x := ⟨_, List.getElem?_eq_getElem hi⟩
  have hxd : g.nd.getD i nd0 = x := by rw [List.getD_eq_getElem?_getD, hx]; rfl
  obtain ⟨⟨r1, r2⟩, _⟩ := ndOK_fields (t2 _ _ hx)
  rw [hxd] at h2
  refine fun___impl_evaluator__partsAt (by simp) ?_
  have hcase : x.p = 0 ∨ x.p = 1 := by omega
  rcases hcase with h0 | h0
  · have hpd : (g.nd.getD i nd0).p = 0 := by rw [hxd]; exact h0
    have hrow := partsOK_row t2 (by decide) hs hi ha hpd
    have hoi := ownL_get hi hpd
    have hol := ownL_length g 0
    have hrl := (List.getElem?_eq_some_iff.1 hrow).1
    have hset : setI g 0 i a = (idxs g.nd 0 i).length * g.w.length + a := rfl
    have hil := idxs_length g.nd 0 i
    have hm : (idxs g.nd 0 i).length * g.w.length ≤ 60 * 6 := Nat.mul_le_mul (by omega) p2.2
    rw [chP, if_pos hpd]
    simp -implicitDefEqProofs only [go_sem, evR, ints, rows, rat, rats, c___impl_evaluator__partsAt, evL, nodes, nd_get0 hx, h0, hoi, hrow, hol, show ((0 : Int) == 1) = false from rfl, show ((1 : Int) == 1) = true from rfl, show IntKind.i64.wrap ((((idxs g.nd 0 i).length * g.w.length : Nat) : Int) + (a : Int)) = ((setI g 0 i a : Nat) : Int) by rw [wrap64 (by omega) (by omega)]; omega]
    rw [nd_len]; omega
  · have hpd : (g.nd.getD i nd0).p = 1 := by rw [hxd]; exact h0
    have hrow := partsOK_row t2 (by decide) ht hi hb hpd
    have hoi := ownL_get hi hpd
    have hol := ownL_length g 1
    have hrl := (List.getElem?_eq_some_iff.1 hrow).1
    have hset : setI g 1 i b = (idxs g.nd 1 i).length * g.w.length + b := rfl
    have hil := idxs_length g.nd 1 i
    have hm : (idxs g.nd 1 i).length * g.w.length ≤ 60 * 6 := Nat.mul_le_mul (by omega) p2.2
    rw [chP, if_neg (by omega)]
    simp -implicitDefEqProofs only [go_sem, evR, ints, rows, rat, rats, c___impl_evaluator__partsAt, evL, nodes, nd_get0 hx, h0, hoi, hrow, hol, show ((0 : Int) == 1) = false from rfl, show ((1 : Int) == 1) = true from rfl, show IntKind.i64.wrap ((((idxs g.nd 1 i).length * g.w.length : Nat) : Int) + (b : Int)) = ((setI g 1 i b : Nat) : Int) by rw [wrap64 (by omega) (by omega)]; omega]
    rw [nd_len]; omega
theorem partsAt_t {g : Gm} {s t : List (List Int)} (hg : isGameB g = true) (hs : partsOK g s 0) (ht : partsOK g t 1) {i a b : Nat} (hi : i < g.nd.length) (ha : a < g.w.length) (hb : b < g.w.length) (h2 : (g.nd.getD i nd0).p ≠ 2) :
    Pure Try.prog 214 [.pin [.sh 5 (chunk nodeC g.nd), .sh 1 (g.w.map ints), .sh 1 (g.v.map ints), .sh 1 ((ownL g 0).map T.i), .sh 1 ((ownL g 1).map T.i), .sh 1 (s.map ints), .sh 1 (t.map ints), .sh 1 ((parN g.nd g.nd.length).map T.i)] 0, .i i, .i a, .i b] (ints (chP g s t i a b)) := impl_partsAt_ok hg hs ht hi ha hb h2
theorem value_t {g : Gm} {s t : List (List Int)} {i a b p : Int} {r : Int} (h : Pure Try.prog 180 [.pin (evL g s t) 0, .i i, .i a, .i b, .i p] (.i r)) :
    Pure Try.prog 180 [.pin [.sh 5 (chunk nodeC g.nd), .sh 1 (g.w.map ints), .sh 1 (g.v.map ints), .sh 1 ((ownL g 0).map T.i), .sh 1 ((ownL g 1).map T.i), .sh 1 (s.map ints), .sh 1 (t.map ints), .sh 1 ((parN g.nd g.nd.length).map T.i)] 0, .i i, .i a, .i b, .i p] (.i r) := h
set_option maxRecDepth 20000 in
theorem impl_value_ok {g : Gm} {s t : List (List Int)} (hg : isGameB g = true) (hs : partsOK g s 0) (ht : partsOK g t 1) {a b : Nat} (ha : a < g.w.length) (hb : b < g.w.length) : ∀ (f i p : Nat), g.nd.length ≤ i + f → i < g.nd.length → dep g.nd f i ≤ p → p ≤ 5 →
    Pure Try.prog 180 [.pin (evL g s t) 0, .i i, .i a, .i b, .i p] (.i (val g s t f i a b p)) := by
  obtain ⟨p1, p2, p3, p4, p5⟩ := isGameB_parts hg
  obtain ⟨t1, t2, t3, t4⟩ := isTreeB_spec p1
  have hpay := payOK_of t2
  intro f
  induction f with
  | zero => intro i p h1 h2; omega
  | succ f ih =>
    intro i p hf hi hdp hp5
    obtain ⟨x, hx⟩ : ∃ x, g.nd[i]? = some x := ⟨_, List.getElem?_eq_getElem hi⟩
    have hxd : g.nd.getD i nd0 = x := by rw [List.getD_eq_getElem?_getD, hx]; rfl
    have hxl := (ndOK_fields (t2 _ _ hx)).2.2.2.2.2
    have hpw := pw_le5 hp5
    have hV2 : x.p = 2 → val g s t (f + 1) i a b p = pay g i a b * pw p := fun h => by rw [val]; (try simp only []); rw [if_pos (by rw [hxd]; exact h)]
    have hV1 : x.p ≠ 2 → ∀ n, x.ch.length ≤ n → valK g s t f a b (p - 1) (chP g s t i a b) x.ch n = val g s t (f + 1) i a b p := fun h n hn => by
      have := valK_all (g := g) (s := s) (t := t) (f := f) (i := i) (a := a) (b := b) (p := p) (n := n) (by rw [hxd]; exact h) (by rw [hxd]; exact hn)
      rw [hxd] at this; exact this
    generalize val g s t (f + 1) i a b p = V' at hV2 hV1 ⊢
    refine fun___impl_evaluator__value (by simp) ?_
    simp -implicitDefEqProofs only [go_sem, evR, ints, rows, rat, rats, c___impl_evaluator__value, evL, nodes, nd_at hx]
    refine ⟨by omega, by rw [nd_len]; omega, by rw [nd_len]; omega, ?_⟩
    refine ⟨fun h2 => ?_, fun h2 => ?_⟩
    · have h2 : x.p = 2 := by simpa using h2
      rw [hV2 h2]
      refine CallW.pure (payoffAt_t hg i a b hi ha hb) [] rfl Try.call213 ?_ (by first | trivial | simp [T.noSh, T.noShL, rat]) rfl ?_
      · simp -implicitDefEqProofs only [agR, Nat.reduceLeDiff, Nat.reduceSub, vaR, go_sem, ints, rows, rat, rats, ratsO, rtR, intsO, rowsO]
      simp -implicitDefEqProofs only [go_sem, evR, ints, rows, rat, rats]
      refine CallW.pure (impl_powerOf_ok p (by omega)) [] rfl Try.call163 ?_ (by first | trivial | simp [T.noSh, T.noShL, rat]) rfl ?_
      · simp -implicitDefEqProofs only [agR, Nat.reduceLeDiff, Nat.reduceSub, vaR, go_sem, ints, rows, rat, rats, ratsO, rtR, intsO, rowsO]
      simp -implicitDefEqProofs only [go_sem, evR, ints, rows, rat, rats]
      have q1 := hpay i a b
      have m1 := Int.mul_le_mul_of_nonneg_right q1.2 (show 0 ≤ pw p by omega)
      have m2 := Int.mul_le_mul_of_nonneg_right q1.1 (show 0 ≤ pw p by omega)
      rw [wrap64 (n := pay g i a b * pw p) (by omega) (by omega)]
    · have h2 : x.p ≠ 2 := by simpa using h2
      have hp2 : (g.nd.getD i nd0).p ≠ 2 := by rw [hxd]; exact h2
      obtain ⟨d1, d2⟩ := dep_child (f := f) hp2
      rw [hxd] at d2
      have hch := ndOK_child (t2 _ _ hx)
      obtain ⟨c1, c2, c3⟩ := chP_spec t2 hs ht hi ha hb hp2
      rw [hxd] at c1
      obtain ⟨p', rfl⟩ : ∃ p', p = p' + 1 := ⟨p - 1, by omega⟩
      have hpw' := pw_le5 (show p' ≤ 5 by omega)
      have hcond : ∀ c ∈ x.ch, 0 ≤ c ∧ c.toNat < g.nd.length ∧ dep g.nd f c.toNat ≤ p' := fun c hc => by
        have h1 := hch c hc
        have h3 := d2 c hc
        omega
      refine CallW.res (partsAt_t hg hs ht hi ha hb hp2) [] rfl Try.call214 ?_ (.inl rfl) ?_
      · simp -implicitDefEqProofs only [agR, Nat.reduceLeDiff, Nat.reduceSub, vaR, go_sem, ints, rows, rat, rats, ratsO, rtR, intsO, rowsO]
      simp -implicitDefEqProofs only [clR, Nat.reduceLeDiff, go_sem, evR, rat, ints]
      rw [Nat.add_sub_cancel] at hV1
      generalize chP g s t i a b = q at hV1 c1 c2 c3 ⊢
      have hKA := valK_abs t2 hs ht ha hb (f := f) c2 hcond
      refine SemC.loopR (σ := Nat) (fun k => St.of [(0, .t (.pin (evL g s t) 0)), (1, .t (.i i)), (2, .t (.i a)), (3, .t (.i b)), (4, .t (.i (p' + 1 : Nat))), (11, .own 11), (12, .t (.i (valK g s t f a b p' q x.ch k))), (42, .t (ints q)), (43, .t (.i q.length)), (44, .t (.i k))] [(11, .box [.i x.p, .i x.a, .i x.b, .i x.f, ints x.ch])]) (fun k => k ≤ q.length) (fun k => q.length - k) 0 (Weak.of _ _ [some 11] (by simp) (by simp) ?_ ?_) (by omega) fun k hk R hn hr he => ?_
      · simp -implicitDefEqProofs only [ints, rows, Nat.reduceBEq, wkR, Nat.reduceEqDiff, ↓reduceIte, wrR, evL, nodes, show valK g s t f a b p' q x.ch 0 = 0 from rfl]
      · exact ⟨⟨_, rfl, .refl _⟩, rfl, trivial⟩
      · rcases Nat.lt_or_ge k q.length with h9 | h9
        · obtain ⟨y, hy⟩ : ∃ y, q[k]? = some y := ⟨_, List.getElem?_eq_getElem h9⟩
          obtain ⟨c, hc⟩ : ∃ c, x.ch[k]? = some c := ⟨_, List.getElem?_eq_getElem (by omega)⟩
          have hyb := c2 y (List.mem_of_getElem? hy)
          have hcb := hcond c (List.mem_of_getElem? hc)
          have hcb1 := hch c (List.mem_of_getElem? hc)
          have hsu := valK_succ (g := g) (s := s) (t := t) (f := f) (a := a) (b := b) (p := p') hy hc
          have k1 := hKA k (by omega) (by omega)
          have k2 := hKA (k + 1) (by omega) (by omega)
          have k3 : (k : Int) * (6000 * pw p') ≤ 4 * 4665600000000 := Int.mul_le_mul (by omega) (by omega) (by omega) (by decide)
          have k4 : ((k + 1 : Nat) : Int) * (6000 * pw p') ≤ 4 * 4665600000000 := Int.mul_le_mul (by omega) (by omega) (by omega) (by decide)
          simp -implicitDefEqProofs only [go_sem, evR, ints, rows, rat, rats, evL, nodes, hy, hc, decide_eq_true (show (k : Int) < (q.length : Int) by omega), wrap64 (n := (p' : Int)) (by omega) (by omega), show ((p' + 1 : Nat) : Int) - 1 = (p' : Int) by omega]
          refine ⟨by omega, by omega, by omega, fun h5 => ⟨by omega, by omega, by omega, ?_⟩, fun h5 => ?_⟩
          · have hcall := value_t (ih c.toNat p' (by omega) hcb.2.1 hcb.2.2 (by omega))
            rw [show ((c.toNat : Nat) : Int) = c by omega] at hcall
            have hva := val_abs t2 hs ht ha hb f c.toNat p' hcb.2.1 hcb.2.2
            obtain ⟨m1, m2⟩ := mul_abs hyb.1 hva.1 hva.2
            have m3 : 100 * pw p' * y ≤ 77760000000 * 60 := Int.mul_le_mul (by omega) hyb.2 hyb.1 (by decide)
            refine CallW.pure hcall [] rfl Try.call180 ?_ (by first | trivial | simp [T.noSh, T.noShL, rat]) rfl ?_
            · simp -implicitDefEqProofs only [agR, Nat.reduceLeDiff, Nat.reduceSub, vaR, go_sem, ints, rows, rat, rats, ratsO, rtR, intsO, rowsO]
            simp -implicitDefEqProofs only [go_sem, evR, ints, rows, rat, rats]
            refine hn _ (k + 1) (Weak.of _ _ [some 11] (by simp) (by simp) ?_ ?_) (by omega) (by omega)
            · simp -implicitDefEqProofs only [ints, rows, Nat.reduceBEq, wkR, Nat.reduceEqDiff, ↓reduceIte, wrR, evL, nodes, next64 h9 (by omega), wrap64 (n := y * val g s t f c.toNat a b p') (by omega) (by omega), ← hsu, wrap64 (n := valK g s t f a b p' q x.ch (k + 1)) (by omega) (by omega)]
            · exact ⟨⟨_, rfl, .refl _⟩, rfl, trivial⟩
          · have hy0 : y = 0 := by have : ¬ y > 0 := by simpa using h5
                                   omega
            rw [hy0, Int.zero_mul, Int.add_zero] at hsu
            refine hn _ (k + 1) (Weak.of _ _ [some 11] (by simp) (by simp) ?_ ?_) (by omega) (by omega)
            · simp -implicitDefEqProofs only [ints, rows, Nat.reduceBEq, wkR, Nat.reduceEqDiff, ↓reduceIte, wrR, evL, nodes, next64 h9 (by omega), hsu]
            · exact ⟨⟨_, rfl, .refl _⟩, rfl, trivial⟩
        · simp -implicitDefEqProofs only [go_sem, evR, ints, rows, rat, rats, evL, nodes, decide_eq_false (show ¬ (k : Int) < (q.length : Int) by omega)]
          refine he _ _ ?_
          simp -implicitDefEqProofs only [go_sem, evR, ints, rows, rat, rats]
          rw [hV1 h2 k (by omega)]

theorem newEv_t (g : Gm) (s t : Int × List (List Int)) (hg : isGameB g = true) : Fun Try.prog 179 [] [.t (.agg [.sh 5 (chunk nodeC g.nd), .sh 1 (g.w.map ints), .sh 1 (g.v.map ints)]), .t (.agg [.i s.1, .sh 1 (s.2.map ints)]), .t (.agg [.i t.1, .sh 1 (t.2.map ints)])] fun o r => o = [] ∧ r = evO g s.2 t.2 := impl_newEvaluator_ok g s t hg
def gS (g : Gm) (s t : List (List Int)) (a : Nat) : Int := sumI ((List.range a).map fun a => sumI ((List.range g.w.length).map (gF g s t a)))
def gT (g : Gm) (s t : List (List Int)) (a b : Nat) : Int := gS g s t a + sumI ((List.range b).map (gF g s t a))
theorem gT_zero (g : Gm) (s t : List (List Int)) (a : Nat) : gT g s t a 0 = gS g s t a := by simp [gT, sumI]
theorem gT_succ (g : Gm) (s t : List (List Int)) (a b : Nat) : gT g s t a (b + 1) = gT g s t a b + gF g s t a b := by rw [gT, sumI_rsucc, gT, Int.add_assoc]
theorem gT_all (g : Gm) (s t : List (List Int)) (a : Nat) : gT g s t a g.w.length = gS g s t (a + 1) := by rw [gT, gS, gS, sumI_rsucc]
theorem gT_abs {g : Gm} {s t : List (List Int)} (hg : isGameB g = true) (hs : partsOK g s 0) (ht : partsOK g t 1) {a b : Nat} (ha : a < g.w.length) (hb : b ≤ g.w.length) : -30000000000000 ≤ gT g s t a b ∧ gT g s t a b ≤ 30000000000000 := by
  obtain ⟨p1, p2, p3, p4, p5⟩ := isGameB_parts hg
  have h1 := gS_abs hg hs ht (n := a) (by omega)
  have h2 := gR_abs hg hs ht ha hb
  unfold gT gS
  omega
set_option maxRecDepth 20000 in
theorem impl_gameNumber_ok {g : Gm} {s t : Int × List (List Int)} (hg : isGameB g = true) (hs : partsOK g s.2 0) (ht : partsOK g t.2 1) : Pure Try.prog 121 [gameT g, stratT s, stratT t] (.i (gnum g s.2 t.2)) := by
  obtain ⟨p1, p2, p3, p4, p5⟩ := isGameB_parts hg
  obtain ⟨t1, t2, t3, t4⟩ := isTreeB_spec p1
  obtain ⟨u1, u2, u3, u4, u5, u6, u7⟩ := game_unit hg
  refine fun_impl_gameNumber (by simp) ?_
  simp -implicitDefEqProofs only [go_sem, evR, ints, rows, rat, rats, c_impl_gameNumber, gameT, stratT, nodes]
  refine CallW.res (newEv_t g s t hg) [] rfl Try.call179 ?_ (.inl rfl) ?_
  · simp -implicitDefEqProofs only [agR, Nat.reduceLeDiff, Nat.reduceSub, vaR, go_sem, ints, rows, rat, rats, ratsO, rtR, intsO, rowsO]
  simp -implicitDefEqProofs only [clR, Nat.reduceLeDiff, go_sem, evR, rat, evO, intsO, nodes, rows]
  refine CallW.pure (dep_t (impl_depthFrom_ok t2 (by omega) g.nd.length 0 (by omega) (by omega) (by omega))) [] rfl Try.call164 ?_ (by first | trivial | simp [T.noSh, T.noShL, rat]) rfl ?_
  · simp -implicitDefEqProofs only [agR, Nat.reduceLeDiff, Nat.reduceSub, vaR, go_sem, ints, rows, rat, rats, ratsO, rtR, intsO, rowsO]
  simp -implicitDefEqProofs only [go_sem, evR, ints, rows, rat, rats]
  rw [u2]
  refine SemC.loopR (σ := Nat) (fun a => St.of [(7, .own 17), (8, .t (.i (dpt g))), (9, .t (.i (gS g s.2 t.2 a))), (22, .t (rows g.w)), (23, .t (.i g.w.length)), (24, .t (.i a))] [(17, evO g s.2 t.2)]) (fun a => a ≤ g.w.length) (fun a => g.w.length - a) 0 (Weak.of _ _ [some 17] (by simp) (by simp) ?_ ?_) (by omega) fun a ha R hn hr he => ?_
  · simp -implicitDefEqProofs only [ints, rows, Nat.reduceBEq, wkR, Nat.reduceEqDiff, ↓reduceIte, wrR, gS, List.range_zero, List.map_nil, sumI]
  · exact ⟨⟨_, rfl, .refl _⟩, rfl, trivial⟩
  · rcases Nat.lt_or_ge a g.w.length with h9 | h9
    · obtain ⟨r, hr0⟩ : ∃ r, g.w[a]? = some r := ⟨_, List.getElem?_eq_getElem h9⟩
      have hrl : r.length = g.w.length := ((matK_iff.1 p3).2 r (List.mem_of_getElem? hr0)).1
      simp -implicitDefEqProofs only [go_sem, evR, ints, rows, rat, rats, evO, nodes, intsO, hr0, decide_eq_true (show (a : Int) < (g.w.length : Int) by omega)]
      refine ⟨by omega, by omega, by omega, ?_⟩
      refine SemC.loopR (σ := Nat) (fun b => St.of [(7, .own 17), (8, .t (.i (dpt g))), (9, .t (.i (gT g s.2 t.2 a b))), (10, .t (.i a)), (22, .t (rows g.w)), (23, .t (.i g.w.length)), (24, .t (.i a)), (29, .t (ints r)), (30, .t (.i r.length)), (31, .t (.i b))] [(17, evO g s.2 t.2)]) (fun b => b ≤ g.w.length) (fun b => g.w.length - b) 0 (Weak.of _ _ [some 17] (by simp) (by simp) ?_ ?_) (by omega) fun b hb R2 hn2 hr2 he2 => ?_
      · simp -implicitDefEqProofs only [ints, rows, Nat.reduceBEq, wkR, Nat.reduceEqDiff, ↓reduceIte, wrR, gT_zero]
      · exact ⟨⟨_, rfl, .refl _⟩, rfl, trivial⟩
      · rcases Nat.lt_or_ge b g.w.length with h8 | h8
        · obtain ⟨r', y, hr1, hy, hy0, hy9⟩ := game_w hg h9 h8
          rw [hr0, Option.some.injEq] at hr1
          subst hr1
          have hgs := gT_succ g s.2 t.2 a b
          have hgf := gF_abs hg hs ht h9 h8
          have k1 := gT_abs hg hs ht h9 (b := b) (by omega)
          have k2 := gT_abs hg hs ht h9 (b := b + 1) (by omega)
          have hF : gF g s.2 t.2 a b = y * val g s.2 t.2 g.nd.length 0 a b (dpt g) := by
            unfold gF; simp only [List.getD_eq_getElem?_getD, hr0, Option.getD_some, hy]
          simp -implicitDefEqProofs only [go_sem, evR, ints, rows, rat, rats, evO, nodes, intsO, hy, decide_eq_true (show (b : Int) < (r.length : Int) by omega)]
          refine ⟨by omega, by omega, by omega, fun h5 => ?_, fun h5 => ?_⟩
          · have hcall := value_t (impl_value_ok hg hs ht h9 h8 g.nd.length 0 (dpt g) (by omega) (by omega) (by omega) u3)
            refine CallW.pure hcall [17] rfl Try.call180 ?_ trivial rfl ?_
            · simp -implicitDefEqProofs only [agR, Nat.reduceLeDiff, Nat.reduceSub, vaR, go_sem, ints, rows, rat, rats, ratsO, rtR, intsO, rowsO, T.toShL.eq_1, T.toShL.eq_2]
            simp -implicitDefEqProofs only [go_sem, evR, ints, rows, rat, rats]
            refine hn2 _ (b + 1) (Weak.of _ _ [some 17] (by simp) (by simp) ?_ ?_) (by omega) (by omega)
            · simp -implicitDefEqProofs only [ints, rows, Nat.reduceBEq, wkR, Nat.reduceEqDiff, ↓reduceIte, wrR, next64 h8 (by omega), ← hF, wrap64 (n := gF g s.2 t.2 a b) (by omega) (by omega), ← hgs, wrap64 (n := gT g s.2 t.2 a (b + 1)) (by omega) (by omega)]
            · exact ⟨⟨_, rfl, .refl _⟩, rfl, trivial⟩
          · have hy0 : y = 0 := by have : ¬ y > 0 := by simpa using h5
                                   omega
            rw [hF, hy0, Int.zero_mul, Int.add_zero] at hgs
            refine hn2 _ (b + 1) (Weak.of _ _ [some 17] (by simp) (by simp) ?_ ?_) (by omega) (by omega)
            · simp -implicitDefEqProofs only [ints, rows, Nat.reduceBEq, wkR, Nat.reduceEqDiff, ↓reduceIte, wrR, next64 h8 (by omega), hgs]
            · exact ⟨⟨_, rfl, .refl _⟩, rfl, trivial⟩
        · simp -implicitDefEqProofs only [go_sem, evR, ints, rows, rat, rats, evO, nodes, intsO, decide_eq_false (show ¬ (b : Int) < (r.length : Int) by omega)]
          refine he2 _ _ ?_
          simp -implicitDefEqProofs only [go_sem, evR, ints, rows, rat, rats]
          refine hn _ (a + 1) (Weak.of _ _ [some 17] (by simp) (by simp) ?_ ?_) (by omega) (by omega)
          · simp -implicitDefEqProofs only [ints, rows, Nat.reduceBEq, wkR, Nat.reduceEqDiff, ↓reduceIte, wrR, next64 h9 (by omega), ← gT_all, show b = g.w.length by omega]
          · exact ⟨⟨_, rfl, .refl _⟩, rfl, trivial⟩
    · simp -implicitDefEqProofs only [go_sem, evR, ints, rows, rat, rats, evO, nodes, intsO, decide_eq_false (show ¬ (a : Int) < (g.w.length : Int) by omega)]
      refine he _ _ ?_
      simp -implicitDefEqProofs only [go_sem, evR, ints, rows, rat, rats]
      rw [show a = g.w.length by omega, gnum_eq]; rfl

theorem pair_parts {g : Gm} {s t : Int × List (List Int)} (h : pairG g s t = true) : isGameB g = true ∧ partsOK g s.2 0 ∧ partsOK g t.2 1 := by
  obtain ⟨h1, h2, h3, h4, h5⟩ := pairG_iff.1 h
  rw [h2] at h4; rw [h3] at h5
  exact ⟨h1, partsOK_of h4, partsOK_of h5⟩
end
end Go.Ab

/- Games as data: what the laws of best responses and bounds say. -/
set_option linter.unusedSimpArgs false
set_option linter.unusedVariables false
namespace Go.Ab

def pureRow (r : List Int) : Prop := r = [] ∨ ∃ n k, k < n ∧ r = pureL n k
theorem bestB_pureR {g : Gm} {ot : List (List Int)} {pl : Int} {own : Nat} (hnd : ndsOK g.nd) : ∀ (f i : Nat) (reach : List Int) (p : Nat) (B : List (List Int)), (∀ r ∈ B, pureRow r) → ∀ r ∈ bestB g ot pl own f i reach p B, pureRow r
  | 0, i, reach, p, B, h => h
  | f + 1, i, reach, p, B, h => by
    rw [bestB]
    (try simp only [])
    split
    · exact h
    · rename_i h2
      split
      · intro r hr
        rcases List.mem_or_eq_of_mem_set hr with hr | rfl
        · exact foldl_inv (fun B => ∀ r ∈ B, pureRow r) _ _ h (fun B c _ hB => bestB_pureR hnd f _ _ _ B hB) r hr
        · refine .inr ⟨(g.nd.getD i nd0).ch.length, _, ?_, rfl⟩
          have hi : i < g.nd.length := by
            rcases Nat.lt_or_ge i g.nd.length with h9 | h9
            · exact h9
            · exact absurd (show (g.nd.getD i nd0).p = 2 by rw [List.getD_eq_getElem?_getD, List.getElem?_eq_none h9]; rfl) h2
          have hx : g.nd[i]? = some (g.nd.getD i nd0) := by rw [List.getD_eq_getElem?_getD, List.getElem?_eq_getElem hi]; rfl
          have hc := ((ndOK_fields (hnd i _ hx)).2.2.2.2.1 h2).2
          have := argmax_lt (l := (g.nd.getD i nd0).ch.map fun c => bestV g ot pl own f c.toNat reach p) (by intro e; rw [List.map_eq_nil_iff] at e; rw [e] at hc; simp at hc)
          simpa using this
      · exact foldl_inv (fun B => ∀ r ∈ B, pureRow r) _ _ h fun B k _ hB => bestB_pureR hnd f _ _ _ B hB
theorem pureL_max {n k : Nat} (h : k < n) : (60 : Int) ∈ pureL n k := by
  unfold pureL
  rw [List.mem_iff_getElem?]
  exact ⟨k, by rw [List.getElem?_set_self (by simpa using h)]⟩
theorem runB_pure {g : Gm} (hg : isGameB g = true) (ot : List (List Int)) {pl : Int} (hpl : pl = 0 ∨ pl = 1) : ∀ r ∈ runB g ot pl g.w.length, (60 : Int) ∈ r := by
  obtain ⟨ht1, _⟩ := isGameB_spec hg
  obtain ⟨hn, hnd, ho, _⟩ := isTreeB_spec ht1
  have h1 : ∀ r ∈ runB g ot pl g.w.length, pureRow r := foldl_inv (fun B => ∀ r ∈ B, pureRow r) _ _ (fun r hr => .inl (List.eq_of_mem_replicate hr)) fun B own _ hB => bestB_pureR hnd _ _ _ _ B hB
  intro r hr
  rcases h1 r hr with e | ⟨n, k, hk, rfl⟩
  · obtain ⟨i, hi, he⟩ := List.mem_iff_getElem.1 hr
    have hs := isStratB_iff.1 (runB_strat hg ot hpl)
    have h2 := partOK_iff.1 (hs.2 i (by rw [← hs.1]; exact hi))
    rw [List.getD_eq_getElem?_getD, List.getElem?_eq_getElem hi, Option.getD_some, he, e] at h2
    have := h2.2.2
    simp at this
  · exact pureL_max hk
end Go.Ab

/- Functions in compact form, with hints. -/
set_option linter.unusedVariables false
namespace Go.Ab
open Go.Proofs

def c_impl_uniformStrategy_h : CC :=
 (.seq (.reg [.o (.box 2 (sl 0)),
 .o (.alloc 4 [.v (.int .i64 0), .v (.slice none 0 0)])])
 ((.seq (.reg [.o (.move 8 (sl 1)),
 .o (.build 9 [.v (.int .i64 0), .v (.slice none 0 0)] [(0, 1), (1, 1)] [(0, (sl 8))]),
 .o (.alloc 5 [.v (.int .i64 0), .v (.slice none 0 0)]),
 .o (.store 2 (sl 5) (sl 9))])
 ((.seq (.seq (.reg [.o (.loadN 10 3 (sl 2)),
 .o (.move 11 (sl 1)),
 .o (.call (some 12) (cf 152) [(sl 10), (sl 11)]),
 .o (.lenS 13 (sl 12)),
 .o (.move 14 (ci 0))])
 ((.block 0 (.loop (.seq (.reg [.o (.bin 15 .lss (sl 14) (sl 13))])
 ((.seq (.cond (sl 15) .skip
 (.exit 0))
 ((.seq (.block 1 (.seq (.reg [.o (.idx 16 1 (sl 12) (sl 14)),
 .o (.load1 17 (sl 16)),
 .o (.move 7 (sl 17))])
 ((.weak (.draw [30, 31] [(.r false [30, 31, 32], .o (.fld 18 1 (sl 5))),
 (.r false [30, 31, 32], .o (.load1 19 (sl 18))),
 (kR, .o (.fld 20 0 (sl 2))),
 (kR, .o (.fld 21 0 (sl 20))),
 (kR, .o (.load1 22 (sl 21))),
 (kR, .o (.move 23 (sl 7))),
 (kR, .o (.idx 24 1 (sl 23) (ci 0))),
 (kR, .o (.load1 25 (sl 24))),
 (kR, .o (.idx 26 5 (sl 22) (sl 25))),
 (kR, .o (.fld 27 4 (sl 26))),
 (kR, .o (.load1 28 (sl 27))),
 (kR, .o (.lenS 29 (sl 28))),
 (kN, .o (.make 30 [.v (.int .i64 0)] 8 (sl 29) (sl 29))),
 (.c false [], .o (.call (some 31) (cf 193) [(sl 30)])),
 (.h (some [31]) [], .o (.bslice 32 1 1 [(0, (sl 31))])),
 (kH, .o (.app 33 1 24 (sl 19) (sl 32))),
 (kR, .o (.fld 34 1 (sl 5))),
 (kH, .o (.store 1 (sl 34) (sl 33)))])))))
 ((.reg [.o (.bin 35 .add (sl 14) (ci 1)),
 .o (.move 14 (sl 35))])))))))))))
 ((.seq (.reg [.o (.loadN 36 2 (sl 5)),
 .o (.store 2 (sl 4) (sl 36))])
 (.ret))))))))
theorem fun_impl_uniformStrategy_h {rin : List T} {args : List A} {Q : List T → T → Prop} (ha : args.length ≤ 37) (h : cW Try.prog 37 c_impl_uniformStrategy_h (retP Try.prog [.cell 4 47] rin.length Q) (St.of (enum 0 args) (enum 1000000000 rin))) :
    Fun Try.prog 137 rin args Q :=
  Fun.of (H := ⟨[(5, 0, .r false [30, 31, 32]), (5, 1, .r false [30, 31, 32]), (5, 14, .h (some [31]) []), (5, 2, .r false []), (5, 3, .r false []), (5, 4, .r false []), (5, 5, .r false []), (5, 6, .r false []), (5, 7, .r false []), (5, 8, .r false []), (5, 9, .r false []), (5, 10, .r false []), (5, 11, .r false [])], [5]⟩) Try.func137 rfl rfl rfl (by kernel_rfl) ha (by decide) h

end Go.Ab

/- Contracts: small functions of the laws: lists, strategies and claims alike. -/
set_option linter.unusedSimpArgs false
set_option linter.unusedVariables false
namespace Go.Ab
open Go.Proofs

theorem laws_big_ok (cs : List Int) : Pure Try.prog 51 [bytes cs] (.b (decide ((cs.length : Int) > 4096))) := by
  refine fun_laws_big (by simp) ?_
  simp -implicitDefEqProofs only [go_sem, evR, ints, rows, rat, rats, c_laws_big, bytes]
theorem laws_likeInts_ok (a b : List Int) (ha : a.length ≤ 1000000000000) (hb : b.length ≤ 1000000000000) : Pure Try.prog 94 [ints a, ints b] (.b (decide (a = b))) := by
  refine fun_laws_likeInts (by simp) ?_
  simp -implicitDefEqProofs only [c_laws_likeInts, ints, go_sem]
  refine ⟨fun h => ?_, fun h => ?_⟩
  · have : a ≠ b := by rintro rfl; simp at h
    simp [this]
  · have hab : a.length = b.length := by simp at h; omega
    refine SemC.loopR (σ := Nat) (fun i => St.of [(0, .t (ints a)), (1, .t (ints b)), (5, .t (.i i))] []) (fun i => i ≤ a.length ∧ ∀ j, j < i → a[j]? = b[j]?) (fun i => a.length - i) 0 (Weak.of _ [] [] (by simp) (by simp) ?_ trivial) ⟨by simp, fun j hj => by omega⟩ fun i hI R hn hr he => ?_
    · simp -implicitDefEqProofs only [ints, wkR, Nat.reduceEqDiff, ↓reduceIte]
    · simp -implicitDefEqProofs only [ints, go_sem, toNat_cast]
      refine ⟨fun h => ⟨by omega, by omega, by omega, fun c x hx hc => ⟨by omega, by omega, by omega, fun c' y hy hc' => ?_⟩⟩, fun h => he _ _ ?_⟩
      · subst hc hc'
        simp -implicitDefEqProofs only [go_sem]
        refine ⟨fun h1 => hr _ ?_, fun h1 => hn _ (i + 1) (Weak.of _ [] [] (by simp) (by simp) ?_ trivial) ⟨by omega, fun j hj => ?_⟩ (by omega)⟩
        · simp -implicitDefEqProofs only [go_sem]
          have : a ≠ b := by rintro rfl; rw [hx] at hy; cases hy; simp at h1
          simp [this]
        · simp -implicitDefEqProofs only [ints, wkR, Nat.reduceEqDiff, ↓reduceIte, next64 (by omega : i < a.length) ha]
        · rcases Nat.lt_or_ge j i with h | h
          · exact hI.2 j h
          · have : j = i := by omega
            subst this
            rw [hx, hy]; simpa using h1
      · simp -implicitDefEqProofs only [go_sem]
        have : a = b := by
          refine List.ext_getElem? fun j => ?_
          rcases Nat.lt_or_ge j i with h | h
          · exact hI.2 j h
          · rw [List.getElem?_eq_none (by omega), List.getElem?_eq_none (by omega)]
        simp [this]
theorem laws_likeLists_ok (a b : List (List Int)) (ha : a.length ≤ 1000000000000) (hb : b.length ≤ 1000000000000) (hra : ∀ r ∈ a, r.length ≤ 1000000000000) (hrb : ∀ r ∈ b, r.length ≤ 1000000000000) :
    Pure Try.prog 84 [rows a, rows b] (.b (decide (a = b))) := by
  refine fun_laws_likeLists (by simp) ?_
  simp -implicitDefEqProofs only [c_laws_likeLists, rows, go_sem]
  refine ⟨fun h => ?_, fun h => ?_⟩
  · have : a ≠ b := by rintro rfl; simp at h
    simp [this]
  · have hab : a.length = b.length := by simp at h; omega
    refine SemC.loopR (σ := Nat) (fun i => St.of [(0, .t (rows a)), (1, .t (rows b)), (5, .t (.i i))] []) (fun i => i ≤ a.length ∧ ∀ j, j < i → a[j]? = b[j]?) (fun i => a.length - i) 0 (Weak.of _ [] [] (by simp) (by simp) ?_ trivial) ⟨by simp, fun j hj => by omega⟩ fun i hI R hn hr he => ?_
    · simp -implicitDefEqProofs only [rows, wkR, Nat.reduceEqDiff, ↓reduceIte]
    · simp -implicitDefEqProofs only [rows, go_sem, toNat_cast]
      refine ⟨fun h => ⟨by omega, by omega, by omega, fun c x hx hc => ⟨by omega, by omega, by omega, fun c' y hy hc' => ?_⟩⟩, fun h => he _ _ ?_⟩
      · subst hc hc'
        refine CallV.pure (laws_likeInts_ok x y (hra x (List.mem_of_getElem? hx)) (hrb y (List.mem_of_getElem? hy))) [] rfl Try.call94 (fun e R' _ => ?_) trivial (fun _ => rfl) ?_
        · simp -implicitDefEqProofs only [vaR, go_sem]
        · simp -implicitDefEqProofs only [go_sem]
          refine ⟨fun h1 => hr _ ?_, fun h1 => hn _ (i + 1) (Weak.of _ [] [] (by simp) (by simp) ?_ trivial) ⟨by omega, fun j hj => ?_⟩ (by omega)⟩
          · simp -implicitDefEqProofs only [go_sem]
            have : a ≠ b := by rintro rfl; rw [hx] at hy; cases hy; simp at h1
            simp [this]
          · simp -implicitDefEqProofs only [rows, wkR, Nat.reduceEqDiff, ↓reduceIte, next64 (by omega : i < a.length) ha]
          · rcases Nat.lt_or_ge j i with h | h
            · exact hI.2 j h
            · have : j = i := by omega
              subst this
              rw [hx, hy]; simpa using h1
      · simp -implicitDefEqProofs only [go_sem]
        have : a = b := by
          refine List.ext_getElem? fun j => ?_
          rcases Nat.lt_or_ge j i with h | h
          · exact hI.2 j h
          · rw [List.getElem?_eq_none (by omega), List.getElem?_eq_none (by omega)]
        simp [this]
section
attribute [-go_sem] load1C load1V fldC lenC idxC loadNV nilCheckW
theorem laws_likeStrategies_self (s : Int × List (List Int)) (hs : rows12 s.2) : Pure Try.prog 65 [.agg [.i s.1, .sh 1 (s.2.map ints)], .agg [.i s.1, .sh 1 (s.2.map ints)]] (.b true) := by
  refine fun_laws_likeStrategies (by simp) ?_
  simp -implicitDefEqProofs only [go_sem, evR, ints, rows, rat, rats, c_laws_likeStrategies, show (s.1 == s.1) = true by simp]
  have hq := laws_likeLists_ok s.2 s.2 hs.1 hs.1 hs.2 hs.2
  simp only [rows, decide_true] at hq
  refine CallW.pure hq [] rfl Try.call84 ?_ (by first | trivial | simp [T.noSh, T.noShL, rat]) rfl ?_
  · simp -implicitDefEqProofs only [agR, Nat.reduceLeDiff, Nat.reduceSub, vaR, go_sem, ints, rows, rat, rats, ratsO, rtR, intsO, rowsO]
  simp -implicitDefEqProofs only [go_sem, evR, ints, rows, rat, rats]
end
end Go.Ab

/- Games as data: counts, regrets and sums of the iterations. -/
set_option linter.unusedSimpArgs false
set_option linter.unusedVariables false
namespace Go.Ab

/-! Lists that are made new from the left. -/
def setN (g : Gm) (pl : Int) (i : Nat) : Nat := (((sets g pl).getD i []).getD 0 0).toNat
def setC (g : Gm) (pl : Int) (i : Nat) : Nat := (((sets g pl).getD i []).getD 1 0).toNat
theorem set_parts {g : Gm} {pl : Int} {i : Nat} (h : i < (sets g pl).length) : (sets g pl)[i]? = some [(setN g pl i : Int), (setC g pl i : Int)] ∧ setN g pl i < g.nd.length ∧ setC g pl i < g.w.length ∧ (g.nd.getD (setN g pl i) nd0).p = pl ∧ sizeAt g pl i = (g.nd.getD (setN g pl i) nd0).ch.length ∧ setI g pl (setN g pl i) (setC g pl i) = i := by
  obtain ⟨n, c, x, h1, h2, h3, h4, h5, h6⟩ := set_elem h
  have e1 : setN g pl i = n := by unfold setN; rw [List.getD_eq_getElem?_getD (l := sets g pl), h1]; simp
  have e2 : setC g pl i = c := by unfold setC; rw [List.getD_eq_getElem?_getD (l := sets g pl), h1]; simp
  have e3 : g.nd.getD n nd0 = x := by rw [List.getD_eq_getElem?_getD, h2]; rfl
  rw [e1, e2, e3]
  refine ⟨h1, h3, h4, h5, h6, ?_⟩
  have hg := sets_get (g := g) (pl := pl) h3 h4 (by rw [e3]; exact h5)
  obtain ⟨n', c', hn', hc', hp', he, _⟩ := sets_find h
  have hg' := sets_get (g := g) (pl := pl) hn' hc' hp'
  rw [← he, h1] at hg'
  simp at hg'
  obtain ⟨a1, a2⟩ := hg'
  have a1 : n = n' := by omega
  have a2 : c = c' := by omega
  rw [a1, a2]; exact he.symm
def posL (l : List Int) : List Int := l.map fun x => max 0 x
def rowP (l : List Int) : List Int := ham (hvd 34 (posL l))
def stM (m : List (List Int)) : List (List Int) := m.map rowP
structure RS where
  r0 : List (List Int)
  r1 : List (List Int)
  s0 : List (List Int)
  s1 : List (List Int)
def zeroM (g : Gm) (pl : Int) : List (List Int) := (List.range (sets g pl).length).map fun i => List.replicate (sizeAt g pl i) 0
def okM (g : Gm) (pl : Int) (B : Int) (m : List (List Int)) : Prop := m.length = (sets g pl).length ∧ ∀ i r, m[i]? = some r → r.length = sizeAt g pl i ∧ ∀ x ∈ r, -B ≤ x ∧ x ≤ B
theorem okM_get {g : Gm} {pl B : Int} {m : List (List Int)} (h : okM g pl B m) {i : Nat} (hi : i < (sets g pl).length) : ∃ r, m[i]? = some r ∧ m.getD i [] = r ∧ r.length = sizeAt g pl i ∧ ∀ x ∈ r, -B ≤ x ∧ x ≤ B := by
  have hx : m[i]? = some (m[i]'(by rw [h.1]; exact hi)) := List.getElem?_eq_getElem _
  exact ⟨_, hx, by rw [List.getD_eq_getElem?_getD, hx]; rfl, h.2 i _ hx⟩
theorem okM_range {g : Gm} {pl B : Int} {F : Nat → List Int} (h : ∀ i, i < (sets g pl).length → (F i).length = sizeAt g pl i ∧ ∀ x ∈ F i, -B ≤ x ∧ x ≤ B) : okM g pl B ((List.range (sets g pl).length).map F) := by
  refine ⟨by simp, fun i r hr => ?_⟩
  have hi : i < (sets g pl).length := by have := (List.getElem?_eq_some_iff.1 hr).1; simpa using this
  rw [List.getElem?_map, List.getElem?_range hi, Option.map_some, Option.some.injEq] at hr
  rw [← hr]; exact h i hi
theorem zeroM_ok (g : Gm) (pl : Int) : okM g pl 0 (zeroM g pl) := okM_range fun i _ => ⟨by simp, fun x hx => by rw [List.eq_of_mem_replicate hx]; omega⟩

/-! Bounds. -/
end Go.Ab

/- Contracts: uniform and pure strategies, numbers of games; drawn strategies, bounds and claims. -/
set_option linter.unusedSimpArgs false
set_option linter.unusedVariables false
namespace Go.Ab
open Go.Proofs
theorem smallS_L {m : List (List Int)} (h : smallS m) : rowsL m := ⟨by have := h.1; omega, fun r hr => by have := h.2 r hr; omega⟩
section
attribute [-go_sem] load1C load1V fldC lenC idxC loadNV nilCheckW
theorem impl_IsPure_1_ok (r : List Int) (h0 : r ≠ []) (hl : r.length ≤ 10000000) (h : ¬ maxL r < 60) : Pure Try.prog 136 [ints r] (.b false) := by
  refine fun_impl_IsPure_1 (by simp) ?_
  simp -implicitDefEqProofs only [go_sem, evR, ints, rows, rat, rats, c_impl_IsPure_1]
  refine CallW.pure (slices_Max_ok r h0 (by omega)) [] rfl Try.call106 ?_ (by first | trivial | simp [T.noSh, T.noShL, rat]) rfl ?_
  · simp -implicitDefEqProofs only [agR, Nat.reduceLeDiff, Nat.reduceSub, vaR, go_sem, ints, rows, rat, rats, ratsO, rtR, intsO, rowsO]
  simp -implicitDefEqProofs only [go_sem, evR, ints, rows, rat, rats, decide_eq_false h]
def pureM60 (m : List (List Int)) : Prop := ∀ r ∈ m, r ≠ [] ∧ r.length ≤ 10000000 ∧ ¬ maxL r < 60
theorem slices_IndexFunc_pure (m : List (List Int)) (hm : m.length ≤ 10000000) (h : pureM60 m) : Pure Try.prog 192 [rows m, .fn 136 []] (.i (-1)) := by
  refine fun_slices_IndexFunc_____int64___int64_ (by simp) ?_
  simp -implicitDefEqProofs only [go_sem, evR, ints, rows, rat, rats, c_slices_IndexFunc_____int64___int64_]
  refine SemC.loopR (σ := Nat) (fun i => St.of [(0, .t (rows m)), (1, .t (.fn 136 [])), (7, .t (.i m.length)), (8, .t (.i i))] []) (fun i => i ≤ m.length) (fun i => m.length - i) 0 (Weak.of _ [] [] (by simp) (by simp) ?_ trivial) (by omega) fun i hi R hn hr he => ?_
  · simp -implicitDefEqProofs only [ints, rows, Nat.reduceBEq, wkR, Nat.reduceEqDiff, ↓reduceIte, wrR]
  rcases Nat.lt_or_ge i m.length with h9 | h9
  · obtain ⟨r, hr0⟩ : ∃ r, m[i]? = some r := ⟨_, List.getElem?_eq_getElem h9⟩
    obtain ⟨q1, q2, q3⟩ := h r (List.mem_of_getElem? hr0)
    simp -implicitDefEqProofs only [go_sem, evR, ints, rows, rat, rats, hr0, decide_eq_true (show (i : Int) < (m.length : Int) by omega)]
    repeat (first | refine ⟨by omega, ?_⟩ | refine ⟨by rw [nd_len]; omega, ?_⟩)
    refine CallW.pure (impl_IsPure_1_ok r q1 q2 q3) [] rfl Try.call136 ?_ (by first | trivial | simp [T.noSh, T.noShL, rat]) rfl ?_
    · simp -implicitDefEqProofs only [agR, Nat.reduceLeDiff, Nat.reduceSub, vaR, go_sem, ints, rows, rat, rats, ratsO, rtR, intsO, rowsO]
    simp -implicitDefEqProofs only [go_sem, evR, ints, rows, rat, rats]
    refine hn _ (i + 1) (Weak.of _ [] [] (by simp) (by simp) ?_ trivial) (by omega) (by omega)
    simp -implicitDefEqProofs only [ints, rows, Nat.reduceBEq, wkR, Nat.reduceEqDiff, ↓reduceIte, wrR, next64 h9 (by omega)]
  · simp -implicitDefEqProofs only [go_sem, evR, ints, rows, rat, rats, decide_eq_false (show ¬ (i : Int) < (m.length : Int) by omega)]
    refine he _ _ ?_
    simp -implicitDefEqProofs only [go_sem, evR, ints, rows, rat, rats]
theorem slices_ContainsFunc_pure (m : List (List Int)) (hm : m.length ≤ 10000000) (h : pureM60 m) : Pure Try.prog 135 [rows m, .fn 136 []] (.b false) := by
  refine fun_slices_ContainsFunc_____int64___int64_ (by simp) ?_
  simp -implicitDefEqProofs only [go_sem, evR, ints, rows, rat, rats, c_slices_ContainsFunc_____int64___int64_]
  have hq := slices_IndexFunc_pure m hm h
  simp only [rows] at hq
  refine CallW.pure hq [] rfl Try.call192 ?_ (by first | trivial | simp [T.noSh, T.noShL, rat]) rfl ?_
  · simp -implicitDefEqProofs only [agR, Nat.reduceLeDiff, Nat.reduceSub, vaR, go_sem, ints, rows, rat, rats, ratsO, rtR, intsO, rowsO]
  simp -implicitDefEqProofs only [go_sem, evR, ints, rows, rat, rats, show decide ((-1 : Int) ≥ 0) = false from rfl]
theorem impl_IsPure_yes (g : Gm) (s : Int × List (List Int)) (hg : gameL g) (hs : rowsL s.2) (hm : s.2.length ≤ 10000000) (h : pureM60 s.2) (hb : strB g s = true) : Pure Try.prog 66 [.agg [.sh 5 (chunk nodeC g.nd), .sh 1 (g.w.map ints), .sh 1 (g.v.map ints)], .agg [.i s.1, .sh 1 (s.2.map ints)]] (.tup [.b true, .i 0]) := by
  refine fun_impl_IsPure (by simp) ?_
  simp -implicitDefEqProofs only [go_sem, evR, ints, rows, rat, rats, c_impl_IsPure]
  have hq := isStr_t (impl_IsStrategy_ok g s hg hs)
  rw [hb] at hq
  refine CallW.pure hq [] rfl Try.call91 ?_ (by first | trivial | simp [T.noSh, T.noShL, rat]) rfl ?_
  · simp -implicitDefEqProofs only [agR, Nat.reduceLeDiff, Nat.reduceSub, vaR, go_sem, ints, rows, rat, rats, ratsO, rtR, intsO, rowsO]
  simp -implicitDefEqProofs only [go_sem, evR, ints, rows, rat, rats]
  have hq := slices_ContainsFunc_pure s.2 hm h
  simp only [rows] at hq
  refine CallW.pure hq [] rfl Try.call135 ?_ (by first | trivial | simp [T.noSh, T.noShL, rat]) rfl ?_
  · simp -implicitDefEqProofs only [agR, Nat.reduceLeDiff, Nat.reduceSub, vaR, go_sem, ints, rows, rat, rats, ratsO, rtR, intsO, rowsO]
  simp -implicitDefEqProofs only [go_sem, evR, ints, rows, rat, rats]
theorem impl_GameNumber_ok (g : Gm) (s t : Int × List (List Int)) (hg : gameL g) (hs : rowsL s.2) (ht : rowsL t.2) (h : pairG g s t = true) : Pure Try.prog 68 [.agg [.sh 5 (chunk nodeC g.nd), .sh 1 (g.w.map ints), .sh 1 (g.v.map ints)], .agg [.i s.1, .sh 1 (s.2.map ints)], .agg [.i t.1, .sh 1 (t.2.map ints)]] (tr3 (gnum g s.2 t.2, unit g, 0)) := by
  obtain ⟨q1, q2, q3, q4, q5⟩ := pairG_iff.1 h
  rw [q2] at q4
  rw [q3] at q5
  refine fun_impl_GameNumber (by simp) ?_
  simp -implicitDefEqProofs only [go_sem, evR, ints, rows, rat, rats, c_impl_GameNumber]
  have hq := pair_t (impl_arePair_ok g s t hg hs ht)
  rw [h] at hq
  refine CallW.pure hq [] rfl Try.call120 ?_ (by first | trivial | simp [T.noSh, T.noShL, rat]) rfl ?_
  · simp -implicitDefEqProofs only [agR, Nat.reduceLeDiff, Nat.reduceSub, vaR, go_sem, ints, rows, rat, rats, ratsO, rtR, intsO, rowsO]
  simp -implicitDefEqProofs only [go_sem, evR, ints, rows, rat, rats]
  have hq := vb_t (impl_gameNumber_ok (s := s) (t := t) q1 (partsOK_of q4) (partsOK_of q5))
  refine CallV.pure hq [] rfl Try.call121 (fun e R' hR => ?_) (by first | trivial | simp [T.noSh, T.noShL, rat]) (fun _ => rfl) ?_
  · simp -implicitDefEqProofs only [agR, Nat.reduceLeDiff, Nat.reduceSub, vaR, go_sem, ints, rows, rat, rats, ratsO, rtR, intsO, rowsO]
  simp -implicitDefEqProofs only [go_sem, evR, ints, rows, rat, rats]
  refine CallV.pure (unit_t (impl_unitOf_ok g q1)) [] rfl Try.call130 (fun e R' hR => ?_) (by first | trivial | simp [T.noSh, T.noShL, rat]) (fun _ => rfl) ?_
  · simp -implicitDefEqProofs only [agR, Nat.reduceLeDiff, Nat.reduceSub, vaR, go_sem, ints, rows, rat, rats, ratsO, rtR, intsO, rowsO]
  simp -implicitDefEqProofs only [go_sem, evR, ints, rows, rat, rats, tr3]
set_option maxRecDepth 20000 in
theorem impl_uniformStrategy_ok (g : Gm) (hg : isGameB g = true) (pl : Int) (hpl : pl = 0 ∨ pl = 1) : Fun Try.prog 137 [] [.t (.agg [.sh 5 (chunk nodeC g.nd), .sh 1 (g.w.map ints), .sh 1 (g.v.map ints)]), .t (.i pl)] fun o r => o = [] ∧ r = .agg [.i pl, .arr 1 ((uniL g pl).map intsO)] := by
  obtain ⟨p1, p2, p3, p4, p5⟩ := isGameB_parts hg
  obtain ⟨t1, t2, t3, t4⟩ := isTreeB_spec p1
  have hsl := sets_len g pl t1.2 p2.2
  refine fun_impl_uniformStrategy_h (by simp) ?_
  simp -implicitDefEqProofs only [go_sem, evR, ints, rows, rat, rats, c_impl_uniformStrategy_h, opR, Nat.reduceBEq]
  have hp := infoSets_t g pl t1.2 p2.2
  simp only [rowsO] at hp
  refine CallW.res hp [] rfl Try.call152 ?_ (.inl rfl) ?_
  · simp -implicitDefEqProofs only [agR, Nat.reduceLeDiff, Nat.reduceSub, vaR, go_sem, ints, rows, rat, rats, ratsO, rtR, intsO, rowsO]
  simp -implicitDefEqProofs only [clR, Nat.reduceLeDiff, go_sem, evR, rat]
  refine SemC.loopR (σ := Nat) (fun i => St.of [(2, .own 2), (4, .own 4), (5, .own 5), (12, .t (rows (sets g pl))), (13, .t (.i (sets g pl).length)), (14, .t (.i i))] [(2, .box [nodes g.nd, rows g.w, rows g.v]), (4, .box [.i 0, .v (.slice none 0 0)]), (5, .box [.i pl, rowsO ((uniL g pl).take i)])]) (fun i => i ≤ (sets g pl).length) (fun i => (sets g pl).length - i) 0 (Weak.trans (Weak.share 12 rfl) (Weak.of _ _ [some 2, some 4, some 5] (by simp) (by simp) ?_ ?_)) (by simp) fun i hi R hn hr he => ?_
  · simp -implicitDefEqProofs only [ints, rows, Nat.reduceBEq, wkR, Nat.reduceEqDiff, ↓reduceIte, wrR, shareA, T.toSh, toShL_intsO, nodes]
  · exact ⟨⟨_, rfl, .refl _⟩, rfl, ⟨_, rfl, .refl _⟩, rfl, ⟨_, rfl, .box rfl fun j h1 h2 => (match j, h1 with | 0, _ => .refl _ | 1, _ => .nilArr _)⟩, rfl, trivial⟩
  rcases Nat.lt_or_ge i (sets g pl).length with h9 | h9
  · obtain ⟨b1, b2⟩ := size_bound hg hpl h9
    obtain ⟨a1, a2, a3, a4, a5, a6⟩ := set_parts h9
    obtain ⟨x, hx⟩ : ∃ x, g.nd[setN g pl i]? = some x := ⟨_, List.getElem?_eq_getElem a2⟩
    have hxd : g.nd.getD (setN g pl i) nd0 = x := by rw [List.getD_eq_getElem?_getD, hx]; rfl
    rw [hxd] at a5
    have hlt : ((uniL g pl).take i).length = i := by rw [List.length_take, uniL_length]; omega
    simp -implicitDefEqProofs only [go_sem, evR, ints, rows, rat, rats, a1, decide_eq_true (show (i : Int) < ((sets g pl).length : Int) by omega)]
    repeat (first | refine ⟨by omega, ?_⟩ | refine ⟨by rw [nd_len]; omega, ?_⟩)
    refine ⟨_, Weak.open 5 1 501 rfl rfl rfl (by decide) rfl, ?_⟩
    simp -implicitDefEqProofs only [go_sem, evR, ints, rows, rat, rats, nodes, rowsO, nd_get4 hx, ← a5, made_one, List.getElem?_cons_zero, List.getElem?_cons_succ]
    repeat (first | refine ⟨by omega, ?_⟩ | refine ⟨by rw [nd_len]; omega, ?_⟩)
    rw [show List.replicate (sizeAt g pl i) (T.v (.int .i64 0)) = (List.replicate (sizeAt g pl i) 0).map T.i by rw [List.map_replicate]]
    have hq := impl_partsOf_ok _ (weights0 b1 b2)
    simp only [ints, intsO] at hq
    refine CallC.res hq [30] rfl Try.call193 (fun e R' hR => ?_) (.inr (intsO_noSh _)) ?_
    · have hq30 := (hR 30).resolve_left (by simp -implicitDefEqProofs only [go_sem, evR, ints, rows, rat, rats, not_false_eq_true])
      simp -implicitDefEqProofs only [go_sem, evR, ints, rows, rat, rats] at hq30
      simp -implicitDefEqProofs only [agR, Nat.reduceLeDiff, Nat.reduceSub, vaR, go_sem, ints, rows, rat, rats, ratsO, rtR, intsO, rowsO, hq30]
    simp -implicitDefEqProofs only [clR, Nat.reduceLeDiff, go_sem, evR, rat, opR, Nat.reduceBEq]
    refine ⟨⟨by omega, hn _ (i + 1) (Weak.of _ _ [some 2, some 4, some 5] (by simp) (by simp) ?_ ?_) (by omega) (by omega)⟩, ((frameOK.refl _ _ _).upd _ (.inl (by simp))).upd _ (.inr rfl)⟩
    · simp -implicitDefEqProofs only [ints, rows, Nat.reduceBEq, wkR, Nat.reduceEqDiff, ↓reduceIte, wrR, nodes, next64 h9 (by omega)]
    · refine ⟨⟨_, rfl, .refl _⟩, rfl, ⟨_, rfl, .refl _⟩, rfl, ⟨_, rfl, ?_⟩, rfl, trivial⟩
      rw [uniL_take h9, rowsO, List.map_append]; exact .refl _
  · simp -implicitDefEqProofs only [go_sem, evR, ints, rows, rat, rats, decide_eq_false (show ¬ (i : Int) < ((sets g pl).length : Int) by omega), opR, Nat.reduceBEq]
    refine he _ _ ?_
    simp -implicitDefEqProofs only [go_sem, evR, ints, rows, rat, rats, rowsO, opR, Nat.reduceBEq]
    rw [List.take_of_length_le (by rw [uniL_length]; exact h9)]
theorem impl_UniformStrategy_ok (g : Gm) (hgl : gameL g) (hg : isGameB g = true) (pl : Int) (hpl : pl = 0 ∨ pl = 1) : Fun Try.prog 67 [] [.t (.agg [.sh 5 (chunk nodeC g.nd), .sh 1 (g.w.map ints), .sh 1 (g.v.map ints)]), .t (.i pl)] fun o r => o = [] ∧ r = .tup [.agg [.i pl, .arr 1 ((uniL g pl).map intsO)], .i 0] := by
  refine fun_impl_UniformStrategy (by simp) ?_
  simp -implicitDefEqProofs only [go_sem, evR, ints, rows, rat, rats, c_impl_UniformStrategy, opR, Nat.reduceBEq]
  have hq := isGame_t (impl_IsGame_ok g hgl)
  rw [hg] at hq
  refine CallW.pure hq [] rfl Try.call115 ?_ (by first | trivial | simp [T.noSh, T.noShL, rat]) rfl ?_
  · simp -implicitDefEqProofs only [agR, Nat.reduceLeDiff, Nat.reduceSub, vaR, go_sem, ints, rows, rat, rats, ratsO, rtR, intsO, rowsO]
  simp -implicitDefEqProofs only [go_sem, evR, ints, rows, rat, rats]
  have hq := impl_within_ok pl 0 1
  rw [decide_eq_true (show 0 ≤ pl ∧ pl ≤ 1 by omega)] at hq
  refine CallW.pure hq [] rfl Try.call110 ?_ (by first | trivial | simp [T.noSh, T.noShL, rat]) rfl ?_
  · simp -implicitDefEqProofs only [agR, Nat.reduceLeDiff, Nat.reduceSub, vaR, go_sem, ints, rows, rat, rats, ratsO, rtR, intsO, rowsO]
  simp -implicitDefEqProofs only [go_sem, evR, ints, rows, rat, rats, opR, Nat.reduceBEq]
  refine CallW.res (impl_uniformStrategy_ok g hg pl hpl) [] rfl Try.call137 ?_ (.inl rfl) ?_
  · simp -implicitDefEqProofs only [agR, Nat.reduceLeDiff, Nat.reduceSub, vaR, go_sem, ints, rows, rat, rats, ratsO, rtR, intsO, rowsO]
  simp -implicitDefEqProofs only [clR, Nat.reduceLeDiff, go_sem, evR, rat, opR, Nat.reduceBEq]
end
end Go.Ab

/- Games as data: the strategies of a run are strategies; its numbers stay small. -/
set_option linter.unusedSimpArgs false
set_option linter.unusedVariables false
namespace Go.Ab

theorem mem_le_foldl : ∀ (l : List Int) (a : Int), ∀ x ∈ l, x ≤ l.foldl max a
  | [], _ => by simp
  | y :: l, a => by
    intro x hx
    rw [List.foldl_cons]
    rcases List.mem_cons.1 hx with rfl | hx
    · have := foldl_max_ge l (max a x); omega
    · exact mem_le_foldl l _ x hx
theorem hvd_le : ∀ (f : Nat) (l : List Int), okW (W f) l → ∀ x ∈ hvd f l, 0 ≤ x ∧ x ≤ 1000000000
  | 0, l, h => fun x hx => by
    have h1 := h x hx
    have h2 : W 0 = 536870912 := rfl
    omega
  | f + 1, l, h => by
    rw [hvd]
    split
    · rename_i hm
      intro x hx
      have h1 : x ≤ mx0 l := mem_le_foldl l 0 x hx
      exact ⟨(h x hx).1, by omega⟩
    · exact hvd_le f (half l) (okW_half (by rw [← W_succ]; exact h))
theorem posL_ok {l : List Int} {B : Int} (h : ∀ x ∈ l, -B ≤ x ∧ x ≤ B) (hB : B < 9223372036854775808) : okW 9223372036854775808 (posL l) := by
  intro x hx
  obtain ⟨y, hy, rfl⟩ := List.mem_map.1 hx
  have := h y hy
  omega
theorem W34 : W 34 = 9223372036854775808 := by
  unfold W
  have h2 : (2 : Nat) ^ 63 = 9223372036854775808 := by decide
  omega
theorem rowW_ok {l : List Int} {B : Int} (h : ∀ x ∈ l, -B ≤ x ∧ x ≤ B) (hB : B < 9223372036854775808) (h1 : 1 ≤ l.length) (h4 : l.length ≤ 4) : weightsOK (hvd 34 (posL l)) := by
  refine ⟨?_, ?_, ?_⟩
  · rw [hvd_length]; simpa [posL] using h1
  · rw [hvd_length]; simpa [posL] using h4
  · exact hvd_le 34 _ (by rw [W34]; exact posL_ok h hB)
theorem mul_gt_neg {t q : Int} (ht : 0 < t) (h : -t < t * q) : 0 ≤ q := by
  rcases Int.lt_or_le q 0 with h1 | h1
  · have : t * q ≤ t * (-1) := Int.mul_le_mul_of_nonneg_left (by omega) (by omega)
    omega
  · exact h1
theorem sum_part {l : List Int} (h : ∀ x ∈ l, 0 ≤ x) : ∀ x ∈ l, x ≤ l.sum := by
  induction l with
  | nil => simp
  | cons y l ih =>
    intro x hx
    have h0 := sum_nonneg' (w := l) fun z hz => h z (by simp [hz])
    rw [List.sum_cons]
    rcases List.mem_cons.1 hx with rfl | hx
    · omega
    · have h1 := ih (fun z hz => h z (by simp [hz])) x hx
      have h2 := h y (by simp)
      omega
theorem ham1_parts {w : List Int} (hw : ∀ x ∈ w, 0 ≤ x) (ht : 0 < w.sum) : ∀ x ∈ ham1 w, 0 ≤ x ∧ x ≤ 60 := by
  obtain ⟨h1, h2, h3⟩ := ham1_spec hw ht
  have h0 : ∀ x ∈ ham1 w, 0 ≤ x := fun x hx => by
    obtain ⟨i, hi, rfl⟩ := List.mem_iff_getElem.1 hx
    have hiw : i < w.length := by omega
    have h4 := (h3 i hiw).1
    have h5 : (ham1 w).getD i 0 = (ham1 w)[i] := by rw [List.getD_eq_getElem?_getD, List.getElem?_eq_getElem hi]; rfl
    have h6 : 0 ≤ w.getD i 0 := by rw [List.getD_eq_getElem?_getD, List.getElem?_eq_getElem hiw]; exact hw _ (List.getElem_mem hiw)
    rw [h5] at h4
    exact mul_gt_neg ht (by omega)
  intro x hx
  have := sum_part h0 x hx
  exact ⟨h0 x hx, by omega⟩
theorem ham_parts {w : List Int} (hw : ∀ x ∈ w, 0 ≤ x) (hl : 1 ≤ w.length) : ∀ x ∈ ham w, 0 ≤ x ∧ x ≤ 60 := by
  have h0 := sum_nonneg' hw
  unfold ham
  split
  · exact ham1_parts (fun x hx => by simp [onesL] at hx; omega) (by rw [ones_sum]; omega)
  · exact ham1_parts hw (by omega)
theorem rowP_spec {l : List Int} {B : Int} (h : ∀ x ∈ l, -B ≤ x ∧ x ≤ B) (hB : B < 9223372036854775808) (h1 : 1 ≤ l.length) (h4 : l.length ≤ 4) : (rowP l).length = l.length ∧ (∀ x ∈ rowP l, 0 ≤ x ∧ x ≤ 60) ∧ sumI (rowP l) = 60 := by
  have hw := rowW_ok h hB h1 h4
  have hs := ham_spec (fun x hx => (hw.2.2 x hx).1) hw.1
  refine ⟨?_, ham_parts (fun x hx => (hw.2.2 x hx).1) hw.1, by rw [sumI_eq]; exact hs.2.1⟩
  show (ham _).length = _
  rw [hs.1, hvd_length]; simp [posL]
theorem stM_length (m : List (List Int)) : (stM m).length = m.length := by simp [stM]
theorem stM_get {m : List (List Int)} {i : Nat} {r : List Int} (h : m[i]? = some r) : (stM m)[i]? = some (rowP r) := by simp [stM, h]
theorem stM_strat {g : Gm} (hg : isGameB g = true) {pl B : Int} (hpl : pl = 0 ∨ pl = 1) {m : List (List Int)} (h : okM g pl B m) (hB : B < 9223372036854775808) : isStratB g pl (stM m) = true := by
  rw [isStratB_iff]
  refine ⟨by rw [stM_length]; exact h.1, fun i hi => ?_⟩
  obtain ⟨r, hr, _, hl, hb⟩ := okM_get h hi
  obtain ⟨b1, b2⟩ := size_bound hg hpl hi
  obtain ⟨q1, q2, q3⟩ := rowP_spec hb hB (by omega) (by omega)
  rw [List.getD_eq_getElem?_getD, stM_get hr, Option.getD_some, partOK_iff]
  refine ⟨by omega, List.all_eq_true.2 fun x hx => by simpa using q2 x hx, by rw [← sumI_eq]; exact q3⟩
end Go.Ab

/- Games as data: what the laws of runs say. -/
set_option linter.unusedSimpArgs false
set_option linter.unusedVariables false
namespace Go.Ab

theorem posL_zero (n : Nat) : posL (List.replicate n 0) = List.replicate n 0 := by simp [posL]
theorem mx0_zero (n : Nat) : mx0 (List.replicate n 0) = 0 := by
  have h1 := mx0_le (l := List.replicate n 0) (b := 0) (by omega) (fun x hx => by rw [List.eq_of_mem_replicate hx]; omega)
  have h2 := mx0_nonneg (List.replicate n 0)
  omega
theorem stM_zero (g : Gm) (pl : Int) : stM (zeroM g pl) = uniL g pl := by
  rw [stM, zeroM, uniL, List.map_map]
  refine List.map_congr_left fun i _ => ?_
  show ham (hvd 34 (posL (List.replicate (sizeAt g pl i) 0))) = _
  rw [posL_zero, hvd, if_pos (by rw [mx0_zero]; decide)]
end Go.Ab

/- Games as data: what the laws of best responses, bounds and claims say. -/
set_option linter.unusedSimpArgs false
set_option linter.unusedVariables false
namespace Go.Ab

theorem uniL_ok {g : Gm} (hg : isGameB g = true) {pl : Int} (hpl : pl = 0 ∨ pl = 1) : isStratB g pl (uniL g pl) = true := by
  rw [← stM_zero]
  exact stM_strat hg hpl (zeroM_ok g pl) (by decide)
theorem maxL_60 {r : List Int} (h : (60 : Int) ∈ r) : ¬ maxL r < 60 := by
  have := (maxL_spec (List.ne_nil_of_mem h)).1 _ h
  omega
theorem bestS_pure {g : Gm} {s : Int × List (List Int)} (h : strB g s = true) : strB g (bestS g s) = true ∧ ∀ r ∈ (bestS g s).2, r ≠ [] ∧ ¬ maxL r < 60 := by
  refine ⟨bestS_strB h, fun r hr => ?_⟩
  obtain ⟨h1, h2, h3⟩ := strB_parts h
  have := runB_pure h1 s.2 (pl := 1 - s.1) (by omega) r hr
  exact ⟨List.ne_nil_of_mem this, maxL_60 this⟩
theorem best_first {g : Gm} {s : Int × List (List Int)} (h : strB g s = true) (h1 : s.1 = 1) : pairG g (bestS g s) s = true ∧ gnum g (bestS g s).2 s.2 = bestN g s ∧ pairG g (0, uniL g 0) s = true ∧ gnum g (uniL g 0) s.2 ≤ bestN g s := by
  obtain ⟨p1, p2, p3⟩ := strB_parts h
  have p4 := (strB_parts (bestS_strB h)).2.2
  have e1 : (bestS g s).1 = 0 := by show 1 - s.1 = 0; omega
  rw [h1] at p3
  rw [e1] at p4
  have e2 : bestN g s = runV g s.2 0 g.w.length := by rw [bestN, h1]; rfl
  have e3 : (bestS g s).2 = runB g s.2 0 g.w.length := by show runB g s.2 (1 - s.1) g.w.length = _; rw [h1]; rfl
  refine ⟨pairG_iff.2 ⟨p1, e1, h1, by rw [e1]; exact p4, by rw [h1]; exact p3⟩, by rw [e2, e3]; exact runB_first p1 (partsOK_of p3), pairG_iff.2 ⟨p1, rfl, h1, uniL_ok p1 (.inl rfl), by rw [h1]; exact p3⟩, ?_⟩
  rw [e2]
  exact gnum_le p1 (partsOK_of (uniL_ok p1 (.inl rfl))) (partsOK_of p3)
theorem best_second {g : Gm} {s : Int × List (List Int)} (h : strB g s = true) (h0 : s.1 = 0) : pairG g s (bestS g s) = true ∧ -gnum g s.2 (bestS g s).2 = bestN g s ∧ pairG g s (1, uniL g 1) = true ∧ -gnum g s.2 (uniL g 1) ≤ bestN g s := by
  obtain ⟨p1, p2, p3⟩ := strB_parts h
  have p4 := (strB_parts (bestS_strB h)).2.2
  have e1 : (bestS g s).1 = 1 := by show 1 - s.1 = 1; omega
  rw [h0] at p3
  rw [e1] at p4
  have e2 : bestN g s = runV g s.2 1 g.w.length := by rw [bestN, h0]; rfl
  have e3 : (bestS g s).2 = runB g s.2 1 g.w.length := by show runB g s.2 (1 - s.1) g.w.length = _; rw [h0]; rfl
  refine ⟨pairG_iff.2 ⟨p1, h0, e1, by rw [h0]; exact p3, by rw [e1]; exact p4⟩, ?_, pairG_iff.2 ⟨p1, h0, rfl, by rw [h0]; exact p3, uniL_ok p1 (.inr rfl)⟩, ?_⟩
  · rw [e2, e3, runB_second p1 (partsOK_of p3)]; omega
  · have := gnum_ge p1 (partsOK_of p3) (partsOK_of (uniL_ok p1 (.inr rfl)))
    rw [e2]; omega
end Go.Ab

/- Contracts: drawn strategies, bounds and claims. -/
set_option linter.unusedSimpArgs false
set_option linter.unusedVariables false
namespace Go.Ab
open Go.Proofs
section
attribute [-go_sem] load1C load1V fldC lenC idxC loadNV nilCheckW
theorem spec_DrawBestNumber_w (cs : List Int) (hc : bytesOK cs) (hl : cs.length ≤ 100000000000) : Fun Try.prog 62 [] [.t (bytes cs)] fun o r => ∃ x : Gm × (Int × List (List Int)), o = [] ∧ r = dr2T x ∧ (smallG x.1 ∧ smallS x.2.2) := by
  refine fun_spec_DrawBestNumber (by simp) ?_
  simp -implicitDefEqProofs only [go_sem, evR, ints, rows, rat, rats, c_spec_DrawBestNumber]
  refine CallW.res (spec_l01From_ok cs hc (by omega)) [] rfl Try.call119 ?_ (.inl rfl) ?_
  · simp -implicitDefEqProofs only [agR, Nat.reduceLeDiff, Nat.reduceSub, vaR, go_sem, ints, rows, rat, rats, ratsO, rtR, intsO, rowsO]
  simp -implicitDefEqProofs only [clR, Nat.reduceLeDiff, go_sem, evR, rat, srcT]
  have hs0 := seed_from (cs.take 64)
  generalize fromS (cs.take 64) = sd at hs0 ⊢
  refine CallW.ref (next_box cs hc hl (0, sd) hs0 2 (by omega)) [6] [] rfl Try.call126 (by simp) ?_ (by simp) ?_ (.inl rfl) ?_
  · simp -implicitDefEqProofs only [srR, Nat.reduceEqDiff, ↓reduceIte, ints, rows, intsO, rowsO]
  · simp -implicitDefEqProofs only [agR, Nat.reduceLeDiff, Nat.reduceSub, vaR, go_sem, ints, rows, rat, rats, ratsO, rtR, intsO, rowsO]
  simp -implicitDefEqProofs only [clR, Nat.reduceLeDiff, go_sem, evR, rat]
  have hs1 := nextS_seed (cs := cs) hl hs0 2
  have hb1 := nextS_bound (cs := cs) (a := (0, sd)) (n := 2) (by omega)
  generalize nextS cs (0, sd) 2 = z at hs1 hb1 ⊢
  obtain ⟨k, f⟩ := z
  simp only [] at hs1 hb1 ⊢
  have hp := spec_l22Draw_w cs hc hl f hs1 k (by omega)
  simp only [dr2T] at hp
  refine CallW.exi hp [6] [] rfl Try.call133 (by simp) ?_ (by simp) ?_ (.inl rfl) (fun x hx => ?_)
  · simp -implicitDefEqProofs only [srR, Nat.reduceEqDiff, ↓reduceIte, ints, rows, intsO, rowsO]
  · simp -implicitDefEqProofs only [agR, Nat.reduceLeDiff, Nat.reduceSub, vaR, go_sem, ints, rows, rat, rats, ratsO, rtR, intsO, rowsO]
  simp -implicitDefEqProofs only [clR, Nat.reduceLeDiff, go_sem, evR, rat, opR, Nat.reduceBEq]
  exact ⟨x.1, rfl, hx.1, hx.2.1⟩
theorem spec_DrawBestResponse_w (cs : List Int) (hc : bytesOK cs) (hl : cs.length ≤ 100000000000) : Fun Try.prog 59 [] [.t (bytes cs)] fun o r => ∃ x : Gm × (Int × List (List Int)), o = [] ∧ r = dr2T x ∧ (smallG x.1 ∧ smallS x.2.2) := by
  refine fun_spec_DrawBestResponse (by simp) ?_
  simp -implicitDefEqProofs only [go_sem, evR, ints, rows, rat, rats, c_spec_DrawBestResponse]
  have hp := spec_DrawBestNumber_w cs hc hl
  simp only [dr2T] at hp
  refine CallW.exi hp [] [] rfl Try.call62 (by simp) ?_ (by simp) ?_ (.inl rfl) (fun x hx => ?_)
  · simp -implicitDefEqProofs only [srR, Nat.reduceEqDiff, ↓reduceIte, ints, rows, intsO, rowsO]
  · simp -implicitDefEqProofs only [agR, Nat.reduceLeDiff, Nat.reduceSub, vaR, go_sem, ints, rows, rat, rats, ratsO, rtR, intsO, rowsO]
  simp -implicitDefEqProofs only [clR, Nat.reduceLeDiff, go_sem, evR, rat, opR, Nat.reduceBEq]
  exact ⟨x, rfl, hx⟩
end
end Go.Ab

/- The law FnBestResponses. -/
set_option linter.unusedSimpArgs false
set_option linter.unusedVariables false
namespace Go.Ab
open Go.Proofs
section
attribute [-go_sem] load1C load1V fldC lenC idxC loadNV nilCheckW
theorem hideK {α : Type} {p : α → Prop} (k0 : α) (h : ∀ k, k0 = k → p k) : p k0 := h k0 rfl
def bnR (g : Gm) (s : Int × List (List Int)) : Int × Int × Int := if strB g s = true then (bestN g s, unit g, 0) else (0, 0, 1)
theorem bnumT_eq (g : Gm) (s : Int × List (List Int)) : bnumT g s = tr3 (bnR g s) := by
  unfold bnumT bnR
  split <;> rfl
set_option maxRecDepth 20000 in
theorem laws_FnBestResponses_ok (cs : List Int) (hc : bytesOK cs) : Pure Try.prog 13 [bytes cs] (.b true) := by
  refine fun_laws_FnBestResponses (by simp) ?_
  simp -implicitDefEqProofs only [go_sem, evR, ints, rows, rat, rats, c_laws_FnBestResponses]
  refine CallW.pure (laws_big_ok cs) [] rfl Try.call51 ?_ (by first | trivial | simp [T.noSh, T.noShL, rat]) rfl ?_
  · simp -implicitDefEqProofs only [agR, Nat.reduceLeDiff, Nat.reduceSub, vaR, go_sem, ints, rows, rat, rats, ratsO, rtR, intsO, rowsO]
  simp -implicitDefEqProofs only [go_sem, evR, ints, rows, rat, rats]
  refine ⟨fun _ => trivial, fun hbig => ?_⟩
  have hl : cs.length ≤ 4096 := by have : (cs.length : Int) ≤ 4096 := by simpa using hbig
                                   omega
  have hp := spec_DrawBestResponse_w cs hc (by omega)
  simp only [dr2T] at hp
  refine CallW.exi hp [] [] rfl Try.call59 (by simp) ?_ (by simp) ?_ (.inl rfl) (fun x hx => ?_)
  · simp -implicitDefEqProofs only [srR, Nat.reduceEqDiff, ↓reduceIte, ints, rows, intsO, rowsO]
  · simp -implicitDefEqProofs only [agR, Nat.reduceLeDiff, Nat.reduceSub, vaR, go_sem, ints, rows, rat, rats, ratsO, rtR, intsO, rowsO]
  refine hideK (p := fun k => afterCall _ _ _ _ _ (opsW _ _ _ k)) _ (fun kc hkc => ?_)
  simp -implicitDefEqProofs only [clR, Nat.reduceLeDiff, go_sem, evR, rat, opR, Nat.reduceBEq]
  rw [← hkc]
  clear hkc
  simp -implicitDefEqProofs only [go_sem, evR, ints, rows, rat, rats, opR, Nat.reduceBEq]
  obtain ⟨g, s⟩ := x
  obtain ⟨h1, h2⟩ := hx
  (try simp only [] at h1 h2)
  (try simp only [])
  have hg := smallG_L h1
  have hs := smallS_L h2
  have hbr := brR_rowsS g s
  have hq := impl_BestResponse_ok g s hg hs
  simp only [gameT, stratT, nodes, rows, brO, rowsO] at hq
  refine CallW.res hq [] rfl Try.call60 ?_ (.inl rfl) ?_
  · simp -implicitDefEqProofs only [agR, Nat.reduceLeDiff, Nat.reduceSub, vaR, go_sem, ints, rows, rat, rats, ratsO, rtR, intsO, rowsO]
  refine hideK (p := fun k => afterCall _ _ _ _ _ (opsW _ _ _ k)) _ (fun kc hkc => ?_)
  simp -implicitDefEqProofs only [clR, Nat.reduceLeDiff, go_sem, evR, rat, opR, Nat.reduceBEq]
  rw [← hkc]
  clear hkc
  simp -implicitDefEqProofs only [go_sem, evR, ints, rows, rat, rats, opR, Nat.reduceBEq]
  have hq := spec_BestResponse_ok g s hg hs
  simp only [gameT, stratT, nodes, rows, brO, rowsO] at hq
  refine CallW.res hq [] rfl Try.call61 ?_ (.inl rfl) ?_
  · simp -implicitDefEqProofs only [agR, Nat.reduceLeDiff, Nat.reduceSub, vaR, go_sem, ints, rows, rat, rats, ratsO, rtR, intsO, rowsO]
  refine hideK (p := fun k => afterCall _ _ _ _ _ (opsW _ _ _ k)) _ (fun kc hkc => ?_)
  simp -implicitDefEqProofs only [clR, Nat.reduceLeDiff, go_sem, evR, rat, opR, Nat.reduceBEq]
  rw [← hkc]
  clear hkc
  simp -implicitDefEqProofs only [go_sem, evR, ints, rows, rat, rats, opR, Nat.reduceBEq]
  refine CallW.weak (Weak.trans (Weak.share 3 rfl) (Weak.trans (Weak.share 4 rfl) (Weak.trans (Weak.share 5 rfl) (Weak.trans (Weak.share 7 rfl) (Weak.of [(0, .t (bytes cs)), (3, .t (.pin [.sh 5 (chunk nodeC g.nd), rows g.w, rows g.v] 0)), (4, .t (.pin [.i s.1, rows s.2] 0)), (5, .t (.pin [.i (brR g s).1.1, rows (brR g s).1.2] 0)), (6, .t (.i (brR g s).2)), (7, .t (.pin [.i (brR g s).1.1, rows (brR g s).1.2] 0)), (8, .t (.i (brR g s).2)), (56, .t (bytes cs))] [] [] (by simp) (by simp) ?_ ?_))))) ?_
  · simp -implicitDefEqProofs only [ints, rows, Nat.reduceBEq, wkR, Nat.reduceEqDiff, ↓reduceIte, wrR, shareA, T.toSh, T.toShL, nodes, toShL_intsO]
  · exact trivial
  have hp := spec_DrawBestNumber_w cs hc (by omega)
  simp only [dr2T] at hp
  refine CallW.exi hp [] [] rfl Try.call62 (by simp) ?_ (by simp) ?_ (.inl rfl) (fun x hx => ?_)
  · simp -implicitDefEqProofs only [srR, Nat.reduceEqDiff, ↓reduceIte, ints, rows, intsO, rowsO]
  · simp -implicitDefEqProofs only [agR, Nat.reduceLeDiff, Nat.reduceSub, vaR, go_sem, ints, rows, rat, rats, ratsO, rtR, intsO, rowsO]
  refine hideK (p := fun k => afterCall _ _ _ _ _ (opsW _ _ _ k)) _ (fun kc hkc => ?_)
  simp -implicitDefEqProofs only [clR, Nat.reduceLeDiff, go_sem, evR, rat, opR, Nat.reduceBEq, nodes, rows]
  rw [← hkc]
  clear hkc
  simp -implicitDefEqProofs only [go_sem, evR, ints, rows, rat, rats, opR, Nat.reduceBEq, nodes]
  obtain ⟨h, r⟩ := x
  obtain ⟨h3, h4⟩ := hx
  (try simp only [] at h3 h4)
  (try simp only [])
  have hq := impl_BestNumber_ok h r (smallG_L h3) (smallS_L h4)
  simp only [gameT, stratT, nodes, rows, bnumT_eq, tr3] at hq
  refine CallW.pure hq [] rfl Try.call63 ?_ (by first | trivial | simp [T.noSh, T.noShL, rat]) rfl ?_
  · simp -implicitDefEqProofs only [agR, Nat.reduceLeDiff, Nat.reduceSub, vaR, go_sem, ints, rows, rat, rats, ratsO, rtR, intsO, rowsO]
  simp -implicitDefEqProofs only [go_sem, evR, ints, rows, rat, rats]
  have hq := spec_BestNumber_ok h r (smallG_L h3) (smallS_L h4)
  simp only [gameT, stratT, nodes, rows, bnumT_eq, tr3] at hq
  refine CallW.pure hq [] rfl Try.call64 ?_ (by first | trivial | simp [T.noSh, T.noShL, rat]) rfl ?_
  · simp -implicitDefEqProofs only [agR, Nat.reduceLeDiff, Nat.reduceSub, vaR, go_sem, ints, rows, rat, rats, ratsO, rtR, intsO, rowsO]
  simp -implicitDefEqProofs only [go_sem, evR, ints, rows, rat, rats, bne_self_eq_false]
  refine CallW.pure (laws_likeStrategies_self (brR g s).1 (rowsS_12 hbr)) [] rfl Try.call65 ?_ (by first | trivial | simp [T.noSh, T.noShL, rat]) rfl ?_
  · simp -implicitDefEqProofs only [agR, Nat.reduceLeDiff, Nat.reduceSub, vaR, go_sem, ints, rows, rat, rats, ratsO, rtR, intsO, rowsO]
  simp -implicitDefEqProofs only [go_sem, evR, ints, rows, rat, rats, bne_self_eq_false, not_true_eq_false, decide_false]
  rcases Bool.eq_false_or_eq_true (strB g s) with hsb | hsb
  · have e1 : brR g s = (bestS g s, 0) := by rw [brR, if_pos hsb]
    have e2 : bnR g s = (bestN g s, unit g, 0) := by rw [bnR, if_pos hsb]
    obtain ⟨k1, k2, k3⟩ := strB_parts hsb
    obtain ⟨k4, k5⟩ := bestS_pure hsb
    have hbr : rowsS (bestS g s).2 := bestS_rowsS hsb
    rw [e1]
    refine ⟨fun h => by simp at h, fun _ => ?_⟩
    have hq := impl_BestNumber_ok g s hg hs
    simp only [gameT, stratT, nodes, rows, bnumT_eq, tr3, e2] at hq
    refine CallW.pure hq [] rfl Try.call63 ?_ (by first | trivial | simp [T.noSh, T.noShL, rat]) rfl ?_
    · simp -implicitDefEqProofs only [agR, Nat.reduceLeDiff, Nat.reduceSub, vaR, go_sem, ints, rows, rat, rats, ratsO, rtR, intsO, rowsO]
    simp -implicitDefEqProofs only [go_sem, evR, ints, rows, rat, rats]
    have hb12 := rowsS_12 hbr
    have hbl : rowsL (bestS g s).2 := ⟨Nat.le_trans hb12.1 (by decide), fun r hr => Nat.le_trans (hb12.2 r hr) (by decide)⟩
    refine CallW.pure (impl_IsPure_yes g (bestS g s) hg hbl (by have := hbr.1; omega) (fun r hr => ⟨(k5 r hr).1, by have := tot_mem hr; have := hbr.2; omega, (k5 r hr).2⟩) k4) [] rfl Try.call66 ?_ (by first | trivial | simp [T.noSh, T.noShL, rat]) rfl ?_
    · simp -implicitDefEqProofs only [agR, Nat.reduceLeDiff, Nat.reduceSub, vaR, go_sem, ints, rows, rat, rats, ratsO, rtR, intsO, rowsO]
    simp -implicitDefEqProofs only [go_sem, evR, ints, rows, rat, rats]
    have hw : IntKind.i64.wrap (1 - s.1) = 1 - s.1 := wrap64 (by omega) (by omega)
    rw [hw]
    have hu := impl_UniformStrategy_ok g hg k1 (1 - s.1) (by omega)
    refine CallW.res hu [] rfl Try.call67 ?_ (.inl rfl) ?_
    · simp -implicitDefEqProofs only [agR, Nat.reduceLeDiff, Nat.reduceSub, vaR, go_sem, ints, rows, rat, rats, ratsO, rtR, intsO, rowsO]
    refine hideK (p := fun k => afterCall _ _ _ _ _ (opsW _ _ _ k)) _ (fun kc hkc => ?_)
    simp -implicitDefEqProofs only [clR, Nat.reduceLeDiff, go_sem, evR, rat, hw, bne_self_eq_false, show (bestS g s).1 = 1 - s.1 from rfl, opR, Nat.reduceBEq]
    rw [← hkc]
    clear hkc
    simp -implicitDefEqProofs only [go_sem, evR, ints, rows, rat, rats, hw, bne_self_eq_false, show (bestS g s).1 = 1 - s.1 from rfl, opR, Nat.reduceBEq]
    refine ⟨fun h => ?_, fun h => ?_⟩
    · have h1 : s.1 = 1 := by simpa using h
      have hu0 : 1 - s.1 = 0 := by omega
      have hb0 : (bestS g s).1 = 0 := hu0
      obtain ⟨z1, z2, z3, z4⟩ := best_first hsb h1
      refine CallW.weak (Weak.trans (Weak.share 22 rfl) (Weak.of [(3, .t (.pin [.sh 5 (chunk nodeC g.nd), rows g.w, rows g.v] 0)), (4, .t (.pin [.i s.1, rows s.2] 0)), (5, .t (.pin [.i (bestS g s).1, rows (bestS g s).2] 0)), (17, .t (.i (bestN g s))), (22, .t (.pin [.i 0, rows (uniL g 0)] 0)), (147, .t (.agg [.sh 5 (chunk nodeC g.nd), rows g.w, rows g.v])), (148, .t (.agg [.i (bestS g s).1, rows (bestS g s).2])), (149, .t (.agg [.i s.1, rows s.2]))] [] [] (by simp) (by simp) ?_ ?_)) ?_
      · simp -implicitDefEqProofs only [ints, rows, Nat.reduceBEq, wkR, Nat.reduceEqDiff, ↓reduceIte, wrR, shareA, T.toSh, T.toShL, nodes, toShL_intsO, hu0, hb0]
      · exact trivial
      have hq := impl_GameNumber_ok g (bestS g s) s hg hbl hs z1
      simp only [tr3] at hq
      refine CallW.pure hq [] rfl Try.call68 ?_ (by first | trivial | simp [T.noSh, T.noShL, rat]) rfl ?_
      · simp -implicitDefEqProofs only [agR, Nat.reduceLeDiff, Nat.reduceSub, vaR, go_sem, ints, rows, rat, rats, ratsO, rtR, intsO, rowsO]
      simp -implicitDefEqProofs only [go_sem, evR, ints, rows, rat, rats, nodes]
      have hul : rowsL (uniL g 0) := smallS_L (uniL_small k1 (.inl rfl))
      have hq := impl_GameNumber_ok g (0, uniL g 0) s hg hul hs z3
      simp only [tr3] at hq
      refine CallW.pure hq [] rfl Try.call68 ?_ (by first | trivial | simp [T.noSh, T.noShL, rat]) rfl ?_
      · simp -implicitDefEqProofs only [agR, Nat.reduceLeDiff, Nat.reduceSub, vaR, go_sem, ints, rows, rat, rats, ratsO, rtR, intsO, rowsO]
      simp -implicitDefEqProofs only [go_sem, evR, ints, rows, rat, rats, z2, decide_eq_true z4, beq_self_eq_true]
    · have h1 : s.1 = 0 := by have : s.1 ≠ 1 := by simpa using h
                              omega
      have hu0 : 1 - s.1 = 1 := by omega
      have hb0 : (bestS g s).1 = 1 := hu0
      obtain ⟨z1, z2, z3, z4⟩ := best_second hsb h1
      refine CallW.weak (Weak.trans (Weak.share 22 rfl) (Weak.of [(3, .t (.pin [.sh 5 (chunk nodeC g.nd), rows g.w, rows g.v] 0)), (4, .t (.pin [.i s.1, rows s.2] 0)), (5, .t (.pin [.i (bestS g s).1, rows (bestS g s).2] 0)), (17, .t (.i (bestN g s))), (22, .t (.pin [.i 1, rows (uniL g 1)] 0)), (179, .t (.agg [.sh 5 (chunk nodeC g.nd), rows g.w, rows g.v])), (180, .t (.agg [.i s.1, rows s.2])), (181, .t (.agg [.i (bestS g s).1, rows (bestS g s).2]))] [] [] (by simp) (by simp) ?_ ?_)) ?_
      · simp -implicitDefEqProofs only [ints, rows, Nat.reduceBEq, wkR, Nat.reduceEqDiff, ↓reduceIte, wrR, shareA, T.toSh, T.toShL, nodes, toShL_intsO, hu0, hb0]
      · exact trivial
      have hq := impl_GameNumber_ok g s (bestS g s) hg hs hbl z1
      simp only [tr3] at hq
      refine CallW.pure hq [] rfl Try.call68 ?_ (by first | trivial | simp [T.noSh, T.noShL, rat]) rfl ?_
      · simp -implicitDefEqProofs only [agR, Nat.reduceLeDiff, Nat.reduceSub, vaR, go_sem, ints, rows, rat, rats, ratsO, rtR, intsO, rowsO]
      simp -implicitDefEqProofs only [go_sem, evR, ints, rows, rat, rats, nodes]
      have hul : rowsL (uniL g 1) := smallS_L (uniL_small k1 (.inr rfl))
      have hq := impl_GameNumber_ok g s (1, uniL g 1) hg hs hul z3
      simp only [tr3] at hq
      refine CallW.pure hq [] rfl Try.call68 ?_ (by first | trivial | simp [T.noSh, T.noShL, rat]) rfl ?_
      · simp -implicitDefEqProofs only [agR, Nat.reduceLeDiff, Nat.reduceSub, vaR, go_sem, ints, rows, rat, rats, ratsO, rtR, intsO, rowsO]
      simp -implicitDefEqProofs only [go_sem, evR, ints, rows, rat, rats, z2, decide_eq_true z4, beq_self_eq_true]
      have hn := bestN_abs hsb
      obtain ⟨y1, y2, y3⟩ := pair_parts z3
      have hm := gnum_abs y1 y2 y3
      (try simp only [] at hm z4)
      rw [wrap64 (n := 0 - gnum g s.2 (bestS g s).2) (by omega) (by omega), wrap64 (n := 0 - gnum g s.2 (uniL g 1)) (by omega) (by omega), Int.zero_sub, Int.zero_sub, z2, decide_eq_true z4]
      exact ⟨fun _ => rfl, fun h => by simp at h⟩
  · have e1 : brR g s = ((0, []), 1) := by rw [brR, hsb]; rfl
    rw [e1]
    exact ⟨fun _ => trivial, fun h => by simp at h⟩
end
end Go.Ab

set_option linter.unusedSimpArgs false
set_option linter.unusedVariables false
namespace Go.Proofs.Ytkmmkgpnlmdcfaa
open Go.ChangeShapes Go.WideShapes Go.ChangeAt Go.RowKit Go.Ab

namespace fnBestResponses
theorem said : ∀ xs, wtL [tyU8s] xs → Pure Try.prog 13 xs (.b true)
  | [x], h => by
    obtain ⟨cs, rfl, _, hc⟩ := wt_bytes h.1
    exact laws_FnBestResponses_ok cs hc
  | [], h => h.elim
  | _ :: _ :: _, h => h.2.elim

set_option maxRecDepth 100000 in
theorem lifted (os : Os) (started : os.Started) (H : Type) (enc : TypeId × Value → H) :
    ReturnsInHanded {} Try.checked os 13 .any (Rows.fnBestResponsesSpec.pre6 enc Try.prog Try.f13 Rows.fnBestResponsesRow.domain false) (Rows.fnBestResponsesSpec.post enc Try.prog Try.f13 false true false false) := by
  refine returnsInHanded_of_change (C := Try.checked) (by kernel_rfl) started (by kernel_rfl) Try.func13
    (ChangeSpec.witness6 (enc := enc) (C := Try.checked) false ⟨#[], #[.slice none 0 0], []⟩ 8 (by kernel_rfl) (by kernel_rfl) (by kernel_rfl) (by kernel_rfl)) ?_
  intro W base args ds gs before hval hW _ _
  refine law_contract (tys := [tyU8s]) (by kernel_rfl) (by kernel_rfl) rfl (by kernel_rfl) rfl (fun ds h => ?_) said W base args ds gs before hval hW
  match ds, h with
  | [d0], _ => rfl

theorem andT {a b : Bool} (ha : a = true) (hb : b = true) : (a && b) = true := by rw [ha, hb]; rfl
theorem joined0 : ((Rows.fnBestResponsesRow.wf (OpenSpec.ofChange Rows.fnBestResponsesSpec))) = true := by kernel_rfl
theorem joined1 : (laidOutB Try.prog) = true := Try.laidOutT
theorem joined2 : (mapsRowed Try.prog) = true := Try.mapsRowedT
theorem joined3 : (Try.f13.params.all (Try.prog.readableRec ·)) = true := by kernel_rfl
theorem joined4 : (namedTie Try.prog Rows.fnBestResponsesRow.named Rows.fnBestResponsesSpec.vars) = true := by kernel_rfl
theorem joined5 : ((Rows.fnBestResponsesRow.stops == [])) = true := by kernel_rfl
theorem joined6 : ((Try.prog.stops == [])) = true := by kernel_rfl
theorem joined7 : ((Rows.fnBestResponsesRow.knobs == [])) = true := by kernel_rfl
theorem joined8 : ((Try.prog.stopKnobs == [])) = true := by kernel_rfl
theorem joined9 : ((Rows.fnBestResponsesRow.inPlace == Try.prog.inPlace 13)) = true := by kernel_rfl
theorem joined10 : ((Rows.fnBestResponsesRow.unfollowed == Try.prog.unfollowed 13)) = true := by kernel_rfl
theorem joined11 : ((Rows.fnBestResponsesRow.recurses == Try.prog.recurses 13)) = true := by kernel_rfl
theorem joined12 : ((Rows.fnBestResponsesRow.named == Try.prog.varsNamed 13)) = true := by kernel_rfl
theorem joined13 : ((Rows.fnBestResponsesRow.maps == (Try.f13.params.toList ++ Rows.fnBestResponsesSpec.plain.varTypes Try.prog).any (Try.prog.mapsRec ·))) = true := by kernel_rfl
theorem joined14 : ((Rows.fnBestResponsesRow.ifaces == (Try.f13.params.toList ++ Rows.fnBestResponsesSpec.plain.varTypes Try.prog).any (Try.prog.ifacesRec ·))) = true := by kernel_rfl
theorem joined15 : ((Rows.fnBestResponsesRow.mapsOut == Try.prog.mapsAmong Try.f13.resultTypes.toList)) = true := by kernel_rfl
theorem joined16 : ((Rows.fnBestResponsesRow.loops == (Try.f13.params.toList ++ Rows.fnBestResponsesSpec.plain.varTypes Try.prog).any (Try.prog.loopsFrom ·))) = true := by kernel_rfl
theorem joined17 : ((Rows.fnBestResponsesRow.wideKeys == (Try.f13.params.toList ++ Rows.fnBestResponsesSpec.plain.varTypes Try.prog ++ Try.f13.resultTypes.toList).any (Try.prog.wideKeysFrom ·))) = true := by kernel_rfl
theorem joined18 : (Rows.fnBestResponsesSpec.vars.all (Try.prog.varReadable ·)) = true := by kernel_rfl
theorem joined19 : (Try.f13.resultTypes.all (fun t => Try.prog.readableRec t && decide (t < Try.prog.types.size))) = true := by kernel_rfl
theorem joined20 : ((Rows.fnBestResponsesRow.ifacesOut == Try.f13.resultTypes.toList.any (Try.prog.ifacesRec ·))) = true := by kernel_rfl
theorem joined21 : ((Rows.fnBestResponsesRow.loopsOut == Try.f13.resultTypes.toList.any (Try.prog.loopsFrom ·))) = true := by kernel_rfl
theorem joined22 : ((Rows.fnBestResponsesRow.plainKeys == Try.prog.plainKeys)) = true := by kernel_rfl
theorem joined23 : (Rows.fnBestResponsesRow.shortTexts.isNone) = true := by kernel_rfl
theorem joined24 : (Try.prog.stopsHeard) = true := Try.heardT
theorem joined25 : (Try.prog.mayEnter) = true := Try.mayEnterT
theorem joined26 : ((Rows.fnBestResponsesRow.lifted == Try.prog.liftsFinal)) = true := (by rw [Try.liftsF]; rfl)
theorem joined27 : ((Try.prog.make == some Rows.fnBestResponsesRow.make)) = true := (by rw [Try.makeC]; rfl)
theorem joined28 : ((Rows.fnBestResponsesRow.kinds == (if Rows.fnBestResponsesRow.domain.isEmpty then [] else Try.f13.params.toList.map fun t => match Try.prog.underlying t with | some (.int k) => some k | _ => none))) = true := by kernel_rfl
theorem joined29 : ((Rows.fnBestResponsesRow.pinned == Rows.fnBestResponsesRow.pinnedBy)) = true := by kernel_rfl
theorem joined30 : ((Rows.fnBestResponsesRow.veiled == (Try.f13.params.toList ++ Rows.fnBestResponsesSpec.plain.varTypes Try.prog ++ Try.f13.resultTypes.toList).any (Try.prog.veiledRec ·))) = true := by kernel_rfl
theorem joined31 : (Rows.fnBestResponsesRow.veiledFits Try.prog Try.f13.params.toList (Try.f13.params.toList ++ Rows.fnBestResponsesSpec.plain.varTypes Try.prog ++ Try.f13.resultTypes.toList)) = true := by kernel_rfl
set_option maxRecDepth 100000 in
theorem joined : joinedFacts Try.prog 13 Try.f13 Rows.fnBestResponsesSpec Rows.fnBestResponsesRow = true := by
  unfold joinedFacts
  exact andT (andT (andT (andT (andT (andT (andT (andT (andT (andT (andT (andT (andT (andT (andT (andT (andT (andT (andT (andT (andT (andT (andT (andT (andT (andT (andT (andT (andT (andT (andT (joined0) joined1) joined2) joined3) joined4) joined5) joined6) joined7) joined8) joined9) joined10) joined11) joined12) joined13) joined14) joined15) joined16) joined17) joined18) joined19) joined20) joined21) joined22) joined23) joined24) joined25) joined26) joined27) joined28) joined29) joined30) joined31
theorem over : Rows.fnBestResponsesRow.holds Try.pinned (OpenSpec.ofChange Rows.fnBestResponsesSpec) :=
  OpenClaim.holds_of_wide 13 Try.f13 rfl rfl rfl rfl rfl rfl rfl ⟨rfl, rfl, rfl, rfl, rfl⟩ rfl rfl rfl rfl rfl (by kernel_rfl) Try.func13 joined
    (of_decide_eq_true (by kernel_rfl)) (by unfold Func.isWrapper; first | (rw [if_pos (by decide +kernel)]; kernel_rfl) | (rw [if_neg (by decide +kernel)]; exact ⟨rfl, rfl⟩))
    (fun os started H enc _ => lifted os started H enc)
end fnBestResponses

theorem fnBestResponses_holds : Rows.FnBestResponsesSaid := fnBestResponses.over
#print axioms fnBestResponses_holds
end Go.Proofs.Ytkmmkgpnlmdcfaa
