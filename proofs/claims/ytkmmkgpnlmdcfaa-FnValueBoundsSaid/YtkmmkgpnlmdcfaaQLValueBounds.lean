/- The number of a game lies between the bounds of both strategies: the law FnValueBounds returns true for every list of bytes. No conditions. -/
import Derived.Test.YtkmmkgpnlmdcfaaRows
import Derived.Test.YtkmmkgpnlmdcfaaQ6
/- Contracts: pairs of strategies; best numbers, bounds, equilibria, exported. -/
set_option linter.unusedSimpArgs false
set_option linter.unusedVariables false
namespace Go.Ab
open Go.Proofs

theorem strB_parts {g : Gm} {s : Int × List (List Int)} (h : strB g s = true) : isGameB g = true ∧ (s.1 = 0 ∨ s.1 = 1) ∧ isStratB g s.1 s.2 = true := by
  simp only [strB, Bool.and_eq_true, decide_eq_true_eq] at h
  exact ⟨h.1.1, by omega, h.2⟩
theorem strB_run {g : Gm} {s : Int × List (List Int)} (h : strB g s = true) : isGameB g = true ∧ (1 - s.1 = 0 ∨ 1 - s.1 = 1) ∧ partsOK g s.2 (1 - (1 - s.1)) ∧ (1 - (1 - s.1), s.2) = s := by
  obtain ⟨h1, h2, h3⟩ := strB_parts h
  refine ⟨h1, by omega, ?_, ?_⟩
  · rw [show 1 - (1 - s.1) = s.1 by omega]; exact partsOK_of h3
  · rw [show 1 - (1 - s.1) = s.1 by omega]
theorem spec_run {g : Gm} {s : Int × List (List Int)} (h : strB g s = true) : Fun Try.prog 132 [] [.t (.agg [.sh 5 (chunk nodeC g.nd), .sh 1 (g.w.map ints), .sh 1 (g.v.map ints)]), .t (.agg [.i s.1, .sh 1 (s.2.map ints)])] fun o r => o = [] ∧ r = runT g s.2 (1 - s.1) := by
  obtain ⟨h1, h2, h3, h4⟩ := strB_run h
  have := spec_l24Run_ok h1 h2 h3
  rw [h4] at this
  exact this
theorem impl_run {g : Gm} {s : Int × List (List Int)} (h : strB g s = true) : Fun Try.prog 122 [] [.t (.agg [.sh 5 (chunk nodeC g.nd), .sh 1 (g.w.map ints), .sh 1 (g.v.map ints)]), .t (.agg [.i s.1, .sh 1 (s.2.map ints)])] fun o r => o = [] ∧ r = runT g s.2 (1 - s.1) := by
  obtain ⟨h1, h2, h3, h4⟩ := strB_run h
  have := impl_bestAgainst_ok h1 h2 h3
  rw [h4] at this
  exact this
def bestN (g : Gm) (s : Int × List (List Int)) : Int := runV g s.2 (1 - s.1) g.w.length
def bestS (g : Gm) (s : Int × List (List Int)) : Int × List (List Int) := (1 - s.1, runB g s.2 (1 - s.1) g.w.length)
theorem bestN_abs {g : Gm} {s : Int × List (List Int)} (h : strB g s = true) : -25194240000000 ≤ bestN g s ∧ bestN g s ≤ 25194240000000 := by
  obtain ⟨h1, h2, h3, h4⟩ := strB_run h
  obtain ⟨_, hk, _⟩ := isGameB_spec h1
  have hv := runV_abs h1 h2 h3 g.w.length
  have hcv : capV = 4199040000000 := rfl
  have hk6 : ((g.w.length : Nat) : Int) * capV ≤ 6 * capV := Int.mul_le_mul_of_nonneg_right (by omega) (by decide)
  unfold bestN
  omega
def pairG (g : Gm) (s t : Int × List (List Int)) : Bool := strB g s && strB g t && decide (s.1 = 0) && decide (t.1 = 1)
theorem pairG_parts {g : Gm} {s t : Int × List (List Int)} (h : pairG g s t = true) : strB g s = true ∧ strB g t = true ∧ s.1 = 0 ∧ t.1 = 1 := by
  simp only [pairG, Bool.and_eq_true, decide_eq_true_eq] at h
  exact ⟨h.1.1.1, h.1.1.2, h.1.2, h.2⟩
theorem pairG_iff {g : Gm} {s t : Int × List (List Int)} : pairG g s t = true ↔ isGameB g = true ∧ s.1 = 0 ∧ t.1 = 1 ∧ isStratB g s.1 s.2 = true ∧ isStratB g t.1 t.2 = true := by
  simp only [pairG, strB, Bool.and_eq_true, decide_eq_true_eq]
  constructor
  · rintro ⟨⟨⟨⟨⟨h1, h2⟩, h3⟩, ⟨_, h4⟩, h5⟩, h6⟩, h7⟩
    exact ⟨h1, h6, h7, h3, h5⟩
  · rintro ⟨h1, h2, h3, h4, h5⟩
    exact ⟨⟨⟨⟨⟨h1, by omega⟩, h4⟩, ⟨h1, by omega⟩, h5⟩, h2⟩, h3⟩
theorem pairG_no {g : Gm} {s t : Int × List (List Int)} (h : ¬ (isGameB g = true ∧ s.1 = 0 ∧ t.1 = 1 ∧ isStratB g s.1 s.2 = true ∧ isStratB g t.1 t.2 = true)) : pairG g s t = false := by
  cases hp : pairG g s t with
  | false => rfl
  | true => exact (h (pairG_iff.1 hp)).elim
section
attribute [-go_sem] load1C load1V fldC lenC idxC loadNV nilCheckW
theorem isStr_t {f : FuncId} {g : Gm} {s : Int × List (List Int)} {b : Bool} (h : Pure Try.prog f [gameT g, stratT s] (.b b)) : Pure Try.prog f [.agg [.sh 5 (chunk nodeC g.nd), .sh 1 (g.w.map ints), .sh 1 (g.v.map ints)], .agg [.i s.1, .sh 1 (s.2.map ints)]] (.b b) := h
theorem unit_t {f : FuncId} {g : Gm} {n : Int} (h : Pure Try.prog f [gameT g] (.i n)) : Pure Try.prog f [.agg [.sh 5 (chunk nodeC g.nd), .sh 1 (g.w.map ints), .sh 1 (g.v.map ints)]] (.i n) := h
set_option maxRecDepth 20000 in
theorem spec_l23Pair_ok (g : Gm) (s t : Int × List (List Int)) (hg : gameL g) (hs : rowsL s.2) (ht : rowsL t.2) : Pure Try.prog 123 [gameT g, stratT s, stratT t] (.b (pairG g s t)) := by
  refine fun_spec_l23Pair (by simp) ?_
  have h1 := isStr_t (spec_IsStrategy_ok g s hg hs)
  have h2 := isStr_t (spec_IsStrategy_ok g t hg ht)
  have hdef : pairG g s t = (strB g s && strB g t && decide (s.1 = 0) && decide (t.1 = 1)) := rfl
  simp -implicitDefEqProofs only [go_sem, evR, ints, rows, rat, rats, c_spec_l23Pair, gameT, stratT, nodes]
  cases hb1 : strB g s <;> rw [hb1] at h1
  · refine CallW.pure h1 [] rfl Try.call131 ?_ (by first | trivial | simp [T.noSh, T.noShL, rat]) rfl ?_
    · simp -implicitDefEqProofs only [agR, Nat.reduceLeDiff, Nat.reduceSub, vaR, go_sem, ints, rows, rat, rats, ratsO, rtR, intsO, rowsO]
    simp -implicitDefEqProofs only [go_sem, evR, ints, rows, rat, rats]
    rw [hdef, hb1]; rfl
  · refine CallW.pure h1 [] rfl Try.call131 ?_ (by first | trivial | simp [T.noSh, T.noShL, rat]) rfl ?_
    · simp -implicitDefEqProofs only [agR, Nat.reduceLeDiff, Nat.reduceSub, vaR, go_sem, ints, rows, rat, rats, ratsO, rtR, intsO, rowsO]
    simp -implicitDefEqProofs only [go_sem, evR, ints, rows, rat, rats]
    cases hb2 : strB g t <;> rw [hb2] at h2
    · refine CallW.pure h2 [] rfl Try.call131 ?_ (by first | trivial | simp [T.noSh, T.noShL, rat]) rfl ?_
      · simp -implicitDefEqProofs only [agR, Nat.reduceLeDiff, Nat.reduceSub, vaR, go_sem, ints, rows, rat, rats, ratsO, rtR, intsO, rowsO]
      simp -implicitDefEqProofs only [go_sem, evR, ints, rows, rat, rats]
      rw [hdef, hb1, hb2]; rfl
    · refine CallW.pure h2 [] rfl Try.call131 ?_ (by first | trivial | simp [T.noSh, T.noShL, rat]) rfl ?_
      · simp -implicitDefEqProofs only [agR, Nat.reduceLeDiff, Nat.reduceSub, vaR, go_sem, ints, rows, rat, rats, ratsO, rtR, intsO, rowsO]
      simp -implicitDefEqProofs only [go_sem, evR, ints, rows, rat, rats]
      refine ⟨fun h3 => ?_, fun h3 => ?_⟩
      · have h3 : s.1 = 0 := by simpa using h3
        rw [hdef, hb1, hb2, decide_eq_true h3]
        congr 2
      · have h3 : ¬ s.1 = 0 := by simpa using h3
        rw [hdef, hb1, hb2, decide_eq_false h3]; rfl
set_option maxRecDepth 20000 in
theorem impl_arePair_ok (g : Gm) (s t : Int × List (List Int)) (hg : gameL g) (hs : rowsL s.2) (ht : rowsL t.2) : Pure Try.prog 120 [gameT g, stratT s, stratT t] (.b (pairG g s t)) := by
  refine fun_impl_arePair (by simp) ?_
  have h1 := isGame_t (impl_IsGame_ok g hg)
  simp -implicitDefEqProofs only [go_sem, evR, ints, rows, rat, rats, c_impl_arePair, gameT, stratT, nodes]
  cases hb1 : isGameB g <;> rw [hb1] at h1
  · refine CallW.pure h1 [] rfl Try.call115 ?_ (by first | trivial | simp [T.noSh, T.noShL, rat]) rfl ?_
    · simp -implicitDefEqProofs only [agR, Nat.reduceLeDiff, Nat.reduceSub, vaR, go_sem, ints, rows, rat, rats, ratsO, rtR, intsO, rowsO]
    simp -implicitDefEqProofs only [go_sem, evR, ints, rows, rat, rats]
    rw [pairG_no fun h => by rw [hb1] at h; exact absurd h.1 (by simp)]
  · have h2 := isStr_t (impl_isStrategy_ok g s hb1 hs)
    have h3 := isStr_t (impl_isStrategy_ok g t hb1 ht)
    refine CallW.pure h1 [] rfl Try.call115 ?_ (by first | trivial | simp [T.noSh, T.noShL, rat]) rfl ?_
    · simp -implicitDefEqProofs only [agR, Nat.reduceLeDiff, Nat.reduceSub, vaR, go_sem, ints, rows, rat, rats, ratsO, rtR, intsO, rowsO]
    simp -implicitDefEqProofs only [go_sem, evR, ints, rows, rat, rats]
    refine ⟨fun h4 => ⟨fun h5 => ?_, fun h5 => ?_⟩, fun h4 => ?_⟩
    · have h4 : s.1 = 0 := by simpa using h4
      have h5 : t.1 = 1 := by simpa using h5
      cases hb2 : isStratB g s.1 s.2 <;> rw [hb2] at h2
      · refine CallW.pure h2 [] rfl Try.call153 ?_ (by first | trivial | simp [T.noSh, T.noShL, rat]) rfl ?_
        · simp -implicitDefEqProofs only [agR, Nat.reduceLeDiff, Nat.reduceSub, vaR, go_sem, ints, rows, rat, rats, ratsO, rtR, intsO, rowsO]
        simp -implicitDefEqProofs only [go_sem, evR, ints, rows, rat, rats]
        rw [pairG_no fun h => by rw [hb2] at h; exact absurd h.2.2.2.1 (by simp)]
      · refine CallW.pure h2 [] rfl Try.call153 ?_ (by first | trivial | simp [T.noSh, T.noShL, rat]) rfl ?_
        · simp -implicitDefEqProofs only [agR, Nat.reduceLeDiff, Nat.reduceSub, vaR, go_sem, ints, rows, rat, rats, ratsO, rtR, intsO, rowsO]
        simp -implicitDefEqProofs only [go_sem, evR, ints, rows, rat, rats]
        cases hb3 : isStratB g t.1 t.2 <;> rw [hb3] at h3
        · refine CallW.pure h3 [] rfl Try.call153 ?_ (by first | trivial | simp [T.noSh, T.noShL, rat]) rfl ?_
          · simp -implicitDefEqProofs only [agR, Nat.reduceLeDiff, Nat.reduceSub, vaR, go_sem, ints, rows, rat, rats, ratsO, rtR, intsO, rowsO]
          simp -implicitDefEqProofs only [go_sem, evR, ints, rows, rat, rats]
          rw [pairG_no fun h => by rw [hb3] at h; exact absurd h.2.2.2.2 (by simp)]
        · refine CallW.pure h3 [] rfl Try.call153 ?_ (by first | trivial | simp [T.noSh, T.noShL, rat]) rfl ?_
          · simp -implicitDefEqProofs only [agR, Nat.reduceLeDiff, Nat.reduceSub, vaR, go_sem, ints, rows, rat, rats, ratsO, rtR, intsO, rowsO]
          simp -implicitDefEqProofs only [go_sem, evR, ints, rows, rat, rats]
          rw [pairG_iff.2 ⟨hb1, h4, h5, hb2, hb3⟩]
    · have h5 : ¬ t.1 = 1 := by simpa using h5
      rw [pairG_no fun h => h5 h.2.2.1]
    · have h4 : ¬ s.1 = 0 := by simpa using h4
      rw [pairG_no fun h => h4 h.2.1]
theorem pair_t {f : FuncId} {g : Gm} {s t : Int × List (List Int)} {b : Bool} (h : Pure Try.prog f [gameT g, stratT s, stratT t] (.b b)) : Pure Try.prog f [.agg [.sh 5 (chunk nodeC g.nd), .sh 1 (g.w.map ints), .sh 1 (g.v.map ints)], .agg [.i s.1, .sh 1 (s.2.map ints)], .agg [.i t.1, .sh 1 (t.2.map ints)]] (.b b) := h
def bnumT (g : Gm) (s : Int × List (List Int)) : T := if strB g s = true then .tup [.i (bestN g s), .i (unit g), .i 0] else .tup [.i 0, .i 0, .i 1]
set_option maxRecDepth 20000 in
theorem impl_BestNumber_ok (g : Gm) (s : Int × List (List Int)) (hg : gameL g) (hs : rowsL s.2) : Pure Try.prog 63 [gameT g, stratT s] (bnumT g s) := by
  refine fun_impl_BestNumber (by simp) ?_
  have h1 := isStr_t (impl_IsStrategy_ok g s hg hs)
  simp -implicitDefEqProofs only [go_sem, evR, ints, rows, rat, rats, c_impl_BestNumber, gameT, stratT, nodes]
  cases hb1 : strB g s <;> rw [hb1] at h1
  · refine CallW.pure h1 [] rfl Try.call91 ?_ (by first | trivial | simp [T.noSh, T.noShL, rat]) rfl ?_
    · simp -implicitDefEqProofs only [agR, Nat.reduceLeDiff, Nat.reduceSub, vaR, go_sem, ints, rows, rat, rats, ratsO, rtR, intsO, rowsO]
    simp -implicitDefEqProofs only [go_sem, evR, ints, rows, rat, rats]
    rw [bnumT, hb1]; rfl
  · refine CallW.pure h1 [] rfl Try.call91 ?_ (by first | trivial | simp [T.noSh, T.noShL, rat]) rfl ?_
    · simp -implicitDefEqProofs only [agR, Nat.reduceLeDiff, Nat.reduceSub, vaR, go_sem, ints, rows, rat, rats, ratsO, rtR, intsO, rowsO]
    simp -implicitDefEqProofs only [go_sem, evR, ints, rows, rat, rats]
    refine CallW.res (impl_run hb1) [] rfl Try.call122 ?_ (.inl rfl) ?_
    · simp -implicitDefEqProofs only [agR, Nat.reduceLeDiff, Nat.reduceSub, vaR, go_sem, ints, rows, rat, rats, ratsO, rtR, intsO, rowsO]
    simp -implicitDefEqProofs only [clR, Nat.reduceLeDiff, go_sem, evR, rat, runT, rowsO]
    refine CallW.pure (unit_t (impl_unitOf_ok g (strB_parts hb1).1)) [] rfl Try.call130 ?_ (by first | trivial | simp [T.noSh, T.noShL, rat]) rfl ?_
    · simp -implicitDefEqProofs only [agR, Nat.reduceLeDiff, Nat.reduceSub, vaR, go_sem, ints, rows, rat, rats, ratsO, rtR, intsO, rowsO]
    simp -implicitDefEqProofs only [go_sem, evR, ints, rows, rat, rats]
    rw [bnumT, hb1]; rfl
set_option maxRecDepth 20000 in
theorem spec_l24Both_ok (g : Gm) (s t : Int × List (List Int)) (h : pairG g s t = true) : Pure Try.prog 124 [gameT g, stratT s, stratT t] (.tup [.i (bestN g t), .i (bestN g s)]) := by
  obtain ⟨h1, h2, _⟩ := pairG_parts h
  refine fun_spec_l24Both (by simp) ?_
  simp -implicitDefEqProofs only [go_sem, evR, ints, rows, rat, rats, c_spec_l24Both, gameT, stratT, nodes]
  refine CallW.res (spec_run h2) [] rfl Try.call132 ?_ (.inl rfl) ?_
  · simp -implicitDefEqProofs only [agR, Nat.reduceLeDiff, Nat.reduceSub, vaR, go_sem, ints, rows, rat, rats, ratsO, rtR, intsO, rowsO]
  simp -implicitDefEqProofs only [clR, Nat.reduceLeDiff, go_sem, evR, rat, runT, rowsO]
  refine CallW.res (spec_run h1) [] rfl Try.call132 ?_ (.inl rfl) ?_
  · simp -implicitDefEqProofs only [agR, Nat.reduceLeDiff, Nat.reduceSub, vaR, go_sem, ints, rows, rat, rats, ratsO, rtR, intsO, rowsO]
  simp -implicitDefEqProofs only [clR, Nat.reduceLeDiff, go_sem, evR, rat, runT, rowsO]
  rfl
set_option maxRecDepth 20000 in
theorem impl_valueBounds_ok (g : Gm) (s t : Int × List (List Int)) (h : pairG g s t = true) : Pure Try.prog 146 [gameT g, stratT s, stratT t] (.tup [.i (-bestN g s), .i (bestN g t)]) := by
  obtain ⟨h1, h2, _⟩ := pairG_parts h
  have b1 := bestN_abs h1
  refine fun_impl_valueBounds (by simp) ?_
  simp -implicitDefEqProofs only [go_sem, evR, ints, rows, rat, rats, c_impl_valueBounds, gameT, stratT, nodes]
  refine CallW.res (impl_run h1) [] rfl Try.call122 ?_ (.inl rfl) ?_
  · simp -implicitDefEqProofs only [agR, Nat.reduceLeDiff, Nat.reduceSub, vaR, go_sem, ints, rows, rat, rats, ratsO, rtR, intsO, rowsO]
  simp -implicitDefEqProofs only [clR, Nat.reduceLeDiff, go_sem, evR, rat, runT, rowsO]
  refine CallW.res (impl_run h2) [] rfl Try.call122 ?_ (.inl rfl) ?_
  · simp -implicitDefEqProofs only [agR, Nat.reduceLeDiff, Nat.reduceSub, vaR, go_sem, ints, rows, rat, rats, ratsO, rtR, intsO, rowsO]
  simp -implicitDefEqProofs only [clR, Nat.reduceLeDiff, go_sem, evR, rat, runT, rowsO]
  rw [show 0 - runV g s.2 (1 - s.1) g.w.length = -bestN g s by unfold bestN; omega, wrap64 (n := -bestN g s) (by omega) (by omega)]; rfl
theorem vb_t {f : FuncId} {g : Gm} {s t : Int × List (List Int)} {r : T} (h : Pure Try.prog f [gameT g, stratT s, stratT t] r) : Pure Try.prog f [.agg [.sh 5 (chunk nodeC g.nd), .sh 1 (g.w.map ints), .sh 1 (g.v.map ints)], .agg [.i s.1, .sh 1 (s.2.map ints)], .agg [.i t.1, .sh 1 (t.2.map ints)]] r := h
def expN (g : Gm) (s t : Int × List (List Int)) : Int := bestN g t + bestN g s
def tr3 (r : Int × Int × Int) : T := .tup [.i r.1, .i r.2.1, .i r.2.2]
def vbR (g : Gm) (s t : Int × List (List Int)) : Int × Int × Int × Int := if pairG g s t = true then (-bestN g s, bestN g t, unit g, 0) else (0, 0, 0, 1)
def tr4 (r : Int × Int × Int × Int) : T := .tup [.i r.1, .i r.2.1, .i r.2.2.1, .i r.2.2.2]
set_option maxRecDepth 20000 in
theorem spec_ValueBounds_ok (g : Gm) (s t : Int × List (List Int)) (hg : gameL g) (hs : rowsL s.2) (ht : rowsL t.2) : Pure Try.prog 79 [gameT g, stratT s, stratT t] (tr4 (vbR g s t)) := by
  refine fun_spec_ValueBounds (by simp) ?_
  have h1 := pair_t (spec_l23Pair_ok g s t hg hs ht)
  simp -implicitDefEqProofs only [go_sem, evR, ints, rows, rat, rats, c_spec_ValueBounds, gameT, stratT, nodes]
  cases hb : pairG g s t <;> rw [hb] at h1
  · refine CallW.pure h1 [] rfl Try.call123 ?_ (by first | trivial | simp [T.noSh, T.noShL, rat]) rfl ?_
    · simp -implicitDefEqProofs only [agR, Nat.reduceLeDiff, Nat.reduceSub, vaR, go_sem, ints, rows, rat, rats, ratsO, rtR, intsO, rowsO]
    simp -implicitDefEqProofs only [go_sem, evR, ints, rows, rat, rats]
    rw [vbR, hb]; rfl
  · have b1 := bestN_abs (pairG_parts hb).1
    refine CallW.pure h1 [] rfl Try.call123 ?_ (by first | trivial | simp [T.noSh, T.noShL, rat]) rfl ?_
    · simp -implicitDefEqProofs only [agR, Nat.reduceLeDiff, Nat.reduceSub, vaR, go_sem, ints, rows, rat, rats, ratsO, rtR, intsO, rowsO]
    simp -implicitDefEqProofs only [go_sem, evR, ints, rows, rat, rats]
    refine CallW.pure (vb_t (spec_l24Both_ok g s t hb)) [] rfl Try.call124 ?_ (by first | trivial | simp [T.noSh, T.noShL, rat]) rfl ?_
    · simp -implicitDefEqProofs only [agR, Nat.reduceLeDiff, Nat.reduceSub, vaR, go_sem, ints, rows, rat, rats, ratsO, rtR, intsO, rowsO]
    simp -implicitDefEqProofs only [go_sem, evR, ints, rows, rat, rats]
    refine CallW.pure (unit_t (spec_l23Unit_ok g (pairG_iff.1 hb).1)) [] rfl Try.call134 ?_ (by first | trivial | simp [T.noSh, T.noShL, rat]) rfl ?_
    · simp -implicitDefEqProofs only [agR, Nat.reduceLeDiff, Nat.reduceSub, vaR, go_sem, ints, rows, rat, rats, ratsO, rtR, intsO, rowsO]
    simp -implicitDefEqProofs only [go_sem, evR, ints, rows, rat, rats]
    rw [vbR, hb, show 0 - bestN g s = -bestN g s by omega, wrap64 (n := -bestN g s) (by omega) (by omega)]; rfl
set_option maxRecDepth 20000 in
theorem impl_ValueBounds_ok (g : Gm) (s t : Int × List (List Int)) (hg : gameL g) (hs : rowsL s.2) (ht : rowsL t.2) : Pure Try.prog 78 [gameT g, stratT s, stratT t] (tr4 (vbR g s t)) := by
  refine fun_impl_ValueBounds (by simp) ?_
  have h1 := pair_t (impl_arePair_ok g s t hg hs ht)
  simp -implicitDefEqProofs only [go_sem, evR, ints, rows, rat, rats, c_impl_ValueBounds, gameT, stratT, nodes]
  cases hb : pairG g s t <;> rw [hb] at h1
  · refine CallW.pure h1 [] rfl Try.call120 ?_ (by first | trivial | simp [T.noSh, T.noShL, rat]) rfl ?_
    · simp -implicitDefEqProofs only [agR, Nat.reduceLeDiff, Nat.reduceSub, vaR, go_sem, ints, rows, rat, rats, ratsO, rtR, intsO, rowsO]
    simp -implicitDefEqProofs only [go_sem, evR, ints, rows, rat, rats]
    rw [vbR, hb]; rfl
  · refine CallW.pure h1 [] rfl Try.call120 ?_ (by first | trivial | simp [T.noSh, T.noShL, rat]) rfl ?_
    · simp -implicitDefEqProofs only [agR, Nat.reduceLeDiff, Nat.reduceSub, vaR, go_sem, ints, rows, rat, rats, ratsO, rtR, intsO, rowsO]
    simp -implicitDefEqProofs only [go_sem, evR, ints, rows, rat, rats]
    refine CallW.pure (vb_t (impl_valueBounds_ok g s t hb)) [] rfl Try.call146 ?_ (by first | trivial | simp [T.noSh, T.noShL, rat]) rfl ?_
    · simp -implicitDefEqProofs only [agR, Nat.reduceLeDiff, Nat.reduceSub, vaR, go_sem, ints, rows, rat, rats, ratsO, rtR, intsO, rowsO]
    simp -implicitDefEqProofs only [go_sem, evR, ints, rows, rat, rats]
    refine CallW.pure (unit_t (impl_unitOf_ok g (pairG_iff.1 hb).1)) [] rfl Try.call130 ?_ (by first | trivial | simp [T.noSh, T.noShL, rat]) rfl ?_
    · simp -implicitDefEqProofs only [agR, Nat.reduceLeDiff, Nat.reduceSub, vaR, go_sem, ints, rows, rat, rats, ratsO, rtR, intsO, rowsO]
    simp -implicitDefEqProofs only [go_sem, evR, ints, rows, rat, rats]
    rw [vbR, hb]; rfl
end
end Go.Ab

/- Contracts: copies of games, strategies and claims, and when they are equal. -/
set_option linter.unusedSimpArgs false
set_option linter.unusedVariables false
namespace Go.Ab
open Go.Proofs

section
attribute [-go_sem] load1C load1V fldC lenC idxC loadNV
def rows12 (m : List (List Int)) : Prop := m.length ≤ 1000000000000 ∧ ∀ r ∈ m, r.length ≤ 1000000000000
end
end Go.Ab

/- Sizes of games, strategies and claims behind the laws' budgets. -/
set_option linter.unusedSimpArgs false
set_option linter.unusedVariables false
namespace Go.Ab
open Go.Proofs

def rowsS (m : List (List Int)) : Prop := m.length ≤ 1048576 ∧ tot m ≤ 1048576
theorem rowsS_12 {m : List (List Int)} (h : rowsS m) : rows12 m := ⟨by have := h.1; omega, fun r hr => by have := tot_mem hr; have := h.2; omega⟩
theorem rowsS_L {m : List (List Int)} (h : rowsS m) : rowsL m := ⟨by have := h.1; omega, fun r hr => by have := tot_mem hr; have := h.2; omega⟩
end Go.Ab

/- Functions in compact form, with hints. -/
set_option linter.unusedVariables false
namespace Go.Ab
open Go.Proofs

def c_impl_RespondInTurn_h : CC :=
 (.seq (.reg [.o (.box 4 (sl 0)),
 .o (.box 5 (sl 1)),
 .o (.box 6 (sl 2)),
 .o (.alloc 8 [.v (.int .i64 0), .v (.slice none 0 0)]),
 .o (.alloc 9 [.v (.int .i64 0), .v (.slice none 0 0)]),
 .o (.move 10 (ci 0))])
 ((.seq (.seq (.reg [.o (.loadN 11 3 (sl 4)),
 .o (.loadN 12 2 (sl 5)),
 .o (.loadN 13 2 (sl 6)),
 .o (.call (some 14) (cf 120) [(sl 11), (sl 12), (sl 13)]),
 .o (.un 15 .not (sl 14))])
 ((.cond (sl 15) (.seq (.reg [.o (.build 16 [.v (.int .i64 0), .v (.slice none 0 0)] [(0, 1), (1, 1)] []),
 .o (.build 17 [.v (.int .i64 0), .v (.slice none 0 0)] [(0, 1), (1, 1)] []),
 .o (.store 2 (sl 8) (sl 16)),
 .o (.store 2 (sl 9) (sl 17)),
 .o (.move 10 (ci 1))])
 (.ret))
 .skip)))
 ((.seq (.seq (.reg [.o (.move 18 (sl 3)),
 .o (.call (some 19) (cf 110) [(sl 18), (ci 0), (ci 20)]),
 .o (.un 20 .not (sl 19))])
 ((.cond (sl 20) (.seq (.reg [.o (.build 21 [.v (.int .i64 0), .v (.slice none 0 0)] [(0, 1), (1, 1)] []),
 .o (.build 22 [.v (.int .i64 0), .v (.slice none 0 0)] [(0, 1), (1, 1)] []),
 .o (.store 2 (sl 8) (sl 21)),
 .o (.store 2 (sl 9) (sl 22)),
 .o (.move 10 (ci 2))])
 (.ret))
 .skip)))
 ((.seq (.draw [24, 26] [(kR, .o (.loadN 23 2 (sl 5))),
 (.c false [], .o (.call (some 24) (cf 143) [(sl 23)])),
 (.r false [24], .o (.loadN 25 2 (sl 6))),
 (.c false [], .o (.call (some 26) (cf 143) [(sl 25)])),
 (kH, .o (.store 2 (sl 5) (sl 24))),
 (kH, .o (.store 2 (sl 6) (sl 26)))])
 ((.seq (.seq (.reg [.o (.move 27 (sl 3)),
 .o (.move 28 (ci 0))])
 ((.block 0 (.loop (.seq (.reg [.o (.bin 29 .lss (sl 28) (sl 27))])
 ((.seq (.cond (sl 29) .skip
 (.exit 0))
 ((.seq (.block 1 (.seq (.reg [.o (.loadN 31 3 (sl 4)),
 .o (.loadN 32 2 (sl 6)),
 .o (.call (some 33) (cf 122) [(sl 31), (sl 32)]),
 .o (.move 30 (sl 33)),
 .o (.extract 34 (sl 30) 0),
 .o (.extract 35 (sl 30) 1),
 .o (.store 2 (sl 5) (sl 35))])
 ((.reg [.o (.loadN 37 3 (sl 4)),
 .o (.loadN 38 2 (sl 5)),
 .o (.call (some 39) (cf 122) [(sl 37), (sl 38)]),
 .o (.move 36 (sl 39)),
 .o (.extract 40 (sl 36) 0),
 .o (.extract 41 (sl 36) 1),
 .o (.store 2 (sl 6) (sl 41))]))))
 ((.reg [.o (.bin 42 .add (sl 28) (ci 1)),
 .o (.move 28 (sl 42))])))))))))))
 ((.seq (.weak (.draw [] [(kR, .o (.loadN 43 2 (sl 5))),
 (.r false [8, 501], .o (.loadN 44 2 (sl 6))),
 (.h (some [8, 501]) [], .o (.store 2 (sl 8) (sl 43))),
 (kH, .o (.store 2 (sl 9) (sl 44))),
 (kR, .o (.move 10 (ci 0)))]))
 (.ret))))))))))))
theorem fun_impl_RespondInTurn_h {rin : List T} {args : List A} {Q : List T → T → Prop} (ha : args.length ≤ 45) (h : cW Try.prog 45 c_impl_RespondInTurn_h (retP Try.prog [.cell 8 47, .cell 9 47, .tmp 10] rin.length Q) (St.of (enum 0 args) (enum 1000000000 rin))) :
    Fun Try.prog 81 rin args Q :=
  Fun.of (H := ⟨[(11, 1, .r false [8, 501]), (11, 2, .h (some [8, 501]) [])], [11]⟩) Try.func81 rfl rfl rfl (by kernel_rfl) ha (by decide) h

def c_spec_RespondInTurn_h : CC :=
 (.seq (.reg [.o (.box 4 (sl 0)),
 .o (.box 5 (sl 1)),
 .o (.box 6 (sl 2)),
 .o (.alloc 8 [.v (.int .i64 0), .v (.slice none 0 0)]),
 .o (.alloc 9 [.v (.int .i64 0), .v (.slice none 0 0)]),
 .o (.move 10 (ci 0))])
 ((.seq (.seq (.reg [.o (.loadN 11 3 (sl 4)),
 .o (.loadN 12 2 (sl 5)),
 .o (.loadN 13 2 (sl 6)),
 .o (.call (some 14) (cf 123) [(sl 11), (sl 12), (sl 13)]),
 .o (.un 15 .not (sl 14))])
 ((.cond (sl 15) (.seq (.reg [.o (.build 16 [.v (.int .i64 0), .v (.slice none 0 0)] [(0, 1), (1, 1)] []),
 .o (.build 17 [.v (.int .i64 0), .v (.slice none 0 0)] [(0, 1), (1, 1)] []),
 .o (.store 2 (sl 8) (sl 16)),
 .o (.store 2 (sl 9) (sl 17)),
 .o (.move 10 (ci 1))])
 (.ret))
 .skip)))
 ((.seq (.seq (.reg [.o (.move 18 (sl 3)),
 .o (.call (some 19) (cf 148) [(sl 18), (ci 0), (ci 20)]),
 .o (.un 20 .not (sl 19))])
 ((.cond (sl 20) (.seq (.reg [.o (.build 21 [.v (.int .i64 0), .v (.slice none 0 0)] [(0, 1), (1, 1)] []),
 .o (.build 22 [.v (.int .i64 0), .v (.slice none 0 0)] [(0, 1), (1, 1)] []),
 .o (.store 2 (sl 8) (sl 21)),
 .o (.store 2 (sl 9) (sl 22)),
 .o (.move 10 (ci 2))])
 (.ret))
 .skip)))
 ((.seq (.draw [24, 26] [(kR, .o (.loadN 23 2 (sl 5))),
 (.c false [], .o (.call (some 24) (cf 145) [(sl 23)])),
 (.r false [24], .o (.loadN 25 2 (sl 6))),
 (.c false [], .o (.call (some 26) (cf 145) [(sl 25)])),
 (kH, .o (.store 2 (sl 5) (sl 24))),
 (kH, .o (.store 2 (sl 6) (sl 26)))])
 ((.seq (.block 0 (.loop (.seq (.seq (.reg [.o (.move 27 (sl 3)),
 .o (.bin 28 .gtr (sl 27) (ci 0))])
 ((.cond (sl 28) .skip
 (.exit 0))))
 ((.seq (.block 1 (.seq (.reg [.o (.loadN 32 3 (sl 4)),
 .o (.loadN 33 2 (sl 6)),
 .o (.call (some 34) (cf 132) [(sl 32), (sl 33)]),
 .o (.move 31 (sl 34)),
 .o (.extract 35 (sl 31) 0),
 .o (.extract 36 (sl 31) 1),
 .o (.store 2 (sl 5) (sl 36))])
 ((.reg [.o (.loadN 38 3 (sl 4)),
 .o (.loadN 39 2 (sl 5)),
 .o (.call (some 40) (cf 132) [(sl 38), (sl 39)]),
 .o (.move 37 (sl 40)),
 .o (.extract 41 (sl 37) 0),
 .o (.extract 42 (sl 37) 1),
 .o (.store 2 (sl 6) (sl 42))]))))
 ((.reg [.o (.move 29 (sl 3)),
 .o (.bin 30 .sub (sl 29) (ci 1)),
 .o (.move 3 (sl 30))])))))))
 ((.seq (.weak (.draw [] [(kR, .o (.loadN 43 2 (sl 5))),
 (.r false [8, 501], .o (.loadN 44 2 (sl 6))),
 (.h (some [8, 501]) [], .o (.store 2 (sl 8) (sl 43))),
 (kH, .o (.store 2 (sl 9) (sl 44))),
 (kR, .o (.move 10 (ci 0)))]))
 (.ret))))))))))))
theorem fun_spec_RespondInTurn_h {rin : List T} {args : List A} {Q : List T → T → Prop} (ha : args.length ≤ 45) (h : cW Try.prog 45 c_spec_RespondInTurn_h (retP Try.prog [.cell 8 47, .cell 9 47, .tmp 10] rin.length Q) (St.of (enum 0 args) (enum 1000000000 rin))) :
    Fun Try.prog 82 rin args Q :=
  Fun.of (H := ⟨[(10, 1, .r false [8, 501]), (10, 2, .h (some [8, 501]) [])], [10]⟩) Try.func82 rfl rfl rfl (by kernel_rfl) ha (by decide) h

def c_impl_newEvaluator_h : CC :=
 (.seq (.reg [.o (.box 3 (sl 0)),
 .o (.box 4 (sl 1)),
 .o (.box 5 (sl 2)),
 .o (.move 6 (cv (.pointer none)))])
 ((.seq (.draw [25] [(kR, .o (.loadN 15 3 (sl 3))),
 (kR, .o (.fld 16 1 (sl 4))),
 (kR, .o (.load1 17 (sl 16))),
 (kR, .o (.fld 18 1 (sl 5))),
 (kR, .o (.load1 19 (sl 18))),
 (kR, .o (.build 20 [.v (.slice none 0 0), .v (.slice none 0 0)] [(0, 1), (1, 1)] [(0, (sl 17)), (1, (sl 19))])),
 (kR, .o (.fld 21 0 (sl 3))),
 (kR, .o (.fld 22 0 (sl 21))),
 (kR, .o (.load1 23 (sl 22))),
 (kR, .o (.lenS 24 (sl 23))),
 (kN, .o (.make 25 [.v (.int .i64 0)] 8 (sl 24) (sl 24))),
 (kR, .o (.build 26 [.v (.slice none 0 0), .v (.slice none 0 0), .v (.slice none 0 0), .v (.slice none 0 0), .v (.slice none 0 0), .v (.slice none 0 0), .v (.slice none 0 0), .v (.slice none 0 0)] [(0, 3), (3, 2), (5, 2), (7, 1)] [(0, (sl 15)), (2, (sl 20)), (3, (sl 25))])),
 (kH, .o (.box 27 (sl 26))),
 (kR, .o (.move 7 (sl 27)))])
 ((.seq (.seq (.reg [.o (.move 28 (ci 0))])
 ((.block 0 (.loop (.seq (.reg [.o (.bin 29 .lss (sl 28) (ci 2))])
 ((.seq (.cond (sl 29) .skip
 (.exit 0))
 ((.seq (.block 1 (.seq (.reg [.o (.move 30 (sl 28)),
 .o (.move 8 (sl 30))])
 ((.seq (.draw [37] [(kR, .o (.move 31 (sl 7))),
 (kR, .o (.move 32 (sl 8))),
 (kR, .o (.fld 33 0 (sl 3))),
 (kR, .o (.fld 34 0 (sl 33))),
 (kR, .o (.load1 35 (sl 34))),
 (kR, .o (.lenS 36 (sl 35))),
 (kN, .o (.make 37 [.v (.int .i64 0)] 8 (sl 36) (sl 36))),
 (.r false [37], .o (.nilc 38 (sl 31))),
 (.r false [37], .o (.fld 39 3 (sl 38))),
 (kR, .o (.idxA 40 2 1 (sl 39) (sl 32))),
 (kH, .o (.store 1 (sl 40) (sl 37)))])
 ((.seq (.reg [.o (.fld 41 0 (sl 3)),
 .o (.loadN 42 1 (sl 41)),
 .o (.move 43 (sl 8)),
 .o (.call (some 44) (cf 181) [(sl 42), (sl 43)]),
 .o (.lenS 45 (sl 44)),
 .o (.move 46 (ci 0))])
 ((.block 2 (.loop (.seq (.reg [.o (.bin 47 .lss (sl 46) (sl 45))])
 ((.seq (.cond (sl 47) .skip
 (.exit 2))
 ((.seq (.block 3 (.seq (.reg [.o (.move 48 (sl 46)),
 .o (.idx 49 1 (sl 44) (sl 46)),
 .o (.load1 50 (sl 49)),
 .o (.move 9 (sl 48)),
 .o (.move 10 (sl 50))])
 ((.weak (.draw [] [(kR, .o (.move 51 (sl 7))),
 (kR, .o (.move 52 (sl 8))),
 (kR, .o (.nilc 53 (sl 51))),
 (kR, .o (.fld 54 3 (sl 53))),
 (kR, .o (.idxA 55 2 1 (sl 54) (sl 52))),
 (kR, .o (.load1 56 (sl 55))),
 (kR, .o (.move 57 (sl 10))),
 (kR, .o (.move 58 (sl 9))),
 (kR, .o (.fld 59 1 (sl 3))),
 (kR, .o (.load1 60 (sl 59))),
 (kR, .o (.lenS 61 (sl 60))),
 (kR, .o (.bin 62 .mul (sl 58) (sl 61))),
 (kR, .o (.idx 63 1 (sl 56) (sl 57))),
 (kH, .o (.store 1 (sl 63) (sl 62)))])))))
 ((.reg [.o (.bin 64 .add (sl 46) (ci 1)),
 .o (.move 46 (sl 64))]))))))))))))))))
 ((.reg [.o (.bin 65 .add (sl 28) (ci 1)),
 .o (.move 28 (sl 65))])))))))))))
 ((.seq (.seq (.reg [.o (.fld 66 0 (sl 3)),
 .o (.fld 67 0 (sl 66)),
 .o (.load1 68 (sl 67)),
 .o (.lenS 69 (sl 68)),
 .o (.move 70 (ci 0))])
 ((.block 4 (.loop (.seq (.reg [.o (.bin 71 .lss (sl 70) (sl 69))])
 ((.seq (.cond (sl 71) .skip
 (.exit 4))
 ((.seq (.block 5 (.seq (.reg [.o (.move 72 (sl 70)),
 .o (.idx 73 5 (sl 68) (sl 70)),
 .o (.loadN 74 5 (sl 73)),
 .o (.alloc 12 [.v (.int .i64 0), .v (.int .i64 0), .v (.int .i64 0), .v (.int .i64 0), .v (.slice none 0 0)]),
 .o (.move 11 (sl 72)),
 .o (.store 5 (sl 12) (sl 74))])
 ((.seq (.reg [.o (.fld 75 4 (sl 12)),
 .o (.load1 76 (sl 75)),
 .o (.lenS 77 (sl 76)),
 .o (.move 78 (ci 0))])
 ((.block 6 (.loop (.seq (.reg [.o (.bin 79 .lss (sl 78) (sl 77))])
 ((.seq (.cond (sl 79) .skip
 (.exit 6))
 ((.seq (.block 7 (.seq (.reg [.o (.idx 80 1 (sl 76) (sl 78)),
 .o (.load1 81 (sl 80)),
 .o (.move 14 (sl 81))])
 ((.reg [.o (.move 82 (sl 7)),
 .o (.nilc 83 (sl 82)),
 .o (.fld 84 7 (sl 83)),
 .o (.load1 85 (sl 84)),
 .o (.move 86 (sl 14)),
 .o (.move 87 (sl 11)),
 .o (.idx 88 1 (sl 85) (sl 86)),
 .o (.store 1 (sl 88) (sl 87))]))))
 ((.reg [.o (.bin 89 .add (sl 78) (ci 1)),
 .o (.move 78 (sl 89))]))))))))))))))
 ((.reg [.o (.bin 90 .add (sl 70) (ci 1)),
 .o (.move 70 (sl 90))])))))))))))
 ((.seq (.reg [.o (.move 91 (sl 7)),
 .o (.move 6 (sl 91))])
 (.ret))))))))))
theorem fun_impl_newEvaluator_h {rin : List T} {args : List A} {Q : List T → T → Prop} (ha : args.length ≤ 92) (h : cW Try.prog 92 c_impl_newEvaluator_h (retP Try.prog [.tmp 6] rin.length Q) (St.of (enum 0 args) (enum 1000000000 rin))) :
    Fun Try.prog 179 rin args Q :=
  Fun.of (H := ⟨[], [9]⟩) Try.func179 rfl rfl rfl (by kernel_rfl) ha (by decide) h

end Go.Ab

/- Contracts: copies of strategies; responses in turn; claims made and joined. -/
set_option linter.unusedSimpArgs false
set_option linter.unusedVariables false
namespace Go.Ab
open Go.Proofs

theorem bestS_strB {g : Gm} {s : Int × List (List Int)} (h : strB g s = true) : strB g (bestS g s) = true := by
  obtain ⟨h1, h2, h3, h4⟩ := strB_run h
  have h5 := runB_strat h1 s.2 h2
  have h6 : 0 ≤ 1 - s.1 ∧ 1 - s.1 ≤ 1 := by omega
  show (isGameB g && decide (0 ≤ 1 - s.1 ∧ 1 - s.1 ≤ 1) && isStratB g (1 - s.1) _) = true
  rw [h1, decide_eq_true h6]; exact h5
theorem bestS_rowsS {g : Gm} {s : Int × List (List Int)} (h : strB g s = true) : rowsS (bestS g s).2 := by
  obtain ⟨h1, h2, h3, h4⟩ := strB_run h
  obtain ⟨p1, p2, _⟩ := isGameB_parts h1
  obtain ⟨t1, t2, t3, t4⟩ := isTreeB_spec p1
  have hr := runB_rows t2 s.2 (1 - s.1) g.w.length
  have hl := sets_len g (1 - s.1) t1.2 p2.2
  have ht : ∀ (m : List (List Int)), (∀ r ∈ m, r.length ≤ 4) → tot m ≤ m.length * 4 := by
    intro m
    induction m with
    | nil => intro _; simp [tot]
    | cons r m ih =>
      intro h
      have h1 := ih fun r hr => h r (by simp [hr])
      have h2 := h r (by simp)
      simp only [tot, List.length_cons]; omega
  have h5 := ht _ hr.2
  have h6 := hr.1
  exact ⟨by show (runB g s.2 (1 - s.1) g.w.length).length ≤ _; omega, by show tot (runB g s.2 (1 - s.1) g.w.length) ≤ _; omega⟩
section
attribute [-go_sem] load1C load1V fldC lenC idxC loadNV nilCheckW
set_option maxRecDepth 20000 in
theorem spec_l24Own_ok (s : Int × List (List Int)) (hs : rows12 s.2) : Fun Try.prog 145 [] [.t (stratT s)] fun o r => o = [] ∧ r = stratO s := by
  obtain ⟨p, m⟩ := s
  obtain ⟨h1, h2⟩ := hs
  (try simp only [] at h1 h2)
  refine fun_spec_l24Own (by simp) ?_
  simp -implicitDefEqProofs only [go_sem, evR, ints, rows, rat, rats, c_spec_l24Own, stratT]
  refine SemC.loopR (σ := Nat) (fun i => St.of [(1, .own 1), (2, .own 2), (3, .own 77), (4, .t (.i i))] [(1, .box [.i p, rows m]), (2, .box [.i 0, .v (.slice none 0 0)]), (77, rowsO (m.take i))]) (fun i => i ≤ m.length) (fun i => m.length - i) 0 (Weak.of _ _ [some 1, some 2, some 5] (by simp) (by simp) ?_ ?_) (by omega) fun i hi R hn hr he => ?_
  · simp -implicitDefEqProofs only [ints, rows, Nat.reduceBEq, wkR, Nat.reduceEqDiff, ↓reduceIte, wrR, List.take_zero]
  · exact ⟨⟨_, rfl, .refl _⟩, rfl, ⟨_, rfl, .refl _⟩, rfl, ⟨_, rfl, .refl _⟩, rfl, trivial⟩
  · rcases Nat.lt_or_ge i m.length with h9 | h9
    · obtain ⟨r, hr1⟩ : ∃ r, m[i]? = some r := ⟨_, List.getElem?_eq_getElem h9⟩
      simp -implicitDefEqProofs only [go_sem, evR, ints, rows, rat, rats, rowsO, hr1, decide_eq_true (show (i : Int) < (m.length : Int) by omega)]
      refine ⟨by omega, by omega, by omega, ?_⟩
      refine CallW.res (spec_l01Own_ok r (h2 r (List.mem_of_getElem? hr1))) [] rfl Try.call167 ?_ (.inl rfl) ?_
      · simp -implicitDefEqProofs only [agR, Nat.reduceLeDiff, Nat.reduceSub, vaR, go_sem, ints, rows, rat, rats, ratsO, rtR, intsO, rowsO]
      simp -implicitDefEqProofs only [clR, Nat.reduceLeDiff, go_sem, evR, rat, intsO]
      refine ⟨by rw [List.length_take]; omega, hn _ (i + 1) (Weak.of _ _ [some 1, some 2, some 21] (by simp) (by simp) ?_ ?_) (by omega) (by omega)⟩
      · simp -implicitDefEqProofs only [ints, rows, Nat.reduceBEq, wkR, Nat.reduceEqDiff, ↓reduceIte, wrR, next64 h9 (by omega)]
      · refine ⟨⟨_, rfl, .refl _⟩, rfl, ⟨_, rfl, .refl _⟩, rfl, ⟨_, rfl, ?_⟩, rfl, trivial⟩
        rw [take_snoc hr1, rowsO, List.map_append]; exact .refl _
    · simp -implicitDefEqProofs only [go_sem, evR, ints, rows, rat, rats, rowsO, decide_eq_false (show ¬ (i : Int) < (m.length : Int) by omega)]
      refine he _ _ ?_
      simp -implicitDefEqProofs only [go_sem, evR, ints, rows, rat, rats]
      rw [List.take_of_length_le (show m.length ≤ i by omega)]; rfl
set_option maxRecDepth 20000 in
theorem impl_cloneStrategy_ok (s : Int × List (List Int)) (hs : rows12 s.2) : Fun Try.prog 143 [] [.t (stratT s)] fun o r => o = [] ∧ r = stratO s := by
  obtain ⟨p, m⟩ := s
  obtain ⟨h1, h2⟩ := hs
  (try simp only [] at h1 h2)
  refine fun_impl_cloneStrategy (by simp) ?_
  simp -implicitDefEqProofs only [go_sem, evR, ints, rows, rat, rats, c_impl_cloneStrategy, stratT]
  refine SemC.loopR (σ := Nat) (fun i => St.of [(2, .own 2), (3, .own 3), (10, .t (rows m)), (11, .t (.i m.length)), (12, .t (.i i))] [(2, .box [.i 0, .v (.slice none 0 0)]), (3, .box [.i p, rowsO (m.take i)])]) (fun i => i ≤ m.length) (fun i => m.length - i) 0 (Weak.of _ _ [some 2, some 3] (by simp) (by simp) ?_ ?_) (by omega) fun i hi R hn hr he => ?_
  · simp -implicitDefEqProofs only [ints, rows, Nat.reduceBEq, wkR, Nat.reduceEqDiff, ↓reduceIte, wrR, List.take_zero]
  · refine ⟨⟨_, rfl, .refl _⟩, rfl, ⟨_, rfl, ?_⟩, rfl, trivial⟩
    exact .bc (.refl _) (.bc (.nilArr 1) (.refl _))
  · rcases Nat.lt_or_ge i m.length with h9 | h9
    · obtain ⟨r, hr1⟩ : ∃ r, m[i]? = some r := ⟨_, List.getElem?_eq_getElem h9⟩
      simp -implicitDefEqProofs only [go_sem, evR, ints, rows, rat, rats, rowsO, hr1, decide_eq_true (show (i : Int) < (m.length : Int) by omega)]
      refine ⟨by omega, by omega, by omega, ?_⟩
      refine ⟨_, Weak.open 3 1 500 rfl rfl rfl (by decide) rfl, ?_⟩
      simp -implicitDefEqProofs only [go_sem, evR, ints, rows, rat, rats, List.lookup_cons, beq_self_eq_true, Nat.reduceBEq]
      refine CallC.res (slices_Clone_ok r (h2 r (List.mem_of_getElem? hr1))) [] rfl Try.call197 (fun e R' hR => ?_) (.inl rfl) ?_
      · simp -implicitDefEqProofs only [agR, Nat.reduceLeDiff, Nat.reduceSub, vaR, go_sem, ints, rows, rat, rats, ratsO, rtR, intsO, rowsO]
      simp -implicitDefEqProofs only [clR, Nat.reduceLeDiff, go_sem, evR, rat, intsO]
      refine ⟨⟨by rw [List.length_take]; omega, hn _ (i + 1) (Weak.of _ _ [some 2, some 3] (by simp) (by simp) ?_ ?_) (by omega) (by omega)⟩, by repeat first | exact frameOK.refl _ _ _ | refine frameOK.upd _ ?_ (.inr rfl) | refine frameOK.upd _ ?_ (.inl (by decide))⟩
      · simp -implicitDefEqProofs only [ints, rows, Nat.reduceBEq, wkR, Nat.reduceEqDiff, ↓reduceIte, wrR, next64 h9 (by omega)]
      · refine ⟨⟨_, rfl, .refl _⟩, rfl, ⟨_, rfl, ?_⟩, rfl, trivial⟩
        rw [take_snoc hr1, rowsO, List.map_append]; exact .refl _
    · simp -implicitDefEqProofs only [go_sem, evR, ints, rows, rat, rats, rowsO, decide_eq_false (show ¬ (i : Int) < (m.length : Int) by omega)]
      refine he _ _ ?_
      simp -implicitDefEqProofs only [go_sem, evR, ints, rows, rat, rats, opR, Nat.reduceBEq]
      rw [List.take_of_length_le (show m.length ≤ i by omega)]; rfl
theorem own_t {f : FuncId} {s : Int × List (List Int)} (h : Fun Try.prog f [] [.t (stratT s)] fun o r => o = [] ∧ r = stratO s) : Fun Try.prog f [] [.t (.agg [.i s.1, .sh 1 (s.2.map ints)])] fun o r => o = [] ∧ r = .agg [.i s.1, .arr 1 (s.2.map intsO)] := h
theorem run_s {f : FuncId} {g : Gm} {s : Int × List (List Int)} (h : Fun Try.prog f [] [.t (.agg [.sh 5 (chunk nodeC g.nd), .sh 1 (g.w.map ints), .sh 1 (g.v.map ints)]), .t (.agg [.i s.1, .sh 1 (s.2.map ints)])] fun o r => o = [] ∧ r = runT g s.2 (1 - s.1)) :
    Fun Try.prog f [] [.t (.agg [.sh 5 (chunk nodeC g.nd), .sh 1 (g.w.map ints), .sh 1 (g.v.map ints)]), .t (.agg [.i s.1, .sh 1 (s.2.map ints)])] fun o r => o = [] ∧ r = .tup [.i (bestN g s), .agg [.i (bestS g s).1, .arr 1 ((bestS g s).2.map intsO)]] := h
theorem rs_noSh (g : Gm) (s : Int × List (List Int)) : (T.tup [.i (bestN g s), .agg [.i (bestS g s).1, .arr 1 ((bestS g s).2.map intsO)]]).noSh := ⟨trivial, ⟨trivial, rowsO_noSh _, trivial⟩, trivial⟩
theorem stZ_le : Le (.agg [.i 0, .v (.slice none 0 0)]) (.agg [.i 0, rowsO []]) := .agg rfl fun i h h' => by
  match i with
  | 0 => exact .refl _
  | 1 => exact .nilArr 1
def ritN (g : Gm) (s t : Int × List (List Int)) : Nat → (Int × List (List Int)) × (Int × List (List Int))
  | 0 => (s, t)
  | n + 1 => (bestS g (ritN g s t n).2, bestS g (bestS g (ritN g s t n).2))
theorem ritN_str {g : Gm} {s t : Int × List (List Int)} (hs : strB g s = true) (ht : strB g t = true) : ∀ n, strB g (ritN g s t n).1 = true ∧ strB g (ritN g s t n).2 = true
  | 0 => ⟨hs, ht⟩
  | n + 1 => by
    obtain ⟨_, h⟩ := ritN_str hs ht n
    exact ⟨bestS_strB h, bestS_strB (bestS_strB h)⟩
def ritR (g : Gm) (s t : Int × List (List Int)) (n : Int) : (Int × List (List Int)) × (Int × List (List Int)) × Int :=
  if pairG g s t = false then ((0, []), (0, []), 1) else if ¬(0 ≤ n ∧ n ≤ 20) then ((0, []), (0, []), 2) else ((ritN g s t n.toNat).1, (ritN g s t n.toNat).2, 0)
def ritO (r : (Int × List (List Int)) × (Int × List (List Int)) × Int) : T := .tup [.agg [.i r.1.1, rowsO r.1.2], .agg [.i r.2.1.1, rowsO r.2.1.2], .i r.2.2]
theorem ritR_rowsS (g : Gm) (s t : Int × List (List Int)) (n : Int) (hs : rowsS s.2) (ht : rowsS t.2) : rowsS (ritR g s t n).1.2 ∧ rowsS (ritR g s t n).2.1.2 := by
  have hz : rowsS [] := ⟨by simp, by simp [tot]⟩
  unfold ritR
  cases hb : pairG g s t with
  | false => exact ⟨hz, hz⟩
  | true =>
    rw [if_neg (by simp)]
    split
    · exact ⟨hz, hz⟩
    · obtain ⟨h1, h2, _⟩ := pairG_parts hb
      cases hn : n.toNat with
      | zero => exact ⟨hs, ht⟩
      | succ k =>
        obtain ⟨_, h⟩ := ritN_str h1 h2 k
        exact ⟨bestS_rowsS h, bestS_rowsS (bestS_strB h)⟩
theorem ritZ {g : Gm} {s t : Int × List (List Int)} {n : Int} {c : Int} (h : ritR g s t n = ((0, []), (0, []), c)) : Le (.tup [.agg [.i 0, .v (.slice none 0 0)], .agg [.i 0, .v (.slice none 0 0)], .i c]) (ritO (ritR g s t n)) := by
  rw [h]; exact .tup3 stZ_le stZ_le (.refl _)
set_option maxRecDepth 20000 in
theorem impl_RespondInTurn_ok (g : Gm) (s t : Int × List (List Int)) (n : Int) (hg : gameL g) (hs : rowsS s.2) (ht : rowsS t.2) : Fun Try.prog 81 [] [.t (gameT g), .t (stratT s), .t (stratT t), .t (.i n)] fun o r => o = [] ∧ r = ritO (ritR g s t n) := by
  refine Fun.le (Q := fun o r => o = [] ∧ (r = ritO (ritR g s t n) ∨ ∃ c, ritR g s t n = ((0, []), (0, []), c) ∧ r = .tup [.agg [.i 0, .v (.slice none 0 0)], .agg [.i 0, .v (.slice none 0 0)], .i c])) ?_ ?_
  case refine_2 =>
    rintro o r ⟨rfl, rfl | ⟨c, h, rfl⟩⟩
    · exact ⟨_, .refl _, rfl, rfl⟩
    · exact ⟨_, ritZ h, rfl, rfl⟩
  refine fun_impl_RespondInTurn_h (by simp) ?_
  have h1 := pair_t (impl_arePair_ok g s t hg (rowsS_L hs) (rowsS_L ht))
  simp -implicitDefEqProofs only [go_sem, evR, ints, rows, rat, rats, c_impl_RespondInTurn_h, gameT, stratT, nodes]
  cases hb : pairG g s t <;> rw [hb] at h1
  · refine CallW.pure h1 [] rfl Try.call120 ?_ (by first | trivial | simp [T.noSh, T.noShL, rat]) rfl ?_
    · simp -implicitDefEqProofs only [agR, Nat.reduceLeDiff, Nat.reduceSub, vaR, go_sem, ints, rows, rat, rats, ratsO, rtR, intsO, rowsO]
    simp -implicitDefEqProofs only [go_sem, evR, ints, rows, rat, rats]
    exact .inr ⟨1, by rw [ritR, hb]; rfl, rfl⟩
  · refine CallW.pure h1 [] rfl Try.call120 ?_ (by first | trivial | simp [T.noSh, T.noShL, rat]) rfl ?_
    · simp -implicitDefEqProofs only [agR, Nat.reduceLeDiff, Nat.reduceSub, vaR, go_sem, ints, rows, rat, rats, ratsO, rtR, intsO, rowsO]
    simp -implicitDefEqProofs only [go_sem, evR, ints, rows, rat, rats]
    have w1 := impl_within_ok n 0 20
    cases hw : decide (0 ≤ n ∧ n ≤ 20) <;> rw [hw] at w1
    · refine CallW.pure w1 [] rfl Try.call110 ?_ (by first | trivial | simp [T.noSh, T.noShL, rat]) rfl ?_
      · simp -implicitDefEqProofs only [agR, Nat.reduceLeDiff, Nat.reduceSub, vaR, go_sem, ints, rows, rat, rats, ratsO, rtR, intsO, rowsO]
      simp -implicitDefEqProofs only [go_sem, evR, ints, rows, rat, rats]
      have hw := of_decide_eq_false hw
      exact .inr ⟨2, by rw [ritR, hb, if_neg (by simp), if_pos hw], rfl⟩
    · refine CallW.pure w1 [] rfl Try.call110 ?_ (by first | trivial | simp [T.noSh, T.noShL, rat]) rfl ?_
      · simp -implicitDefEqProofs only [agR, Nat.reduceLeDiff, Nat.reduceSub, vaR, go_sem, ints, rows, rat, rats, ratsO, rtR, intsO, rowsO]
      simp -implicitDefEqProofs only [go_sem, evR, ints, rows, rat, rats]
      have hw := of_decide_eq_true hw
      obtain ⟨m, rfl⟩ : ∃ m : Nat, n = m := ⟨n.toNat, by omega⟩
      have hrit : ritR g s t m = ((ritN g s t m).1, (ritN g s t m).2, 0) := by rw [ritR, hb, if_neg (by simp), if_neg (fun h => h hw)]; rfl
      obtain ⟨b1, b2, _⟩ := pairG_parts hb
      refine CallC.res (own_t (impl_cloneStrategy_ok s (rowsS_12 hs))) [] rfl Try.call143 (fun e R' hR => ?_) (.inl rfl) ?_
      · simp -implicitDefEqProofs only [agR, Nat.reduceLeDiff, Nat.reduceSub, vaR, go_sem, ints, rows, rat, rats, ratsO, rtR, intsO, rowsO]
      simp -implicitDefEqProofs only [clR, Nat.reduceLeDiff, go_sem, evR, rat]
      refine CallC.res (own_t (impl_cloneStrategy_ok t (rowsS_12 ht))) [] rfl Try.call143 (fun e R' hR => ?_) (.inl rfl) ?_
      · simp -implicitDefEqProofs only [agR, Nat.reduceLeDiff, Nat.reduceSub, vaR, go_sem, ints, rows, rat, rats, ratsO, rtR, intsO, rowsO]
      simp -implicitDefEqProofs only [clR, Nat.reduceLeDiff, go_sem, evR, rat]
      refine SemC.loopR (σ := Nat) (fun i => St.of [(4, .own 4), (5, .own 5), (6, .own 6), (8, .own 8), (9, .own 9), (10, .t (.i 0)), (27, .t (.i m)), (28, .t (.i i))] [(4, .box [nodes g.nd, rows g.w, rows g.v]), (5, .box [.i (ritN g s t i).1.1, rowsO (ritN g s t i).1.2]), (6, .box [.i (ritN g s t i).2.1, rowsO (ritN g s t i).2.2]), (8, .box [.i 0, .v (.slice none 0 0)]), (9, .box [.i 0, .v (.slice none 0 0)])]) (fun i => i ≤ m) (fun i => m - i) 0 (Weak.of _ _ [some 4, some 5, some 6, some 8, some 9] (by simp) (by simp) ?_ ?_) (by omega) fun i hi R hn hr he => ?_
      · simp -implicitDefEqProofs only [ints, rows, Nat.reduceBEq, wkR, Nat.reduceEqDiff, ↓reduceIte, wrR, ritN]
      · exact ⟨⟨_, rfl, .refl _⟩, rfl, ⟨_, rfl, .refl _⟩, rfl, ⟨_, rfl, .refl _⟩, rfl, ⟨_, rfl, .refl _⟩, rfl, ⟨_, rfl, .refl _⟩, rfl, trivial⟩
      · obtain ⟨q1, q2⟩ := ritN_str b1 b2 i
        rcases Nat.lt_or_ge i m with h9 | h9
        · simp -implicitDefEqProofs only [go_sem, evR, ints, rows, rat, rats, nodes, rowsO, decide_eq_true (show (i : Int) < (m : Int) by omega), opR, Nat.reduceBEq]
          refine CallW.res (run_s (impl_run q2)) [33002] rfl Try.call122 ?_ (.inr (rs_noSh _ _)) ?_
          · simp -implicitDefEqProofs only [agR, Nat.reduceLeDiff, Nat.reduceSub, vaR, go_sem, ints, rows, rat, rats, ratsO, rtR, intsO, rowsO]
          simp -implicitDefEqProofs only [clR, Nat.reduceLeDiff, go_sem, evR, rat, rowsO, opR, Nat.reduceBEq]
          refine CallW.res (run_s (impl_run (bestS_strB q2))) [39002] rfl Try.call122 ?_ (.inr (rs_noSh _ _)) ?_
          · simp -implicitDefEqProofs only [agR, Nat.reduceLeDiff, Nat.reduceSub, vaR, go_sem, ints, rows, rat, rats, ratsO, rtR, intsO, rowsO]
          simp -implicitDefEqProofs only [clR, Nat.reduceLeDiff, go_sem, evR, rat, rowsO, opR, Nat.reduceBEq]
          refine hn _ (i + 1) (Weak.trans (Weak.close1 5 1 39002 rfl rfl (by decide) rfl) (Weak.of _ _ [some 4, some 5, some 6, some 8, some 9] (by simp) (by simp) ?_ ?_)) (by omega) (by omega)
          · simp -implicitDefEqProofs only [ints, rows, Nat.reduceBEq, wkR, Nat.reduceEqDiff, ↓reduceIte, wrR, ritN, next64 h9 (by omega)]
          · exact ⟨⟨_, rfl, .refl _⟩, rfl, ⟨_, rfl, .refl _⟩, rfl, ⟨_, rfl, .refl _⟩, rfl, ⟨_, rfl, .refl _⟩, rfl, ⟨_, rfl, .refl _⟩, rfl, trivial⟩
        · have him : i = m := by omega
          subst him
          simp -implicitDefEqProofs only [go_sem, evR, ints, rows, rat, rats, nodes, rowsO, decide_eq_false (show ¬ (i : Int) < (i : Int) by omega)]
          refine he _ _ ?_
          refine ⟨_, Weak.trans (Weak.open 5 1 501 rfl rfl rfl (by decide) rfl) (Weak.open 6 1 502 rfl rfl rfl (by decide) rfl), ?_⟩
          simp -implicitDefEqProofs only [go_sem, evR, ints, rows, rat, rats, opR, Nat.reduceBEq]
          exact ⟨.inl (by rw [hrit]; rfl), by repeat first | exact frameOK.refl _ _ _ | refine frameOK.upd _ ?_ (.inr rfl) | refine frameOK.upd _ ?_ (.inl (by decide))⟩
set_option maxRecDepth 20000 in
theorem spec_RespondInTurn_ok (g : Gm) (s t : Int × List (List Int)) (n : Int) (hg : gameL g) (hs : rowsS s.2) (ht : rowsS t.2) : Fun Try.prog 82 [] [.t (gameT g), .t (stratT s), .t (stratT t), .t (.i n)] fun o r => o = [] ∧ r = ritO (ritR g s t n) := by
  refine Fun.le (Q := fun o r => o = [] ∧ (r = ritO (ritR g s t n) ∨ ∃ c, ritR g s t n = ((0, []), (0, []), c) ∧ r = .tup [.agg [.i 0, .v (.slice none 0 0)], .agg [.i 0, .v (.slice none 0 0)], .i c])) ?_ ?_
  case refine_2 =>
    rintro o r ⟨rfl, rfl | ⟨c, h, rfl⟩⟩
    · exact ⟨_, .refl _, rfl, rfl⟩
    · exact ⟨_, ritZ h, rfl, rfl⟩
  refine fun_spec_RespondInTurn_h (by simp) ?_
  have h1 := pair_t (spec_l23Pair_ok g s t hg (rowsS_L hs) (rowsS_L ht))
  simp -implicitDefEqProofs only [go_sem, evR, ints, rows, rat, rats, c_spec_RespondInTurn_h, gameT, stratT, nodes]
  cases hb : pairG g s t <;> rw [hb] at h1
  · refine CallW.pure h1 [] rfl Try.call123 ?_ (by first | trivial | simp [T.noSh, T.noShL, rat]) rfl ?_
    · simp -implicitDefEqProofs only [agR, Nat.reduceLeDiff, Nat.reduceSub, vaR, go_sem, ints, rows, rat, rats, ratsO, rtR, intsO, rowsO]
    simp -implicitDefEqProofs only [go_sem, evR, ints, rows, rat, rats]
    exact .inr ⟨1, by rw [ritR, hb]; rfl, rfl⟩
  · refine CallW.pure h1 [] rfl Try.call123 ?_ (by first | trivial | simp [T.noSh, T.noShL, rat]) rfl ?_
    · simp -implicitDefEqProofs only [agR, Nat.reduceLeDiff, Nat.reduceSub, vaR, go_sem, ints, rows, rat, rats, ratsO, rtR, intsO, rowsO]
    simp -implicitDefEqProofs only [go_sem, evR, ints, rows, rat, rats]
    have w1 := spec_l01In_ok n 0 20
    cases hw : decide (0 ≤ n ∧ n ≤ 20) <;> rw [hw] at w1
    · refine CallW.pure w1 [] rfl Try.call148 ?_ (by first | trivial | simp [T.noSh, T.noShL, rat]) rfl ?_
      · simp -implicitDefEqProofs only [agR, Nat.reduceLeDiff, Nat.reduceSub, vaR, go_sem, ints, rows, rat, rats, ratsO, rtR, intsO, rowsO]
      simp -implicitDefEqProofs only [go_sem, evR, ints, rows, rat, rats]
      have hw := of_decide_eq_false hw
      exact .inr ⟨2, by rw [ritR, hb, if_neg (by simp), if_pos hw], rfl⟩
    · refine CallW.pure w1 [] rfl Try.call148 ?_ (by first | trivial | simp [T.noSh, T.noShL, rat]) rfl ?_
      · simp -implicitDefEqProofs only [agR, Nat.reduceLeDiff, Nat.reduceSub, vaR, go_sem, ints, rows, rat, rats, ratsO, rtR, intsO, rowsO]
      simp -implicitDefEqProofs only [go_sem, evR, ints, rows, rat, rats]
      have hw := of_decide_eq_true hw
      obtain ⟨m, rfl⟩ : ∃ m : Nat, n = m := ⟨n.toNat, by omega⟩
      have hrit : ritR g s t m = ((ritN g s t m).1, (ritN g s t m).2, 0) := by rw [ritR, hb, if_neg (by simp), if_neg (fun h => h hw)]; rfl
      obtain ⟨b1, b2, _⟩ := pairG_parts hb
      refine CallC.res (own_t (spec_l24Own_ok s (rowsS_12 hs))) [] rfl Try.call145 (fun e R' hR => ?_) (.inl rfl) ?_
      · simp -implicitDefEqProofs only [agR, Nat.reduceLeDiff, Nat.reduceSub, vaR, go_sem, ints, rows, rat, rats, ratsO, rtR, intsO, rowsO]
      simp -implicitDefEqProofs only [clR, Nat.reduceLeDiff, go_sem, evR, rat]
      refine CallC.res (own_t (spec_l24Own_ok t (rowsS_12 ht))) [] rfl Try.call145 (fun e R' hR => ?_) (.inl rfl) ?_
      · simp -implicitDefEqProofs only [agR, Nat.reduceLeDiff, Nat.reduceSub, vaR, go_sem, ints, rows, rat, rats, ratsO, rtR, intsO, rowsO]
      simp -implicitDefEqProofs only [clR, Nat.reduceLeDiff, go_sem, evR, rat]
      refine SemC.loopR (σ := Nat) (fun i => St.of [(4, .own 4), (5, .own 5), (6, .own 6), (8, .own 8), (9, .own 9), (10, .t (.i 0)), (3, .t (.i ((m : Int) - i)))] [(4, .box [nodes g.nd, rows g.w, rows g.v]), (5, .box [.i (ritN g s t i).1.1, rowsO (ritN g s t i).1.2]), (6, .box [.i (ritN g s t i).2.1, rowsO (ritN g s t i).2.2]), (8, .box [.i 0, .v (.slice none 0 0)]), (9, .box [.i 0, .v (.slice none 0 0)])]) (fun i => i ≤ m) (fun i => m - i) 0 (Weak.of _ _ [some 4, some 5, some 6, some 8, some 9] (by simp) (by simp) ?_ ?_) (by omega) fun i hi R hn hr he => ?_
      · simp -implicitDefEqProofs only [ints, rows, Nat.reduceBEq, wkR, Nat.reduceEqDiff, ↓reduceIte, wrR, ritN, Int.sub_zero]
      · exact ⟨⟨_, rfl, .refl _⟩, rfl, ⟨_, rfl, .refl _⟩, rfl, ⟨_, rfl, .refl _⟩, rfl, ⟨_, rfl, .refl _⟩, rfl, ⟨_, rfl, .refl _⟩, rfl, trivial⟩
      · obtain ⟨q1, q2⟩ := ritN_str b1 b2 i
        rcases Nat.lt_or_ge i m with h9 | h9
        · have hdec : IntKind.i64.wrap ((m : Int) - (i : Int) - 1) = (m : Int) - ((i + 1 : Nat) : Int) := by rw [wrap64 (by omega) (by omega)]; omega
          simp -implicitDefEqProofs only [go_sem, evR, ints, rows, rat, rats, nodes, rowsO, decide_eq_true (show (0 : Int) < (m : Int) - (i : Int) by omega), decide_eq_true (show (m : Int) - (i : Int) > 0 by omega), opR, Nat.reduceBEq]
          refine CallW.res (run_s (spec_run q2)) [34002] rfl Try.call132 ?_ (.inr (rs_noSh _ _)) ?_
          · simp -implicitDefEqProofs only [agR, Nat.reduceLeDiff, Nat.reduceSub, vaR, go_sem, ints, rows, rat, rats, ratsO, rtR, intsO, rowsO]
          simp -implicitDefEqProofs only [clR, Nat.reduceLeDiff, go_sem, evR, rat, rowsO, opR, Nat.reduceBEq]
          refine CallW.res (run_s (spec_run (bestS_strB q2))) [40002] rfl Try.call132 ?_ (.inr (rs_noSh _ _)) ?_
          · simp -implicitDefEqProofs only [agR, Nat.reduceLeDiff, Nat.reduceSub, vaR, go_sem, ints, rows, rat, rats, ratsO, rtR, intsO, rowsO]
          simp -implicitDefEqProofs only [clR, Nat.reduceLeDiff, go_sem, evR, rat, rowsO, opR, Nat.reduceBEq]
          refine hn _ (i + 1) (Weak.trans (Weak.close1 5 1 40002 rfl rfl (by decide) rfl) (Weak.of _ _ [some 4, some 5, some 6, some 8, some 9] (by simp) (by simp) ?_ ?_)) (by omega) (by omega)
          · simp -implicitDefEqProofs only [ints, rows, Nat.reduceBEq, wkR, Nat.reduceEqDiff, ↓reduceIte, wrR, ritN, hdec]
          · exact ⟨⟨_, rfl, .refl _⟩, rfl, ⟨_, rfl, .refl _⟩, rfl, ⟨_, rfl, .refl _⟩, rfl, ⟨_, rfl, .refl _⟩, rfl, ⟨_, rfl, .refl _⟩, rfl, trivial⟩
        · have him : i = m := by omega
          subst him
          simp -implicitDefEqProofs only [go_sem, evR, ints, rows, rat, rats, nodes, rowsO, decide_eq_false (show ¬ (0 : Int) < (i : Int) - (i : Int) by omega), decide_eq_false (show ¬ (i : Int) - (i : Int) > 0 by omega)]
          refine he _ _ ?_
          refine ⟨_, Weak.trans (Weak.open 5 1 501 rfl rfl rfl (by decide) rfl) (Weak.open 6 1 502 rfl rfl rfl (by decide) rfl), ?_⟩
          simp -implicitDefEqProofs only [go_sem, evR, ints, rows, rat, rats, opR, Nat.reduceBEq]
          exact ⟨.inl (by rw [hrit]; rfl), by repeat first | exact frameOK.refl _ _ _ | refine frameOK.upd _ ?_ (.inr rfl) | refine frameOK.upd _ ?_ (.inl (by decide))⟩
end
end Go.Ab

/- Games as data: parents; values over the first children; bounds of values. -/
set_option linter.unusedSimpArgs false
set_option linter.unusedVariables false
namespace Go.Ab

def parN (l : List Nd) : Nat → List Int
  | 0 => List.replicate l.length 0
  | i + 1 => (l.getD i nd0).ch.foldl (fun P (c : Int) => P.set c.toNat (i : Int)) (parN l i)
theorem foldl_set_length (i : Int) : ∀ (cs : List Int) (P : List Int), (cs.foldl (fun P (c : Int) => P.set c.toNat i) P).length = P.length
  | [], P => rfl
  | c :: cs, P => by rw [List.foldl_cons, foldl_set_length i cs]; simp
theorem parN_length (l : List Nd) : ∀ i, (parN l i).length = l.length
  | 0 => by simp [parN]
  | i + 1 => by rw [parN, foldl_set_length, parN_length l i]
def valK (g : Gm) (s t : List (List Int)) (f a b p : Nat) (q ch : List Int) (k : Nat) : Int := sumI ((List.zipWith (fun x c => x * val g s t f c.toNat a b p) q ch).take k)
theorem valK_succ {g : Gm} {s t : List (List Int)} {f a b p : Nat} {q ch : List Int} {k : Nat} {x c : Int} (hx : q[k]? = some x) (hc : ch[k]? = some c) : valK g s t f a b p q ch (k + 1) = valK g s t f a b p q ch k + x * val g s t f c.toNat a b p := by
  unfold valK
  have h : (List.zipWith (fun x c => x * val g s t f c.toNat a b p) q ch)[k]? = some (x * val g s t f c.toNat a b p) := by
    rw [List.getElem?_zipWith, hx, hc]
  rw [List.take_add_one, h, Option.toList_some, sumI_snoc]
theorem val_abs {g : Gm} {s t : List (List Int)} (hnd : ndsOK g.nd) (hs : partsOK g s 0) (ht : partsOK g t 1) {a b : Nat} (ha : a < g.w.length) (hb : b < g.w.length) : ∀ (f i p : Nat), i < g.nd.length → dep g.nd f i ≤ p → -(100 * pw p) ≤ val g s t f i a b p ∧ val g s t f i a b p ≤ 100 * pw p
  | 0, i, p, _, _ => by
    have := pw_pos p
    simp only [val]; omega
  | f + 1, i, p, hi, hd => by
    have hpp := pw_pos p
    rw [val]
    (try simp only [])
    by_cases h2 : (g.nd.getD i nd0).p = 2
    · rw [if_pos h2]
      obtain ⟨q1, q2⟩ := payOK_of hnd i a b
      have e1 := Int.mul_le_mul_of_nonneg_right q1 (Int.le_of_lt hpp)
      have e2 := Int.mul_le_mul_of_nonneg_right q2 (Int.le_of_lt hpp)
      rw [Int.neg_mul] at e1
      exact ⟨e1, e2⟩
    · rw [if_neg h2]
      obtain ⟨d1, d2⟩ := dep_child (f := f) h2
      have hx : g.nd[i]? = some (g.nd.getD i nd0) := by rw [List.getD_eq_getElem?_getD, List.getElem?_eq_getElem hi]; rfl
      have hch := ndOK_child (hnd i _ hx)
      obtain ⟨p', rfl⟩ : ∃ p', p = p' + 1 := ⟨p - 1, by omega⟩
      obtain ⟨q, hq, hql, hq0, hqs⟩ : ∃ q, (if (g.nd.getD i nd0).p = 0 then partsOf g s 0 i a else partsOf g t 1 i b) = q ∧ q.length = (g.nd.getD i nd0).ch.length ∧ (∀ x ∈ q, 0 ≤ x ∧ x ≤ 60) ∧ sumI q = 60 := by
        by_cases h0 : (g.nd.getD i nd0).p = 0
        · rw [if_pos h0]
          obtain ⟨m1, m2, m3⟩ := hs i a hi ha h0
          exact ⟨_, rfl, m1, m2, m3⟩
        · rw [if_neg h0]
          obtain ⟨⟨r1, r2⟩, _⟩ := ndOK_fields (hnd i _ hx)
          obtain ⟨m1, m2, m3⟩ := ht i b hi hb (by omega)
          exact ⟨_, rfl, m1, m2, m3⟩
      rw [hq, zipW_sum _ _ _ hql, Nat.add_sub_cancel]
      have hb := sumI_abs (l := List.range (g.nd.getD i nd0).ch.length) (F := fun k => q.getD k 0 * val g s t f ((g.nd.getD i nd0).ch.getD k 0).toNat a b p') (G := fun k => (100 * pw p') * q.getD k 0) fun k hk => by
        have hk := List.mem_range.1 hk
        have hmem : (g.nd.getD i nd0).ch.getD k 0 ∈ (g.nd.getD i nd0).ch := getD_mem 0 hk
        have h1 := hch _ hmem
        have h3 := d2 _ hmem
        have ih := val_abs hnd hs ht ha hb f ((g.nd.getD i nd0).ch.getD k 0).toNat p' (by omega) (by omega)
        have hqk := hq0 _ (getD_mem 0 (show k < q.length by omega))
        obtain ⟨m1, m2⟩ := mul_abs hqk.1 ih.1 ih.2
        exact ⟨m1, m2⟩
      rw [sumI_map_mul, ← hql, map_getD_range, hqs] at hb
      rw [hql] at hb
      have e : 100 * pw (p' + 1) = 100 * pw p' * 60 := by rw [pw_succ]; omega
      rw [e]; exact hb
end Go.Ab

/- Contracts: numbers of games. -/
set_option linter.unusedSimpArgs false
set_option linter.unusedVariables false
namespace Go.Ab
open Go.Proofs

def evO (g : Gm) (s t : List (List Int)) : T := .box [nodes g.nd, rows g.w, rows g.v, intsO (ownL g 0), intsO (ownL g 1), rows s, rows t, intsO (parN g.nd g.nd.length)]
def evL (g : Gm) (s t : List (List Int)) : List T := [nodes g.nd, rows g.w, rows g.v, ints (ownL g 0), ints (ownL g 1), rows s, rows t, ints (parN g.nd g.nd.length)]
def evB (g : Gm) (s t : List (List Int)) (c3 c4 : T) (par : List Int) : T := .box [nodes g.nd, rows g.w, rows g.v, c3, c4, rows s, rows t, intsO par]
def evC (g : Gm) (q : Int) (b : Bool) : T := if b = true then intsO (ownL g q) else .v (.slice none 0 0)
theorem parN_step {l : List Nd} {i : Nat} {x : Nd} (hx : l[i]? = some x) : parN l (i + 1) = x.ch.foldl (fun P (c : Int) => P.set c.toNat (i : Int)) (parN l i) := by
  rw [parN, List.getD_eq_getElem?_getD, hx]; rfl
def parK (P ch : List Int) (i k : Nat) : List Int := (ch.take k).foldl (fun P (c : Int) => P.set c.toNat (i : Int)) P
theorem parK_succ {P ch : List Int} {i k m : Nat} (h : ch[k]? = some (m : Int)) : parK P ch i (k + 1) = (parK P ch i k).set m (i : Int) := by
  simp only [parK, take_snoc h, List.foldl_append, List.foldl_cons, List.foldl_nil, Int.toNat_natCast]
theorem parK_length (P ch : List Int) (i k : Nat) : (parK P ch i k).length = P.length := by rw [parK, foldl_set_length]
section
attribute [-go_sem] load1C load1V fldC lenC idxC loadNV nilCheckW
set_option maxRecDepth 20000 in
theorem impl_newEvaluator_ok (g : Gm) (s t : Int × List (List Int)) (hg : isGameB g = true) : Fun Try.prog 179 [] [.t (gameT g), .t (stratT s), .t (stratT t)] fun o r => o = [] ∧ r = evO g s.2 t.2 := by
  obtain ⟨p1, p2, p3, p4, p5⟩ := isGameB_parts hg
  obtain ⟨t1, t2, t3, t4⟩ := isTreeB_spec p1
  have hfl : ∀ q j, (fillN (idxs g.nd q g.nd.length) g.w.length g.nd.length j).length = g.nd.length := fun q j => fillN_length _ _ _ _
  have hfs : ∀ q j (n : Nat), (idxs g.nd q g.nd.length)[j]? = some (n : Int) → fillN (idxs g.nd q g.nd.length) g.w.length g.nd.length (j + 1) = (fillN (idxs g.nd q g.nd.length) g.w.length g.nd.length j).set n ((j * g.w.length : Nat) : Int) := fun q j n h => by
    rw [fillN, List.getD_eq_getElem?_getD, h]; rfl
  have hmul : ∀ n : Nat, n ≤ g.nd.length → n * g.w.length ≤ 60 * 6 := fun n hn => Nat.mul_le_mul (by omega) p2.2
  have hoL : ∀ q, ownL g q = fillN (idxs g.nd q g.nd.length) g.w.length g.nd.length (idxs g.nd q g.nd.length).length := fun q => rfl
  have w1 : IntKind.i64.wrap 1 = 1 := rfl
  have w2' : IntKind.i64.wrap (1 + 1) = 2 := rfl
  refine fun_impl_newEvaluator_h (by simp) ?_
  simp -implicitDefEqProofs only [go_sem, evR, ints, rows, rat, rats, c_impl_newEvaluator_h, gameT, stratT, nodes, made_one]
  refine ⟨by omega, by omega, ?_⟩
  refine SemC.loopR (σ := Nat) (fun q => St.of [(3, .own 3), (7, .own 27), (28, .t (.i q))] [(3, .box [nodes g.nd, rows g.w, rows g.v]), (27, evB g s.2 t.2 (evC g 0 (decide (0 < q))) (evC g 1 (decide (1 < q))) (List.replicate g.nd.length 0))]) (fun q => q ≤ 2) (fun q => 2 - q) 0 (Weak.of _ _ [some 3, some 27] (by simp) (by simp) ?_ ?_) (by omega) fun q hq R hn hr he => ?_
  · simp -implicitDefEqProofs only [ints, rows, Nat.reduceBEq, wkR, Nat.reduceEqDiff, ↓reduceIte, wrR, nodes]
  · refine ⟨⟨_, rfl, .refl _⟩, rfl, ⟨_, rfl, ?_⟩, rfl, trivial⟩
    rw [evB, intsO, List.map_replicate]; exact .refl _
  · match q, hq with
    | 0, _ =>
      simp -implicitDefEqProofs only [go_sem, evR, ints, rows, rat, rats, evB, evC, nodes, intsO, decide_eq_true (show (0 : Int) < 2 by omega), Nat.lt_irrefl, decide_false, Bool.false_eq_true, Int.natCast_zero, Int.cast_ofNat_Int, opR, Nat.reduceBEq]
      refine ⟨by omega, by omega, ?_⟩
      refine CallW.res (impl_nodesOf_t g.nd 0 (by omega)) [] rfl Try.call181 ?_ (.inl rfl) ?_
      · simp -implicitDefEqProofs only [agR, Nat.reduceLeDiff, Nat.reduceSub, vaR, go_sem, ints, rows, rat, rats, ratsO, rtR, intsO, rowsO]
      simp -implicitDefEqProofs only [clR, Nat.reduceLeDiff, go_sem, evR, rat, intsO]
      have hil := idxs_length g.nd 0 g.nd.length
      refine SemC.loopR (σ := Nat) (fun j => St.of [(3, .own 3), (7, .own 27), (8, .t (.i 0)), (28, .t (.i 0)), (44, .own 44), (45, .t (.i (idxs g.nd 0 g.nd.length).length)), (46, .t (.i j))] [(3, .box [nodes g.nd, rows g.w, rows g.v]), (27, evB g s.2 t.2 (intsO (fillN (idxs g.nd 0 g.nd.length) g.w.length g.nd.length j)) (.v (.slice none 0 0)) (List.replicate g.nd.length 0)), (44, intsO (idxs g.nd 0 g.nd.length))]) (fun j => j ≤ (idxs g.nd 0 g.nd.length).length) (fun j => (idxs g.nd 0 g.nd.length).length - j) 0 (Weak.of _ _ [some 3, some 27, some 44] (by simp) (by simp) ?_ ?_) (by omega) fun j hj R2 hn2 hr2 he2 => ?_
      · simp -implicitDefEqProofs only [ints, rows, Nat.reduceBEq, wkR, Nat.reduceEqDiff, ↓reduceIte, wrR, nodes]
      · refine ⟨⟨_, rfl, .refl _⟩, rfl, ⟨_, rfl, ?_⟩, rfl, ⟨_, rfl, .refl _⟩, rfl, trivial⟩
        simp only [evB, fillN, made_one, intsO, List.map_replicate]; exact .refl _
      · rcases Nat.lt_or_ge j (idxs g.nd 0 g.nd.length).length with h9 | h9
        · obtain ⟨y, hy⟩ : ∃ y, (idxs g.nd 0 g.nd.length)[j]? = some y := ⟨_, List.getElem?_eq_getElem h9⟩
          obtain ⟨n, rfl, hn1⟩ := idxs_lt' hy
          have hjm := hmul j (by omega)
          simp -implicitDefEqProofs only [go_sem, evR, ints, rows, rat, rats, evB, nodes, hy, intsO, decide_eq_true (show (j : Int) < ((idxs g.nd 0 g.nd.length).length : Int) by omega), hfl]
          refine ⟨by omega, by omega, by omega, ?_⟩
          refine ⟨_, Weak.open 27 3 500 rfl rfl rfl (by decide) rfl, ?_⟩
          simp -implicitDefEqProofs only [go_sem, evR, ints, rows, rat, rats, opR, Nat.reduceBEq, hfl]
          refine ⟨by omega, by omega, by omega, by omega, hn2 _ (j + 1) (Weak.trans (Weak.close1 27 3 500 rfl rfl (by decide) rfl) (Weak.of _ _ [some 3, some 27, some 44] (by simp) (by simp) ?_ ?_)) (by omega) (by omega)⟩
          · simp -implicitDefEqProofs only [ints, rows, Nat.reduceBEq, wkR, Nat.reduceEqDiff, ↓reduceIte, wrR, nodes, next64 h9 (by omega)]
          · refine ⟨⟨_, rfl, .refl _⟩, rfl, ⟨_, rfl, ?_⟩, rfl, ⟨_, rfl, .refl _⟩, rfl, trivial⟩
            rw [hfs _ _ _ hy]; simp only [evB, intsO, List.map_set]; rw [wrap64 (n := (j : Int) * (g.w.length : Int)) (by omega) (by omega), ← Int.natCast_mul]; exact .refl _
        · have hjl : j = (idxs g.nd 0 g.nd.length).length := by omega
          subst hjl
          simp -implicitDefEqProofs only [go_sem, evR, ints, rows, rat, rats, evB, nodes, intsO, decide_eq_false (show ¬ ((idxs g.nd 0 g.nd.length).length : Int) < ((idxs g.nd 0 g.nd.length).length : Int) by omega)]
          refine he2 _ _ ?_
          simp -implicitDefEqProofs only [go_sem, evR, ints, rows, rat, rats]
          rw [← hoL]
          refine hn _ 1 (Weak.of _ _ [some 3, some 27] (by simp) (by simp) ?_ ?_) (by omega) (by omega)
          · simp -implicitDefEqProofs only [ints, rows, Nat.reduceBEq, wkR, Nat.reduceEqDiff, ↓reduceIte, wrR, nodes, Int.zero_add, w1]
          · exact ⟨⟨_, rfl, .refl _⟩, rfl, ⟨_, rfl, .refl _⟩, rfl, trivial⟩
    | 1, _ =>
      simp -implicitDefEqProofs only [go_sem, evR, ints, rows, rat, rats, evB, evC, nodes, intsO, decide_eq_true (show (1 : Int) < 2 by omega), Nat.lt_irrefl, Nat.zero_lt_one, decide_true, decide_false, Bool.false_eq_true, Int.natCast_zero, Int.cast_ofNat_Int, opR, Nat.reduceBEq]
      refine ⟨by omega, by omega, ?_⟩
      refine CallW.res (impl_nodesOf_t g.nd 1 (by omega)) [] rfl Try.call181 ?_ (.inl rfl) ?_
      · simp -implicitDefEqProofs only [agR, Nat.reduceLeDiff, Nat.reduceSub, vaR, go_sem, ints, rows, rat, rats, ratsO, rtR, intsO, rowsO]
      simp -implicitDefEqProofs only [clR, Nat.reduceLeDiff, go_sem, evR, rat, intsO]
      have hil := idxs_length g.nd 1 g.nd.length
      refine SemC.loopR (σ := Nat) (fun j => St.of [(3, .own 3), (7, .own 27), (8, .t (.i 1)), (28, .t (.i 1)), (44, .own 44), (45, .t (.i (idxs g.nd 1 g.nd.length).length)), (46, .t (.i j))] [(3, .box [nodes g.nd, rows g.w, rows g.v]), (27, evB g s.2 t.2 (intsO (ownL g 0)) (intsO (fillN (idxs g.nd 1 g.nd.length) g.w.length g.nd.length j)) (List.replicate g.nd.length 0)), (44, intsO (idxs g.nd 1 g.nd.length))]) (fun j => j ≤ (idxs g.nd 1 g.nd.length).length) (fun j => (idxs g.nd 1 g.nd.length).length - j) 0 (Weak.of _ _ [some 3, some 27, some 44] (by simp) (by simp) ?_ ?_) (by omega) fun j hj R2 hn2 hr2 he2 => ?_
      · simp -implicitDefEqProofs only [ints, rows, Nat.reduceBEq, wkR, Nat.reduceEqDiff, ↓reduceIte, wrR, nodes]
      · refine ⟨⟨_, rfl, .refl _⟩, rfl, ⟨_, rfl, ?_⟩, rfl, ⟨_, rfl, .refl _⟩, rfl, trivial⟩
        simp only [evB, fillN, made_one, intsO, List.map_replicate]; exact .refl _
      · rcases Nat.lt_or_ge j (idxs g.nd 1 g.nd.length).length with h9 | h9
        · obtain ⟨y, hy⟩ : ∃ y, (idxs g.nd 1 g.nd.length)[j]? = some y := ⟨_, List.getElem?_eq_getElem h9⟩
          obtain ⟨n, rfl, hn1⟩ := idxs_lt' hy
          have hjm := hmul j (by omega)
          simp -implicitDefEqProofs only [go_sem, evR, ints, rows, rat, rats, evB, nodes, hy, intsO, decide_eq_true (show (j : Int) < ((idxs g.nd 1 g.nd.length).length : Int) by omega), hfl]
          refine ⟨by omega, by omega, by omega, ?_⟩
          refine ⟨_, Weak.open 27 4 500 rfl rfl rfl (by decide) rfl, ?_⟩
          simp -implicitDefEqProofs only [go_sem, evR, ints, rows, rat, rats, opR, Nat.reduceBEq, hfl]
          refine ⟨by omega, by omega, by omega, by omega, hn2 _ (j + 1) (Weak.trans (Weak.close1 27 4 500 rfl rfl (by decide) rfl) (Weak.of _ _ [some 3, some 27, some 44] (by simp) (by simp) ?_ ?_)) (by omega) (by omega)⟩
          · simp -implicitDefEqProofs only [ints, rows, Nat.reduceBEq, wkR, Nat.reduceEqDiff, ↓reduceIte, wrR, nodes, next64 h9 (by omega)]
          · refine ⟨⟨_, rfl, .refl _⟩, rfl, ⟨_, rfl, ?_⟩, rfl, ⟨_, rfl, .refl _⟩, rfl, trivial⟩
            rw [hfs _ _ _ hy]; simp only [evB, intsO, List.map_set]; rw [wrap64 (n := (j : Int) * (g.w.length : Int)) (by omega) (by omega), ← Int.natCast_mul]; exact .refl _
        · have hjl : j = (idxs g.nd 1 g.nd.length).length := by omega
          subst hjl
          simp -implicitDefEqProofs only [go_sem, evR, ints, rows, rat, rats, evB, nodes, intsO, decide_eq_false (show ¬ ((idxs g.nd 1 g.nd.length).length : Int) < ((idxs g.nd 1 g.nd.length).length : Int) by omega)]
          refine he2 _ _ ?_
          simp -implicitDefEqProofs only [go_sem, evR, ints, rows, rat, rats]
          rw [← hoL]
          refine hn _ 2 (Weak.of _ _ [some 3, some 27] (by simp) (by simp) ?_ ?_) (by omega) (by omega)
          · simp -implicitDefEqProofs only [ints, rows, Nat.reduceBEq, wkR, Nat.reduceEqDiff, ↓reduceIte, wrR, nodes, w2']
          · exact ⟨⟨_, rfl, .refl _⟩, rfl, ⟨_, rfl, .refl _⟩, rfl, trivial⟩
    | 2, _ =>
      simp -implicitDefEqProofs only [go_sem, evR, ints, rows, rat, rats, evB, evC, nodes, intsO, decide_eq_false (show ¬ (2 : Int) < 2 by omega), Nat.lt_irrefl, decide_false, Bool.false_eq_true, Int.natCast_zero, Int.cast_ofNat_Int]
      refine he _ _ ?_
      simp -implicitDefEqProofs only [go_sem, evR, ints, rows, rat, rats]
      refine SemC.loopR (σ := Nat) (fun i => St.of [(7, .own 27), (68, .t (nodes g.nd)), (69, .t (.i g.nd.length)), (70, .t (.i i))] [(27, evB g s.2 t.2 (intsO (ownL g 0)) (intsO (ownL g 1)) (parN g.nd i))]) (fun i => i ≤ g.nd.length) (fun i => g.nd.length - i) 0 (Weak.of _ _ [some 27] (by simp) (by simp) ?_ ?_) (by omega) fun i hi R3 hn3 hr3 he3 => ?_
      · simp -implicitDefEqProofs only [ints, rows, Nat.reduceBEq, wkR, Nat.reduceEqDiff, ↓reduceIte, wrR, nodes, nd_len]
      · exact ⟨⟨_, rfl, .refl _⟩, rfl, trivial⟩
      · rcases Nat.lt_or_ge i g.nd.length with h9 | h9
        · obtain ⟨x, hx⟩ : ∃ x, g.nd[i]? = some x := ⟨_, List.getElem?_eq_getElem h9⟩
          have hch := ndOK_child (t2 i _ hx)
          obtain ⟨_, _, _, _, _, hch4⟩ := ndOK_fields (t2 i _ hx)
          simp -implicitDefEqProofs only [go_sem, evR, ints, rows, rat, rats, nodes, nd_at hx, decide_eq_true (show (i : Int) < (g.nd.length : Int) by omega), opR, Nat.reduceBEq]
          refine ⟨by omega, by rw [nd_len]; omega, by rw [nd_len]; omega, ?_⟩
          refine SemC.loopR (σ := Nat) (fun k => St.of [(7, .own 27), (11, .t (.i i)), (68, .t (nodes g.nd)), (69, .t (.i g.nd.length)), (70, .t (.i i)), (76, .t (ints x.ch)), (77, .t (.i x.ch.length)), (78, .t (.i k))] [(27, evB g s.2 t.2 (intsO (ownL g 0)) (intsO (ownL g 1)) (parK (parN g.nd i) x.ch i k))]) (fun k => k ≤ x.ch.length) (fun k => x.ch.length - k) 0 (Weak.of _ _ [some 27] (by simp) (by simp) ?_ ?_) (by omega) fun k hk R4 hn4 hr4 he4 => ?_
          · simp -implicitDefEqProofs only [ints, rows, Nat.reduceBEq, wkR, Nat.reduceEqDiff, ↓reduceIte, wrR, nodes]
          · exact ⟨⟨_, rfl, .refl _⟩, rfl, trivial⟩
          · rcases Nat.lt_or_ge k x.ch.length with h10 | h10
            · obtain ⟨c, hc⟩ : ∃ c, x.ch[k]? = some c := ⟨_, List.getElem?_eq_getElem h10⟩
              have hcb := hch c (List.mem_of_getElem? hc)
              obtain ⟨m, rfl⟩ : ∃ m : Nat, c = m := ⟨c.toNat, by omega⟩
              have hpl : (parK (parN g.nd i) x.ch i k).length = g.nd.length := by rw [parK_length, parN_length]
              simp -implicitDefEqProofs only [go_sem, evR, ints, rows, rat, rats, evB, nodes, intsO, hc, decide_eq_true (show (k : Int) < (x.ch.length : Int) by omega), hpl, opR, Nat.reduceBEq]
              refine ⟨by omega, by omega, by omega, by omega, by omega, by omega, hn4 _ (k + 1) (Weak.trans (Weak.close1 27 7 85 rfl rfl (by decide) rfl) (Weak.of _ _ [some 27] (by simp) (by simp) ?_ ?_)) (by omega) (by omega)⟩
              · simp -implicitDefEqProofs only [ints, rows, Nat.reduceBEq, wkR, Nat.reduceEqDiff, ↓reduceIte, wrR, nodes, next64 h10 (show x.ch.length ≤ 1000000000000 by omega)]
              · refine ⟨⟨_, rfl, ?_⟩, rfl, trivial⟩
                rw [parK_succ hc]; simp only [evB, intsO, List.map_set]; exact .refl _
            · simp -implicitDefEqProofs only [go_sem, evR, ints, rows, rat, rats, evB, nodes, intsO, decide_eq_false (show ¬ (k : Int) < (x.ch.length : Int) by omega)]
              refine he4 _ _ ?_
              simp -implicitDefEqProofs only [go_sem, evR, ints, rows, rat, rats]
              refine hn3 _ (i + 1) (Weak.of _ _ [some 27] (by simp) (by simp) ?_ ?_) (by omega) (by omega)
              · simp -implicitDefEqProofs only [ints, rows, Nat.reduceBEq, wkR, Nat.reduceEqDiff, ↓reduceIte, wrR, nodes, next64 h9 (by omega)]
              · refine ⟨⟨_, rfl, ?_⟩, rfl, trivial⟩
                rw [parN_step hx, show k = x.ch.length by omega, parK, List.take_of_length_le (Nat.le_refl _)]; exact .refl _
        · simp -implicitDefEqProofs only [go_sem, evR, ints, rows, rat, rats, nodes, decide_eq_false (show ¬ (i : Int) < (g.nd.length : Int) by omega)]
          refine he3 _ _ ?_
          simp -implicitDefEqProofs only [go_sem, evR, ints, rows, rat, rats, evB]
          rw [show i = g.nd.length by omega]; rfl
end
end Go.Ab

/- Contracts: values of nodes and numbers of games. -/
set_option linter.unusedSimpArgs false
set_option linter.unusedVariables false
namespace Go.Ab
open Go.Proofs

def chP (g : Gm) (s t : List (List Int)) (i a b : Nat) : List Int := if (g.nd.getD i nd0).p = 0 then partsOf g s 0 i a else partsOf g t 1 i b
theorem partsOK_row {g : Gm} {pt : List (List Int)} {pl : Int} (hnd : ndsOK g.nd) (hpl : pl ≠ 2) (h : partsOK g pt pl) {i c : Nat} (hi : i < g.nd.length) (hc : c < g.w.length) (hp : (g.nd.getD i nd0).p = pl) : pt[setI g pl i c]? = some (partsOf g pt pl i c) := by
  obtain ⟨m1, m2, m3⟩ := h i c hi hc hp
  unfold partsOf at m3 ⊢
  rw [List.getD_eq_getElem?_getD] at m3 ⊢
  cases hx : pt[setI g pl i c]? with
  | some x => rfl
  | none => rw [hx] at m3; simp [sumI] at m3
theorem chP_spec {g : Gm} {s t : List (List Int)} (hnd : ndsOK g.nd) (hs : partsOK g s 0) (ht : partsOK g t 1) {i a b : Nat} (hi : i < g.nd.length) (ha : a < g.w.length) (hb : b < g.w.length) (h2 : (g.nd.getD i nd0).p ≠ 2) :
    (chP g s t i a b).length = (g.nd.getD i nd0).ch.length ∧ (∀ x ∈ chP g s t i a b, 0 ≤ x ∧ x ≤ 60) ∧ sumI (chP g s t i a b) = 60 := by
  have hx : g.nd[i]? = some (g.nd.getD i nd0) := by rw [List.getD_eq_getElem?_getD, List.getElem?_eq_getElem hi]; rfl
  obtain ⟨⟨r1, r2⟩, _⟩ := ndOK_fields (hnd i _ hx)
  unfold chP
  by_cases h0 : (g.nd.getD i nd0).p = 0
  · rw [if_pos h0]; exact hs i a hi ha h0
  · rw [if_neg h0]; exact ht i b hi hb (by omega)
theorem valK_all {g : Gm} {s t : List (List Int)} {f i a b p : Nat} (h2 : (g.nd.getD i nd0).p ≠ 2) {n : Nat} (hn : (g.nd.getD i nd0).ch.length ≤ n) : valK g s t f a b (p - 1) (chP g s t i a b) (g.nd.getD i nd0).ch n = val g s t (f + 1) i a b p := by
  rw [val]
  (try simp only [])
  rw [if_neg h2, valK, chP, List.take_of_length_le]
  rw [List.length_zipWith]; omega
theorem valK_abs {g : Gm} {s t : List (List Int)} (hnd : ndsOK g.nd) (hs : partsOK g s 0) (ht : partsOK g t 1) {a b : Nat} (ha : a < g.w.length) (hb : b < g.w.length) {f p : Nat} {q ch : List Int} (hq : ∀ x ∈ q, 0 ≤ x ∧ x ≤ 60) (hc : ∀ c ∈ ch, 0 ≤ c ∧ c.toNat < g.nd.length ∧ dep g.nd f c.toNat ≤ p) : ∀ k, k ≤ q.length → k ≤ ch.length → -(k * (6000 * pw p)) ≤ valK g s t f a b p q ch k ∧ valK g s t f a b p q ch k ≤ k * (6000 * pw p)
  | 0, _, _ => by simp [valK, sumI]
  | k + 1, h, h' => by
    have ih := valK_abs hnd hs ht ha hb hq hc k (by omega) (by omega)
    have hx := List.getElem?_eq_getElem (show k < q.length by omega)
    have hy := List.getElem?_eq_getElem (show k < ch.length by omega)
    rw [valK_succ hx hy]
    have h1 := hq _ (List.getElem_mem (show k < q.length by omega))
    have h2 := hc _ (List.getElem_mem (show k < ch.length by omega))
    have h3 := val_abs hnd hs ht ha hb f _ p h2.2.1 h2.2.2
    obtain ⟨m1, m2⟩ := mul_abs h1.1 h3.1 h3.2
    have hp := pw_pos p
    have m3 : 100 * pw p * q[k] ≤ 100 * pw p * 60 := Int.mul_le_mul_of_nonneg_left h1.2 (by omega)
    have e : ((k + 1 : Nat) : Int) * (6000 * pw p) = (k : Int) * (6000 * pw p) + 6000 * pw p := by rw [Int.natCast_succ, Int.add_mul, Int.one_mul]
    rw [e]
    generalize (k : Int) * (6000 * pw p) = Z at ih ⊢
    generalize q[k] * val g s t f (ch[k]).toNat a b p = Y at m1 m2 ⊢
    generalize 100 * pw p * q[k] = U at m1 m2 m3
    omega
theorem pw_le5 {p : Nat} (h : p ≤ 5) : 1 ≤ pw p ∧ pw p ≤ 777600000 := by
  have : p = 0 ∨ p = 1 ∨ p = 2 ∨ p = 3 ∨ p = 4 ∨ p = 5 := by omega
  rcases this with rfl | rfl | rfl | rfl | rfl | rfl <;> decide

def gF (g : Gm) (s t : List (List Int)) (a b : Nat) : Int := (g.w.getD a []).getD b 0 * val g s t g.nd.length 0 a b (dpt g)
theorem gnum_eq (g : Gm) (s t : List (List Int)) : gnum g s t = sumI ((List.range g.w.length).map fun a => sumI ((List.range g.w.length).map (gF g s t a))) := rfl
theorem gF_abs {g : Gm} {s t : List (List Int)} (hg : isGameB g = true) (hs : partsOK g s 0) (ht : partsOK g t 1) {a b : Nat} (ha : a < g.w.length) (hb : b < g.w.length) : -700000000000 ≤ gF g s t a b ∧ gF g s t a b ≤ 700000000000 := by
  obtain ⟨p1, p2, p3, p4, p5⟩ := isGameB_parts hg
  obtain ⟨t1, t2, t3, t4⟩ := isTreeB_spec p1
  obtain ⟨u1, u2, u3, u4, u5, u6, u7⟩ := game_unit hg
  obtain ⟨r, y, h1, h2, h3, h4⟩ := game_w hg ha hb
  have hv := val_abs t2 hs ht ha hb g.nd.length 0 (dpt g) (by omega) (by omega)
  unfold gF
  rw [show (g.w.getD a []).getD b 0 = y by simp only [List.getD_eq_getElem?_getD, h1, Option.getD_some, h2]]
  obtain ⟨m1, m2⟩ := mul_abs h3 hv.1 hv.2
  have m3 : 100 * pw (dpt g) * y ≤ 77760000000 * 9 := Int.mul_le_mul (by omega) h4 h3 (by decide)
  omega
theorem sumI_rsucc (F : Nat → Int) (n : Nat) : sumI ((List.range (n + 1)).map F) = sumI ((List.range n).map F) + F n := by
  rw [List.range_succ, List.map_append, List.map_cons, List.map_nil, sumI_snoc]
theorem gR_abs {g : Gm} {s t : List (List Int)} (hg : isGameB g = true) (hs : partsOK g s 0) (ht : partsOK g t 1) {a : Nat} (ha : a < g.w.length) {n : Nat} (hn : n ≤ g.w.length) : -(n * 700000000000) ≤ sumI ((List.range n).map (gF g s t a)) ∧ sumI ((List.range n).map (gF g s t a)) ≤ n * 700000000000 :=
  sumI_range_abs fun b hb => gF_abs hg hs ht ha (by omega)
theorem gS_abs {g : Gm} {s t : List (List Int)} (hg : isGameB g = true) (hs : partsOK g s 0) (ht : partsOK g t 1) {n : Nat} (hn : n ≤ g.w.length) : -(n * 4200000000000) ≤ sumI ((List.range n).map fun a => sumI ((List.range g.w.length).map (gF g s t a))) ∧ sumI ((List.range n).map fun a => sumI ((List.range g.w.length).map (gF g s t a))) ≤ n * 4200000000000 := by
  obtain ⟨p1, p2, p3, p4, p5⟩ := isGameB_parts hg
  refine sumI_range_abs fun a ha => ?_
  have h := gR_abs hg hs ht (a := a) (by omega) (Nat.le_refl g.w.length)
  omega
section
attribute [-go_sem] load1C load1V fldC lenC idxC loadNV nilCheckW
set_option maxRecDepth 20000 in
theorem impl_partsAt_ok {g : Gm} {s t : List (List Int)} (hg : isGameB g = true) (hs : partsOK g s 0) (ht : partsOK g t 1) {i a b : Nat} (hi : i < g.nd.length) (ha : a < g.w.length) (hb : b < g.w.length) (h2 : (g.nd.getD i nd0).p ≠ 2) :
    Pure Try.prog 214 [.pin (evL g s t) 0, .i i, .i a, .i b] (ints (chP g s t i a b)) := by
  obtain ⟨p1, p2, p3, p4, p5⟩ := isGameB_parts hg
  obtain ⟨t1, t2, t3, t4⟩ := isTreeB_spec p1
  obtain ⟨x, hx⟩ : ∃ x, g.nd[i]? = some x := ⟨_, List.getElem?_eq_getElem hi⟩
  have hxd : g.nd.getD i nd0 = x := by rw [List.getD_eq_getElem?_getD, hx]; rfl
  obtain ⟨⟨r1, r2⟩, _⟩ := ndOK_fields (t2 _ _ hx)
  rw [hxd] at h2
  refine fun___impl_evaluator__partsAt (by simp) ?_
  have hcase : x.p = 0 ∨ x.p = 1 := by omega
  rcases hcase with h0 | h0
  · have hpd : (g.nd.getD i nd0).p = 0 := by rw [hxd]; exact h0
    have hrow := partsOK_row t2 (by decide) hs hi ha hpd
    have hoi := ownL_get hi hpd
    have hol := ownL_length g 0
    have hrl := (List.getElem?_eq_some_iff.1 hrow).1
    have hset : setI g 0 i a = (idxs g.nd 0 i).length * g.w.length + a := rfl
    have hil := idxs_length g.nd 0 i
    have hm : (idxs g.nd 0 i).length * g.w.length ≤ 60 * 6 := Nat.mul_le_mul (by omega) p2.2
    rw [chP, if_pos hpd]
    simp -implicitDefEqProofs only [go_sem, evR, ints, rows, rat, rats, c___impl_evaluator__partsAt, evL, nodes, nd_get0 hx, h0, hoi, hrow, hol, show ((0 : Int) == 1) = false from rfl, show ((1 : Int) == 1) = true from rfl, show IntKind.i64.wrap ((((idxs g.nd 0 i).length * g.w.length : Nat) : Int) + (a : Int)) = ((setI g 0 i a : Nat) : Int) by rw [wrap64 (by omega) (by omega)]; omega]
    rw [nd_len]; omega
  · have hpd : (g.nd.getD i nd0).p = 1 := by rw [hxd]; exact h0
    have hrow := partsOK_row t2 (by decide) ht hi hb hpd
    have hoi := ownL_get hi hpd
    have hol := ownL_length g 1
    have hrl := (List.getElem?_eq_some_iff.1 hrow).1
    have hset : setI g 1 i b = (idxs g.nd 1 i).length * g.w.length + b := rfl
    have hil := idxs_length g.nd 1 i
    have hm : (idxs g.nd 1 i).length * g.w.length ≤ 60 * 6 := Nat.mul_le_mul (by omega) p2.2
    rw [chP, if_neg (by omega)]
    simp -implicitDefEqProofs only [go_sem, evR, ints, rows, rat, rats, c___impl_evaluator__partsAt, evL, nodes, nd_get0 hx, h0, hoi, hrow, hol, show ((0 : Int) == 1) = false from rfl, show ((1 : Int) == 1) = true from rfl, show IntKind.i64.wrap ((((idxs g.nd 1 i).length * g.w.length : Nat) : Int) + (b : Int)) = ((setI g 1 i b : Nat) : Int) by rw [wrap64 (by omega) (by omega)]; omega]
    rw [nd_len]; omega
theorem partsAt_t {g : Gm} {s t : List (List Int)} (hg : isGameB g = true) (hs : partsOK g s 0) (ht : partsOK g t 1) {i a b : Nat} (hi : i < g.nd.length) (ha : a < g.w.length) (hb : b < g.w.length) (h2 : (g.nd.getD i nd0).p ≠ 2) :
    Pure Try.prog 214 [.pin [.sh 5 (chunk nodeC g.nd), .sh 1 (g.w.map ints), .sh 1 (g.v.map ints), .sh 1 ((ownL g 0).map T.i), .sh 1 ((ownL g 1).map T.i), .sh 1 (s.map ints), .sh 1 (t.map ints), .sh 1 ((parN g.nd g.nd.length).map T.i)] 0, .i i, .i a, .i b] (ints (chP g s t i a b)) := impl_partsAt_ok hg hs ht hi ha hb h2
theorem value_t {g : Gm} {s t : List (List Int)} {i a b p : Int} {r : Int} (h : Pure Try.prog 180 [.pin (evL g s t) 0, .i i, .i a, .i b, .i p] (.i r)) :
    Pure Try.prog 180 [.pin [.sh 5 (chunk nodeC g.nd), .sh 1 (g.w.map ints), .sh 1 (g.v.map ints), .sh 1 ((ownL g 0).map T.i), .sh 1 ((ownL g 1).map T.i), .sh 1 (s.map ints), .sh 1 (t.map ints), .sh 1 ((parN g.nd g.nd.length).map T.i)] 0, .i i, .i a, .i b, .i p] (.i r) := h
set_option maxRecDepth 20000 in
theorem impl_value_ok {g : Gm} {s t : List (List Int)} (hg : isGameB g = true) (hs : partsOK g s 0) (ht : partsOK g t 1) {a b : Nat} (ha : a < g.w.length) (hb : b < g.w.length) : ∀ (f i p : Nat), g.nd.length ≤ i + f → i < g.nd.length → dep g.nd f i ≤ p → p ≤ 5 →
    Pure Try.prog 180 [.pin (evL g s t) 0, .i i, .i a, .i b, .i p] (.i (val g s t f i a b p)) := by
  obtain ⟨p1, p2, p3, p4, p5⟩ := isGameB_parts hg
  obtain ⟨t1, t2, t3, t4⟩ := isTreeB_spec p1
  have hpay := payOK_of t2
  intro f
  induction f with
  | zero => intro i p h1 h2; omega
  | succ f ih =>
    intro i p hf hi hdp hp5
    obtain ⟨x, hx⟩ : ∃ x, g.nd[i]? = some x := ⟨_, List.getElem?_eq_getElem hi⟩
    have hxd : g.nd.getD i nd0 = x := by rw [List.getD_eq_getElem?_getD, hx]; rfl
    have hxl := (ndOK_fields (t2 _ _ hx)).2.2.2.2.2
    have hpw := pw_le5 hp5
    have hV2 : x.p = 2 → val g s t (f + 1) i a b p = pay g i a b * pw p := fun h => by rw [val]; (try simp only []); rw [if_pos (by rw [hxd]; exact h)]
    have hV1 : x.p ≠ 2 → ∀ n, x.ch.length ≤ n → valK g s t f a b (p - 1) (chP g s t i a b) x.ch n = val g s t (f + 1) i a b p := fun h n hn => by
      have := valK_all (g := g) (s := s) (t := t) (f := f) (i := i) (a := a) (b := b) (p := p) (n := n) (by rw [hxd]; exact h) (by rw [hxd]; exact hn)
      rw [hxd] at this; exact this
    generalize val g s t (f + 1) i a b p = V' at hV2 hV1 ⊢
    refine fun___impl_evaluator__value (by simp) ?_
    simp -implicitDefEqProofs only [go_sem, evR, ints, rows, rat, rats, c___impl_evaluator__value, evL, nodes, nd_at hx]
    refine ⟨by omega, by rw [nd_len]; omega, by rw [nd_len]; omega, ?_⟩
    refine ⟨fun h2 => ?_, fun h2 => ?_⟩
    · have h2 : x.p = 2 := by simpa using h2
      rw [hV2 h2]
      refine CallW.pure (payoffAt_t hg i a b hi ha hb) [] rfl Try.call213 ?_ (by first | trivial | simp [T.noSh, T.noShL, rat]) rfl ?_
      · simp -implicitDefEqProofs only [agR, Nat.reduceLeDiff, Nat.reduceSub, vaR, go_sem, ints, rows, rat, rats, ratsO, rtR, intsO, rowsO]
      simp -implicitDefEqProofs only [go_sem, evR, ints, rows, rat, rats]
      refine CallW.pure (impl_powerOf_ok p (by omega)) [] rfl Try.call163 ?_ (by first | trivial | simp [T.noSh, T.noShL, rat]) rfl ?_
      · simp -implicitDefEqProofs only [agR, Nat.reduceLeDiff, Nat.reduceSub, vaR, go_sem, ints, rows, rat, rats, ratsO, rtR, intsO, rowsO]
      simp -implicitDefEqProofs only [go_sem, evR, ints, rows, rat, rats]
      have q1 := hpay i a b
      have m1 := Int.mul_le_mul_of_nonneg_right q1.2 (show 0 ≤ pw p by omega)
      have m2 := Int.mul_le_mul_of_nonneg_right q1.1 (show 0 ≤ pw p by omega)
      rw [wrap64 (n := pay g i a b * pw p) (by omega) (by omega)]
    · have h2 : x.p ≠ 2 := by simpa using h2
      have hp2 : (g.nd.getD i nd0).p ≠ 2 := by rw [hxd]; exact h2
      obtain ⟨d1, d2⟩ := dep_child (f := f) hp2
      rw [hxd] at d2
      have hch := ndOK_child (t2 _ _ hx)
      obtain ⟨c1, c2, c3⟩ := chP_spec t2 hs ht hi ha hb hp2
      rw [hxd] at c1
      obtain ⟨p', rfl⟩ : ∃ p', p = p' + 1 := ⟨p - 1, by omega⟩
      have hpw' := pw_le5 (show p' ≤ 5 by omega)
      have hcond : ∀ c ∈ x.ch, 0 ≤ c ∧ c.toNat < g.nd.length ∧ dep g.nd f c.toNat ≤ p' := fun c hc => by
        have h1 := hch c hc
        have h3 := d2 c hc
        omega
      refine CallW.res (partsAt_t hg hs ht hi ha hb hp2) [] rfl Try.call214 ?_ (.inl rfl) ?_
      · simp -implicitDefEqProofs only [agR, Nat.reduceLeDiff, Nat.reduceSub, vaR, go_sem, ints, rows, rat, rats, ratsO, rtR, intsO, rowsO]
      simp -implicitDefEqProofs only [clR, Nat.reduceLeDiff, go_sem, evR, rat, ints]
      rw [Nat.add_sub_cancel] at hV1
      generalize chP g s t i a b = q at hV1 c1 c2 c3 ⊢
      have hKA := valK_abs t2 hs ht ha hb (f := f) c2 hcond
      refine SemC.loopR (σ := Nat) (fun k => St.of [(0, .t (.pin (evL g s t) 0)), (1, .t (.i i)), (2, .t (.i a)), (3, .t (.i b)), (4, .t (.i (p' + 1 : Nat))), (11, .own 11), (12, .t (.i (valK g s t f a b p' q x.ch k))), (42, .t (ints q)), (43, .t (.i q.length)), (44, .t (.i k))] [(11, .box [.i x.p, .i x.a, .i x.b, .i x.f, ints x.ch])]) (fun k => k ≤ q.length) (fun k => q.length - k) 0 (Weak.of _ _ [some 11] (by simp) (by simp) ?_ ?_) (by omega) fun k hk R hn hr he => ?_
      · simp -implicitDefEqProofs only [ints, rows, Nat.reduceBEq, wkR, Nat.reduceEqDiff, ↓reduceIte, wrR, evL, nodes, show valK g s t f a b p' q x.ch 0 = 0 from rfl]
      · exact ⟨⟨_, rfl, .refl _⟩, rfl, trivial⟩
      · rcases Nat.lt_or_ge k q.length with h9 | h9
        · obtain ⟨y, hy⟩ : ∃ y, q[k]? = some y := ⟨_, List.getElem?_eq_getElem h9⟩
          obtain ⟨c, hc⟩ : ∃ c, x.ch[k]? = some c := ⟨_, List.getElem?_eq_getElem (by omega)⟩
          have hyb := c2 y (List.mem_of_getElem? hy)
          have hcb := hcond c (List.mem_of_getElem? hc)
          have hcb1 := hch c (List.mem_of_getElem? hc)
          have hsu := valK_succ (g := g) (s := s) (t := t) (f := f) (a := a) (b := b) (p := p') hy hc
          have k1 := hKA k (by omega) (by omega)
          have k2 := hKA (k + 1) (by omega) (by omega)
          have k3 : (k : Int) * (6000 * pw p') ≤ 4 * 4665600000000 := Int.mul_le_mul (by omega) (by omega) (by omega) (by decide)
          have k4 : ((k + 1 : Nat) : Int) * (6000 * pw p') ≤ 4 * 4665600000000 := Int.mul_le_mul (by omega) (by omega) (by omega) (by decide)
          simp -implicitDefEqProofs only [go_sem, evR, ints, rows, rat, rats, evL, nodes, hy, hc, decide_eq_true (show (k : Int) < (q.length : Int) by omega), wrap64 (n := (p' : Int)) (by omega) (by omega), show ((p' + 1 : Nat) : Int) - 1 = (p' : Int) by omega]
          refine ⟨by omega, by omega, by omega, fun h5 => ⟨by omega, by omega, by omega, ?_⟩, fun h5 => ?_⟩
          · have hcall := value_t (ih c.toNat p' (by omega) hcb.2.1 hcb.2.2 (by omega))
            rw [show ((c.toNat : Nat) : Int) = c by omega] at hcall
            have hva := val_abs t2 hs ht ha hb f c.toNat p' hcb.2.1 hcb.2.2
            obtain ⟨m1, m2⟩ := mul_abs hyb.1 hva.1 hva.2
            have m3 : 100 * pw p' * y ≤ 77760000000 * 60 := Int.mul_le_mul (by omega) hyb.2 hyb.1 (by decide)
            refine CallW.pure hcall [] rfl Try.call180 ?_ (by first | trivial | simp [T.noSh, T.noShL, rat]) rfl ?_
            · simp -implicitDefEqProofs only [agR, Nat.reduceLeDiff, Nat.reduceSub, vaR, go_sem, ints, rows, rat, rats, ratsO, rtR, intsO, rowsO]
            simp -implicitDefEqProofs only [go_sem, evR, ints, rows, rat, rats]
            refine hn _ (k + 1) (Weak.of _ _ [some 11] (by simp) (by simp) ?_ ?_) (by omega) (by omega)
            · simp -implicitDefEqProofs only [ints, rows, Nat.reduceBEq, wkR, Nat.reduceEqDiff, ↓reduceIte, wrR, evL, nodes, next64 h9 (by omega), wrap64 (n := y * val g s t f c.toNat a b p') (by omega) (by omega), ← hsu, wrap64 (n := valK g s t f a b p' q x.ch (k + 1)) (by omega) (by omega)]
            · exact ⟨⟨_, rfl, .refl _⟩, rfl, trivial⟩
          · have hy0 : y = 0 := by have : ¬ y > 0 := by simpa using h5
                                   omega
            rw [hy0, Int.zero_mul, Int.add_zero] at hsu
            refine hn _ (k + 1) (Weak.of _ _ [some 11] (by simp) (by simp) ?_ ?_) (by omega) (by omega)
            · simp -implicitDefEqProofs only [ints, rows, Nat.reduceBEq, wkR, Nat.reduceEqDiff, ↓reduceIte, wrR, evL, nodes, next64 h9 (by omega), hsu]
            · exact ⟨⟨_, rfl, .refl _⟩, rfl, trivial⟩
        · simp -implicitDefEqProofs only [go_sem, evR, ints, rows, rat, rats, evL, nodes, decide_eq_false (show ¬ (k : Int) < (q.length : Int) by omega)]
          refine he _ _ ?_
          simp -implicitDefEqProofs only [go_sem, evR, ints, rows, rat, rats]
          rw [hV1 h2 k (by omega)]

theorem newEv_t (g : Gm) (s t : Int × List (List Int)) (hg : isGameB g = true) : Fun Try.prog 179 [] [.t (.agg [.sh 5 (chunk nodeC g.nd), .sh 1 (g.w.map ints), .sh 1 (g.v.map ints)]), .t (.agg [.i s.1, .sh 1 (s.2.map ints)]), .t (.agg [.i t.1, .sh 1 (t.2.map ints)])] fun o r => o = [] ∧ r = evO g s.2 t.2 := impl_newEvaluator_ok g s t hg
def gS (g : Gm) (s t : List (List Int)) (a : Nat) : Int := sumI ((List.range a).map fun a => sumI ((List.range g.w.length).map (gF g s t a)))
def gT (g : Gm) (s t : List (List Int)) (a b : Nat) : Int := gS g s t a + sumI ((List.range b).map (gF g s t a))
theorem gT_zero (g : Gm) (s t : List (List Int)) (a : Nat) : gT g s t a 0 = gS g s t a := by simp [gT, sumI]
theorem gT_succ (g : Gm) (s t : List (List Int)) (a b : Nat) : gT g s t a (b + 1) = gT g s t a b + gF g s t a b := by rw [gT, sumI_rsucc, gT, Int.add_assoc]
theorem gT_all (g : Gm) (s t : List (List Int)) (a : Nat) : gT g s t a g.w.length = gS g s t (a + 1) := by rw [gT, gS, gS, sumI_rsucc]
theorem gT_abs {g : Gm} {s t : List (List Int)} (hg : isGameB g = true) (hs : partsOK g s 0) (ht : partsOK g t 1) {a b : Nat} (ha : a < g.w.length) (hb : b ≤ g.w.length) : -30000000000000 ≤ gT g s t a b ∧ gT g s t a b ≤ 30000000000000 := by
  obtain ⟨p1, p2, p3, p4, p5⟩ := isGameB_parts hg
  have h1 := gS_abs hg hs ht (n := a) (by omega)
  have h2 := gR_abs hg hs ht ha hb
  unfold gT gS
  omega
set_option maxRecDepth 20000 in
theorem impl_gameNumber_ok {g : Gm} {s t : Int × List (List Int)} (hg : isGameB g = true) (hs : partsOK g s.2 0) (ht : partsOK g t.2 1) : Pure Try.prog 121 [gameT g, stratT s, stratT t] (.i (gnum g s.2 t.2)) := by
  obtain ⟨p1, p2, p3, p4, p5⟩ := isGameB_parts hg
  obtain ⟨t1, t2, t3, t4⟩ := isTreeB_spec p1
  obtain ⟨u1, u2, u3, u4, u5, u6, u7⟩ := game_unit hg
  refine fun_impl_gameNumber (by simp) ?_
  simp -implicitDefEqProofs only [go_sem, evR, ints, rows, rat, rats, c_impl_gameNumber, gameT, stratT, nodes]
  refine CallW.res (newEv_t g s t hg) [] rfl Try.call179 ?_ (.inl rfl) ?_
  · simp -implicitDefEqProofs only [agR, Nat.reduceLeDiff, Nat.reduceSub, vaR, go_sem, ints, rows, rat, rats, ratsO, rtR, intsO, rowsO]
  simp -implicitDefEqProofs only [clR, Nat.reduceLeDiff, go_sem, evR, rat, evO, intsO, nodes, rows]
  refine CallW.pure (dep_t (impl_depthFrom_ok t2 (by omega) g.nd.length 0 (by omega) (by omega) (by omega))) [] rfl Try.call164 ?_ (by first | trivial | simp [T.noSh, T.noShL, rat]) rfl ?_
  · simp -implicitDefEqProofs only [agR, Nat.reduceLeDiff, Nat.reduceSub, vaR, go_sem, ints, rows, rat, rats, ratsO, rtR, intsO, rowsO]
  simp -implicitDefEqProofs only [go_sem, evR, ints, rows, rat, rats]
  rw [u2]
  refine SemC.loopR (σ := Nat) (fun a => St.of [(7, .own 17), (8, .t (.i (dpt g))), (9, .t (.i (gS g s.2 t.2 a))), (22, .t (rows g.w)), (23, .t (.i g.w.length)), (24, .t (.i a))] [(17, evO g s.2 t.2)]) (fun a => a ≤ g.w.length) (fun a => g.w.length - a) 0 (Weak.of _ _ [some 17] (by simp) (by simp) ?_ ?_) (by omega) fun a ha R hn hr he => ?_
  · simp -implicitDefEqProofs only [ints, rows, Nat.reduceBEq, wkR, Nat.reduceEqDiff, ↓reduceIte, wrR, gS, List.range_zero, List.map_nil, sumI]
  · exact ⟨⟨_, rfl, .refl _⟩, rfl, trivial⟩
  · rcases Nat.lt_or_ge a g.w.length with h9 | h9
    · obtain ⟨r, hr0⟩ : ∃ r, g.w[a]? = some r := ⟨_, List.getElem?_eq_getElem h9⟩
      have hrl : r.length = g.w.length := ((matK_iff.1 p3).2 r (List.mem_of_getElem? hr0)).1
      simp -implicitDefEqProofs only [go_sem, evR, ints, rows, rat, rats, evO, nodes, intsO, hr0, decide_eq_true (show (a : Int) < (g.w.length : Int) by omega)]
      refine ⟨by omega, by omega, by omega, ?_⟩
      refine SemC.loopR (σ := Nat) (fun b => St.of [(7, .own 17), (8, .t (.i (dpt g))), (9, .t (.i (gT g s.2 t.2 a b))), (10, .t (.i a)), (22, .t (rows g.w)), (23, .t (.i g.w.length)), (24, .t (.i a)), (29, .t (ints r)), (30, .t (.i r.length)), (31, .t (.i b))] [(17, evO g s.2 t.2)]) (fun b => b ≤ g.w.length) (fun b => g.w.length - b) 0 (Weak.of _ _ [some 17] (by simp) (by simp) ?_ ?_) (by omega) fun b hb R2 hn2 hr2 he2 => ?_
      · simp -implicitDefEqProofs only [ints, rows, Nat.reduceBEq, wkR, Nat.reduceEqDiff, ↓reduceIte, wrR, gT_zero]
      · exact ⟨⟨_, rfl, .refl _⟩, rfl, trivial⟩
      · rcases Nat.lt_or_ge b g.w.length with h8 | h8
        · obtain ⟨r', y, hr1, hy, hy0, hy9⟩ := game_w hg h9 h8
          rw [hr0, Option.some.injEq] at hr1
          subst hr1
          have hgs := gT_succ g s.2 t.2 a b
          have hgf := gF_abs hg hs ht h9 h8
          have k1 := gT_abs hg hs ht h9 (b := b) (by omega)
          have k2 := gT_abs hg hs ht h9 (b := b + 1) (by omega)
          have hF : gF g s.2 t.2 a b = y * val g s.2 t.2 g.nd.length 0 a b (dpt g) := by
            unfold gF; simp only [List.getD_eq_getElem?_getD, hr0, Option.getD_some, hy]
          simp -implicitDefEqProofs only [go_sem, evR, ints, rows, rat, rats, evO, nodes, intsO, hy, decide_eq_true (show (b : Int) < (r.length : Int) by omega)]
          refine ⟨by omega, by omega, by omega, fun h5 => ?_, fun h5 => ?_⟩
          · have hcall := value_t (impl_value_ok hg hs ht h9 h8 g.nd.length 0 (dpt g) (by omega) (by omega) (by omega) u3)
            refine CallW.pure hcall [17] rfl Try.call180 ?_ trivial rfl ?_
            · simp -implicitDefEqProofs only [agR, Nat.reduceLeDiff, Nat.reduceSub, vaR, go_sem, ints, rows, rat, rats, ratsO, rtR, intsO, rowsO, T.toShL.eq_1, T.toShL.eq_2]
            simp -implicitDefEqProofs only [go_sem, evR, ints, rows, rat, rats]
            refine hn2 _ (b + 1) (Weak.of _ _ [some 17] (by simp) (by simp) ?_ ?_) (by omega) (by omega)
            · simp -implicitDefEqProofs only [ints, rows, Nat.reduceBEq, wkR, Nat.reduceEqDiff, ↓reduceIte, wrR, next64 h8 (by omega), ← hF, wrap64 (n := gF g s.2 t.2 a b) (by omega) (by omega), ← hgs, wrap64 (n := gT g s.2 t.2 a (b + 1)) (by omega) (by omega)]
            · exact ⟨⟨_, rfl, .refl _⟩, rfl, trivial⟩
          · have hy0 : y = 0 := by have : ¬ y > 0 := by simpa using h5
                                   omega
            rw [hF, hy0, Int.zero_mul, Int.add_zero] at hgs
            refine hn2 _ (b + 1) (Weak.of _ _ [some 17] (by simp) (by simp) ?_ ?_) (by omega) (by omega)
            · simp -implicitDefEqProofs only [ints, rows, Nat.reduceBEq, wkR, Nat.reduceEqDiff, ↓reduceIte, wrR, next64 h8 (by omega), hgs]
            · exact ⟨⟨_, rfl, .refl _⟩, rfl, trivial⟩
        · simp -implicitDefEqProofs only [go_sem, evR, ints, rows, rat, rats, evO, nodes, intsO, decide_eq_false (show ¬ (b : Int) < (r.length : Int) by omega)]
          refine he2 _ _ ?_
          simp -implicitDefEqProofs only [go_sem, evR, ints, rows, rat, rats]
          refine hn _ (a + 1) (Weak.of _ _ [some 17] (by simp) (by simp) ?_ ?_) (by omega) (by omega)
          · simp -implicitDefEqProofs only [ints, rows, Nat.reduceBEq, wkR, Nat.reduceEqDiff, ↓reduceIte, wrR, next64 h9 (by omega), ← gT_all, show b = g.w.length by omega]
          · exact ⟨⟨_, rfl, .refl _⟩, rfl, trivial⟩
    · simp -implicitDefEqProofs only [go_sem, evR, ints, rows, rat, rats, evO, nodes, intsO, decide_eq_false (show ¬ (a : Int) < (g.w.length : Int) by omega)]
      refine he _ _ ?_
      simp -implicitDefEqProofs only [go_sem, evR, ints, rows, rat, rats]
      rw [show a = g.w.length by omega, gnum_eq]; rfl

theorem pair_parts {g : Gm} {s t : Int × List (List Int)} (h : pairG g s t = true) : isGameB g = true ∧ partsOK g s.2 0 ∧ partsOK g t.2 1 := by
  obtain ⟨h1, h2, h3, h4, h5⟩ := pairG_iff.1 h
  rw [h2] at h4; rw [h3] at h5
  exact ⟨h1, partsOK_of h4, partsOK_of h5⟩
end
end Go.Ab

/- Games as data: what the laws of best responses and bounds say. -/
set_option linter.unusedSimpArgs false
set_option linter.unusedVariables false
namespace Go.Ab

theorem gains_law {g : Gm} {s t : Int × List (List Int)} (h : pairG g s t = true) : 0 ≤ bestN g t - gnum g s.2 t.2 ∧ 0 ≤ bestN g s + gnum g s.2 t.2 ∧ bestN g t - gnum g s.2 t.2 + (bestN g s + gnum g s.2 t.2) = expN g s t ∧ 0 ≤ expN g s t ∧ -bestN g s ≤ gnum g s.2 t.2 ∧ gnum g s.2 t.2 ≤ bestN g t := by
  obtain ⟨h1, h2, h3⟩ := pair_parts h
  obtain ⟨_, _, h4, h5⟩ := pairG_parts h
  have b1 := gnum_le (g := g) (s := s.2) (t := t.2) h1 h2 h3
  have b2 := gnum_ge (g := g) (s := s.2) (t := t.2) h1 h2 h3
  have e1 : bestN g t = runV g t.2 0 g.w.length := by rw [bestN, h5]; rfl
  have e2 : bestN g s = runV g s.2 1 g.w.length := by rw [bestN, h4]; rfl
  rw [expN, e1, e2]
  omega
end Go.Ab

/- Functions in compact form, with hints. -/
set_option linter.unusedVariables false
namespace Go.Ab
open Go.Proofs

def c_spec_DrawRespondInTurn_h : CC :=
 (.seq (.reg [.o (.alloc 2 [.v (.slice none 0 0), .v (.slice none 0 0), .v (.slice none 0 0)]),
 .o (.alloc 3 [.v (.int .i64 0), .v (.slice none 0 0)]),
 .o (.alloc 4 [.v (.int .i64 0), .v (.slice none 0 0)]),
 .o (.move 5 (ci 0))])
 ((.seq (.reg [.o (.move 10 (sl 0)),
 .o (.call (some 11) (cf 119) [(sl 10)]),
 .o (.move 6 (sl 11))])
 ((.seq (.reg [.o (.move 13 (sl 6)),
 .o (.call (some 14) (cf 118) [(sl 13)]),
 .o (.move 12 (sl 14)),
 .o (.extract 15 (sl 12) 0),
 .o (.extract 16 (sl 12) 1),
 .o (.extract 17 (sl 12) 2),
 .o (.alloc 7 [.v (.slice none 0 0), .v (.slice none 0 0), .v (.slice none 0 0)]),
 .o (.alloc 8 [.v (.int .i64 0), .v (.slice none 0 0)]),
 .o (.alloc 9 [.v (.int .i64 0), .v (.slice none 0 0)]),
 .o (.store 3 (sl 7) (sl 15)),
 .o (.store 2 (sl 8) (sl 16)),
 .o (.store 2 (sl 9) (sl 17))])
 ((.seq (.weak (.draw [22] [(kE, .o (.loadN 18 3 (sl 7))),
 (kE, .o (.loadN 19 2 (sl 8))),
 (kE, .o (.loadN 20 2 (sl 9))),
 (kR, .o (.move 21 (sl 6))),
 (kN, .o (.bslice 22 1 7 [(0, (ci 0)), (1, (ci 1)), (2, (ci 2)), (3, (ci 5)), (4, (ci 20)), (5, (ci 21)), (6, (ci (-1)))])),
 (kH, .o (.call (some 23) (cf 147) [(sl 21), (sl 22)])),
 (kH, .o (.store 3 (sl 2) (sl 18))),
 (kH, .o (.store 2 (sl 3) (sl 19))),
 (kH, .o (.store 2 (sl 4) (sl 20))),
 (kR, .o (.move 5 (sl 23)))]))
 (.ret))))))))
theorem fun_spec_DrawRespondInTurn_h {rin : List T} {args : List A} {Q : List T → T → Prop} (ha : args.length ≤ 24) (h : cW Try.prog 24 c_spec_DrawRespondInTurn_h (retP Try.prog [.cell 2 35, .cell 3 47, .cell 4 47, .tmp 5] rin.length Q) (St.of (enum 0 args) (enum 1000000000 rin))) :
    Fun Try.prog 80 rin args Q :=
  Fun.of (H := ⟨[], [3]⟩) Try.func80 rfl rfl rfl (by kernel_rfl) ha (by decide) h

end Go.Ab

/- Contracts: small functions of the laws: lists, strategies and claims alike. -/
set_option linter.unusedSimpArgs false
set_option linter.unusedVariables false
namespace Go.Ab
open Go.Proofs

theorem laws_big_ok (cs : List Int) : Pure Try.prog 51 [bytes cs] (.b (decide ((cs.length : Int) > 4096))) := by
  refine fun_laws_big (by simp) ?_
  simp -implicitDefEqProofs only [go_sem, evR, ints, rows, rat, rats, c_laws_big, bytes]
theorem laws_likeInts_ok (a b : List Int) (ha : a.length ≤ 1000000000000) (hb : b.length ≤ 1000000000000) : Pure Try.prog 94 [ints a, ints b] (.b (decide (a = b))) := by
  refine fun_laws_likeInts (by simp) ?_
  simp -implicitDefEqProofs only [c_laws_likeInts, ints, go_sem]
  refine ⟨fun h => ?_, fun h => ?_⟩
  · have : a ≠ b := by rintro rfl; simp at h
    simp [this]
  · have hab : a.length = b.length := by simp at h; omega
    refine SemC.loopR (σ := Nat) (fun i => St.of [(0, .t (ints a)), (1, .t (ints b)), (5, .t (.i i))] []) (fun i => i ≤ a.length ∧ ∀ j, j < i → a[j]? = b[j]?) (fun i => a.length - i) 0 (Weak.of _ [] [] (by simp) (by simp) ?_ trivial) ⟨by simp, fun j hj => by omega⟩ fun i hI R hn hr he => ?_
    · simp -implicitDefEqProofs only [ints, wkR, Nat.reduceEqDiff, ↓reduceIte]
    · simp -implicitDefEqProofs only [ints, go_sem, toNat_cast]
      refine ⟨fun h => ⟨by omega, by omega, by omega, fun c x hx hc => ⟨by omega, by omega, by omega, fun c' y hy hc' => ?_⟩⟩, fun h => he _ _ ?_⟩
      · subst hc hc'
        simp -implicitDefEqProofs only [go_sem]
        refine ⟨fun h1 => hr _ ?_, fun h1 => hn _ (i + 1) (Weak.of _ [] [] (by simp) (by simp) ?_ trivial) ⟨by omega, fun j hj => ?_⟩ (by omega)⟩
        · simp -implicitDefEqProofs only [go_sem]
          have : a ≠ b := by rintro rfl; rw [hx] at hy; cases hy; simp at h1
          simp [this]
        · simp -implicitDefEqProofs only [ints, wkR, Nat.reduceEqDiff, ↓reduceIte, next64 (by omega : i < a.length) ha]
        · rcases Nat.lt_or_ge j i with h | h
          · exact hI.2 j h
          · have : j = i := by omega
            subst this
            rw [hx, hy]; simpa using h1
      · simp -implicitDefEqProofs only [go_sem]
        have : a = b := by
          refine List.ext_getElem? fun j => ?_
          rcases Nat.lt_or_ge j i with h | h
          · exact hI.2 j h
          · rw [List.getElem?_eq_none (by omega), List.getElem?_eq_none (by omega)]
        simp [this]
theorem laws_likeLists_ok (a b : List (List Int)) (ha : a.length ≤ 1000000000000) (hb : b.length ≤ 1000000000000) (hra : ∀ r ∈ a, r.length ≤ 1000000000000) (hrb : ∀ r ∈ b, r.length ≤ 1000000000000) :
    Pure Try.prog 84 [rows a, rows b] (.b (decide (a = b))) := by
  refine fun_laws_likeLists (by simp) ?_
  simp -implicitDefEqProofs only [c_laws_likeLists, rows, go_sem]
  refine ⟨fun h => ?_, fun h => ?_⟩
  · have : a ≠ b := by rintro rfl; simp at h
    simp [this]
  · have hab : a.length = b.length := by simp at h; omega
    refine SemC.loopR (σ := Nat) (fun i => St.of [(0, .t (rows a)), (1, .t (rows b)), (5, .t (.i i))] []) (fun i => i ≤ a.length ∧ ∀ j, j < i → a[j]? = b[j]?) (fun i => a.length - i) 0 (Weak.of _ [] [] (by simp) (by simp) ?_ trivial) ⟨by simp, fun j hj => by omega⟩ fun i hI R hn hr he => ?_
    · simp -implicitDefEqProofs only [rows, wkR, Nat.reduceEqDiff, ↓reduceIte]
    · simp -implicitDefEqProofs only [rows, go_sem, toNat_cast]
      refine ⟨fun h => ⟨by omega, by omega, by omega, fun c x hx hc => ⟨by omega, by omega, by omega, fun c' y hy hc' => ?_⟩⟩, fun h => he _ _ ?_⟩
      · subst hc hc'
        refine CallV.pure (laws_likeInts_ok x y (hra x (List.mem_of_getElem? hx)) (hrb y (List.mem_of_getElem? hy))) [] rfl Try.call94 (fun e R' _ => ?_) trivial (fun _ => rfl) ?_
        · simp -implicitDefEqProofs only [vaR, go_sem]
        · simp -implicitDefEqProofs only [go_sem]
          refine ⟨fun h1 => hr _ ?_, fun h1 => hn _ (i + 1) (Weak.of _ [] [] (by simp) (by simp) ?_ trivial) ⟨by omega, fun j hj => ?_⟩ (by omega)⟩
          · simp -implicitDefEqProofs only [go_sem]
            have : a ≠ b := by rintro rfl; rw [hx] at hy; cases hy; simp at h1
            simp [this]
          · simp -implicitDefEqProofs only [rows, wkR, Nat.reduceEqDiff, ↓reduceIte, next64 (by omega : i < a.length) ha]
          · rcases Nat.lt_or_ge j i with h | h
            · exact hI.2 j h
            · have : j = i := by omega
              subst this
              rw [hx, hy]; simpa using h1
      · simp -implicitDefEqProofs only [go_sem]
        have : a = b := by
          refine List.ext_getElem? fun j => ?_
          rcases Nat.lt_or_ge j i with h | h
          · exact hI.2 j h
          · rw [List.getElem?_eq_none (by omega), List.getElem?_eq_none (by omega)]
        simp [this]
section
attribute [-go_sem] load1C load1V fldC lenC idxC loadNV nilCheckW
theorem laws_likeStrategies_self (s : Int × List (List Int)) (hs : rows12 s.2) : Pure Try.prog 65 [.agg [.i s.1, .sh 1 (s.2.map ints)], .agg [.i s.1, .sh 1 (s.2.map ints)]] (.b true) := by
  refine fun_laws_likeStrategies (by simp) ?_
  simp -implicitDefEqProofs only [go_sem, evR, ints, rows, rat, rats, c_laws_likeStrategies, show (s.1 == s.1) = true by simp]
  have hq := laws_likeLists_ok s.2 s.2 hs.1 hs.1 hs.2 hs.2
  simp only [rows, decide_true] at hq
  refine CallW.pure hq [] rfl Try.call84 ?_ (by first | trivial | simp [T.noSh, T.noShL, rat]) rfl ?_
  · simp -implicitDefEqProofs only [agR, Nat.reduceLeDiff, Nat.reduceSub, vaR, go_sem, ints, rows, rat, rats, ratsO, rtR, intsO, rowsO]
  simp -implicitDefEqProofs only [go_sem, evR, ints, rows, rat, rats]
end
end Go.Ab

/- Games as data: counts, regrets and sums of the iterations. -/
set_option linter.unusedSimpArgs false
set_option linter.unusedVariables false
namespace Go.Ab

/-! Lists that are made new from the left. -/
def posL (l : List Int) : List Int := l.map fun x => max 0 x
def rowP (l : List Int) : List Int := ham (hvd 34 (posL l))
def stM (m : List (List Int)) : List (List Int) := m.map rowP
structure RS where
  r0 : List (List Int)
  r1 : List (List Int)
  s0 : List (List Int)
  s1 : List (List Int)
def zeroM (g : Gm) (pl : Int) : List (List Int) := (List.range (sets g pl).length).map fun i => List.replicate (sizeAt g pl i) 0
def okM (g : Gm) (pl : Int) (B : Int) (m : List (List Int)) : Prop := m.length = (sets g pl).length ∧ ∀ i r, m[i]? = some r → r.length = sizeAt g pl i ∧ ∀ x ∈ r, -B ≤ x ∧ x ≤ B
theorem okM_get {g : Gm} {pl B : Int} {m : List (List Int)} (h : okM g pl B m) {i : Nat} (hi : i < (sets g pl).length) : ∃ r, m[i]? = some r ∧ m.getD i [] = r ∧ r.length = sizeAt g pl i ∧ ∀ x ∈ r, -B ≤ x ∧ x ≤ B := by
  have hx : m[i]? = some (m[i]'(by rw [h.1]; exact hi)) := List.getElem?_eq_getElem _
  exact ⟨_, hx, by rw [List.getD_eq_getElem?_getD, hx]; rfl, h.2 i _ hx⟩
theorem okM_range {g : Gm} {pl B : Int} {F : Nat → List Int} (h : ∀ i, i < (sets g pl).length → (F i).length = sizeAt g pl i ∧ ∀ x ∈ F i, -B ≤ x ∧ x ≤ B) : okM g pl B ((List.range (sets g pl).length).map F) := by
  refine ⟨by simp, fun i r hr => ?_⟩
  have hi : i < (sets g pl).length := by have := (List.getElem?_eq_some_iff.1 hr).1; simpa using this
  rw [List.getElem?_map, List.getElem?_range hi, Option.map_some, Option.some.injEq] at hr
  rw [← hr]; exact h i hi
theorem zeroM_ok (g : Gm) (pl : Int) : okM g pl 0 (zeroM g pl) := okM_range fun i _ => ⟨by simp, fun x hx => by rw [List.eq_of_mem_replicate hx]; omega⟩

/-! Bounds. -/
end Go.Ab

/- Contracts: uniform and pure strategies, numbers of games; drawn strategies, bounds and claims. -/
set_option linter.unusedSimpArgs false
set_option linter.unusedVariables false
namespace Go.Ab
open Go.Proofs
theorem smallS_L {m : List (List Int)} (h : smallS m) : rowsL m := ⟨by have := h.1; omega, fun r hr => by have := h.2 r hr; omega⟩
section
attribute [-go_sem] load1C load1V fldC lenC idxC loadNV nilCheckW
theorem impl_GameNumber_ok (g : Gm) (s t : Int × List (List Int)) (hg : gameL g) (hs : rowsL s.2) (ht : rowsL t.2) (h : pairG g s t = true) : Pure Try.prog 68 [.agg [.sh 5 (chunk nodeC g.nd), .sh 1 (g.w.map ints), .sh 1 (g.v.map ints)], .agg [.i s.1, .sh 1 (s.2.map ints)], .agg [.i t.1, .sh 1 (t.2.map ints)]] (tr3 (gnum g s.2 t.2, unit g, 0)) := by
  obtain ⟨q1, q2, q3, q4, q5⟩ := pairG_iff.1 h
  rw [q2] at q4
  rw [q3] at q5
  refine fun_impl_GameNumber (by simp) ?_
  simp -implicitDefEqProofs only [go_sem, evR, ints, rows, rat, rats, c_impl_GameNumber]
  have hq := pair_t (impl_arePair_ok g s t hg hs ht)
  rw [h] at hq
  refine CallW.pure hq [] rfl Try.call120 ?_ (by first | trivial | simp [T.noSh, T.noShL, rat]) rfl ?_
  · simp -implicitDefEqProofs only [agR, Nat.reduceLeDiff, Nat.reduceSub, vaR, go_sem, ints, rows, rat, rats, ratsO, rtR, intsO, rowsO]
  simp -implicitDefEqProofs only [go_sem, evR, ints, rows, rat, rats]
  have hq := vb_t (impl_gameNumber_ok (s := s) (t := t) q1 (partsOK_of q4) (partsOK_of q5))
  refine CallV.pure hq [] rfl Try.call121 (fun e R' hR => ?_) (by first | trivial | simp [T.noSh, T.noShL, rat]) (fun _ => rfl) ?_
  · simp -implicitDefEqProofs only [agR, Nat.reduceLeDiff, Nat.reduceSub, vaR, go_sem, ints, rows, rat, rats, ratsO, rtR, intsO, rowsO]
  simp -implicitDefEqProofs only [go_sem, evR, ints, rows, rat, rats]
  refine CallV.pure (unit_t (impl_unitOf_ok g q1)) [] rfl Try.call130 (fun e R' hR => ?_) (by first | trivial | simp [T.noSh, T.noShL, rat]) (fun _ => rfl) ?_
  · simp -implicitDefEqProofs only [agR, Nat.reduceLeDiff, Nat.reduceSub, vaR, go_sem, ints, rows, rat, rats, ratsO, rtR, intsO, rowsO]
  simp -implicitDefEqProofs only [go_sem, evR, ints, rows, rat, rats, tr3]
end
end Go.Ab

/- Games as data: the strategies of a run are strategies; its numbers stay small. -/
set_option linter.unusedSimpArgs false
set_option linter.unusedVariables false
namespace Go.Ab

theorem mem_le_foldl : ∀ (l : List Int) (a : Int), ∀ x ∈ l, x ≤ l.foldl max a
  | [], _ => by simp
  | y :: l, a => by
    intro x hx
    rw [List.foldl_cons]
    rcases List.mem_cons.1 hx with rfl | hx
    · have := foldl_max_ge l (max a x); omega
    · exact mem_le_foldl l _ x hx
theorem hvd_le : ∀ (f : Nat) (l : List Int), okW (W f) l → ∀ x ∈ hvd f l, 0 ≤ x ∧ x ≤ 1000000000
  | 0, l, h => fun x hx => by
    have h1 := h x hx
    have h2 : W 0 = 536870912 := rfl
    omega
  | f + 1, l, h => by
    rw [hvd]
    split
    · rename_i hm
      intro x hx
      have h1 : x ≤ mx0 l := mem_le_foldl l 0 x hx
      exact ⟨(h x hx).1, by omega⟩
    · exact hvd_le f (half l) (okW_half (by rw [← W_succ]; exact h))
theorem posL_ok {l : List Int} {B : Int} (h : ∀ x ∈ l, -B ≤ x ∧ x ≤ B) (hB : B < 9223372036854775808) : okW 9223372036854775808 (posL l) := by
  intro x hx
  obtain ⟨y, hy, rfl⟩ := List.mem_map.1 hx
  have := h y hy
  omega
theorem W34 : W 34 = 9223372036854775808 := by
  unfold W
  have h2 : (2 : Nat) ^ 63 = 9223372036854775808 := by decide
  omega
theorem rowW_ok {l : List Int} {B : Int} (h : ∀ x ∈ l, -B ≤ x ∧ x ≤ B) (hB : B < 9223372036854775808) (h1 : 1 ≤ l.length) (h4 : l.length ≤ 4) : weightsOK (hvd 34 (posL l)) := by
  refine ⟨?_, ?_, ?_⟩
  · rw [hvd_length]; simpa [posL] using h1
  · rw [hvd_length]; simpa [posL] using h4
  · exact hvd_le 34 _ (by rw [W34]; exact posL_ok h hB)
theorem mul_gt_neg {t q : Int} (ht : 0 < t) (h : -t < t * q) : 0 ≤ q := by
  rcases Int.lt_or_le q 0 with h1 | h1
  · have : t * q ≤ t * (-1) := Int.mul_le_mul_of_nonneg_left (by omega) (by omega)
    omega
  · exact h1
theorem sum_part {l : List Int} (h : ∀ x ∈ l, 0 ≤ x) : ∀ x ∈ l, x ≤ l.sum := by
  induction l with
  | nil => simp
  | cons y l ih =>
    intro x hx
    have h0 := sum_nonneg' (w := l) fun z hz => h z (by simp [hz])
    rw [List.sum_cons]
    rcases List.mem_cons.1 hx with rfl | hx
    · omega
    · have h1 := ih (fun z hz => h z (by simp [hz])) x hx
      have h2 := h y (by simp)
      omega
theorem ham1_parts {w : List Int} (hw : ∀ x ∈ w, 0 ≤ x) (ht : 0 < w.sum) : ∀ x ∈ ham1 w, 0 ≤ x ∧ x ≤ 60 := by
  obtain ⟨h1, h2, h3⟩ := ham1_spec hw ht
  have h0 : ∀ x ∈ ham1 w, 0 ≤ x := fun x hx => by
    obtain ⟨i, hi, rfl⟩ := List.mem_iff_getElem.1 hx
    have hiw : i < w.length := by omega
    have h4 := (h3 i hiw).1
    have h5 : (ham1 w).getD i 0 = (ham1 w)[i] := by rw [List.getD_eq_getElem?_getD, List.getElem?_eq_getElem hi]; rfl
    have h6 : 0 ≤ w.getD i 0 := by rw [List.getD_eq_getElem?_getD, List.getElem?_eq_getElem hiw]; exact hw _ (List.getElem_mem hiw)
    rw [h5] at h4
    exact mul_gt_neg ht (by omega)
  intro x hx
  have := sum_part h0 x hx
  exact ⟨h0 x hx, by omega⟩
theorem ham_parts {w : List Int} (hw : ∀ x ∈ w, 0 ≤ x) (hl : 1 ≤ w.length) : ∀ x ∈ ham w, 0 ≤ x ∧ x ≤ 60 := by
  have h0 := sum_nonneg' hw
  unfold ham
  split
  · exact ham1_parts (fun x hx => by simp [onesL] at hx; omega) (by rw [ones_sum]; omega)
  · exact ham1_parts hw (by omega)
theorem rowP_spec {l : List Int} {B : Int} (h : ∀ x ∈ l, -B ≤ x ∧ x ≤ B) (hB : B < 9223372036854775808) (h1 : 1 ≤ l.length) (h4 : l.length ≤ 4) : (rowP l).length = l.length ∧ (∀ x ∈ rowP l, 0 ≤ x ∧ x ≤ 60) ∧ sumI (rowP l) = 60 := by
  have hw := rowW_ok h hB h1 h4
  have hs := ham_spec (fun x hx => (hw.2.2 x hx).1) hw.1
  refine ⟨?_, ham_parts (fun x hx => (hw.2.2 x hx).1) hw.1, by rw [sumI_eq]; exact hs.2.1⟩
  show (ham _).length = _
  rw [hs.1, hvd_length]; simp [posL]
theorem stM_length (m : List (List Int)) : (stM m).length = m.length := by simp [stM]
theorem stM_get {m : List (List Int)} {i : Nat} {r : List Int} (h : m[i]? = some r) : (stM m)[i]? = some (rowP r) := by simp [stM, h]
theorem stM_strat {g : Gm} (hg : isGameB g = true) {pl B : Int} (hpl : pl = 0 ∨ pl = 1) {m : List (List Int)} (h : okM g pl B m) (hB : B < 9223372036854775808) : isStratB g pl (stM m) = true := by
  rw [isStratB_iff]
  refine ⟨by rw [stM_length]; exact h.1, fun i hi => ?_⟩
  obtain ⟨r, hr, _, hl, hb⟩ := okM_get h hi
  obtain ⟨b1, b2⟩ := size_bound hg hpl hi
  obtain ⟨q1, q2, q3⟩ := rowP_spec hb hB (by omega) (by omega)
  rw [List.getD_eq_getElem?_getD, stM_get hr, Option.getD_some, partOK_iff]
  refine ⟨by omega, List.all_eq_true.2 fun x hx => by simpa using q2 x hx, by rw [← sumI_eq]; exact q3⟩
end Go.Ab

/- Games as data: what the laws of runs say. -/
set_option linter.unusedSimpArgs false
set_option linter.unusedVariables false
namespace Go.Ab

theorem posL_zero (n : Nat) : posL (List.replicate n 0) = List.replicate n 0 := by simp [posL]
theorem mx0_zero (n : Nat) : mx0 (List.replicate n 0) = 0 := by
  have h1 := mx0_le (l := List.replicate n 0) (b := 0) (by omega) (fun x hx => by rw [List.eq_of_mem_replicate hx]; omega)
  have h2 := mx0_nonneg (List.replicate n 0)
  omega
theorem stM_zero (g : Gm) (pl : Int) : stM (zeroM g pl) = uniL g pl := by
  rw [stM, zeroM, uniL, List.map_map]
  refine List.map_congr_left fun i _ => ?_
  show ham (hvd 34 (posL (List.replicate (sizeAt g pl i) 0))) = _
  rw [posL_zero, hvd, if_pos (by rw [mx0_zero]; decide)]
end Go.Ab

/- Games as data: what the laws of best responses, bounds and claims say. -/
set_option linter.unusedSimpArgs false
set_option linter.unusedVariables false
namespace Go.Ab

theorem uniL_ok {g : Gm} (hg : isGameB g = true) {pl : Int} (hpl : pl = 0 ∨ pl = 1) : isStratB g pl (uniL g pl) = true := by
  rw [← stM_zero]
  exact stM_strat hg hpl (zeroM_ok g pl) (by decide)
theorem best_second {g : Gm} {s : Int × List (List Int)} (h : strB g s = true) (h0 : s.1 = 0) : pairG g s (bestS g s) = true ∧ -gnum g s.2 (bestS g s).2 = bestN g s ∧ pairG g s (1, uniL g 1) = true ∧ -gnum g s.2 (uniL g 1) ≤ bestN g s := by
  obtain ⟨p1, p2, p3⟩ := strB_parts h
  have p4 := (strB_parts (bestS_strB h)).2.2
  have e1 : (bestS g s).1 = 1 := by show 1 - s.1 = 1; omega
  rw [h0] at p3
  rw [e1] at p4
  have e2 : bestN g s = runV g s.2 1 g.w.length := by rw [bestN, h0]; rfl
  have e3 : (bestS g s).2 = runB g s.2 1 g.w.length := by show runB g s.2 (1 - s.1) g.w.length = _; rw [h0]; rfl
  refine ⟨pairG_iff.2 ⟨p1, h0, e1, by rw [h0]; exact p3, by rw [e1]; exact p4⟩, ?_, pairG_iff.2 ⟨p1, h0, rfl, by rw [h0]; exact p3, uniL_ok p1 (.inr rfl)⟩, ?_⟩
  · rw [e2, e3, runB_second p1 (partsOK_of p3)]; omega
  · have := gnum_ge p1 (partsOK_of p3) (partsOK_of (uniL_ok p1 (.inr rfl)))
    rw [e2]; omega
end Go.Ab

/- Games as data: the results of runs. -/
set_option linter.unusedSimpArgs false
set_option linter.unusedVariables false
namespace Go.Ab

theorem tot_le {k : Nat} : ∀ {m : List (List Int)}, (∀ r ∈ m, r.length ≤ k) → tot m ≤ m.length * k
  | [], _ => by simp [tot]
  | r :: m, h => by
    have h1 := tot_le (m := m) fun r hr => h r (by simp [hr])
    have h2 := h r (by simp)
    rw [tot, List.length_cons, Nat.add_mul, Nat.one_mul]; omega
theorem rowsS_of {m : List (List Int)} (hl : m.length ≤ 1000) (h : ∀ r ∈ m, r.length ≤ 1000) : rowsS m := by
  have h1 := tot_le h
  have h2 : m.length * 1000 ≤ 1000 * 1000 := Nat.mul_le_mul hl (Nat.le_refl _)
  exact ⟨by omega, by omega⟩
end Go.Ab

/- Contracts: drawn strategies, bounds and claims. -/
set_option linter.unusedSimpArgs false
set_option linter.unusedVariables false
namespace Go.Ab
open Go.Proofs
section
attribute [-go_sem] load1C load1V fldC lenC idxC loadNV nilCheckW
theorem spec_DrawValueBounds_w (cs : List Int) (hc : bytesOK cs) (hl : cs.length ≤ 100000000000) : Fun Try.prog 77 [] [.t (bytes cs)] fun o r => ∃ x : Gm × (Int × List (List Int)) × (Int × List (List Int)), o = [] ∧ r = dr3T x ∧ okD3 x := by
  refine fun_spec_DrawValueBounds (by simp) ?_
  simp -implicitDefEqProofs only [go_sem, evR, ints, rows, rat, rats, c_spec_DrawValueBounds]
  refine CallW.res (spec_l01From_ok cs hc (by omega)) [] rfl Try.call119 ?_ (.inl rfl) ?_
  · simp -implicitDefEqProofs only [agR, Nat.reduceLeDiff, Nat.reduceSub, vaR, go_sem, ints, rows, rat, rats, ratsO, rtR, intsO, rowsO]
  simp -implicitDefEqProofs only [clR, Nat.reduceLeDiff, go_sem, evR, rat, srcT]
  have hs0 := seed_from (cs.take 64)
  generalize fromS (cs.take 64) = sd at hs0 ⊢
  have hp := spec_l23Draw_w cs hc hl (0, sd) hs0
  simp only [dr3T] at hp
  refine CallW.exi hp [6] [] rfl Try.call118 (by simp) ?_ (by simp) ?_ (.inl rfl) (fun x hx => ?_)
  · simp -implicitDefEqProofs only [srR, Nat.reduceEqDiff, ↓reduceIte, ints, rows, intsO, rowsO]
  · simp -implicitDefEqProofs only [agR, Nat.reduceLeDiff, Nat.reduceSub, vaR, go_sem, ints, rows, rat, rats, ratsO, rtR, intsO, rowsO]
  simp -implicitDefEqProofs only [clR, Nat.reduceLeDiff, go_sem, evR, rat, opR, Nat.reduceBEq]
  exact ⟨x.1, rfl, hx.1⟩
def dr4T (x : (Gm × (Int × List (List Int)) × (Int × List (List Int))) × Int) : T := .tup [.agg [.sh 5 (chunk nodeC x.1.1.nd), .sh 1 (x.1.1.w.map ints), .sh 1 (x.1.1.v.map ints)], .agg [.i x.1.2.1.1, .sh 1 (x.1.2.1.2.map ints)], .agg [.i x.1.2.2.1, .sh 1 (x.1.2.2.2.map ints)], .i x.2]
set_option maxRecDepth 20000 in
theorem spec_DrawRespondInTurn_w (cs : List Int) (hc : bytesOK cs) (hl : cs.length ≤ 100000000000) : Fun Try.prog 80 [] [.t (bytes cs)] fun o r => ∃ x : (Gm × (Int × List (List Int)) × (Int × List (List Int))) × Int, o = [] ∧ r = dr4T x ∧ okD3 x.1 := by
  refine fun_spec_DrawRespondInTurn_h (by simp) ?_
  simp -implicitDefEqProofs only [go_sem, evR, ints, rows, rat, rats, c_spec_DrawRespondInTurn_h]
  refine CallW.res (spec_l01From_ok cs hc (by omega)) [] rfl Try.call119 ?_ (.inl rfl) ?_
  · simp -implicitDefEqProofs only [agR, Nat.reduceLeDiff, Nat.reduceSub, vaR, go_sem, ints, rows, rat, rats, ratsO, rtR, intsO, rowsO]
  simp -implicitDefEqProofs only [clR, Nat.reduceLeDiff, go_sem, evR, rat, srcT]
  have hs0 := seed_from (cs.take 64)
  generalize fromS (cs.take 64) = sd at hs0 ⊢
  have hp := spec_l23Draw_w cs hc hl (0, sd) hs0
  simp only [dr3T] at hp
  refine CallW.exi hp [11] [] rfl Try.call118 (by simp) ?_ (by simp) ?_ (.inl rfl) (fun x hx => ?_)
  · simp -implicitDefEqProofs only [srR, Nat.reduceEqDiff, ↓reduceIte, ints, rows, intsO, rowsO]
  · simp -implicitDefEqProofs only [agR, Nat.reduceLeDiff, Nat.reduceSub, vaR, go_sem, ints, rows, rat, rats, ratsO, rtR, intsO, rowsO]
  simp -implicitDefEqProofs only [clR, Nat.reduceLeDiff, go_sem, evR, rat, opR, Nat.reduceBEq]
  obtain ⟨⟨g, ⟨p, m⟩, ⟨q, m'⟩⟩, d⟩ := x
  obtain ⟨hx1, hx2⟩ := hx
  (try simp only [] at hx1 hx2)
  (try simp only [])
  refine ⟨_, Weak.trans (Weak.share 7 rfl) (Weak.trans (Weak.share 8 rfl) (Weak.trans (Weak.share 9 rfl) (Weak.of [(2, .own 2), (3, .own 3), (4, .own 4), (6, .own 11), (7, .t (.pin [nodes g.nd, rows g.w, rows g.v] 0)), (8, .t (.pin [.i p, rows m] 0)), (9, .t (.pin [.i q, rows m'] 0))] [(11, .box [bytes cs, .i d.1, .i d.2]), (2, .box [.v (.slice none 0 0), .v (.slice none 0 0), .v (.slice none 0 0)]), (3, .box [.i 0, .v (.slice none 0 0)]), (4, .box [.i 0, .v (.slice none 0 0)])] [some 11, some 2, some 3, some 4] (by simp) (by simp) ?_ ?_))), ?_⟩
  · simp -implicitDefEqProofs only [ints, rows, Nat.reduceBEq, wkR, Nat.reduceEqDiff, ↓reduceIte, wrR, shareA, T.toSh, T.toShL, nodes]
  · exact ⟨⟨_, rfl, .refl _⟩, rfl, ⟨_, rfl, .refl _⟩, rfl, ⟨_, rfl, .refl _⟩, rfl, ⟨_, rfl, .refl _⟩, rfl, trivial⟩
  simp -implicitDefEqProofs only [go_sem, evR, ints, rows, rat, rats, nodes]
  have hp := pick_own cs hc hl d hx2 [0, 1, 2, 5, 20, 21, -1] (by decide) (by decide)
  simp only [intsO, List.map_cons, List.map_nil] at hp
  refine CallH.ref hp [11, 22] [] rfl Try.call147 (by simp) ?_ (by simp) (fun e R' hR => ?_) (.inl rfl) ?_
  · simp -implicitDefEqProofs only [srR, Nat.reduceEqDiff, ↓reduceIte, ints, rows, intsO, rowsO]
  · simp -implicitDefEqProofs only [agR, Nat.reduceLeDiff, Nat.reduceSub, vaR, go_sem, ints, rows, rat, rats, ratsO, rtR, intsO, rowsO]
  simp -implicitDefEqProofs only [clR, Nat.reduceLeDiff, go_sem, evR, rat]
  exact ⟨((g, (p, m), (q, m')), (pickS cs d [0, 1, 2, 5, 20, 21, -1]).1), rfl, hx1⟩
theorem smallS_S {m : List (List Int)} (h : smallS m) : rowsS m := rowsS_of (by have := h.1; omega) fun r hr => by have := h.2 r hr; omega
end
end Go.Ab

/- The law FnBestResponses. -/
set_option linter.unusedSimpArgs false
set_option linter.unusedVariables false
namespace Go.Ab
open Go.Proofs
section
attribute [-go_sem] load1C load1V fldC lenC idxC loadNV nilCheckW
theorem hideK {α : Type} {p : α → Prop} (k0 : α) (h : ∀ k, k0 = k → p k) : p k0 := h k0 rfl
def bnR (g : Gm) (s : Int × List (List Int)) : Int × Int × Int := if strB g s = true then (bestN g s, unit g, 0) else (0, 0, 1)
theorem bnumT_eq (g : Gm) (s : Int × List (List Int)) : bnumT g s = tr3 (bnR g s) := by
  unfold bnumT bnR
  split <;> rfl
end
end Go.Ab

/- The law FnValueBounds. -/
set_option linter.unusedSimpArgs false
set_option linter.unusedVariables false
namespace Go.Ab
open Go.Proofs
theorem rounds_law {g : Gm} {s t : Int × List (List Int)} {n : Int} (h : (ritR g s t n).2.2 = 0) (hn : 0 < n) : strB g (ritR g s t n).1 = true ∧ pairG g (ritR g s t n).1 (ritR g s t n).2.1 = true ∧ gnum g (ritR g s t n).1.2 (ritR g s t n).2.1.2 = -bestN g (ritR g s t n).1 := by
  rcases Bool.eq_false_or_eq_true (pairG g s t) with hp | hp
  · by_cases hr : 0 ≤ n ∧ n ≤ 20
    · have e : ritR g s t n = ((ritN g s t n.toNat).1, (ritN g s t n.toNat).2, 0) := by
        rw [ritR, if_neg (by simp [hp]), if_neg (by simpa using hr)]
      rw [e]
      obtain ⟨k, hk⟩ : ∃ k, n.toNat = k + 1 := ⟨n.toNat - 1, by omega⟩
      obtain ⟨h1, h2, h3, h4⟩ := pairG_parts hp
      have a : ∀ k, (ritN g s t k).1.1 = 0 ∧ (ritN g s t k).2.1 = 1 := fun k => by
        induction k with
        | zero => exact ⟨h3, h4⟩
        | succ k ih => exact ⟨by show 1 - (ritN g s t k).2.1 = 0; omega, by show 1 - (1 - (ritN g s t k).2.1) = 1; omega⟩
      have b := ritN_str h1 h2 n.toNat
      have c := (a n.toNat).1
      have d : (ritN g s t n.toNat).2 = bestS g (ritN g s t n.toNat).1 := by rw [hk]; rfl
      obtain ⟨z1, z2, z3, z4⟩ := best_second b.1 c
      (try simp only [])
      rw [d]
      exact ⟨b.1, z1, by omega⟩
    · have e : ritR g s t n = ((0, []), (0, []), 2) := by rw [ritR, if_neg (by simp [hp]), if_pos (by simpa using hr)]
      rw [e] at h
      simp at h
  · have e : ritR g s t n = ((0, []), (0, []), 1) := by rw [ritR, if_pos hp]
    rw [e] at h
    simp at h
section
attribute [-go_sem] load1C load1V fldC lenC idxC loadNV nilCheckW
set_option maxRecDepth 20000 in
theorem laws_FnValueBounds_ok (cs : List Int) (hc : bytesOK cs) : Pure Try.prog 15 [bytes cs] (.b true) := by
  refine fun_laws_FnValueBounds (by simp) ?_
  simp -implicitDefEqProofs only [go_sem, evR, ints, rows, rat, rats, c_laws_FnValueBounds]
  refine CallW.pure (laws_big_ok cs) [] rfl Try.call51 ?_ (by first | trivial | simp [T.noSh, T.noShL, rat]) rfl ?_
  · simp -implicitDefEqProofs only [agR, Nat.reduceLeDiff, Nat.reduceSub, vaR, go_sem, ints, rows, rat, rats, ratsO, rtR, intsO, rowsO]
  simp -implicitDefEqProofs only [go_sem, evR, ints, rows, rat, rats]
  refine ⟨fun _ => trivial, fun hbig => ?_⟩
  have hl : cs.length ≤ 4096 := by have : (cs.length : Int) ≤ 4096 := by simpa using hbig
                                   omega
  have hp := spec_DrawValueBounds_w cs hc (by omega)
  simp only [dr3T] at hp
  refine CallW.exi hp [] [] rfl Try.call77 (by simp) ?_ (by simp) ?_ (.inl rfl) (fun x hx => ?_)
  · simp -implicitDefEqProofs only [srR, Nat.reduceEqDiff, ↓reduceIte, ints, rows, intsO, rowsO]
  · simp -implicitDefEqProofs only [agR, Nat.reduceLeDiff, Nat.reduceSub, vaR, go_sem, ints, rows, rat, rats, ratsO, rtR, intsO, rowsO]
  refine hideK (p := fun k => afterCall _ _ _ _ _ (opsW _ _ _ k)) _ (fun kc hkc => ?_)
  simp -implicitDefEqProofs only [clR, Nat.reduceLeDiff, go_sem, evR, rat, opR, Nat.reduceBEq]
  rw [← hkc]
  clear hkc
  simp -implicitDefEqProofs only [go_sem, evR, ints, rows, rat, rats, opR, Nat.reduceBEq]
  obtain ⟨g, s, t⟩ := x
  obtain ⟨h1, h2, h3⟩ := hx
  (try simp only [] at h1 h2 h3)
  (try simp only [])
  have hg := smallG_L h1
  have hs := smallS_L h2
  have ht := smallS_L h3
  have hq := impl_ValueBounds_ok g s t hg hs ht
  simp only [gameT, stratT, nodes, rows, tr4] at hq
  refine CallW.pure hq [] rfl Try.call78 ?_ (by first | trivial | simp [T.noSh, T.noShL, rat]) rfl ?_
  · simp -implicitDefEqProofs only [agR, Nat.reduceLeDiff, Nat.reduceSub, vaR, go_sem, ints, rows, rat, rats, ratsO, rtR, intsO, rowsO]
  simp -implicitDefEqProofs only [go_sem, evR, ints, rows, rat, rats]
  have hq := spec_ValueBounds_ok g s t hg hs ht
  simp only [gameT, stratT, nodes, rows, tr4] at hq
  refine CallW.pure hq [] rfl Try.call79 ?_ (by first | trivial | simp [T.noSh, T.noShL, rat]) rfl ?_
  · simp -implicitDefEqProofs only [agR, Nat.reduceLeDiff, Nat.reduceSub, vaR, go_sem, ints, rows, rat, rats, ratsO, rtR, intsO, rowsO]
  simp -implicitDefEqProofs only [go_sem, evR, ints, rows, rat, rats]
  have hp := spec_DrawRespondInTurn_w cs hc (by omega)
  simp only [dr4T] at hp
  refine CallW.exi hp [] [] rfl Try.call80 (by simp) ?_ (by simp) ?_ (.inl rfl) (fun x hx => ?_)
  · simp -implicitDefEqProofs only [srR, Nat.reduceEqDiff, ↓reduceIte, ints, rows, intsO, rowsO]
  · simp -implicitDefEqProofs only [agR, Nat.reduceLeDiff, Nat.reduceSub, vaR, go_sem, ints, rows, rat, rats, ratsO, rtR, intsO, rowsO]
  refine hideK (p := fun k => afterCall _ _ _ _ _ (opsW _ _ _ k)) _ (fun kc hkc => ?_)
  simp -implicitDefEqProofs only [clR, Nat.reduceLeDiff, go_sem, evR, rat, opR, Nat.reduceBEq]
  rw [← hkc]
  clear hkc
  simp -implicitDefEqProofs only [go_sem, evR, ints, rows, rat, rats, opR, Nat.reduceBEq]
  obtain ⟨⟨x, y, z⟩, n⟩ := x
  obtain ⟨k1, k2, k3⟩ := hx
  (try simp only [] at k1 k2 k3)
  (try simp only [])
  have hx := smallG_L k1
  have hr := ritR_rowsS x y z n (smallS_S k2) (smallS_S k3)
  have hq := impl_RespondInTurn_ok x y z n hx (smallS_S k2) (smallS_S k3)
  simp only [gameT, stratT, nodes, rows, ritO, rowsO] at hq
  refine CallW.res hq [] rfl Try.call81 ?_ (.inl rfl) ?_
  · simp -implicitDefEqProofs only [agR, Nat.reduceLeDiff, Nat.reduceSub, vaR, go_sem, ints, rows, rat, rats, ratsO, rtR, intsO, rowsO]
  refine hideK (p := fun k => afterCall _ _ _ _ _ (opsW _ _ _ k)) _ (fun kc hkc => ?_)
  simp -implicitDefEqProofs only [clR, Nat.reduceLeDiff, go_sem, evR, rat, opR, Nat.reduceBEq]
  rw [← hkc]
  clear hkc
  simp -implicitDefEqProofs only [go_sem, evR, ints, rows, rat, rats, opR, Nat.reduceBEq]
  generalize hR : ritR x y z n = w at hr
  obtain ⟨p, q, code⟩ := w
  (try simp only [] at hr)
  (try simp only [])
  refine CallW.weak (Weak.trans (Weak.share 3 rfl) (Weak.trans (Weak.share 4 rfl) (Weak.trans (Weak.share 5 rfl) (Weak.trans (Weak.share 14 rfl) (Weak.trans (Weak.share 15 rfl) (Weak.trans (Weak.share 16 rfl) (Weak.trans (Weak.share 18 rfl) (Weak.trans (Weak.share 19 rfl) (Weak.of [(3, .t (.pin [.sh 5 (chunk nodeC g.nd), rows g.w, rows g.v] 0)), (4, .t (.pin [.i s.1, rows s.2] 0)), (5, .t (.pin [.i t.1, rows t.2] 0)), (6, .t (.i (vbR g s t).1)), (7, .t (.i (vbR g s t).2.1)), (8, .t (.i (vbR g s t).2.2.1)), (9, .t (.i (vbR g s t).2.2.2)), (10, .t (.i (vbR g s t).1)), (11, .t (.i (vbR g s t).2.1)), (12, .t (.i (vbR g s t).2.2.1)), (13, .t (.i (vbR g s t).2.2.2)), (14, .t (.pin [.sh 5 (chunk nodeC x.nd), rows x.w, rows x.v] 0)), (15, .t (.pin [.i y.1, rows y.2] 0)), (16, .t (.pin [.i z.1, rows z.2] 0)), (17, .t (.i n)), (18, .t (.pin [.i p.1, rows p.2] 0)), (19, .t (.pin [.i q.1, rows q.2] 0)), (20, .t (.i code)), (76, .t (.agg [.sh 5 (chunk nodeC x.nd), rows x.w, rows x.v])), (77, .t (.agg [.i y.1, rows y.2])), (78, .t (.agg [.i z.1, rows z.2])), (79, .t (.i n))] [] [] (by simp) (by simp) ?_ ?_))))))))) ?_
  · simp -implicitDefEqProofs only [ints, rows, Nat.reduceBEq, wkR, Nat.reduceEqDiff, ↓reduceIte, wrR, shareA, T.toSh, T.toShL, nodes, toShL_intsO]
  · exact trivial
  have hq := spec_RespondInTurn_ok x y z n hx (smallS_S k2) (smallS_S k3)
  rw [hR] at hq
  simp only [gameT, stratT, nodes, rows, ritO, rowsO] at hq
  refine CallW.res hq [] rfl Try.call82 ?_ (.inl rfl) ?_
  · simp -implicitDefEqProofs only [agR, Nat.reduceLeDiff, Nat.reduceSub, vaR, go_sem, ints, rows, rat, rats, ratsO, rtR, intsO, rowsO]
  refine hideK (p := fun k => afterCall _ _ _ _ _ (opsW _ _ _ k)) _ (fun kc hkc => ?_)
  simp -implicitDefEqProofs only [clR, Nat.reduceLeDiff, go_sem, evR, rat, nodes, rows, opR, Nat.reduceBEq, bne_self_eq_false]
  rw [← hkc]
  clear hkc
  simp -implicitDefEqProofs only [go_sem, evR, ints, rows, rat, rats, nodes, opR, Nat.reduceBEq, bne_self_eq_false]
  refine CallW.pure (laws_likeStrategies_self p (rowsS_12 hr.1)) [110002] rfl Try.call65 ?_ (by first | trivial | simp [T.noSh, T.noShL, rat]) rfl ?_
  · simp -implicitDefEqProofs only [agR, Nat.reduceLeDiff, Nat.reduceSub, vaR, go_sem, ints, rows, rat, rats, ratsO, rtR, intsO, rowsO]
  simp -implicitDefEqProofs only [go_sem, evR, ints, rows, rat, rats, not_true_eq_false, decide_false, opR, Nat.reduceBEq]
  refine CallW.pure (laws_likeStrategies_self q (rowsS_12 hr.2)) [116002] rfl Try.call65 ?_ (by first | trivial | simp [T.noSh, T.noShL, rat]) rfl ?_
  · simp -implicitDefEqProofs only [agR, Nat.reduceLeDiff, Nat.reduceSub, vaR, go_sem, ints, rows, rat, rats, ratsO, rtR, intsO, rowsO]
  simp -implicitDefEqProofs only [go_sem, evR, ints, rows, rat, rats, not_true_eq_false, decide_false, opR, Nat.reduceBEq]
  have hpl : rowsL p.2 := ⟨Nat.le_trans (rowsS_12 hr.1).1 (by decide), fun r h => Nat.le_trans ((rowsS_12 hr.1).2 r h) (by decide)⟩
  have hql : rowsL q.2 := ⟨Nat.le_trans (rowsS_12 hr.2).1 (by decide), fun r h => Nat.le_trans ((rowsS_12 hr.2).2 r h) (by decide)⟩
  refine ⟨fun hcode => ⟨fun hn => ?_, fun _ => ?_⟩, fun _ => ?_⟩
  · have hcode : code = 0 := by simpa using hcode
    obtain ⟨y1, y2, y3⟩ := rounds_law (g := x) (s := y) (t := z) (n := n) (by rw [hR]; exact hcode) (by omega)
    rw [hR] at y1 y2 y3
    (try simp only [] at y1 y2 y3)
    have hb := bestN_abs y1
    have hq := impl_BestNumber_ok x p hx hpl
    simp only [gameT, stratT, nodes, rows, bnumT_eq, tr3, bnR, y1, if_true] at hq
    refine CallW.pure hq [] rfl Try.call63 ?_ (by first | trivial | simp [T.noSh, T.noShL, rat]) rfl ?_
    · simp -implicitDefEqProofs only [agR, Nat.reduceLeDiff, Nat.reduceSub, vaR, go_sem, ints, rows, rat, rats, ratsO, rtR, intsO, rowsO]
    simp -implicitDefEqProofs only [go_sem, evR, ints, rows, rat, rats]
    have hq := impl_GameNumber_ok x p q hx hpl hql y2
    simp only [tr3] at hq
    refine CallW.pure hq [] rfl Try.call68 ?_ (by first | trivial | simp [T.noSh, T.noShL, rat]) rfl ?_
    · simp -implicitDefEqProofs only [agR, Nat.reduceLeDiff, Nat.reduceSub, vaR, go_sem, ints, rows, rat, rats, ratsO, rtR, intsO, rowsO]
    simp -implicitDefEqProofs only [go_sem, evR, ints, rows, rat, rats, y3, Int.zero_sub, wrap64 (n := -bestN x p) (by omega) (by omega), bne_self_eq_false]
    rcases Bool.eq_false_or_eq_true (pairG g s t) with q1 | q1
    · have v1 : vbR g s t = (-bestN g s, bestN g t, unit g, 0) := by rw [vbR, if_pos q1]
      rw [v1]
      refine ⟨fun h => by simp at h, fun _ => ?_⟩
      obtain ⟨l1, l2, l3, l4, l5, l6⟩ := gains_law q1
      have hq := impl_GameNumber_ok g s t hg hs ht q1
      simp only [tr3] at hq
      refine CallW.pure hq [] rfl Try.call68 ?_ (by first | trivial | simp [T.noSh, T.noShL, rat]) rfl ?_
      · simp -implicitDefEqProofs only [agR, Nat.reduceLeDiff, Nat.reduceSub, vaR, go_sem, ints, rows, rat, rats, ratsO, rtR, intsO, rowsO]
      simp -implicitDefEqProofs only [go_sem, evR, ints, rows, rat, rats, nodes, beq_self_eq_true, decide_eq_true l5, decide_eq_true l6]
      exact ⟨fun _ => trivial, fun h => absurd l5 h⟩
    · have v1 : vbR g s t = (0, 0, 0, 1) := by rw [vbR, q1]; rfl
      rw [v1]
      exact ⟨fun _ => trivial, fun h => by simp at h⟩
  · rcases Bool.eq_false_or_eq_true (pairG g s t) with q1 | q1
    · have v1 : vbR g s t = (-bestN g s, bestN g t, unit g, 0) := by rw [vbR, if_pos q1]
      rw [v1]
      refine ⟨fun h => by simp at h, fun _ => ?_⟩
      obtain ⟨l1, l2, l3, l4, l5, l6⟩ := gains_law q1
      have hq := impl_GameNumber_ok g s t hg hs ht q1
      simp only [tr3] at hq
      refine CallW.pure hq [] rfl Try.call68 ?_ (by first | trivial | simp [T.noSh, T.noShL, rat]) rfl ?_
      · simp -implicitDefEqProofs only [agR, Nat.reduceLeDiff, Nat.reduceSub, vaR, go_sem, ints, rows, rat, rats, ratsO, rtR, intsO, rowsO]
      simp -implicitDefEqProofs only [go_sem, evR, ints, rows, rat, rats, nodes, beq_self_eq_true, decide_eq_true l5, decide_eq_true l6]
      exact ⟨fun _ => trivial, fun h => absurd l5 h⟩
    · have v1 : vbR g s t = (0, 0, 0, 1) := by rw [vbR, q1]; rfl
      rw [v1]
      exact ⟨fun _ => trivial, fun h => by simp at h⟩
  · rcases Bool.eq_false_or_eq_true (pairG g s t) with q1 | q1
    · have v1 : vbR g s t = (-bestN g s, bestN g t, unit g, 0) := by rw [vbR, if_pos q1]
      rw [v1]
      refine ⟨fun h => by simp at h, fun _ => ?_⟩
      obtain ⟨l1, l2, l3, l4, l5, l6⟩ := gains_law q1
      have hq := impl_GameNumber_ok g s t hg hs ht q1
      simp only [tr3] at hq
      refine CallW.pure hq [] rfl Try.call68 ?_ (by first | trivial | simp [T.noSh, T.noShL, rat]) rfl ?_
      · simp -implicitDefEqProofs only [agR, Nat.reduceLeDiff, Nat.reduceSub, vaR, go_sem, ints, rows, rat, rats, ratsO, rtR, intsO, rowsO]
      simp -implicitDefEqProofs only [go_sem, evR, ints, rows, rat, rats, nodes, beq_self_eq_true, decide_eq_true l5, decide_eq_true l6]
      exact ⟨fun _ => trivial, fun h => absurd l5 h⟩
    · have v1 : vbR g s t = (0, 0, 0, 1) := by rw [vbR, q1]; rfl
      rw [v1]
      exact ⟨fun _ => trivial, fun h => by simp at h⟩
end
end Go.Ab

set_option linter.unusedSimpArgs false
set_option linter.unusedVariables false
namespace Go.Proofs.Ytkmmkgpnlmdcfaa
open Go.ChangeShapes Go.WideShapes Go.ChangeAt Go.RowKit Go.Ab

namespace fnValueBounds
theorem said : ∀ xs, wtL [tyU8s] xs → Pure Try.prog 15 xs (.b true)
  | [x], h => by
    obtain ⟨cs, rfl, _, hc⟩ := wt_bytes h.1
    exact laws_FnValueBounds_ok cs hc
  | [], h => h.elim
  | _ :: _ :: _, h => h.2.elim

set_option maxRecDepth 100000 in
theorem lifted (os : Os) (started : os.Started) (H : Type) (enc : TypeId × Value → H) :
    ReturnsInHanded {} Try.checked os 15 .any (Rows.fnValueBoundsSpec.pre6 enc Try.prog Try.f15 Rows.fnValueBoundsRow.domain false) (Rows.fnValueBoundsSpec.post enc Try.prog Try.f15 false true false false) := by
  refine returnsInHanded_of_change (C := Try.checked) (by kernel_rfl) started (by kernel_rfl) Try.func15
    (ChangeSpec.witness6 (enc := enc) (C := Try.checked) false ⟨#[], #[.slice none 0 0], []⟩ 8 (by kernel_rfl) (by kernel_rfl) (by kernel_rfl) (by kernel_rfl)) ?_
  intro W base args ds gs before hval hW _ _
  refine law_contract (tys := [tyU8s]) (by kernel_rfl) (by kernel_rfl) rfl (by kernel_rfl) rfl (fun ds h => ?_) said W base args ds gs before hval hW
  match ds, h with
  | [d0], _ => rfl

theorem andT {a b : Bool} (ha : a = true) (hb : b = true) : (a && b) = true := by rw [ha, hb]; rfl
theorem joined0 : ((Rows.fnValueBoundsRow.wf (OpenSpec.ofChange Rows.fnValueBoundsSpec))) = true := by kernel_rfl
theorem joined1 : (laidOutB Try.prog) = true := Try.laidOutT
theorem joined2 : (mapsRowed Try.prog) = true := Try.mapsRowedT
theorem joined3 : (Try.f15.params.all (Try.prog.readableRec ·)) = true := by kernel_rfl
theorem joined4 : (namedTie Try.prog Rows.fnValueBoundsRow.named Rows.fnValueBoundsSpec.vars) = true := by kernel_rfl
theorem joined5 : ((Rows.fnValueBoundsRow.stops == [])) = true := by kernel_rfl
theorem joined6 : ((Try.prog.stops == [])) = true := by kernel_rfl
theorem joined7 : ((Rows.fnValueBoundsRow.knobs == [])) = true := by kernel_rfl
theorem joined8 : ((Try.prog.stopKnobs == [])) = true := by kernel_rfl
theorem joined9 : ((Rows.fnValueBoundsRow.inPlace == Try.prog.inPlace 15)) = true := by kernel_rfl
theorem joined10 : ((Rows.fnValueBoundsRow.unfollowed == Try.prog.unfollowed 15)) = true := by kernel_rfl
theorem joined11 : ((Rows.fnValueBoundsRow.recurses == Try.prog.recurses 15)) = true := by kernel_rfl
theorem joined12 : ((Rows.fnValueBoundsRow.named == Try.prog.varsNamed 15)) = true := by kernel_rfl
theorem joined13 : ((Rows.fnValueBoundsRow.maps == (Try.f15.params.toList ++ Rows.fnValueBoundsSpec.plain.varTypes Try.prog).any (Try.prog.mapsRec ·))) = true := by kernel_rfl
theorem joined14 : ((Rows.fnValueBoundsRow.ifaces == (Try.f15.params.toList ++ Rows.fnValueBoundsSpec.plain.varTypes Try.prog).any (Try.prog.ifacesRec ·))) = true := by kernel_rfl
theorem joined15 : ((Rows.fnValueBoundsRow.mapsOut == Try.prog.mapsAmong Try.f15.resultTypes.toList)) = true := by kernel_rfl
theorem joined16 : ((Rows.fnValueBoundsRow.loops == (Try.f15.params.toList ++ Rows.fnValueBoundsSpec.plain.varTypes Try.prog).any (Try.prog.loopsFrom ·))) = true := by kernel_rfl
theorem joined17 : ((Rows.fnValueBoundsRow.wideKeys == (Try.f15.params.toList ++ Rows.fnValueBoundsSpec.plain.varTypes Try.prog ++ Try.f15.resultTypes.toList).any (Try.prog.wideKeysFrom ·))) = true := by kernel_rfl
theorem joined18 : (Rows.fnValueBoundsSpec.vars.all (Try.prog.varReadable ·)) = true := by kernel_rfl
theorem joined19 : (Try.f15.resultTypes.all (fun t => Try.prog.readableRec t && decide (t < Try.prog.types.size))) = true := by kernel_rfl
theorem joined20 : ((Rows.fnValueBoundsRow.ifacesOut == Try.f15.resultTypes.toList.any (Try.prog.ifacesRec ·))) = true := by kernel_rfl
theorem joined21 : ((Rows.fnValueBoundsRow.loopsOut == Try.f15.resultTypes.toList.any (Try.prog.loopsFrom ·))) = true := by kernel_rfl
theorem joined22 : ((Rows.fnValueBoundsRow.plainKeys == Try.prog.plainKeys)) = true := by kernel_rfl
theorem joined23 : (Rows.fnValueBoundsRow.shortTexts.isNone) = true := by kernel_rfl
theorem joined24 : (Try.prog.stopsHeard) = true := Try.heardT
theorem joined25 : (Try.prog.mayEnter) = true := Try.mayEnterT
theorem joined26 : ((Rows.fnValueBoundsRow.lifted == Try.prog.liftsFinal)) = true := (by rw [Try.liftsF]; rfl)
theorem joined27 : ((Try.prog.make == some Rows.fnValueBoundsRow.make)) = true := (by rw [Try.makeC]; rfl)
theorem joined28 : ((Rows.fnValueBoundsRow.kinds == (if Rows.fnValueBoundsRow.domain.isEmpty then [] else Try.f15.params.toList.map fun t => match Try.prog.underlying t with | some (.int k) => some k | _ => none))) = true := by kernel_rfl
theorem joined29 : ((Rows.fnValueBoundsRow.pinned == Rows.fnValueBoundsRow.pinnedBy)) = true := by kernel_rfl
theorem joined30 : ((Rows.fnValueBoundsRow.veiled == (Try.f15.params.toList ++ Rows.fnValueBoundsSpec.plain.varTypes Try.prog ++ Try.f15.resultTypes.toList).any (Try.prog.veiledRec ·))) = true := by kernel_rfl
theorem joined31 : (Rows.fnValueBoundsRow.veiledFits Try.prog Try.f15.params.toList (Try.f15.params.toList ++ Rows.fnValueBoundsSpec.plain.varTypes Try.prog ++ Try.f15.resultTypes.toList)) = true := by kernel_rfl
set_option maxRecDepth 100000 in
theorem joined : joinedFacts Try.prog 15 Try.f15 Rows.fnValueBoundsSpec Rows.fnValueBoundsRow = true := by
  unfold joinedFacts
  exact andT (andT (andT (andT (andT (andT (andT (andT (andT (andT (andT (andT (andT (andT (andT (andT (andT (andT (andT (andT (andT (andT (andT (andT (andT (andT (andT (andT (andT (andT (andT (joined0) joined1) joined2) joined3) joined4) joined5) joined6) joined7) joined8) joined9) joined10) joined11) joined12) joined13) joined14) joined15) joined16) joined17) joined18) joined19) joined20) joined21) joined22) joined23) joined24) joined25) joined26) joined27) joined28) joined29) joined30) joined31
theorem over : Rows.fnValueBoundsRow.holds Try.pinned (OpenSpec.ofChange Rows.fnValueBoundsSpec) :=
  OpenClaim.holds_of_wide 15 Try.f15 rfl rfl rfl rfl rfl rfl rfl ⟨rfl, rfl, rfl, rfl, rfl⟩ rfl rfl rfl rfl rfl (by kernel_rfl) Try.func15 joined
    (of_decide_eq_true (by kernel_rfl)) (by unfold Func.isWrapper; first | (rw [if_pos (by decide +kernel)]; kernel_rfl) | (rw [if_neg (by decide +kernel)]; exact ⟨rfl, rfl⟩))
    (fun os started H enc _ => lifted os started H enc)
end fnValueBounds

theorem fnValueBounds_holds : Rows.FnValueBoundsSaid := fnValueBounds.over
#print axioms fnValueBounds_holds
end Go.Proofs.Ytkmmkgpnlmdcfaa
