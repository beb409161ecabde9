/- The value of a flipped matrix is the matrix's value, negated, and flipping twice gives the matrix back; both sides answer alike: the law FnFlips returns true for every list of bytes. No conditions. -/
import Derived.Test.YtdleindmpgadcaaRows
import Derived.Test.YtdleindmpgadcaaQ5
/- Contracts: drawn square matrices; likeLists; the law FnAdjugates. -/
set_option linter.unusedSimpArgs false
set_option linter.unusedVariables false
namespace Go.Ab
open Go.Proofs

def numsI (n : Nat) : List Int := (List.range n).map Int.ofNat
theorem numsI_succ (n : Nat) : numsI (n + 1) = numsI n ++ [(n : Int)] := by simp [numsI, List.range_succ]
theorem numsI_length (n : Nat) : (numsI n).length = n := by simp [numsI]
theorem numsI_get {n i : Nat} (h : i < n) : (numsI n)[i]? = some (i : Int) := by simp [numsI, h]
theorem spec_l27Numbers_ok (n : Nat) (hn : n ≤ 1000000) : Fun Try.prog 81 [] [.t (.i n)] fun o r => o = [] ∧ r = intsO (numsI n) := by
  refine fun_spec_l27Numbers (by simp) ?_
  simp -implicitDefEqProofs only [go_sem, evR, ints, rows, rat, rats, c_spec_l27Numbers]
  refine SemC.loopR (σ := Nat) (fun i => St.of [(0, .t (.i n)), (3, .own 96), (4, .t (.i i))] [(96, .arr 1 ((numsI i).map T.i))]) (fun i => i ≤ n) (fun i => n - i) 0 (Weak.of _ _ [some 5] (by simp) (by simp) ?_ ?_) (by simp) fun i hi R hn' hr he => ?_
  · simp -implicitDefEqProofs only [ints, rows, Nat.reduceBEq, wkR, Nat.reduceEqDiff, ↓reduceIte, wrR]
  · exact ⟨⟨_, rfl, .refl _⟩, rfl, trivial⟩
  · simp -implicitDefEqProofs only [go_sem, evR, ints, rows, rat, rats]
    refine ⟨fun h => ⟨by rw [numsI_length]; omega, hn' _ (i + 1) (Weak.of _ _ [some 14] (by simp) (by simp) ?_ ?_) (by omega) (by omega)⟩, fun h => he _ _ ?_⟩
    · simp -implicitDefEqProofs only [ints, rows, Nat.reduceBEq, wkR, Nat.reduceEqDiff, ↓reduceIte, wrR, next64 (by omega : i < n) (by omega)]
    · refine ⟨⟨_, rfl, ?_⟩, rfl, trivial⟩
      rw [numsI_succ, List.map_append]; exact .refl _
    · simp -implicitDefEqProofs only [go_sem, evR, ints, rows, rat, rats]
      have : i = n := by omega
      rw [this]; rfl
def partM (m : List (List Int)) (R C : List Int) : List (List Int) := R.map fun i => C.map fun j => (m.getD i.toNat []).getD j.toNat 0
theorem partM_length (m : List (List Int)) (R C : List Int) : (partM m R C).length = R.length := by simp [partM]
theorem spec_l27Part_ok (m : List (List Int)) (R C : List Int) (hR : ∀ x ∈ R, 0 ≤ x ∧ x < m.length) (hC : ∀ x ∈ C, 0 ≤ x ∧ ∀ r ∈ m, x < r.length) (hRl : R.length ≤ 1000000) (hCl : C.length ≤ 1000000) : Fun Try.prog 104 [] [.t (rows m), .t (ints R), .t (ints C)] fun o r => o = [] ∧ r = rowsO (partM m R C) := by
  refine fun_spec_l27Part (by simp) ?_
  simp -implicitDefEqProofs only [go_sem, evR, ints, rows, rat, rats, c_spec_l27Part]
  refine SemC.loopR (σ := Nat) (fun i => St.of [(0, .t (rows m)), (1, .t (ints R)), (2, .t (ints C)), (7, .own 96), (8, .t (.i i))] [(96, .arr 1 ((partM m (R.take i) C).map intsO))]) (fun i => i ≤ R.length) (fun i => R.length - i) 0 (Weak.of _ _ [some 11] (by simp) (by simp) ?_ ?_) (by simp) fun i hi Q hn hr he => ?_
  · simp -implicitDefEqProofs only [ints, rows, Nat.reduceBEq, wkR, Nat.reduceEqDiff, ↓reduceIte, wrR]
  · exact ⟨⟨_, rfl, .refl _⟩, rfl, trivial⟩
  · have hpl := partM_length m (R.take i) C
    rw [List.length_take, Nat.min_eq_left hi] at hpl
    simp -implicitDefEqProofs only [go_sem, evR, ints, rows, rat, rats]
    refine ⟨fun h => ?_, fun h => he _ _ ?_⟩
    · obtain ⟨ri, hri⟩ : ∃ x, R[i]? = some x := ⟨_, List.getElem?_eq_getElem (by omega)⟩
      have hrb := hR ri (List.mem_of_getElem? hri)
      obtain ⟨row, hrow⟩ : ∃ x, m[ri.toNat]? = some x := ⟨_, List.getElem?_eq_getElem (by omega)⟩
      have hgd : m.getD ri.toNat [] = row := by rw [List.getD_eq_getElem?_getD, hrow]; rfl
      refine SemC.loopR (σ := Nat) (fun k => St.of [(0, .t (rows m)), (1, .t (ints R)), (2, .t (ints C)), (7, .own 96), (8, .t (.i i)), (9, .own 97), (10, .t (.i k))] [(96, .arr 1 ((partM m (R.take i) C).map intsO)), (97, .arr 1 (((C.take k).map fun j : Int => row.getD j.toNat 0).map T.i))]) (fun k => k ≤ C.length) (fun k => C.length - k) 0 (Weak.of _ _ [some 96, some 18] (by simp) (by simp) ?_ ?_) (by simp) fun k hk Q2 hn2 hr2 he2 => ?_
      · simp -implicitDefEqProofs only [ints, rows, Nat.reduceBEq, wkR, Nat.reduceEqDiff, ↓reduceIte, wrR]
      · exact ⟨⟨_, rfl, .refl _⟩, rfl, ⟨_, rfl, .refl _⟩, rfl, trivial⟩
      · simp -implicitDefEqProofs only [go_sem, evR, ints, rows, rat, rats]
        refine ⟨fun h1 => ?_, fun h1 => he2 _ _ ?_⟩
        · obtain ⟨cj, hcj⟩ : ∃ x, C[k]? = some x := ⟨_, List.getElem?_eq_getElem (by omega)⟩
          have hcb := hC cj (List.mem_of_getElem? hcj)
          have hcl := hcb.2 row (List.mem_of_getElem? hrow)
          obtain ⟨x, hx⟩ : ∃ x, row[cj.toNat]? = some x := ⟨_, List.getElem?_eq_getElem (by omega)⟩
          have hxd : row.getD cj.toNat 0 = x := by rw [List.getD_eq_getElem?_getD, hx]; rfl
          simp only [hri, hrow, hcj, hx, Option.some.injEq, forall_eq']
          refine ⟨by omega, by omega, by omega, by omega, by omega, by omega, by omega, by omega, by omega, by omega, by omega, by omega, by rw [List.length_take]; omega, hn2 _ (k + 1) (Weak.of _ _ [some 96, some 40] (by simp) (by simp) ?_ ?_) (by omega) (by omega)⟩
          · simp -implicitDefEqProofs only [ints, rows, Nat.reduceBEq, wkR, Nat.reduceEqDiff, ↓reduceIte, wrR, next64 (by omega : k < C.length) (by omega)]
          · refine ⟨⟨_, rfl, .refl _⟩, rfl, ⟨_, rfl, ?_⟩, rfl, trivial⟩
            rw [take_snoc hcj]
            simp only [List.map_append, List.map_cons, List.map_nil, hxd]
            exact .refl _
        · simp -implicitDefEqProofs only [go_sem, evR, ints, rows, rat, rats]
          refine ⟨by rw [hpl]; omega, hn _ (i + 1) (Weak.of _ _ [some 44] (by simp) (by simp) ?_ ?_) (by omega) (by omega)⟩
          · simp -implicitDefEqProofs only [ints, rows, Nat.reduceBEq, wkR, Nat.reduceEqDiff, ↓reduceIte, wrR, next64 (by omega : i < R.length) (by omega)]
          · refine ⟨⟨_, rfl, ?_⟩, rfl, trivial⟩
            rw [take_snoc hri]
            have hk' : C.take k = C := List.take_of_length_le (by omega)
            simp only [partM, List.map_append, List.map_cons, List.map_nil, hk', hgd, intsO]
            exact .refl _
    · simp -implicitDefEqProofs only [go_sem, evR, ints, rows, rat, rats]
      rw [List.take_of_length_le (by omega)]; rfl

theorem laws_likeLists_ok (a b : List (List Int)) (ha : a.length ≤ 1000000000000) (hb : b.length ≤ 1000000000000) (hra : ∀ r ∈ a, r.length ≤ 1000000000000) (hrb : ∀ r ∈ b, r.length ≤ 1000000000000) :
    Pure Try.prog 45 [rows a, rows b] (.b (decide (a = b))) := by
  refine fun_laws_likeLists (by simp) ?_
  simp -implicitDefEqProofs only [c_laws_likeLists, rows, go_sem]
  refine ⟨fun h => ?_, fun h => ?_⟩
  · have : a ≠ b := by rintro rfl; simp at h
    simp [this]
  · have hab : a.length = b.length := by simp at h; omega
    refine SemC.loopR (σ := Nat) (fun i => St.of [(0, .t (rows a)), (1, .t (rows b)), (5, .t (.i i))] []) (fun i => i ≤ a.length ∧ ∀ j, j < i → a[j]? = b[j]?) (fun i => a.length - i) 0 (Weak.of _ [] [] (by simp) (by simp) ?_ trivial) ⟨by simp, fun j hj => by omega⟩ fun i hI R hn hr he => ?_
    · simp -implicitDefEqProofs only [rows, wkR, Nat.reduceEqDiff, ↓reduceIte]
    · simp -implicitDefEqProofs only [rows, go_sem, toNat_cast]
      refine ⟨fun h => ⟨by omega, by omega, by omega, fun c x hx hc => ⟨by omega, by omega, by omega, fun c' y hy hc' => ?_⟩⟩, fun h => he _ _ ?_⟩
      · subst hc hc'
        refine CallV.pure (laws_likeInts_ok x y (hra x (List.mem_of_getElem? hx)) (hrb y (List.mem_of_getElem? hy))) [] rfl Try.call37 (fun e R' _ => ?_) trivial (fun _ => rfl) ?_
        · simp -implicitDefEqProofs only [vaR, go_sem]
        · simp -implicitDefEqProofs only [go_sem]
          refine ⟨fun h1 => hr _ ?_, fun h1 => hn _ (i + 1) (Weak.of _ [] [] (by simp) (by simp) ?_ trivial) ⟨by omega, fun j hj => ?_⟩ (by omega)⟩
          · simp -implicitDefEqProofs only [go_sem]
            have : a ≠ b := by rintro rfl; rw [hx] at hy; cases hy; simp at h1
            simp [this]
          · simp -implicitDefEqProofs only [rows, wkR, Nat.reduceEqDiff, ↓reduceIte, next64 (by omega : i < a.length) ha]
          · rcases Nat.lt_or_ge j i with h | h
            · exact hI.2 j h
            · have : j = i := by omega
              subst this
              rw [hx, hy]; simpa using h1
      · simp -implicitDefEqProofs only [go_sem]
        have : a = b := by
          refine List.ext_getElem? fun j => ?_
          rcases Nat.lt_or_ge j i with h | h
          · exact hI.2 j h
          · rw [List.getElem?_eq_none (by omega), List.getElem?_eq_none (by omega)]
        simp [this]

end Go.Ab

/- Contracts: what kernels are made of. -/
set_option linter.unusedSimpArgs false
set_option linter.unusedVariables false
namespace Go.Ab
open Go.Proofs

def pickL (l : List Int) (c : List Int) : List Int := c.map fun j => l.getD j.toNat 0
def sub (m : List (List Int)) (r c : List Int) : List (List Int) := r.map fun i => pickL (m.getD i.toNat []) c
theorem numsI_run (n : Nat) : numsI n = run 0 n := by
  apply List.ext_getElem?
  intro i
  rcases Nat.lt_or_ge i n with h | h
  · rw [numsI_get h, run_get 0 h, Int.zero_add]
  · rw [List.getElem?_eq_none (by rw [numsI_length]; exact h), List.getElem?_eq_none (by rw [run_length]; exact h)]
def sgR (n d : Int) : (Int × Int) × Int := if d < 0 then redR (-n) (-d) else redR n d
section
attribute [-go_sem] load1C load1V fldC lenC idxC loadNV
set_option maxRecDepth 20000 in
theorem impl_chosen_ok (l c : List Int) (hc : ∀ j ∈ c, 0 ≤ j ∧ j < l.length) (hl : c.length ≤ 1000000) : Fun Try.prog 99 [] [.t (ints l), .t (ints c)] fun o r => o = [] ∧ r = intsO (pickL l c) := by
  refine fun_impl_chosen (by simp) ?_
  simp -implicitDefEqProofs only [go_sem, evR, ints, rows, rat, rats, c_impl_chosen]
  refine ⟨by omega, by omega, ?_⟩
  refine SemC.loopR (σ := Nat) (fun i => St.of [(0, .t (ints l)), (5, .own 10), (11, .t (ints c)), (12, .t (.i c.length)), (13, .t (.i i))] [(10, .arr 1 (filled c (fun j => T.i (l.getD j.toNat 0)) (.i 0) i))]) (fun i => i ≤ c.length) (fun i => c.length - i) 0 (Weak.of _ _ [some 10] (by simp) (by simp) ?_ ?_) (by omega) fun i hi R hn hr he => ?_
  · simp -implicitDefEqProofs only [ints, rows, Nat.reduceBEq, wkR, Nat.reduceEqDiff, ↓reduceIte, wrR]
  · exact ⟨⟨_, rfl, by rw [made_one, filled_zero]; exact .refl _⟩, rfl, trivial⟩
  · have hfl := filled_length c (fun j => T.i (l.getD j.toNat 0)) (.i 0) i hi
    rcases Nat.lt_or_ge i c.length with h9 | h9
    · obtain ⟨j, hj⟩ : ∃ j, c[i]? = some j := ⟨_, List.getElem?_eq_getElem h9⟩
      have hjb := hc j (List.mem_of_getElem? hj)
      obtain ⟨y, hy⟩ : ∃ y, l[j.toNat]? = some y := ⟨_, List.getElem?_eq_getElem (by omega)⟩
      have hyd : l.getD j.toNat 0 = y := by rw [List.getD_eq_getElem?_getD, hy]; rfl
      simp -implicitDefEqProofs only [go_sem, evR, ints, rows, rat, rats, hj, hy, hfl, decide_eq_true (show (i : Int) < (c.length : Int) by omega)]
      refine ⟨by omega, by omega, by omega, by omega, by omega, by omega, by omega, by omega, by omega, hn _ (i + 1) (Weak.of _ _ [some 10] (by simp) (by simp) ?_ ?_) (by omega) (by omega)⟩
      · simp -implicitDefEqProofs only [ints, rows, Nat.reduceBEq, wkR, Nat.reduceEqDiff, ↓reduceIte, wrR, next64 h9 (by omega)]
      · refine ⟨⟨_, rfl, ?_⟩, rfl, trivial⟩
        rw [← filled_set hj, hyd]; exact .refl _
    · simp -implicitDefEqProofs only [go_sem, evR, ints, rows, rat, rats, decide_eq_false (show ¬ (i : Int) < (c.length : Int) by omega)]
      refine he _ _ ?_
      simp -implicitDefEqProofs only [go_sem, evR, ints, rows, rat, rats]
      rw [show i = c.length by omega, filled_all, intsO, pickL, List.map_map]; rfl
set_option maxRecDepth 20000 in
theorem impl_indicesOf_ok (c : List Int) (hl : c.length ≤ 1000000) : Fun Try.prog 79 [] [.t (ints c)] fun o r => o = [] ∧ r = intsO c := by
  refine fun_impl_indicesOf (by simp) ?_
  simp -implicitDefEqProofs only [go_sem, evR, ints, rows, rat, rats, c_impl_indicesOf]
  refine ⟨by omega, by omega, ?_⟩
  refine SemC.loopR (σ := Nat) (fun i => St.of [(3, .own 8), (9, .t (ints c)), (10, .t (.i c.length)), (11, .t (.i i))] [(8, .arr 1 (filled c T.i (.i 0) i))]) (fun i => i ≤ c.length) (fun i => c.length - i) 0 (Weak.of _ _ [some 8] (by simp) (by simp) ?_ ?_) (by omega) fun i hi R hn hr he => ?_
  · simp -implicitDefEqProofs only [ints, rows, Nat.reduceBEq, wkR, Nat.reduceEqDiff, ↓reduceIte, wrR]
  · exact ⟨⟨_, rfl, by rw [made_one, filled_zero]; exact .refl _⟩, rfl, trivial⟩
  · have hfl := filled_length c T.i (.i 0) i hi
    rcases Nat.lt_or_ge i c.length with h9 | h9
    · obtain ⟨j, hj⟩ : ∃ j, c[i]? = some j := ⟨_, List.getElem?_eq_getElem h9⟩
      simp -implicitDefEqProofs only [go_sem, evR, ints, rows, rat, rats, hj, hfl, decide_eq_true (show (i : Int) < (c.length : Int) by omega)]
      refine ⟨by omega, by omega, by omega, by omega, by omega, by omega, hn _ (i + 1) (Weak.of _ _ [some 8] (by simp) (by simp) ?_ ?_) (by omega) (by omega)⟩
      · simp -implicitDefEqProofs only [ints, rows, Nat.reduceBEq, wkR, Nat.reduceEqDiff, ↓reduceIte, wrR, next64 h9 (by omega)]
      · refine ⟨⟨_, rfl, ?_⟩, rfl, trivial⟩
        rw [← filled_set hj]; exact .refl _
    · simp -implicitDefEqProofs only [go_sem, evR, ints, rows, rat, rats, decide_eq_false (show ¬ (i : Int) < (c.length : Int) by omega)]
      refine he _ _ ?_
      simp -implicitDefEqProofs only [go_sem, evR, ints, rows, rat, rats]
      rw [show i = c.length by omega, filled_all, intsO]
theorem impl_signedRatio_ok (n d : Int) (n0 : -9000000000000000000 < n) (n1 : n < 9000000000000000000) (d0 : d ≠ 0) (d1 : -9000000000000000000 < d) (d2 : d < 9000000000000000000) : Pure Try.prog 102 [.i n, .i d] (.tup [rat (sgR n d).1, .b ((sgR n d).2 == 0)]) := by
  refine fun_impl_signedRatio (by simp) ?_
  simp -implicitDefEqProofs only [go_sem, evR, ints, rows, rat, rats, c_impl_signedRatio]
  refine ⟨fun h => ?_, fun h => ?_⟩
  · have h : d < 0 := by simpa using h
    rw [wrap64 (n := 0 - n) (by omega) (by omega), wrap64 (n := 0 - d) (by omega) (by omega), sgR, if_pos h, show 0 - n = -n by omega, show 0 - d = -d by omega]
    refine CallW.res (impl_reduced_ok (-n) (-d) (by omega) (by omega) (by omega) (by omega)) [] rfl Try.call119 ?_ (.inl rfl) ?_
    · simp -implicitDefEqProofs only [agR, Nat.reduceLeDiff, Nat.reduceSub, vaR, go_sem, ints, rows, rat, rats, ratsO, rtR, intsO, rowsO]
    simp -implicitDefEqProofs only [clR, Nat.reduceLeDiff, go_sem, evR, rat, redT]
  · have h : ¬ d < 0 := by simpa using h
    rw [sgR, if_neg h]
    refine CallW.res (impl_reduced_ok n d (by omega) (by omega) (by omega) (by omega)) [] rfl Try.call119 ?_ (.inl rfl) ?_
    · simp -implicitDefEqProofs only [agR, Nat.reduceLeDiff, Nat.reduceSub, vaR, go_sem, ints, rows, rat, rats, ratsO, rtR, intsO, rowsO]
    simp -implicitDefEqProofs only [clR, Nat.reduceLeDiff, go_sem, evR, rat, redT]
theorem sub_snoc (m : List (List Int)) {r : List Int} {c : List Int} {i : Nat} {x : Int} (h : r[i]? = some x) : sub m (r.take (i + 1)) c = sub m (r.take i) c ++ [pickL (m.getD x.toNat []) c] := by
  rw [sub, take_snoc h, List.map_append]; rfl
def combI (d k : Nat) (lo : Int) (i : Nat) : List (List Int) := (List.range i).flatMap fun j => (comb (d - j - 1) k (lo + j + 1)).map ((lo + j) :: ·)
theorem combI_succ (d k : Nat) (lo : Int) (i : Nat) : combI d k lo (i + 1) = combI d k lo i ++ (comb (d - i - 1) k (lo + i + 1)).map ((lo + i) :: ·) := by
  rw [combI, List.range_succ, List.flatMap_append]; simp [combI]
theorem combI_shift (d k : Nat) (lo : Int) : ∀ i, combI (d + 1) k lo (i + 1) = (comb d k (lo + 1)).map (lo :: ·) ++ combI d k (lo + 1) i
  | 0 => by simp [combI]
  | i + 1 => by
    rw [combI_succ, combI_shift d k lo i, combI_succ d k (lo + 1) i, List.append_assoc]
    congr 2
    rw [show d + 1 - (i + 1) - 1 = d - i - 1 by omega, show lo + ((i + 1 : Nat) : Int) = lo + 1 + i by omega]
theorem comb_I : ∀ (d k : Nat) (lo : Int), comb d (k + 1) lo = combI d k lo d
  | 0, k, lo => rfl
  | d + 1, k, lo => by rw [comb, comb_I d k (lo + 1), combI_shift]
theorem run_drop : ∀ (d : Nat) (lo : Int) (i : Nat), (run lo d).drop i = run (lo + i) (d - i)
  | d, lo, 0 => by simp
  | 0, lo, i + 1 => by simp [run]
  | d + 1, lo, i + 1 => by
    rw [run, List.drop_succ_cons, run_drop d (lo + 1) i, show d + 1 - (i + 1) = d - i by omega, show lo + 1 + (i : Int) = lo + ((i + 1 : Nat) : Int) by omega]
theorem comb_count : ∀ (d k : Nat) (lo : Int), (comb d k lo).length ≤ 2 ^ d
  | d, 0, lo => by
    have : 1 ≤ 2 ^ d := Nat.one_le_two_pow
    cases d <;> simp [comb, this]
  | 0, k + 1, lo => by simp [comb]
  | d + 1, k + 1, lo => by
    have h1 := comb_count d k (lo + 1)
    have h2 := comb_count d (k + 1) (lo + 1)
    rw [comb, List.length_append, List.length_map]; omega
theorem comb_zero (d : Nat) (lo : Int) : comb d 0 lo = [[]] := by cases d <;> rfl
theorem combI_count (d k : Nat) (lo : Int) : ∀ i, i ≤ d → (combI d k lo i).length + 2 ^ (d - i) ≤ 2 ^ d
  | 0, _ => by simp [combI]
  | i + 1, h => by
    have h1 := combI_count d k lo i (by omega)
    have h2 := comb_count (d - i - 1) k (lo + i + 1)
    rw [combI_succ, List.length_append, List.length_map]
    rw [show d - i = (d - i - 1) + 1 by omega, Nat.pow_succ] at h1
    rw [show d - (i + 1) = d - i - 1 by omega]; omega
theorem combI_stop {d k : Nat} {lo : Int} : ∀ (n i : Nat), i + n = d → d < i + (k + 1) → combI d k lo i = combI d k lo d
  | 0, i, h, _ => by rw [show i = d by omega]
  | n + 1, i, h, h2 => by
    rw [← combI_stop n (i + 1) (by omega) (by omega), combI_succ, comb_nil (by omega)]; simp
end
end Go.Ab

/- Contracts: choices and mixes of the specification. -/
set_option linter.unusedSimpArgs false
set_option linter.unusedVariables false
namespace Go.Ab
open Go.Proofs
section
attribute [-go_sem] load1C load1V fldC lenC idxC loadNV
set_option maxRecDepth 20000 in
theorem spec_l04Choices_ok : ∀ (k d : Nat) (lo : Int), d ≤ 16 → k ≤ 100 → Fun Try.prog 80 [] [.t (ints (run lo d)), .t (.i k)] fun o r => o = [] ∧ r = rowsO (comb d k lo)
  | 0, d, lo, hd, _ => by
    refine fun_spec_l04Choices (by simp) ?_
    simp -implicitDefEqProofs only [go_sem, evR, ints, rows, rat, rats, c_spec_l04Choices]
    exact ⟨fun _ => by rw [comb_zero]; rfl, fun h => by simp at h⟩
  | k + 1, d, lo, hd, hk => by
    refine fun_spec_l04Choices (by simp) ?_
    simp -implicitDefEqProofs only [go_sem, evR, ints, rows, rat, rats, c_spec_l04Choices]
    refine ⟨fun h => by simp at h; omega, fun _ => ?_⟩
    have hrl := run_length lo d
    have hp16 : 2 ^ d ≤ 2 ^ 16 := Nat.pow_le_pow_right (by omega) hd
    refine SemC.loopR (σ := Nat) (fun i => St.of [(0, .t (ints (run lo d))), (1, .t (.i (k + 1 : Nat))), (5, .own 77), (6, .t (.i i))] [(77, rowsO (combI d k lo i))]) (fun i => i ≤ d) (fun i => d - i) 0 (Weak.of _ _ [some 13] (by simp) (by simp) ?_ ?_) (by omega) fun i hi R hn hr he => ?_
    · simp -implicitDefEqProofs only [ints, rows, Nat.reduceBEq, wkR, Nat.reduceEqDiff, ↓reduceIte, wrR]
    · exact ⟨⟨_, rfl, .refl _⟩, rfl, trivial⟩
    · have hw1 : IntKind.i64.wrap ((i : Int) + ((k + 1 : Nat) : Int)) = ((i + (k + 1) : Nat) : Int) := by rw [wrap64 (by omega) (by omega)]; omega
      have hw2 : IntKind.i64.wrap ((i : Int) + 1) = ((i + 1 : Nat) : Int) := by rw [wrap64 (by omega) (by omega)]; omega
      have hw3 : IntKind.i64.wrap (((k + 1 : Nat) : Int) - 1) = (k : Int) := by rw [wrap64 (by omega) (by omega)]; omega
      rcases Nat.lt_or_ge d (i + (k + 1)) with h9 | h9
      · simp -implicitDefEqProofs only [go_sem, evR, ints, rows, rat, rats, hrl, hw1, decide_eq_false (show ¬ ((i + (k + 1) : Nat) : Int) ≤ (d : Int) by omega)]
        refine he _ _ ?_
        simp -implicitDefEqProofs only [go_sem, evR, ints, rows, rat, rats]
        rw [comb_I, ← combI_stop (d - i) i (by omega) h9]
      · have hcut : List.take (d - (i + 1)) (List.drop (i + 1) (List.map T.i (run lo d))) = List.map T.i (run (lo + (i + 1 : Nat)) (d - (i + 1))) := by
          rw [← List.map_drop, run_drop, List.take_of_length_le (by simp [run_length])]
        simp -implicitDefEqProofs only [go_sem, evR, ints, rows, rat, rats, hrl, hw1, hw2, hw3, hcut, decide_eq_true (show ((i + (k + 1) : Nat) : Int) ≤ (d : Int) by omega), if_pos (show (0 : Int) ≤ ((i + 1 : Nat) : Int) by omega), Int.toNat_natCast]
        refine ⟨by omega, by omega, ?_⟩
        refine CallW.res (spec_l04Choices_ok k (d - (i + 1)) (lo + (i + 1 : Nat)) (by omega) (by omega)) [] rfl Try.call80 ?_ (.inl rfl) ?_
        · simp -implicitDefEqProofs only [agR, Nat.reduceLeDiff, Nat.reduceSub, vaR, go_sem, ints, rows, rat, rats, ratsO, rtR, intsO, rowsO]
        simp -implicitDefEqProofs only [clR, Nat.reduceLeDiff, go_sem, evR, rat]
        have hcl := comb_count (d - (i + 1)) k (lo + (i + 1 : Nat))
        have hcc := combI_count d k lo i hi
        generalize hcs : comb (d - (i + 1)) k (lo + (i + 1 : Nat)) = cs at hcl ⊢
        refine SemC.loopR (σ := Nat) (fun j => St.of [(0, .t (ints (run lo d))), (1, .t (.i (k + 1 : Nat))), (5, .own 77), (6, .t (.i i)), (7, .t (rows cs)), (8, .t (.i j))] [(77, rowsO (combI d k lo i ++ (cs.take j).map ((lo + i) :: ·)))]) (fun j => j ≤ cs.length) (fun j => cs.length - j) 0 (Weak.trans (Weak.share 28 rfl) (Weak.of _ _ [some 77] (by simp) (by simp) ?_ ?_)) (by omega) fun j hj R2 hn2 hr2 he2 => ?_
        · simp -implicitDefEqProofs only [ints, rows, Nat.reduceBEq, wkR, Nat.reduceEqDiff, ↓reduceIte, wrR, shareA, rowsO_toSh]
        · exact ⟨⟨_, rfl, by simp; exact .refl _⟩, rfl, trivial⟩
        · have hcs16 : cs.length ≤ 65536 := Nat.le_trans hcl (Nat.pow_le_pow_right (i := d - (i + 1)) (j := 16) (n := 2) (by omega) (by omega))
          have hll : (combI d k lo i ++ (cs.take j).map ((lo + i) :: ·)).length ≤ 2 ^ 17 := by
            have h1 : (combI d k lo i).length ≤ 65536 := Nat.le_trans (Nat.le_trans (Nat.le_add_right _ _) hcc) hp16
            rw [List.length_append, List.length_map, List.length_take]; omega
          rcases Nat.lt_or_ge j cs.length with h8 | h8
          · obtain ⟨c, hc⟩ : ∃ c, cs[j]? = some c := ⟨_, List.getElem?_eq_getElem h8⟩
            have hcl2 := comb_len _ _ _ c (hcs ▸ List.mem_of_getElem? hc)
            simp -implicitDefEqProofs only [go_sem, evR, ints, rows, rat, rats, hc, run_get lo (show i < d by omega), hrl, rowsO, hll, decide_eq_true (show (j : Int) < (cs.length : Int) by omega)]
            refine ⟨by omega, by omega, by omega, by omega, by omega, by omega, by omega, by omega, hn2 _ (j + 1) (Weak.of _ _ [some 47] (by simp) (by simp) ?_ ?_) (by omega) (by omega)⟩
            · simp -implicitDefEqProofs only [ints, rows, Nat.reduceBEq, wkR, Nat.reduceEqDiff, ↓reduceIte, wrR, next64 h8 (by omega)]
            · refine ⟨⟨_, rfl, ?_⟩, rfl, trivial⟩
              rw [take_snoc hc]; simp only [rowsO, List.map_append, List.append_assoc]; exact .refl _
          · simp -implicitDefEqProofs only [go_sem, evR, ints, rows, rat, rats, decide_eq_false (show ¬ (j : Int) < (cs.length : Int) by omega)]
            refine he2 _ _ ?_
            simp -implicitDefEqProofs only [go_sem, evR, ints, rows, rat, rats, hw2]
            refine hn _ (i + 1) (Weak.of _ _ [some 77] (by simp) (by simp) ?_ ?_) (by omega) (by omega)
            · simp -implicitDefEqProofs only [ints, rows, Nat.reduceBEq, wkR, Nat.reduceEqDiff, ↓reduceIte, wrR]
            · refine ⟨⟨_, rfl, ?_⟩, rfl, trivial⟩
              rw [show j = cs.length by omega, List.take_length, combI_succ, ← hcs, show d - i - 1 = d - (i + 1) by omega, show lo + (i : Int) + 1 = lo + ((i + 1 : Nat) : Int) by omega]; exact .refl _
end
end Go.Ab

/- The value of two mixes lies between; the best index; errors of sums. -/
set_option linter.unusedSimpArgs false
set_option linter.unusedVariables false
namespace Go.Ab
open Go.Proofs

theorem tr_small {m : List (List Int)} (h : ∀ r ∈ m, ∀ x ∈ r, -20 ≤ x ∧ x ≤ 20) (c : Nat) : ∀ r ∈ tr m c, ∀ x ∈ r, -20 ≤ x ∧ x ≤ 20 := by
  intro r hr x hx
  obtain ⟨k, _, rfl⟩ := List.mem_map.1 hr
  obtain ⟨row, hrow, rfl⟩ := List.mem_map.1 hx
  rw [List.getD_eq_getElem?_getD]
  cases hc : row[k]? with
  | none => simp
  | some y => exact h row hrow y (List.mem_of_getElem? hc)
end Go.Ab

/- Contracts: drawn mixes. -/
set_option linter.unusedSimpArgs false
set_option linter.unusedVariables false
namespace Go.Ab
open Go.Proofs

theorem spec_l01Ratio_p (n d : Int) (n0 : -9223372036854775808 < n) (n1 : n < 9223372036854775808) (d0 : 0 < d) (d1 : d < 9223372036854775808) : Pure Try.prog 85 [.i n, .i d] (redT (redR n d)) := spec_l01Ratio_ok n d n0 n1 d0 d1
end Go.Ab

/- Contracts: mixes of a kernel. -/
set_option linter.unusedSimpArgs false
set_option linter.unusedVariables false
namespace Go.Ab
open Go.Proofs
section
attribute [-go_sem] load1C load1V fldC lenC idxC loadNV
def mixI (n : Nat) (at' parts : List Int) (d : Int) : Nat → List (Int × Int)
  | 0 => List.replicate n (0, 1)
  | i + 1 => (mixI n at' parts d i).set (at'.getD i 0).toNat (sgR (parts.getD i 0) d).1
def mixK (n : Nat) (at' parts : List Int) (d : Int) : List (Int × Int) := mixI n at' parts d at'.length
theorem mixI_length (n : Nat) (at' parts : List Int) (d : Int) : ∀ i, (mixI n at' parts d i).length = n
  | 0 => by simp [mixI]
  | i + 1 => by rw [mixI, List.length_set, mixI_length]
def bigL (l : List Int) : Prop := ∀ x ∈ l, -1000000000000 ≤ x ∧ x ≤ 1000000000000
def cl (l : List (List Int)) (i : Nat) : List Int := l.map fun r => r.getD i 0
set_option maxRecDepth 20000 in
theorem spec_l27Mix_ok (n : Nat) (hn : n ≤ 1000000) (at' parts : List Int) (d : Int) (hat : ∀ a ∈ at', 0 ≤ a ∧ a < n) (hal : at'.length ≤ 1000000) (hpl : at'.length ≤ parts.length) (hpb : bigL parts) (d0 : d ≠ 0) (d1 : -1000000000000 ≤ d) (d2 : d ≤ 1000000000000) : Fun Try.prog 107 [] [.t (.i n), .t (ints at'), .t (ints parts), .t (.i d)] fun o r => o = [] ∧ r = ratsO (mixK n at' parts d) := by
  refine fun_spec_l27Mix (by simp) ?_
  simp -implicitDefEqProofs only [go_sem, evR, ints, rows, rat, rats, c_spec_l27Mix]
  refine SemC.loopR (σ := Nat) (fun i => St.of [(0, .t (.i n)), (1, .t (ints at')), (2, .t (ints parts)), (3, .t (.i d)), (9, .own 77), (10, .t (.i i))] [(77, ratsO (List.replicate i (0, 1)))]) (fun i => i ≤ n) (fun i => n - i) 0 (Weak.of _ _ [some 12] (by simp) (by simp) ?_ ?_) (by omega) fun i hi R hn' hr he => ?_
  · simp -implicitDefEqProofs only [ints, rows, Nat.reduceBEq, wkR, Nat.reduceEqDiff, ↓reduceIte, wrR]
  · exact ⟨⟨_, rfl, .refl _⟩, rfl, trivial⟩
  rcases Nat.lt_or_ge i n with h9 | h9
  · simp -implicitDefEqProofs only [go_sem, evR, ints, rows, rat, rats, decide_eq_true (show (i : Int) < (n : Int) by omega)]
    refine CallW.pure (spec_l19Whole_ok 0) [] rfl Try.call86 ?_ (by first | trivial | simp [T.noSh, T.noShL, rat]) rfl ?_
    · simp -implicitDefEqProofs only [agR, Nat.reduceLeDiff, Nat.reduceSub, vaR, go_sem, ints, rows, rat, rats, ratsO, rtR, intsO, rowsO]
    simp -implicitDefEqProofs only [go_sem, evR, ints, rows, rat, rats, ratsO]
    have hw2 : IntKind.i64.wrap ((i : Int) + 1) = ((i + 1 : Nat) : Int) := by rw [wrap64 (by omega) (by omega)]; omega
    refine ⟨by rw [ratC_length, List.length_replicate]; omega, hn' _ (i + 1) (Weak.of _ _ [some 21] (by simp) (by simp) ?_ ?_) (by omega) (by omega)⟩
    · simp -implicitDefEqProofs only [ints, rows, Nat.reduceBEq, wkR, Nat.reduceEqDiff, ↓reduceIte, wrR, hw2]
    · refine ⟨⟨_, rfl, ?_⟩, rfl, trivial⟩
      rw [List.replicate_succ', ratsO, ratC_append]; exact .refl _
  · simp -implicitDefEqProofs only [go_sem, evR, ints, rows, rat, rats, decide_eq_false (show ¬ (i : Int) < (n : Int) by omega)]
    refine he _ _ ?_
    simp -implicitDefEqProofs only [go_sem, evR, ints, rows, rat, rats]
    have hin : i = n := by omega
    refine SemC.loopR (σ := Nat) (fun j => St.of [(0, .t (.i n)), (1, .t (ints at')), (2, .t (ints parts)), (3, .t (.i d)), (9, .own 77), (11, .t (.i j))] [(77, ratsO (mixI n at' parts d j))]) (fun j => j ≤ at'.length) (fun j => at'.length - j) 0 (Weak.of _ _ [some 77] (by simp) (by simp) ?_ ?_) (by omega) fun j hj R2 hn2 hr2 he2 => ?_
    · simp -implicitDefEqProofs only [ints, rows, Nat.reduceBEq, wkR, Nat.reduceEqDiff, ↓reduceIte, wrR]
    · exact ⟨⟨_, rfl, by rw [hin, mixI]; exact .refl _⟩, rfl, trivial⟩
    rcases Nat.lt_or_ge j at'.length with h8 | h8
    · obtain ⟨a, ha⟩ : ∃ a, at'[j]? = some a := ⟨_, List.getElem?_eq_getElem h8⟩
      obtain ⟨p, hp⟩ : ∃ p, parts[j]? = some p := ⟨_, List.getElem?_eq_getElem (by omega)⟩
      have hab := hat a (List.mem_of_getElem? ha)
      have hpb' := hpb p (List.mem_of_getElem? hp)
      have had : at'.getD j 0 = a := by rw [List.getD_eq_getElem?_getD, ha]; rfl
      have hpd : parts.getD j 0 = p := by rw [List.getD_eq_getElem?_getD, hp]; rfl
      have hlen := mixI_length n at' parts d j
      have hnx : mixI n at' parts d (j + 1) = (mixI n at' parts d j).set a.toNat (sgR p d).1 := by rw [mixI, had, hpd]
      have hw2 : IntKind.i64.wrap ((j : Int) + 1) = ((j + 1 : Nat) : Int) := by rw [wrap64 (by omega) (by omega)]; omega
      rcases Int.lt_or_le d 0 with h7 | h7
      · simp -implicitDefEqProofs only [go_sem, evR, ints, rows, rat, rats, ha, hp, decide_eq_true (show (j : Int) < (at'.length : Int) by omega), decide_eq_true h7, wrap64 (n := 0 - p) (by omega) (by omega), wrap64 (n := 0 - d) (by omega) (by omega)]
        refine ⟨by omega, by omega, by omega, by omega, by omega, by omega, ?_⟩
        refine CallV.pure (spec_l01Ratio_p (0 - p) (0 - d) (by omega) (by omega) (by omega) (by omega)) [] rfl Try.call85 (fun e R' hR => ?_) (by first | trivial | simp [T.noSh, T.noShL, rat]) (fun _ => rfl) ?_
        · simp -implicitDefEqProofs only [agR, Nat.reduceLeDiff, Nat.reduceSub, vaR, go_sem, ints, rows, rat, rats, ratsO, rtR, intsO, rowsO]
        simp -implicitDefEqProofs only [go_sem, evR, ints, rows, rat, rats, redT, ratsO]
        refine ⟨by omega, by rw [ratC_length]; omega, by rw [ratC_length]; omega, hn2 _ (j + 1) (Weak.of _ _ [some 77] (by simp) (by simp) ?_ ?_) (by omega) (by omega)⟩
        · simp -implicitDefEqProofs only [ints, rows, Nat.reduceBEq, wkR, Nat.reduceEqDiff, ↓reduceIte, wrR, hw2]
        · refine ⟨⟨_, rfl, ?_⟩, rfl, trivial⟩
          rw [hnx, ratsO, ← ratC_set _ (by omega), sgR, if_pos h7, ← Int.zero_sub p, ← Int.zero_sub d]; exact .refl _
      · simp -implicitDefEqProofs only [go_sem, evR, ints, rows, rat, rats, ha, hp, decide_eq_true (show (j : Int) < (at'.length : Int) by omega), decide_eq_false (show ¬ d < 0 by omega)]
        refine ⟨by omega, by omega, by omega, by omega, by omega, by omega, ?_⟩
        refine CallV.pure (spec_l01Ratio_p p d (by omega) (by omega) (by omega) (by omega)) [] rfl Try.call85 (fun e R' hR => ?_) (by first | trivial | simp [T.noSh, T.noShL, rat]) (fun _ => rfl) ?_
        · simp -implicitDefEqProofs only [agR, Nat.reduceLeDiff, Nat.reduceSub, vaR, go_sem, ints, rows, rat, rats, ratsO, rtR, intsO, rowsO]
        simp -implicitDefEqProofs only [go_sem, evR, ints, rows, rat, rats, redT, ratsO]
        refine ⟨by omega, by rw [ratC_length]; omega, by rw [ratC_length]; omega, hn2 _ (j + 1) (Weak.of _ _ [some 77] (by simp) (by simp) ?_ ?_) (by omega) (by omega)⟩
        · simp -implicitDefEqProofs only [ints, rows, Nat.reduceBEq, wkR, Nat.reduceEqDiff, ↓reduceIte, wrR, hw2]
        · refine ⟨⟨_, rfl, ?_⟩, rfl, trivial⟩
          rw [hnx, ratsO, ← ratC_set _ (by omega), sgR, if_neg (show ¬ d < 0 by omega)]; exact .refl _
    · simp -implicitDefEqProofs only [go_sem, evR, ints, rows, rat, rats, decide_eq_false (show ¬ (j : Int) < (at'.length : Int) by omega)]
      refine he2 _ _ ?_
      simp -implicitDefEqProofs only [go_sem, evR, ints, rows, rat, rats]
      rw [show j = at'.length by omega]; rfl
end
end Go.Ab

/- Contracts: what a kernel gives. -/
set_option linter.unusedSimpArgs false
set_option linter.unusedVariables false
namespace Go.Ab
open Go.Proofs
section
attribute [-go_sem] load1C load1V fldC lenC idxC loadNV
def rsum (a : List (List Int)) : List Int := a.map List.sum
def kB (m : List (List Int)) (r c : List Int) : List (List Int) := partM m r c
def kA (m : List (List Int)) (r c : List Int) : List (List Int) := adjM r.length (kB m r c)
def kD (m : List (List Int)) (r c : List Int) : Int := (rsum (kA m r c)).sum
def kernX (m : List (List Int)) (r c : List Int) : Sol :=
  ⟨mixK m.length r (rsum (tr (kA m r c) r.length)) (kD m r c), mixK (wid m) c (rsum (kA m r c)) (kD m r c), (sgR (detN r.length (kB m r c)) (kD m r c)).1⟩
def zeroT : T := .agg [.v (.slice none 0 0), .v (.slice none 0 0), .v (.int .i64 0), .v (.int .i64 0)]
def givesT (m : List (List Int)) (r c : List Int) : T := if kD m r c = 0 then .tup [zeroT, .b false] else .tup [solO (kernX m r c), .b true]
def kerIx (m : List (List Int)) (r c : List Int) : Prop := 1 ≤ r.length ∧ r.length ≤ 4 ∧ c.length = r.length ∧ (∀ i ∈ r, 0 ≤ i ∧ i < m.length) ∧ (∀ j ∈ c, 0 ≤ j ∧ j < wid m)
theorem kB_sq {m : List (List Int)} {r c : List Int} (hm : isMat m = true) (h : kerIx m r c) : sq r.length (kB m r c) := by
  obtain ⟨h1, h2, h3, h4, h5, h6⟩ := isMat_spec hm
  obtain ⟨k1, k2, k3, k4, k5⟩ := h
  refine ⟨partM_length _ _ _, fun y hy => ?_⟩
  obtain ⟨i, hi, rfl⟩ := List.mem_map.1 hy
  refine ⟨by rw [List.length_map, k3], fun x hx => ?_⟩
  obtain ⟨j, hj, rfl⟩ := List.mem_map.1 hx
  have hib := k4 i hi
  have hjb := k5 j hj
  obtain ⟨row, hrow⟩ : ∃ row, m[i.toNat]? = some row := ⟨_, List.getElem?_eq_getElem (by omega)⟩
  have hrl : row.length = wid m := h5 row (List.mem_of_getElem? hrow)
  obtain ⟨x, hx⟩ : ∃ x, row[j.toNat]? = some x := ⟨_, List.getElem?_eq_getElem (by omega)⟩
  rw [List.getD_eq_getElem?_getD, List.getD_eq_getElem?_getD, hrow, Option.getD_some, hx]
  exact h6 row (List.mem_of_getElem? hrow) x (List.mem_of_getElem? hx)
theorem kA_length (m : List (List Int)) (r c : List Int) : (kA m r c).length = r.length := by simp [kA, adjM]
theorem kA_rows {m : List (List Int)} {r c : List Int} (hm : isMat m = true) (h : kerIx m r c) : ∀ y ∈ kA m r c, y.length = r.length ∧ ∀ x ∈ y, -3840000 ≤ x ∧ x ≤ 3840000 := by
  intro y hy
  obtain ⟨i, hi, rfl⟩ := List.mem_map.1 hy
  rw [List.mem_range] at hi
  refine ⟨adjRow_length _ _ _ _, fun x hx => ?_⟩
  obtain ⟨j, hj, rfl⟩ := List.mem_map.1 hx
  rw [List.mem_range] at hj
  obtain ⟨-, h1, h2⟩ := minor_abs (kB_sq hm h) h.2.1 hi hj
  rcases sg_abs (i + j) with e | e <;> rw [e] <;> omega
theorem sum_abs {b : Int} (hb : 0 ≤ b) : ∀ {l : List Int}, (∀ x ∈ l, -b ≤ x ∧ x ≤ b) → -(b * l.length) ≤ l.sum ∧ l.sum ≤ b * l.length
  | [], _ => by simp
  | a :: l, h => by
    have h1 := sum_abs hb (l := l) fun x hx => h x (List.mem_cons_of_mem _ hx)
    have h2 := h a (by simp)
    simp only [List.sum_cons, List.length_cons]
    rw [show b * ((l.length + 1 : Nat) : Int) = b * l.length + b by rw [Int.natCast_add, Int.mul_add]; simp]
    omega
theorem rsum_abs {a : List (List Int)} (h : ∀ y ∈ a, y.length ≤ 4 ∧ ∀ x ∈ y, -3840000 ≤ x ∧ x ≤ 3840000) : ∀ x ∈ rsum a, -15360000 ≤ x ∧ x ≤ 15360000 := by
  intro x hx
  obtain ⟨y, hy, rfl⟩ := List.mem_map.1 hx
  have h1 := sum_abs (b := 3840000) (by omega) (fun x hx => (h y hy).2 x hx)
  have h2 := (h y hy).1
  omega
theorem sums_abs {l : List Int} (hl : l.length ≤ 4) (h : ∀ x ∈ l, -15360000 ≤ x ∧ x ≤ 15360000) (i : Nat) : -61440000 ≤ (l.take i).sum ∧ (l.take i).sum ≤ 61440000 := by
  have h1 := sum_abs (b := 15360000) (by omega) (l := l.take i) (fun x hx => h x (List.mem_of_mem_take hx))
  have h2 : (l.take i).length ≤ 4 := by rw [List.length_take]; omega
  omega
theorem small_of {l : List Int} (hl : l.length ≤ 4) (h : ∀ x ∈ l, -3840000 ≤ x ∧ x ≤ 3840000) : smallL l := ⟨by omega, fun x hx => by have := h x hx; omega⟩
theorem col_abs {a : List (List Int)} {n : Nat} (hl : a.length ≤ 4) (h : ∀ y ∈ a, y.length = n ∧ ∀ x ∈ y, -3840000 ≤ x ∧ x ≤ 3840000) (k : Nat) : (colOf a k).length ≤ 4 ∧ ∀ x ∈ colOf a k, -3840000 ≤ x ∧ x ≤ 3840000 := by
  refine ⟨by simpa [colOf] using hl, fun x hx => ?_⟩
  obtain ⟨y, hy, rfl⟩ := List.mem_map.1 hx
  rw [List.getD_eq_getElem?_getD]
  rcases Nat.lt_or_ge k y.length with hk | hk
  · rw [List.getElem?_eq_getElem hk]; exact (h y hy).2 _ (List.getElem_mem hk)
  · rw [List.getElem?_eq_none hk]; simp
set_option maxRecDepth 20000 in
theorem spec_l27Gives_ok (m : List (List Int)) (r c : List Int) (hm : isMat m = true) (h : kerIx m r c) : Fun Try.prog 82 [] [.t (rows m), .t (ints r), .t (ints c)] fun o res => o = [] ∧ res = givesT m r c := by
  obtain ⟨m1, m2, m3, m4, m5, m6⟩ := isMat_spec hm
  have hs := kB_sq hm h
  have hal := kA_length m r c
  have har := kA_rows hm h
  obtain ⟨k1, k2, k3, k4, k5⟩ := id h
  refine fun_spec_l27Gives (by simp) ?_
  simp -implicitDefEqProofs only [go_sem, evR, ints, rows, rat, rats, c_spec_l27Gives]
  have hpart := spec_l27Part_ok m r c (fun x hx => k4 x hx) (fun x hx => ⟨(k5 x hx).1, fun y hy => by have := m5 y hy; have := (k5 x hx).2; unfold wid at this; omega⟩) (by omega) (by omega)
  rw [show partM m r c = kB m r c from rfl] at hpart
  refine CallW.res hpart [] rfl Try.call104 ?_ (.inl rfl) ?_
  · simp -implicitDefEqProofs only [agR, Nat.reduceLeDiff, Nat.reduceSub, vaR, go_sem, ints, rows, rat, rats, ratsO, rtR, intsO, rowsO]
  simp -implicitDefEqProofs only [clR, Nat.reduceLeDiff, go_sem, evR, rat]
  have hadj := spec_l27Adj_ok r.length k2 (kB m r c) hs
  rw [show adjM r.length (kB m r c) = kA m r c from rfl] at hadj
  refine CallW.res hadj [18] rfl Try.call105 ?_ (.inr (rowsO_noSh _)) ?_
  · simp -implicitDefEqProofs only [agR, Nat.reduceLeDiff, Nat.reduceSub, vaR, go_sem, ints, rows, rat, rats, ratsO, rtR, intsO, rowsO]
  simp -implicitDefEqProofs only [clR, Nat.reduceLeDiff, go_sem, evR, rat]
  have hD : kD m r c = (rsum (kA m r c)).sum := rfl
  have hT : givesT m r c = if kD m r c = 0 then .tup [zeroT, .b false] else .tup [solO ⟨mixK m.length r (rsum (tr (kA m r c) r.length)) (kD m r c), mixK (wid m) c (rsum (kA m r c)) (kD m r c), (sgR (detN r.length (kB m r c)) (kD m r c)).1⟩, .b true] := rfl
  generalize givesT m r c = gT at hT ⊢
  generalize kD m r c = dd at hD hT
  generalize kA m r c = a at *
  generalize kB m r c = b at *
  have hra := rsum_abs (a := a) fun y hy => ⟨by have := (har y hy).1; omega, (har y hy).2⟩
  have hrl : (rsum a).length = r.length := by rw [rsum, List.length_map, hal]
  have hrsn : ∀ {i : Nat} {y : List Int}, a[i]? = some y → (rsum a).take (i + 1) = (rsum a).take i ++ [y.sum] := fun {i y} hy => take_snoc (by rw [rsum, List.getElem?_map, hy]; rfl)
  refine SemC.loopR (σ := Nat) (fun i => St.of [(0, .t (rows m)), (1, .t (ints r)), (2, .t (ints c)), (6, .own 6), (7, .t (.b false)), (8, .t (rows b)), (9, .t (rows a)), (10, .t (.i ((rsum a).take i).sum)), (11, .own 81), (12, .own 82), (13, .t (.i i))] [(6, .box [.v (.slice none 0 0), .v (.slice none 0 0), .v (.int .i64 0), .v (.int .i64 0)]), (81, intsO ((rsum a).take i)), (82, intsO ((rsum (tr a r.length)).take i))]) (fun i => i ≤ r.length) (fun i => r.length - i) 0 (Weak.trans (Weak.share 18 rfl) (Weak.trans (Weak.share 20 rfl) (Weak.of _ _ [some 6, some 21, some 22] (by simp) (by simp) ?_ ?_))) (by omega) fun i hi R hn hr he => ?_
  · simp -implicitDefEqProofs only [ints, rows, Nat.reduceBEq, wkR, Nat.reduceEqDiff, ↓reduceIte, wrR, shareA, rowsO_toSh, List.take_zero, List.sum_nil]
  · exact ⟨⟨_, rfl, .refl _⟩, rfl, ⟨_, rfl, .refl _⟩, rfl, ⟨_, rfl, .refl _⟩, rfl, trivial⟩
  rcases Nat.lt_or_ge i r.length with h9 | h9
  · obtain ⟨y, hy⟩ : ∃ y, a[i]? = some y := ⟨_, List.getElem?_eq_getElem (by omega)⟩
    have hym := har y (List.mem_of_getElem? hy)
    have hsum := sums_abs (by omega) hra i
    have hys : -15360000 ≤ y.sum ∧ y.sum ≤ 15360000 := hra _ (List.mem_map.2 ⟨y, List.mem_of_getElem? hy, rfl⟩)
    obtain ⟨hcl, hcm⟩ := col_abs (by omega) har i
    simp -implicitDefEqProofs only [go_sem, evR, ints, rows, rat, rats, hy, hal, decide_eq_true (show (i : Int) < (r.length : Int) by omega)]
    refine ⟨by omega, by omega, by omega, ?_⟩
    refine CallW.pure (spec_l01Sum_ok y (small_of (by omega) hym.2)) [] rfl Try.call84 ?_ (by first | trivial | simp [T.noSh, T.noShL, rat]) rfl ?_
    · simp -implicitDefEqProofs only [agR, Nat.reduceLeDiff, Nat.reduceSub, vaR, go_sem, ints, rows, rat, rats, ratsO, rtR, intsO, rowsO]
    simp -implicitDefEqProofs only [go_sem, evR, ints, rows, rat, rats, intsO]
    refine ⟨by rw [List.length_take]; omega, ?_⟩
    refine CallW.res (spec_l26Column_ok a i (by omega) (fun y hy => by have := (har y hy).1; omega)) [] rfl Try.call106 ?_ (.inl rfl) ?_
    · simp -implicitDefEqProofs only [agR, Nat.reduceLeDiff, Nat.reduceSub, vaR, go_sem, ints, rows, rat, rats, ratsO, rtR, intsO, rowsO]
    simp -implicitDefEqProofs only [clR, Nat.reduceLeDiff, go_sem, evR, rat]
    refine CallW.pure (spec_l01Sum_ok (colOf a i) (small_of hcl hcm)) [40] rfl Try.call84 ?_ (by first | trivial | simp [T.noSh, T.noShL, rat]) rfl ?_
    · simp -implicitDefEqProofs only [agR, Nat.reduceLeDiff, Nat.reduceSub, vaR, go_sem, ints, rows, rat, rats, ratsO, rtR, intsO, rowsO]
    simp -implicitDefEqProofs only [go_sem, evR, ints, rows, rat, rats, intsO, hy]
    refine ⟨by rw [List.length_take]; omega, by omega, by omega, by omega, ?_⟩
    refine CallW.pure (spec_l01Sum_ok y (small_of (by omega) hym.2)) [] rfl Try.call84 ?_ (by first | trivial | simp [T.noSh, T.noShL, rat]) rfl ?_
    · simp -implicitDefEqProofs only [agR, Nat.reduceLeDiff, Nat.reduceSub, vaR, go_sem, ints, rows, rat, rats, ratsO, rtR, intsO, rowsO]
    simp -implicitDefEqProofs only [go_sem, evR, ints, rows, rat, rats, intsO]
    refine hn _ (i + 1) (Weak.of _ _ [some 6, some 36, some 43] (by simp) (by simp) ?_ ?_) (by omega) (by omega)
    · rw [wrap64 (n := ((rsum a).take i).sum + y.sum) (by omega) (by omega), wrap64 (n := (i : Int) + 1) (by omega) (by omega)]
      have hsn : ((rsum a).take (i + 1)).sum = ((rsum a).take i).sum + y.sum := by rw [hrsn hy]; simp
      simp -implicitDefEqProofs only [ints, rows, Nat.reduceBEq, wkR, Nat.reduceEqDiff, ↓reduceIte, wrR, hsn, Int.natCast_add, Int.natCast_one]
    · have hct : (rsum (tr a r.length)).take (i + 1) = (rsum (tr a r.length)).take i ++ [(colOf a i).sum] := take_snoc (by simp [rsum, tr, h9])
      refine ⟨⟨_, rfl, .refl _⟩, rfl, ⟨_, rfl, ?_⟩, rfl, ⟨_, rfl, ?_⟩, rfl, trivial⟩
      · rw [hrsn hy, intsO, List.map_append]; exact .refl _
      · rw [hct, intsO, List.map_append]; exact .refl _
  · simp -implicitDefEqProofs only [go_sem, evR, ints, rows, rat, rats, hal, decide_eq_false (show ¬ (i : Int) < (r.length : Int) by omega)]
    refine he _ _ ?_
    have hfin : (rsum a).take i = rsum a := by rw [show i = r.length by omega, ← hrl, List.take_length]
    have hfin2 : (rsum (tr a r.length)).take i = rsum (tr a r.length) := List.take_of_length_le (by simp [rsum, tr]; omega)
    have hdb := sums_abs (by omega) hra i
    rw [hfin, ← hD] at hdb
    simp -implicitDefEqProofs only [go_sem, evR, ints, rows, rat, rats, hfin, hfin2, ← hD]
    refine ⟨fun h0 => by rw [hT, if_pos (by simpa using h0)]; rfl, fun h0 => ?_⟩
    have hd0 : dd ≠ 0 := by simpa using h0
    have hdet := detN_abs hs
    have hdet2 := detB_le k2
    refine CallW.pure (spec_l27Det_ok r.length k2 b hs) [] rfl Try.call108 ?_ (by first | trivial | simp [T.noSh, T.noShL, rat]) rfl ?_
    · simp -implicitDefEqProofs only [agR, Nat.reduceLeDiff, Nat.reduceSub, vaR, go_sem, ints, rows, rat, rats, ratsO, rtR, intsO, rowsO]
    simp -implicitDefEqProofs only [go_sem, evR, ints, rows, rat, rats]
    have hmx := spec_l27Mix_ok 1 (by omega) [0] [detN r.length b] dd (by simp) (by simp) (by simp) (fun x hx => by simp at hx; omega) hd0 (by omega) (by omega)
    rw [show ((1 : Nat) : Int) = 1 from rfl, show mixK 1 [0] [detN r.length b] dd = [(sgR (detN r.length b) dd).1] from rfl] at hmx
    refine CallW.res hmx [54, 57] rfl Try.call107 ?_ (.inr (ratsO_noSh _)) ?_
    · simp -implicitDefEqProofs only [agR, Nat.reduceLeDiff, Nat.reduceSub, vaR, go_sem, ints, rows, rat, rats, ratsO, rtR, intsO, rowsO]; exact ⟨rfl, rfl⟩
    simp -implicitDefEqProofs only [clR, Nat.reduceLeDiff, go_sem, evR, rat, ratsO, ratC_cons, ratC_nil]
    obtain ⟨m0, hm0⟩ : ∃ m0, m[0]? = some m0 := ⟨_, List.getElem?_eq_getElem (by omega)⟩
    have hmw : wid m = m0.length := by rw [wid, List.headD_eq_head?_getD, List.head?_eq_getElem?, hm0]; rfl
    have hw4 : m0.length ≤ 4 := by rw [← hmw]; exact m4
    have hbr : bigL (rsum a) := fun x hx => by have := hra x hx; omega
    have hbc : bigL (rsum (tr a r.length)) := fun x hx => by
      obtain ⟨y, hy, rfl⟩ := List.mem_map.1 hx
      obtain ⟨k, hk, rfl⟩ := List.mem_map.1 hy
      obtain ⟨c1, c2⟩ := col_abs (by omega) har k
      have := sum_abs (b := 3840000) (by omega) c2
      omega
    refine CallC.res (spec_l27Mix_ok m.length (by omega) r (rsum (tr a r.length)) dd k4 (by omega) (by simp [rsum, tr]) hbc hd0 (by omega) (by omega)) [82] rfl Try.call107 (fun e R' hR => ?_) (.inr (ratsO_noSh _)) ?_
    · have hq82 := (hR 82).resolve_left (by simp -implicitDefEqProofs only [go_sem, evR, ints, rows, rat, rats, not_false_eq_true])
      simp -implicitDefEqProofs only [go_sem, evR, ints, rows, rat, rats] at hq82
      simp -implicitDefEqProofs only [agR, Nat.reduceLeDiff, Nat.reduceSub, vaR, go_sem, ints, rows, rat, rats, ratsO, rtR, intsO, rowsO, hq82]
    simp -implicitDefEqProofs only [clR, Nat.reduceLeDiff, go_sem, evR, rat, hm0, ints]
    refine ⟨by omega, by omega, ?_⟩
    refine CallC.res (spec_l27Mix_ok m0.length (by omega) c (rsum a) dd (hmw ▸ k5) (by omega) (by omega) hbr hd0 (by omega) (by omega)) [81] rfl Try.call107 (fun e R' hR => ?_) (.inr (ratsO_noSh _)) ?_
    · have hq81 := (hR 81).resolve_left (by simp -implicitDefEqProofs only [go_sem, evR, ints, rows, rat, rats, not_false_eq_true])
      simp -implicitDefEqProofs only [go_sem, evR, ints, rows, rat, rats] at hq81
      simp -implicitDefEqProofs only [agR, Nat.reduceLeDiff, Nat.reduceSub, vaR, go_sem, ints, rows, rat, rats, ratsO, rtR, intsO, rowsO, hq81]
    simp -implicitDefEqProofs only [clR, Nat.reduceLeDiff, go_sem, evR, rat]
    rw [hT, if_neg hd0, hmw]; rfl
end
end Go.Ab

/- The first kernel, as data. -/
set_option linter.unusedSimpArgs false
set_option linter.unusedVariables false
namespace Go.Ab
open Go.Proofs
theorem fs_at {α β : Type} {f : α → Option β} {x : α} {y : β} : ∀ {l : List α} {i : Nat}, l[i]? = some x → f x = some y → (∀ z ∈ l.take i, f z = none) → l.findSome? f = some y
  | [], i, h, _, _ => by simp at h
  | a :: l, 0, h, hf, _ => by simp at h; rw [List.findSome?_cons, h, hf]
  | a :: l, i + 1, h, hf, hz => by
    rw [List.findSome?_cons, hz a (by simp)]
    exact fs_at (i := i) (by simpa using h) hf fun z hz' => hz z (by simp [hz'])
theorem fs_none {α β : Type} {f : α → Option β} {l : List α} (h : ∀ z ∈ l, f z = none) : l.findSome? f = none := by simpa using h
theorem fs_some {α β : Type} {f : α → Option β} {l : List α} {y : β} (h : l.findSome? f = some y) : ∃ x ∈ l, f x = some y := List.exists_of_findSome?_eq_some h
def hitB (m : List (List Int)) (r c : List Int) : Bool := decide (kD m r c ≠ 0) && isSolB m (kernX m r c)
def colF (m : List (List Int)) (r c : List Int) : Option (List Int × List Int) := if hitB m r c then some (r, c) else none
def rowF (m : List (List Int)) (k : Nat) (r : List Int) : Option (List Int × List Int) := (comb (wid m) k 0).findSome? (colF m r)
def sizeF (m : List (List Int)) (k : Nat) : Option (List Int × List Int) := (comb m.length k 0).findSome? (rowF m k)
def firstF (m : List (List Int)) : Option (List Int × List Int) := (List.range (min m.length (wid m))).findSome? fun k => sizeF m (k + 1)
theorem colF_none {m : List (List Int)} {r c : List Int} (h : hitB m r c = false) : colF m r c = none := by rw [colF, h]; rfl
theorem firstF_ix {m : List (List Int)} {r c : List Int} (hm : isMat m = true) (h : firstF m = some (r, c)) : hitB m r c = true ∧ kerIx m r c := by
  obtain ⟨m1, m2, m3, m4, m5, m6⟩ := isMat_spec hm
  obtain ⟨k, hk, h1⟩ := fs_some h
  obtain ⟨r', hr, h2⟩ := fs_some h1
  obtain ⟨c', hc, h3⟩ := fs_some h2
  rw [List.mem_range] at hk
  unfold colF at h3
  split at h3 <;> rename_i hh
  · cases h3
    refine ⟨hh, ?_⟩
    have l1 := comb_len _ _ _ r hr
    have l2 := comb_len _ _ _ c hc
    refine ⟨by omega, by omega, by omega, fun i hi => ?_, fun j hj => ?_⟩
    · have := comb_bound _ _ _ r hr i hi; omega
    · have := comb_bound _ _ _ c hc j hj; omega
  · cases h3
theorem kerIx_of {m : List (List Int)} (hm : isMat m = true) {k : Nat} (h1 : 1 ≤ k) (h2 : k ≤ m.length) {r c : List Int} (hr : r ∈ comb m.length k 0) (hc : c ∈ comb (wid m) k 0) : kerIx m r c := by
  obtain ⟨m1, m2, m3, m4, m5, m6⟩ := isMat_spec hm
  have l1 := comb_len _ _ _ r hr
  have l2 := comb_len _ _ _ c hc
  refine ⟨by omega, by omega, by omega, fun i hi => ?_, fun j hj => ?_⟩
  · have := comb_bound _ _ _ r hr i hi; omega
  · have := comb_bound _ _ _ c hc j hj; omega
def noneI (m : List (List Int)) (k : Nat) : Prop := ∀ k' < k, sizeF m (k' + 1) = none
def noneR (m : List (List Int)) (k i : Nat) : Prop := ∀ r ∈ (comb m.length k 0).take i, rowF m k r = none
def noneC (m : List (List Int)) (k : Nat) (r : List Int) (j : Nat) : Prop := ∀ c ∈ (comb (wid m) k 0).take j, colF m r c = none
theorem noneC_succ {m : List (List Int)} {k : Nat} {r c : List Int} {j : Nat} (h : noneC m k r j) (hc : (comb (wid m) k 0)[j]? = some c) (hh : hitB m r c = false) : noneC m k r (j + 1) := by
  intro x hx
  rw [take_snoc hc] at hx
  rcases List.mem_append.1 hx with hx | hx
  · exact h x hx
  · simp at hx; rw [hx]; exact colF_none hh
theorem noneR_succ {m : List (List Int)} {k : Nat} {r : List Int} {i j : Nat} (h : noneR m k i) (hr : (comb m.length k 0)[i]? = some r) (hj : (comb (wid m) k 0).length ≤ j) (hh : noneC m k r j) : noneR m k (i + 1) := by
  intro x hx
  rw [take_snoc hr] at hx
  rcases List.mem_append.1 hx with hx | hx
  · exact h x hx
  · simp at hx; rw [hx]; exact fs_none fun c hc => hh c (by rw [List.take_of_length_le hj]; exact hc)
theorem noneI_succ {m : List (List Int)} {k i : Nat} (h : noneI m k) (hi : (comb m.length (k + 1) 0).length ≤ i) (hr : noneR m (k + 1) i) : noneI m (k + 1) := by
  intro k' hk
  rcases Nat.lt_or_ge k' k with h1 | h1
  · exact h k' h1
  · rw [show k' = k by omega]; exact fs_none fun r hr' => hr r (by rw [List.take_of_length_le hi]; exact hr')
theorem firstF_none {m : List (List Int)} {k : Nat} (h : noneI m k) (hk : min m.length (wid m) ≤ k) : firstF m = none := fs_none fun k' hk' => by
  rw [List.mem_range] at hk'; exact h k' (by omega)
theorem firstF_some {m : List (List Int)} {k i j : Nat} {r c : List Int} (hk : k < min m.length (wid m)) (h : noneI m k) (hr : (comb m.length (k + 1) 0)[i]? = some r) (hR : noneR m (k + 1) i) (hc : (comb (wid m) (k + 1) 0)[j]? = some c) (hC : noneC m (k + 1) r j) (hh : hitB m r c = true) : firstF m = some (r, c) := by
  refine fs_at (i := k) (x := k) (by simp [hk]) ?_ fun z hz => h z (by simpa using (List.mem_take_iff_getElem.1 hz).elim fun i hi => by obtain ⟨h1, h2⟩ := hi; simp at h2; omega)
  refine fs_at hr ?_ hR
  exact fs_at hc (by rw [colF, hh]; rfl) hC
end Go.Ab

/- Functions in compact form, with hints. -/
set_option linter.unusedVariables false
namespace Go.Ab
open Go.Proofs

def c_impl_firstKernel_h : CC :=
 (.seq (.reg [.o (.box 1 (sl 0)),
 .o (.alloc 2 [.v (.slice none 0 0), .v (.slice none 0 0), .v (.int .i64 0), .v (.int .i64 0)]),
 .o (.alloc 3 [.v (.slice none 0 0)]),
 .o (.alloc 4 [.v (.slice none 0 0)])])
 ((.seq (.seq (.reg [.o (.alloc 5 [.v (.int .i64 0)]),
 .o (.store 1 (sl 5) (ci 1))])
 ((.block 0 (.loop (.seq (.seq (.draw [] [(kR, .o (.load1 10 (sl 5))),
 (kR, .o (.load1 11 (sl 1))),
 (kR, .o (.lenS 12 (sl 11))),
 (kR, .o (.load1 13 (sl 1))),
 (kR, .o (.idx 14 1 (sl 13) (ci 0))),
 (kR, .o (.load1 15 (sl 14))),
 (kR, .o (.lenS 16 (sl 15))),
 (kR, .o (.mm 17 false (sl 12) (sl 16))),
 (kR, .o (.bin 18 .leq (sl 10) (sl 17)))])
 ((.cond (sl 18) .skip
 (.exit 0))))
 ((.seq (.block 1 (.seq (.reg [.o (.load1 21 (sl 1)),
 .o (.lenS 22 (sl 21)),
 .o (.load1 23 (sl 5)),
 .o (.call (some 24) (cf 77) [(sl 22), (sl 23)])])
 ((.block 2 (.rng (sl 24) [25] (.reg [.o (.alloc 6 [.v (.slice none 0 0)]),
 .o (.store 1 (sl 6) (sl 25))])
 (.block 3 (.seq (.draw [31] [(kR, .o (.load1 26 (sl 1))),
 (kR, .o (.idx 27 1 (sl 26) (ci 0))),
 (kR, .o (.load1 28 (sl 27))),
 (kR, .o (.lenS 29 (sl 28))),
 (kR, .o (.load1 30 (sl 5))),
 (.c false [], .o (.call (some 31) (cf 77) [(sl 29), (sl 30)]))])
 ((.block 4 (.rng (sl 31) [32] (.reg [.o (.move 7 (sl 32))])
 (.block 5 (.seq (.reg [.o (.load1 34 (sl 1)),
 .o (.load1 35 (sl 6)),
 .o (.move 36 (sl 7)),
 .o (.call (some 37) (cf 78) [(sl 34), (sl 35), (sl 36)]),
 .o (.move 33 (sl 37)),
 .o (.extract 38 (sl 33) 0),
 .o (.extract 39 (sl 33) 1),
 .o (.alloc 8 [.v (.slice none 0 0), .v (.slice none 0 0), .v (.int .i64 0), .v (.int .i64 0)]),
 .o (.store 4 (sl 8) (sl 38)),
 .o (.move 9 (sl 39))])
 ((.seq (.reg [.o (.move 40 (sl 9))])
 ((.cond (sl 40) (.seq (.weak (.draw [43, 45] [(kR, .o (.loadN 41 4 (sl 8))),
 (kR, .o (.load1 42 (sl 6))),
 (.c false [], .o (.call (some 43) (cf 79) [(sl 42)])),
 (.r false [43], .o (.move 44 (sl 7))),
 (.c false [], .o (.call (some 45) (cf 79) [(sl 44)])),
 (kH, .o (.store 4 (sl 2) (sl 41))),
 (kH, .o (.store 1 (sl 3) (sl 43))),
 (kH, .o (.store 1 (sl 4) (sl 45)))]))
 (.ret))
 .skip))))))))))))))))
 ((.seq (.seq (.reg [.o (.load1 46 (sl 5))])
 ((.reg [.o (.alloc 5 [.v (.int .i64 0)]),
 .o (.store 1 (sl 5) (sl 46))])))
 ((.reg [.o (.load1 19 (sl 5)),
 .o (.bin 20 .add (sl 19) (ci 1)),
 .o (.store 1 (sl 5) (sl 20))])))))))))))
 ((.seq (.reg [.o (.build 47 [.v (.slice none 0 0), .v (.slice none 0 0), .v (.int .i64 0), .v (.int .i64 0)] [(0, 1), (1, 1), (2, 2)] []),
 .o (.store 4 (sl 2) (sl 47)),
 .o (.store 1 (sl 3) (cv (.slice none 0 0))),
 .o (.store 1 (sl 4) (cv (.slice none 0 0)))])
 (.ret))))))
theorem fun_impl_firstKernel_h {rin : List T} {args : List A} {Q : List T → T → Prop} (ha : args.length ≤ 48) (h : cW Try.prog 48 c_impl_firstKernel_h (retP Try.prog [.cell 2 41, .cell 3 34, .cell 4 34] rin.length Q) (St.of (enum 0 args) (enum 1000000000 rin))) :
    Fun Try.prog 55 rin args Q :=
  Fun.of (H := ⟨[], [10]⟩) Try.func55 rfl rfl rfl (by kernel_rfl) ha (by decide) h

def c_spec_l27First_h : CC :=
 (.seq (.reg [.o (.move 2 (cv (.slice none 0 0))),
 .o (.move 3 (cv (.slice none 0 0))),
 .o (.alloc 4 [.v (.slice none 0 0), .v (.slice none 0 0), .v (.int .i64 0), .v (.int .i64 0)])])
 ((.seq (.seq (.reg [.o (.move 5 (ci 1))])
 ((.block 0 (.loop (.seq (.seq (.reg [.o (.move 12 (sl 5)),
 .o (.move 13 (sl 0)),
 .o (.lenS 14 (sl 13)),
 .o (.move 15 (sl 0)),
 .o (.idx 16 1 (sl 15) (ci 0)),
 .o (.load1 17 (sl 16)),
 .o (.lenS 18 (sl 17)),
 .o (.mm 19 false (sl 14) (sl 18)),
 .o (.bin 20 .leq (sl 12) (sl 19))])
 ((.cond (sl 20) .skip
 (.exit 0))))
 ((.seq (.block 1 (.seq (.reg [.o (.move 23 (sl 0)),
 .o (.lenS 24 (sl 23)),
 .o (.call (some 25) (cf 81) [(sl 24)]),
 .o (.move 26 (sl 5)),
 .o (.call (some 27) (cf 80) [(sl 25), (sl 26)]),
 .o (.move 6 (sl 27))])
 ((.seq (.reg [.o (.move 28 (sl 0)),
 .o (.idx 29 1 (sl 28) (ci 0)),
 .o (.load1 30 (sl 29)),
 .o (.lenS 31 (sl 30)),
 .o (.call (some 32) (cf 81) [(sl 31)]),
 .o (.move 33 (sl 5)),
 .o (.call (some 34) (cf 80) [(sl 32), (sl 33)]),
 .o (.move 7 (sl 34))])
 ((.seq (.reg [.o (.move 8 (ci 0))])
 ((.block 2 (.loop (.seq (.seq (.reg [.o (.move 35 (sl 8)),
 .o (.move 36 (sl 6)),
 .o (.lenS 37 (sl 36)),
 .o (.bin 38 .lss (sl 35) (sl 37))])
 ((.cond (sl 38) .skip
 (.exit 2))))
 ((.seq (.block 3 (.seq (.reg [.o (.move 9 (ci 0))])
 ((.block 4 (.loop (.seq (.seq (.reg [.o (.move 41 (sl 9)),
 .o (.move 42 (sl 7)),
 .o (.lenS 43 (sl 42)),
 .o (.bin 44 .lss (sl 41) (sl 43))])
 ((.cond (sl 44) .skip
 (.exit 4))))
 ((.seq (.block 5 (.seq (.draw [57, 10] [(kR, .o (.move 48 (sl 0))),
 (kR, .o (.move 49 (sl 6))),
 (kR, .o (.move 50 (sl 8))),
 (kR, .o (.idx 51 1 (sl 49) (sl 50))),
 (kR, .o (.load1 52 (sl 51))),
 (kR, .o (.move 53 (sl 7))),
 (kR, .o (.move 54 (sl 9))),
 (kR, .o (.idx 55 1 (sl 53) (sl 54))),
 (kR, .o (.load1 56 (sl 55))),
 (.c false [], .o (.call (some 57) (cf 82) [(sl 48), (sl 52), (sl 56)])),
 (kR, .o (.move 47 (sl 57))),
 (kR, .o (.extract 58 (sl 47) 0)),
 (kE, .o (.extract 59 (sl 47) 1)),
 (kN, .o (.alloc 10 [.v (.slice none 0 0), .v (.slice none 0 0), .v (.int .i64 0), .v (.int .i64 0)])),
 (kH, .o (.store 4 (sl 10) (sl 58))),
 (kR, .o (.move 11 (sl 59)))])
 ((.seq (.weak (.reg [.o (.move 60 (sl 11)),
 .o (.move 61 (sl 60)),
 .g 61 true (some 62) (.move 62 (sl 0)),
 .g 61 true (some 63) (.loadN 63 4 (sl 10)),
 .g 61 true (some 64) (.call (some 64) (cf 76) [(sl 62), (sl 63)]),
 .o (.pick 65 (sl 61) (sl 64) (cb false))]))
 ((.cond (sl 65) (.seq (.draw [] [(kR, .o (.move 66 (sl 6))),
 (kR, .o (.move 67 (sl 8))),
 (kR, .o (.idx 68 1 (sl 66) (sl 67))),
 (kR, .o (.load1 69 (sl 68))),
 (kR, .o (.move 70 (sl 7))),
 (kR, .o (.move 71 (sl 9))),
 (kR, .o (.idx 72 1 (sl 70) (sl 71))),
 (kR, .o (.load1 73 (sl 72))),
 (kR, .o (.loadN 74 4 (sl 10))),
 (kR, .o (.move 2 (sl 69))),
 (kR, .o (.move 3 (sl 73))),
 (kH, .o (.store 4 (sl 4) (sl 74)))])
 (.ret))
 .skip))))))
 ((.reg [.o (.move 45 (sl 9)),
 .o (.bin 46 .add (sl 45) (ci 1)),
 .o (.move 9 (sl 46))]))))))))))
 ((.reg [.o (.move 39 (sl 8)),
 .o (.bin 40 .add (sl 39) (ci 1)),
 .o (.move 8 (sl 40))]))))))))))))))
 ((.reg [.o (.move 21 (sl 5)),
 .o (.bin 22 .add (sl 21) (ci 1)),
 .o (.move 5 (sl 22))])))))))))
 ((.seq (.reg [.o (.build 75 [.v (.slice none 0 0), .v (.slice none 0 0), .v (.int .i64 0), .v (.int .i64 0)] [(0, 1), (1, 1), (2, 2)] []),
 .o (.move 2 (cv (.slice none 0 0))),
 .o (.move 3 (cv (.slice none 0 0))),
 .o (.store 4 (sl 4) (sl 75))])
 (.ret))))))
theorem fun_spec_l27First_h {rin : List T} {args : List A} {Q : List T → T → Prop} (ha : args.length ≤ 76) (h : cW Try.prog 76 c_spec_l27First_h (retP Try.prog [.tmp 2, .tmp 3, .cell 4 41] rin.length Q) (St.of (enum 0 args) (enum 1000000000 rin))) :
    Fun Try.prog 56 rin args Q :=
  Fun.of (H := ⟨[], [13]⟩) Try.func56 rfl rfl rfl (by kernel_rfl) ha (by decide) h

def c_impl_kernelSolution_h : CC :=
 (.seq (.reg [.o (.alloc 6 [.v (.slice none 0 0), .v (.slice none 0 0), .v (.int .i64 0), .v (.int .i64 0)]),
 .o (.move 7 (cb false))])
 ((.seq (.reg [.o (.move 8 (cv (.slice none 0 0)))])
 ((.seq (.seq (.reg [.o (.move 22 (sl 1)),
 .o (.lenS 23 (sl 22)),
 .o (.move 24 (ci 0))])
 ((.block 0 (.loop (.seq (.reg [.o (.bin 25 .lss (sl 24) (sl 23))])
 ((.seq (.cond (sl 25) .skip
 (.exit 0))
 ((.seq (.block 1 (.seq (.reg [.o (.idx 26 1 (sl 22) (sl 24)),
 .o (.load1 27 (sl 26)),
 .o (.move 10 (sl 27))])
 ((.reg [.o (.move 28 (sl 8)),
 .o (.move 29 (sl 0)),
 .o (.move 30 (sl 10)),
 .o (.idx 31 1 (sl 29) (sl 30)),
 .o (.load1 32 (sl 31)),
 .o (.move 33 (sl 2)),
 .o (.call (some 34) (cf 99) [(sl 32), (sl 33)]),
 .o (.bslice 35 1 1 [(0, (sl 34))]),
 .o (.app 36 1 24 (sl 28) (sl 35)),
 .o (.move 8 (sl 36))]))))
 ((.reg [.o (.bin 37 .add (sl 24) (ci 1)),
 .o (.move 24 (sl 37))])))))))))))
 ((.seq (.reg [.o (.move 38 (sl 8)),
 .o (.call (some 39) (cf 100) [(sl 38)]),
 .o (.move 11 (sl 39))])
 ((.seq (.reg [.o (.move 12 (ci 0))])
 ((.seq (.seq (.reg [.o (.move 40 (sl 11)),
 .o (.lenS 41 (sl 40)),
 .o (.move 42 (ci 0))])
 ((.block 2 (.loop (.seq (.reg [.o (.bin 43 .lss (sl 42) (sl 41))])
 ((.seq (.cond (sl 43) .skip
 (.exit 2))
 ((.seq (.block 3 (.seq (.reg [.o (.idx 44 1 (sl 40) (sl 42)),
 .o (.load1 45 (sl 44)),
 .o (.move 14 (sl 45))])
 ((.reg [.o (.move 46 (sl 12)),
 .o (.move 47 (sl 14)),
 .o (.call (some 48) (cf 101) [(sl 47)]),
 .o (.bin 49 .add (sl 46) (sl 48)),
 .o (.move 12 (sl 49))]))))
 ((.reg [.o (.bin 50 .add (sl 42) (ci 1)),
 .o (.move 42 (sl 50))])))))))))))
 ((.seq (.seq (.reg [.o (.move 51 (sl 12)),
 .o (.bin 52 .eql (sl 51) (ci 0))])
 ((.cond (sl 52) (.seq (.reg [.o (.build 53 [.v (.slice none 0 0), .v (.slice none 0 0), .v (.int .i64 0), .v (.int .i64 0)] [(0, 1), (1, 1), (2, 2)] []),
 .o (.store 4 (sl 6) (sl 53)),
 .o (.move 7 (cb false))])
 (.ret))
 .skip)))
 ((.seq (.draw [56, 61, 15] [(kR, .o (.move 54 (sl 0))),
 (kR, .o (.lenS 55 (sl 54))),
 (kN, .o (.make 56 [.v (.int .i64 0), .v (.int .i64 0)] 16 (sl 55) (sl 55))),
 (.r false [56], .o (.move 57 (sl 0))),
 (.r false [56], .o (.idx 58 1 (sl 57) (ci 0))),
 (.r false [56], .o (.load1 59 (sl 58))),
 (.r false [56], .o (.lenS 60 (sl 59))),
 (kN, .o (.make 61 [.v (.int .i64 0), .v (.int .i64 0)] 16 (sl 60) (sl 60))),
 (kR, .o (.build 62 [.v (.slice none 0 0), .v (.slice none 0 0), .v (.int .i64 0), .v (.int .i64 0)] [(0, 1), (1, 1), (2, 2)] [(0, (sl 56)), (1, (sl 61))])),
 (kN, .o (.alloc 15 [.v (.slice none 0 0), .v (.slice none 0 0), .v (.int .i64 0), .v (.int .i64 0)])),
 (kH, .o (.store 4 (sl 15) (sl 62)))])
 ((.seq (.seq (.reg [.o (.fld 63 0 (sl 15)),
 .o (.load1 64 (sl 63)),
 .o (.lenS 65 (sl 64)),
 .o (.move 66 (ci 0))])
 ((.block 4 (.loop (.seq (.reg [.o (.bin 67 .lss (sl 66) (sl 65))])
 ((.seq (.cond (sl 67) .skip
 (.exit 4))
 ((.seq (.block 5 (.seq (.reg [.o (.move 68 (sl 66)),
 .o (.move 16 (sl 68))])
 ((.reg [.o (.fld 69 0 (sl 15)),
 .o (.load1 70 (sl 69)),
 .o (.move 71 (sl 16)),
 .o (.build 72 [.v (.int .i64 0), .v (.int .i64 0)] [(0, 1), (1, 1)] [(0, (ci 0)), (1, (ci 1))]),
 .o (.idx 73 2 (sl 70) (sl 71)),
 .o (.store 2 (sl 73) (sl 72))]))))
 ((.reg [.o (.bin 74 .add (sl 66) (ci 1)),
 .o (.move 66 (sl 74))])))))))))))
 ((.seq (.seq (.reg [.o (.fld 75 1 (sl 15)),
 .o (.load1 76 (sl 75)),
 .o (.lenS 77 (sl 76)),
 .o (.move 78 (ci 0))])
 ((.block 6 (.loop (.seq (.reg [.o (.bin 79 .lss (sl 78) (sl 77))])
 ((.seq (.cond (sl 79) .skip
 (.exit 6))
 ((.seq (.block 7 (.seq (.reg [.o (.move 80 (sl 78)),
 .o (.move 17 (sl 80))])
 ((.reg [.o (.fld 81 1 (sl 15)),
 .o (.load1 82 (sl 81)),
 .o (.move 83 (sl 17)),
 .o (.build 84 [.v (.int .i64 0), .v (.int .i64 0)] [(0, 1), (1, 1)] [(0, (ci 0)), (1, (ci 1))]),
 .o (.idx 85 2 (sl 82) (sl 83)),
 .o (.store 2 (sl 85) (sl 84))]))))
 ((.reg [.o (.bin 86 .add (sl 78) (ci 1)),
 .o (.move 78 (sl 86))])))))))))))
 ((.seq (.reg [.o (.move 87 (sl 11)),
 .o (.call (some 88) (cf 62) [(sl 87)]),
 .o (.move 18 (sl 88))])
 ((.seq (.reg [.o (.move 19 (cb true)),
 .o (.move 20 (cb true))])
 ((.seq (.seq (.reg [.o (.move 89 (sl 1)),
 .o (.lenS 90 (sl 89)),
 .o (.move 91 (ci 0))])
 ((.block 8 (.loop (.seq (.reg [.o (.bin 92 .lss (sl 91) (sl 90))])
 ((.seq (.cond (sl 92) .skip
 (.exit 8))
 ((.seq (.block 9 (.seq (.reg [.o (.move 93 (sl 91)),
 .o (.move 21 (sl 93))])
 ((.seq (.weak (.draw [] [(kR, .o (.fld 95 0 (sl 15))),
 (kR, .o (.load1 96 (sl 95))),
 (kR, .o (.move 97 (sl 1))),
 (kR, .o (.move 98 (sl 21))),
 (kR, .o (.idx 99 1 (sl 97) (sl 98))),
 (kR, .o (.load1 100 (sl 99))),
 (kR, .o (.move 101 (sl 18))),
 (kR, .o (.move 102 (sl 21))),
 (kR, .o (.idx 103 1 (sl 101) (sl 102))),
 (kR, .o (.load1 104 (sl 103))),
 (kR, .o (.call (some 105) (cf 101) [(sl 104)])),
 (kR, .o (.move 106 (sl 12))),
 (kR, .o (.call (some 107) (cf 102) [(sl 105), (sl 106)])),
 (kR, .o (.move 94 (sl 107))),
 (kR, .o (.extract 108 (sl 94) 0)),
 (kE, .o (.extract 109 (sl 94) 1)),
 (kR, .o (.idx 110 2 (sl 96) (sl 100))),
 (kH, .o (.store 2 (sl 110) (sl 108))),
 (kR, .o (.move 20 (sl 109)))]))
 ((.seq (.reg [.o (.move 111 (sl 19)),
 .o (.move 112 (sl 111)),
 .g 112 true (some 113) (.move 113 (sl 20)),
 .o (.pick 114 (sl 112) (sl 113) (cb false)),
 .o (.move 19 (sl 114))])
 ((.seq (.weak (.draw [] [(kR, .o (.fld 116 1 (sl 15))),
 (kR, .o (.load1 117 (sl 116))),
 (kR, .o (.move 118 (sl 2))),
 (kR, .o (.move 119 (sl 21))),
 (kR, .o (.idx 120 1 (sl 118) (sl 119))),
 (kR, .o (.load1 121 (sl 120))),
 (kR, .o (.move 122 (sl 11))),
 (kR, .o (.move 123 (sl 21))),
 (kR, .o (.idx 124 1 (sl 122) (sl 123))),
 (kR, .o (.load1 125 (sl 124))),
 (kR, .o (.call (some 126) (cf 101) [(sl 125)])),
 (kR, .o (.move 127 (sl 12))),
 (kR, .o (.call (some 128) (cf 102) [(sl 126), (sl 127)])),
 (kR, .o (.move 115 (sl 128))),
 (kR, .o (.extract 129 (sl 115) 0)),
 (kE, .o (.extract 130 (sl 115) 1)),
 (kR, .o (.idx 131 2 (sl 117) (sl 121))),
 (kH, .o (.store 2 (sl 131) (sl 129))),
 (kR, .o (.move 20 (sl 130)))]))
 ((.reg [.o (.move 132 (sl 19)),
 .o (.move 133 (sl 132)),
 .g 133 true (some 134) (.move 134 (sl 20)),
 .o (.pick 135 (sl 133) (sl 134) (cb false)),
 .o (.move 19 (sl 135))]))))))))))
 ((.reg [.o (.bin 136 .add (sl 91) (ci 1)),
 .o (.move 91 (sl 136))])))))))))))
 ((.seq (.reg [.o (.move 138 (sl 8)),
 .o (.call (some 139) (cf 103) [(sl 138)]),
 .o (.move 140 (sl 12)),
 .o (.call (some 141) (cf 102) [(sl 139), (sl 140)]),
 .o (.move 137 (sl 141)),
 .o (.extract 142 (sl 137) 0),
 .o (.extract 143 (sl 137) 1),
 .o (.fld 144 2 (sl 15)),
 .o (.store 2 (sl 144) (sl 142)),
 .o (.move 20 (sl 143))])
 ((.seq (.weak (.draw [] [(kR, .o (.loadN 145 4 (sl 15))),
 (kR, .o (.move 146 (sl 19))),
 (kR, .o (.move 147 (sl 146))),
 (kR, .g 147 true (some 148) (.move 148 (sl 20))),
 (kR, .o (.pick 149 (sl 147) (sl 148) (cb false))),
 (kR, .o (.move 150 (sl 149))),
 (kR, .g 150 true (some 151) (.move 151 (sl 0))),
 (kR, .g 150 true (some 152) (.loadN 152 4 (sl 15))),
 (kR, .g 150 true (some 153) (.call (some 153) (cf 74) [(sl 151), (sl 152)])),
 (kE, .o (.pick 154 (sl 150) (sl 153) (cb false))),
 (kH, .o (.store 4 (sl 6) (sl 145))),
 (kR, .o (.move 7 (sl 154)))]))
 (.ret))))))))))))))))))))))))))))))
theorem fun_impl_kernelSolution_h {rin : List T} {args : List A} {Q : List T → T → Prop} (ha : args.length ≤ 155) (h : cW Try.prog 155 c_impl_kernelSolution_h (retP Try.prog [.cell 6 41, .tmp 7] rin.length Q) (St.of (enum 0 args) (enum 1000000000 rin))) :
    Fun Try.prog 78 rin args Q :=
  Fun.of (H := ⟨[], [32, 34, 38]⟩) Try.func78 rfl rfl rfl (by kernel_rfl) ha (by decide) h

end Go.Ab

/- Contracts: the first kernel of the specification. -/
set_option linter.unusedSimpArgs false
set_option linter.unusedVariables false
namespace Go.Ab
open Go.Proofs
section
attribute [-go_sem] load1C load1V fldC lenC idxC loadNV
def firstT (m : List (List Int)) : T := match firstF m with
  | some (r, c) => .tup [ints r, ints c, solT (kernX m r c)]
  | none => .tup [.v (.slice none 0 0), .v (.slice none 0 0), zeroT]
set_option maxRecDepth 20000 in
theorem spec_l27First_ok (m : List (List Int)) (hm : isMat m = true) : Fun Try.prog 56 [] [.t (rows m)] fun o res => o = [] ∧ res = firstT m := by
  obtain ⟨m1, m2, m3, m4, m5, m6⟩ := isMat_spec hm
  obtain ⟨m0, hm0⟩ : ∃ m0, m[0]? = some m0 := ⟨_, List.getElem?_eq_getElem (by omega)⟩
  have hmw : wid m = m0.length := by rw [wid, List.headD_eq_head?_getD, List.head?_eq_getElem?, hm0]; rfl
  have hw1 : 1 ≤ m0.length := by rw [← hmw]; exact m3
  have hw4 : m0.length ≤ 4 := by rw [← hmw]; exact m4
  refine fun_spec_l27First_h (by simp) ?_
  simp -implicitDefEqProofs only [go_sem, evR, ints, rows, rat, rats, c_spec_l27First_h]
  refine SemC.loopR (σ := Nat) (fun k => St.of [(0, .t (rows m)), (4, .own 4), (5, .t (.i (k + 1 : Nat)))] [(4, .box [.v (.slice none 0 0), .v (.slice none 0 0), .v (.int .i64 0), .v (.int .i64 0)])]) (fun k => k ≤ 4 ∧ noneI m k) (fun k => 4 - k) 0 (Weak.of _ _ [some 4] (by simp) (by simp) ?_ ?_) ⟨by omega, fun k' hk => by omega⟩ fun k hk R hn hr' he => ?_
  · simp -implicitDefEqProofs only [ints, rows, Nat.reduceBEq, wkR, Nat.reduceEqDiff, ↓reduceIte, wrR, Nat.zero_add, Int.natCast_one]
  · exact ⟨⟨_, rfl, .refl _⟩, rfl, trivial⟩
  obtain ⟨hk4, hkI⟩ := hk
  rcases Nat.lt_or_ge k (min m.length m0.length) with h9 | h9
  · have hmm : ((k + 1 : Nat) : Int) ≤ min (m.length : Int) (m0.length : Int) := by omega
    have hn1 := spec_l27Numbers_ok m.length (by omega)
    have hn2 := spec_l27Numbers_ok m0.length (by omega)
    rw [numsI_run] at hn1 hn2
    simp -implicitDefEqProofs only [go_sem, evR, ints, rows, rat, rats, hm0, decide_eq_true hmm]
    refine ⟨by omega, by omega, ?_⟩
    refine CallW.res hn1 [] rfl Try.call81 ?_ (.inl rfl) ?_
    · simp -implicitDefEqProofs only [agR, Nat.reduceLeDiff, Nat.reduceSub, vaR, go_sem, ints, rows, rat, rats, ratsO, rtR, intsO, rowsO]
    simp -implicitDefEqProofs only [clR, Nat.reduceLeDiff, go_sem, evR, rat]
    refine CallW.res (spec_l04Choices_ok (k + 1) m.length 0 (by omega) (by omega)) [25] rfl Try.call80 ?_ (.inr (rowsO_noSh _)) ?_
    · simp -implicitDefEqProofs only [agR, Nat.reduceLeDiff, Nat.reduceSub, vaR, go_sem, ints, rows, rat, rats, ratsO, rtR, intsO, rowsO]
    simp -implicitDefEqProofs only [clR, Nat.reduceLeDiff, go_sem, evR, rat, hm0, ints]
    refine ⟨by omega, by omega, ?_⟩
    refine CallW.res hn2 [] rfl Try.call81 ?_ (.inl rfl) ?_
    · simp -implicitDefEqProofs only [agR, Nat.reduceLeDiff, Nat.reduceSub, vaR, go_sem, ints, rows, rat, rats, ratsO, rtR, intsO, rowsO]
    simp -implicitDefEqProofs only [clR, Nat.reduceLeDiff, go_sem, evR, rat]
    refine CallW.res (spec_l04Choices_ok (k + 1) m0.length 0 (by omega) (by omega)) [32] rfl Try.call80 ?_ (.inr (rowsO_noSh _)) ?_
    · simp -implicitDefEqProofs only [agR, Nat.reduceLeDiff, Nat.reduceSub, vaR, go_sem, ints, rows, rat, rats, ratsO, rtR, intsO, rowsO]
    simp -implicitDefEqProofs only [clR, Nat.reduceLeDiff, go_sem, evR, rat, hm0, ints]
    have hRl := comb_count m.length (k + 1) 0
    have hCl := comb_count m0.length (k + 1) 0
    have hR16 : (comb m.length (k + 1) 0).length ≤ 65536 := Nat.le_trans hRl (Nat.pow_le_pow_right (i := m.length) (j := 16) (n := 2) (by omega) (by omega))
    have hC16 : (comb m0.length (k + 1) 0).length ≤ 65536 := Nat.le_trans hCl (Nat.pow_le_pow_right (i := m0.length) (j := 16) (n := 2) (by omega) (by omega))
    obtain ⟨rs, hrs⟩ : ∃ rs, comb m.length (k + 1) 0 = rs := ⟨_, rfl⟩
    obtain ⟨cs, hcs⟩ : ∃ cs, comb m0.length (k + 1) 0 = cs := ⟨_, rfl⟩
    rw [hrs] at hR16 ⊢
    rw [hcs] at hC16 ⊢
    refine SemC.loopR (σ := Nat) (fun i => St.of [(0, .t (rows m)), (4, .own 4), (5, .t (.i (k + 1 : Nat))), (6, .t (rows rs)), (7, .t (rows cs)), (8, .t (.i i))] [(4, .box [.v (.slice none 0 0), .v (.slice none 0 0), .v (.int .i64 0), .v (.int .i64 0)])]) (fun i => i ≤ rs.length ∧ noneR m (k + 1) i) (fun i => rs.length - i) 0 (Weak.trans (Weak.share 27 rfl) (Weak.trans (Weak.share 34 rfl) (Weak.of _ _ [some 4] (by simp) (by simp) ?_ ?_))) ⟨by omega, fun r hr => by simp at hr⟩ fun i hi R2 hn2 hr2 he2 => ?_
    · simp -implicitDefEqProofs only [ints, rows, Nat.reduceBEq, wkR, Nat.reduceEqDiff, ↓reduceIte, wrR, shareA, rowsO_toSh]
    · exact ⟨⟨_, rfl, .refl _⟩, rfl, trivial⟩
    obtain ⟨hiL, hiR⟩ := hi
    rcases Nat.lt_or_ge i rs.length with h8 | h8
    · simp -implicitDefEqProofs only [go_sem, evR, ints, rows, rat, rats, decide_eq_true (show (i : Int) < (rs.length : Int) by omega)]
      obtain ⟨r, hr⟩ : ∃ r, rs[i]? = some r := ⟨_, List.getElem?_eq_getElem h8⟩
      refine SemC.loopR (σ := Nat) (fun j => St.of [(0, .t (rows m)), (4, .own 4), (5, .t (.i (k + 1 : Nat))), (6, .t (rows rs)), (7, .t (rows cs)), (8, .t (.i i)), (9, .t (.i j))] [(4, .box [.v (.slice none 0 0), .v (.slice none 0 0), .v (.int .i64 0), .v (.int .i64 0)])]) (fun j => j ≤ cs.length ∧ noneC m (k + 1) r j) (fun j => cs.length - j) 0 (Weak.of _ _ [some 4] (by simp) (by simp) ?_ ?_) ⟨by omega, fun r hr => by simp at hr⟩ fun j hj R3 hn3 hr3 he3 => ?_
      · simp -implicitDefEqProofs only [ints, rows, Nat.reduceBEq, wkR, Nat.reduceEqDiff, ↓reduceIte, wrR]
      · exact ⟨⟨_, rfl, .refl _⟩, rfl, trivial⟩
      obtain ⟨hjL, hjC⟩ := hj
      rcases Nat.lt_or_ge j cs.length with h7 | h7
      · simp -implicitDefEqProofs only [go_sem, evR, ints, rows, rat, rats, decide_eq_true (show (j : Int) < (cs.length : Int) by omega)]
        obtain ⟨c, hc⟩ : ∃ c, cs[j]? = some c := ⟨_, List.getElem?_eq_getElem h7⟩
        have hix : kerIx m r c := kerIx_of hm (k := k + 1) (by omega) (by omega) (hrs ▸ List.mem_of_getElem? hr) (by rw [hmw]; exact hcs ▸ List.mem_of_getElem? hc)
        simp -implicitDefEqProofs only [go_sem, evR, ints, rows, rat, rats, hr, hc]
        refine ⟨by omega, by omega, by omega, by omega, by omega, by omega, ?_⟩
        have hgv := spec_l27Gives_ok m r c hm hix
        by_cases hd : kD m r c = 0
        · rw [givesT, if_pos hd] at hgv
          refine CallC.res hgv [] rfl Try.call82 (fun e R' hR => ?_) (.inr (by simp [zeroT, T.noSh, T.noShL])) ?_
          · simp -implicitDefEqProofs only [agR, Nat.reduceLeDiff, Nat.reduceSub, vaR, go_sem, ints, rows, rat, rats, ratsO, rtR, intsO, rowsO]
          simp -implicitDefEqProofs only [clR, Nat.reduceLeDiff, go_sem, evR, rat, zeroT]
          refine ⟨_, Weak.refl _ _, ?_⟩
          simp -implicitDefEqProofs only [go_sem, evR, ints, rows, rat, rats]
          refine hn3 _ (j + 1) (Weak.of _ _ [some 4] (by simp) (by simp) ?_ ?_) ⟨by omega, noneC_succ hjC (by rw [hmw, hcs]; exact hc) (by simp [hitB, hd])⟩ (by omega)
          · simp -implicitDefEqProofs only [ints, rows, Nat.reduceBEq, wkR, Nat.reduceEqDiff, ↓reduceIte, wrR, next64 h7 (by omega)]
          · exact ⟨⟨_, rfl, .refl _⟩, rfl, trivial⟩
        · rw [givesT, if_neg hd] at hgv
          refine CallC.res hgv [] rfl Try.call82 (fun e R' hR => ?_) (.inl rfl) ?_
          · simp -implicitDefEqProofs only [agR, Nat.reduceLeDiff, Nat.reduceSub, vaR, go_sem, ints, rows, rat, rats, ratsO, rtR, intsO, rowsO]
          simp -implicitDefEqProofs only [clR, Nat.reduceLeDiff, go_sem, evR, rat, solO]
          refine ⟨_, Weak.trans (Weak.share 10 rfl) (Weak.of [(0, .t (rows m)), (4, .own 4), (5, .t (.i (k + 1 : Nat))), (6, .t (rows rs)), (7, .t (rows cs)), (8, .t (.i i)), (9, .t (.i j)), (10, .t (.pin [rats (kernX m r c).r, rats (kernX m r c).c, .i (kernX m r c).v.1, .i (kernX m r c).v.2] 0)), (11, .t (.b true))] [(4, .box [.v (.slice none 0 0), .v (.slice none 0 0), .v (.int .i64 0), .v (.int .i64 0)])] [some 4] (by simp) (by simp) ?_ ?_), ?_⟩
          · simp -implicitDefEqProofs only [ints, rows, Nat.reduceBEq, wkR, Nat.reduceEqDiff, ↓reduceIte, wrR, shareA, rowsO_toSh, T.toSh, T.toShL, ratsO_toSh]
          · exact ⟨⟨_, rfl, .refl _⟩, rfl, trivial⟩
          simp -implicitDefEqProofs only [go_sem, evR, ints, rows, rat, rats]
          have his := spec_l27Is_ok m hm (kernX m r c) (by simp [kernX, mixK, mixI_length]; omega) (by simp [kernX, mixK, mixI_length]; omega)
          rw [solT] at his
          refine CallW.pure his [] rfl Try.call76 ?_ (by first | trivial | simp [T.noSh, T.noShL, rat]) rfl ?_
          · simp -implicitDefEqProofs only [agR, Nat.reduceLeDiff, Nat.reduceSub, vaR, go_sem, ints, rows, rat, rats, ratsO, rtR, intsO, rowsO]
          simp -implicitDefEqProofs only [go_sem, evR, ints, rows, rat, rats]
          cases hB : isSolB m (kernX m r c)
          · simp -implicitDefEqProofs only [go_sem, evR, ints, rows, rat, rats]
            refine hn3 _ (j + 1) (Weak.of _ _ [some 4] (by simp) (by simp) ?_ ?_) ⟨by omega, noneC_succ hjC (by rw [hmw, hcs]; exact hc) (by simp [hitB, hB])⟩ (by omega)
            · simp -implicitDefEqProofs only [ints, rows, Nat.reduceBEq, wkR, Nat.reduceEqDiff, ↓reduceIte, wrR, next64 h7 (by omega)]
            · exact ⟨⟨_, rfl, .refl _⟩, rfl, trivial⟩
          · have hff := firstF_some (m := m) (k := k) (r := r) (c := c) (by rw [hmw]; exact h9) hkI (by rw [hrs]; exact hr) hiR (by rw [hmw, hcs]; exact hc) hjC (by simp [hitB, hB, hd])
            simp -implicitDefEqProofs only [go_sem, evR, ints, rows, rat, rats, hr, hc]
            refine ⟨by omega, by omega, by omega, by omega, by omega, by omega, hr3 _ ?_⟩
            simp -implicitDefEqProofs only [go_sem, evR, ints, rows, rat, rats]
            refine hr2 _ ?_
            simp -implicitDefEqProofs only [go_sem, evR, ints, rows, rat, rats]
            refine hr' _ ?_
            simp -implicitDefEqProofs only [go_sem, evR, ints, rows, rat, rats]
            rw [firstT, hff]; rfl
      · simp -implicitDefEqProofs only [go_sem, evR, ints, rows, rat, rats, decide_eq_false (show ¬ (j : Int) < (cs.length : Int) by omega)]
        refine he3 _ _ ?_
        simp -implicitDefEqProofs only [go_sem, evR, ints, rows, rat, rats]
        refine hn2 _ (i + 1) (Weak.of _ _ [some 4] (by simp) (by simp) ?_ ?_) ⟨by omega, noneR_succ hiR (by rw [hrs]; exact hr) (by rw [hmw, hcs]; omega) hjC⟩ (by omega)
        · simp -implicitDefEqProofs only [ints, rows, Nat.reduceBEq, wkR, Nat.reduceEqDiff, ↓reduceIte, wrR, next64 h8 (by omega)]
        · exact ⟨⟨_, rfl, .refl _⟩, rfl, trivial⟩
    · simp -implicitDefEqProofs only [go_sem, evR, ints, rows, rat, rats, decide_eq_false (show ¬ (i : Int) < (rs.length : Int) by omega)]
      refine he2 _ _ ?_
      simp -implicitDefEqProofs only [go_sem, evR, ints, rows, rat, rats]
      have hk2 : IntKind.i64.wrap (((k + 1 : Nat) : Int) + 1) = ((k + 1 + 1 : Nat) : Int) := by rw [wrap64 (by omega) (by omega)]; omega
      refine hn _ (k + 1) (Weak.of _ _ [some 4] (by simp) (by simp) ?_ ?_) ⟨by omega, noneI_succ (i := i) hkI (by rw [hrs]; omega) hiR⟩ (by omega)
      · simp -implicitDefEqProofs only [ints, rows, Nat.reduceBEq, wkR, Nat.reduceEqDiff, ↓reduceIte, wrR, hk2]
      · exact ⟨⟨_, rfl, .refl _⟩, rfl, trivial⟩
  · have hmm : ¬ ((k + 1 : Nat) : Int) ≤ min (m.length : Int) (m0.length : Int) := by omega
    simp -implicitDefEqProofs only [go_sem, evR, ints, rows, rat, rats, hm0, decide_eq_false hmm]
    refine ⟨by omega, by omega, he _ _ ?_⟩
    simp -implicitDefEqProofs only [go_sem, evR, ints, rows, rat, rats]
    rw [firstT, firstF_none hkI (by omega)]; rfl
end
end Go.Ab

/- Contracts: what a kernel gives (the other side). -/
set_option linter.unusedSimpArgs false
set_option linter.unusedVariables false
namespace Go.Ab
open Go.Proofs
section
attribute [-go_sem] load1C load1V fldC lenC idxC loadNV
theorem sub_snoc2 (m : List (List Int)) {r : List Int} {c : List Int} {i : Nat} {x : Int} (h : r[i]? = some x) : kB m (r.take (i + 1)) c = kB m (r.take i) c ++ [pickL (m.getD x.toNat []) c] := sub_snoc m h
def fillZ (n i : Nat) : List (Int × Int) := List.replicate i (0, 1) ++ List.replicate (n - i) (0, 0)
theorem fillZ_length {n i : Nat} (h : i ≤ n) : (fillZ n i).length = n := by simp [fillZ]; omega
theorem fillZ_set {n i : Nat} (h : i < n) : (fillZ n i).set i (0, 1) = fillZ n (i + 1) := by
  obtain ⟨d, hd⟩ : ∃ d, n - i = d + 1 := ⟨n - i - 1, by omega⟩
  rw [fillZ, hd, List.set_append_right _ _ (by simp), List.length_replicate, Nat.sub_self, List.replicate_succ, List.set_cons_zero, fillZ, show n - (i + 1) = d by omega, List.replicate_succ', List.append_assoc]; rfl
theorem fillZ_all (n : Nat) : fillZ n n = List.replicate n (0, 1) := by simp [fillZ]
theorem fillZ_none (n : Nat) : fillZ n 0 = List.replicate n (0, 0) := by simp [fillZ]
theorem made_fillZ (n : Nat) : made [T.v (.int .i64 0), T.v (.int .i64 0)] n = ratC (fillZ n 0) := by rw [ratC_replicate, fillZ_none]
def okI (p q : List Int) (d : Int) : Nat → Bool
  | 0 => true
  | i + 1 => okI p q d i && ((sgR (p.getD i 0) d).2 == 0) && ((sgR (q.getD i 0) d).2 == 0)
def kOK (m : List (List Int)) (r c : List Int) : Bool := okI (rsum (tr (kA m r c) r.length)) (rsum (kA m r c)) (kD m r c) r.length && ((sgR (detN r.length (kB m r c)) (kD m r c)).2 == 0)
def kerSolT (m : List (List Int)) (r c : List Int) : T := if kD m r c = 0 then .tup [zeroT, .b false] else .tup [solO (kernX m r c), .b (kOK m r c && isSolB m (kernX m r c))]
set_option maxHeartbeats 4000000 in
set_option maxRecDepth 20000 in
theorem impl_kernelSolution_ok (m : List (List Int)) (r c : List Int) (hm : isMat m = true) (h : kerIx m r c) : Fun Try.prog 78 [] [.t (rows m), .t (ints r), .t (ints c)] fun o res => o = [] ∧ res = kerSolT m r c := by
  obtain ⟨m1, m2, m3, m4, m5, m6⟩ := isMat_spec hm
  have hs := kB_sq hm h
  have hal := kA_length m r c
  have har := kA_rows hm h
  obtain ⟨k1, k2, k3, k4, k5⟩ := id h
  have hT : kerSolT m r c = if kD m r c = 0 then .tup [zeroT, .b false] else .tup [solO (kernX m r c), .b (kOK m r c && isSolB m (kernX m r c))] := rfl
  have hO : kOK m r c = (okI (rsum (tr (kA m r c) r.length)) (rsum (kA m r c)) (kD m r c) r.length && ((sgR (detN r.length (kB m r c)) (kD m r c)).2 == 0)) := rfl
  have hX : kernX m r c = ⟨mixK m.length r (rsum (tr (kA m r c) r.length)) (kD m r c), mixK (wid m) c (rsum (kA m r c)) (kD m r c), (sgR (detN r.length (kB m r c)) (kD m r c)).1⟩ := rfl
  have hD : kD m r c = (rsum (kA m r c)).sum := rfl
  generalize kerSolT m r c = gT at hT ⊢
  generalize kOK m r c = ok at hT hO
  refine fun_impl_kernelSolution_h (by simp) ?_
  simp -implicitDefEqProofs only [go_sem, evR, ints, rows, rat, rats, c_impl_kernelSolution_h]
  refine SemC.loopR (σ := Nat) (fun i => St.of [(0, .t (rows m)), (1, .t (ints r)), (2, .t (ints c)), (6, .own 6), (7, .t (.b false)), (8, .own 81), (22, .t (ints r)), (23, .t (.i r.length)), (24, .t (.i i))] [(6, .box [.v (.slice none 0 0), .v (.slice none 0 0), .v (.int .i64 0), .v (.int .i64 0)]), (81, rowsO (kB m (r.take i) c))]) (fun i => i ≤ r.length) (fun i => r.length - i) 0 (Weak.of _ _ [some 6, none] (by simp) (by simp) ?_ ?_) (by omega) fun i hi R hn hr he => ?_
  · simp -implicitDefEqProofs only [ints, rows, Nat.reduceBEq, wkR, Nat.reduceEqDiff, ↓reduceIte, wrR]
  · exact ⟨⟨_, rfl, .refl _⟩, rfl, ⟨⟨1, rfl⟩, trivial⟩⟩
  rcases Nat.lt_or_ge i r.length with h9 | h9
  · obtain ⟨x, hx⟩ : ∃ x, r[i]? = some x := ⟨_, List.getElem?_eq_getElem h9⟩
    have hxb := k4 x (List.mem_of_getElem? hx)
    obtain ⟨row, hrow⟩ : ∃ row, m[x.toNat]? = some row := ⟨_, List.getElem?_eq_getElem (by omega)⟩
    have hrowl : row.length = wid m := m5 row (List.mem_of_getElem? hrow)
    have hrd : m.getD x.toNat [] = row := by rw [List.getD_eq_getElem?_getD, hrow]; rfl
    have hbl : (kB m (r.take i) c).length = i := by rw [kB, partM_length, List.length_take]; omega
    simp -implicitDefEqProofs only [go_sem, evR, ints, rows, rat, rats, hx, hrow, decide_eq_true (show (i : Int) < (r.length : Int) by omega)]
    refine ⟨by omega, by omega, by omega, by omega, by omega, by omega, ?_⟩
    refine CallW.res (impl_chosen_ok row c (fun j hj => by have := k5 j hj; omega) (by omega)) [] rfl Try.call99 ?_ (.inl rfl) ?_
    · simp -implicitDefEqProofs only [agR, Nat.reduceLeDiff, Nat.reduceSub, vaR, go_sem, ints, rows, rat, rats, ratsO, rtR, intsO, rowsO]
    simp -implicitDefEqProofs only [clR, Nat.reduceLeDiff, go_sem, evR, rat, rowsO, intsO]
    refine ⟨by omega, hn _ (i + 1) (Weak.of _ _ [some 6, some 36] (by simp) (by simp) ?_ ?_) (by omega) (by omega)⟩
    · simp -implicitDefEqProofs only [ints, rows, Nat.reduceBEq, wkR, Nat.reduceEqDiff, ↓reduceIte, wrR, next64 h9 (by omega)]
    · refine ⟨⟨_, rfl, .refl _⟩, rfl, ⟨_, rfl, ?_⟩, rfl, trivial⟩
      rw [sub_snoc2 m hx, hrd, rowsO, List.map_append]; exact .refl _
  · simp -implicitDefEqProofs only [go_sem, evR, ints, rows, rat, rats, decide_eq_false (show ¬ (i : Int) < (r.length : Int) by omega)]
    refine he _ _ ?_
    simp -implicitDefEqProofs only [go_sem, evR, ints, rows, rat, rats]
    rw [show i = r.length by omega, List.take_length]
    have hadj := impl_adjugate_ok r.length k2 (kB m r c) hs
    rw [show adjM r.length (kB m r c) = kA m r c from rfl] at hadj
    refine CallW.res hadj [81] rfl Try.call100 ?_ (.inr (rowsO_noSh _)) ?_
    · simp -implicitDefEqProofs only [agR, Nat.reduceLeDiff, Nat.reduceSub, vaR, go_sem, ints, rows, rat, rats, ratsO, rtR, intsO, rowsO]
    simp -implicitDefEqProofs only [clR, Nat.reduceLeDiff, go_sem, evR, rat, rowsO]
    generalize kD m r c = dd at hD hT hX hO
    generalize kA m r c = a at *
    generalize kB m r c = b at *
    have hra := rsum_abs (a := a) fun y hy => ⟨by have := (har y hy).1; omega, (har y hy).2⟩
    have hrl : (rsum a).length = r.length := by rw [rsum, List.length_map, hal]
    have hrsn : ∀ {i : Nat} {y : List Int}, a[i]? = some y → (rsum a).take (i + 1) = (rsum a).take i ++ [y.sum] := fun {i y} hy => take_snoc (by rw [rsum, List.getElem?_map, hy]; rfl)
    rw [hal]
    refine SemC.loopR (σ := Nat) (fun i => St.of [(0, .t (rows m)), (1, .t (ints r)), (2, .t (ints c)), (6, .own 6), (7, .t (.b false)), (8, .t (rows b)), (11, .t (rows a)), (12, .t (.i ((rsum a).take i).sum)), (40, .t (rows a)), (41, .t (.i r.length)), (42, .t (.i i))] [(6, .box [.v (.slice none 0 0), .v (.slice none 0 0), .v (.int .i64 0), .v (.int .i64 0)])]) (fun i => i ≤ r.length) (fun i => r.length - i) 0 (Weak.trans (Weak.share 39 rfl) (Weak.trans (Weak.share 81 rfl) (Weak.of _ _ [some 6] (by simp) (by simp) ?_ ?_))) (by omega) fun i hi R2 hn2 hr2 he2 => ?_
    · have hsh : ∀ l : List (List Int), (T.arr 1 (List.map intsO l)).toSh = T.sh 1 (List.map ints l) := rowsO_toSh
      simp -implicitDefEqProofs only [ints, rows, Nat.reduceBEq, wkR, Nat.reduceEqDiff, ↓reduceIte, wrR, shareA, hsh, List.take_zero, List.sum_nil]
    · exact ⟨⟨_, rfl, .refl _⟩, rfl, trivial⟩
    rcases Nat.lt_or_ge i r.length with h8 | h8
    · obtain ⟨y, hy⟩ : ∃ y, a[i]? = some y := ⟨_, List.getElem?_eq_getElem (by omega)⟩
      have hym := har y (List.mem_of_getElem? hy)
      have hsum := sums_abs (by omega) hra i
      have hys : -15360000 ≤ y.sum ∧ y.sum ≤ 15360000 := hra _ (List.mem_map.2 ⟨y, List.mem_of_getElem? hy, rfl⟩)
      simp -implicitDefEqProofs only [go_sem, evR, ints, rows, rat, rats, hy, hal, decide_eq_true (show (i : Int) < (r.length : Int) by omega)]
      refine ⟨by omega, by omega, by omega, ?_⟩
      refine CallW.pure (impl_sumOf_ok y (small_of (by omega) hym.2)) [] rfl Try.call101 ?_ (by first | trivial | simp [T.noSh, T.noShL, rat]) rfl ?_
      · simp -implicitDefEqProofs only [agR, Nat.reduceLeDiff, Nat.reduceSub, vaR, go_sem, ints, rows, rat, rats, ratsO, rtR, intsO, rowsO]
      simp -implicitDefEqProofs only [go_sem, evR, ints, rows, rat, rats]
      refine hn2 _ (i + 1) (Weak.of _ _ [some 6] (by simp) (by simp) ?_ ?_) (by omega) (by omega)
      · rw [wrap64 (n := ((rsum a).take i).sum + y.sum) (by omega) (by omega), wrap64 (n := (i : Int) + 1) (by omega) (by omega)]
        have hsn : ((rsum a).take (i + 1)).sum = ((rsum a).take i).sum + y.sum := by rw [hrsn hy]; simp
        simp -implicitDefEqProofs only [ints, rows, Nat.reduceBEq, wkR, Nat.reduceEqDiff, ↓reduceIte, wrR, hsn, Int.natCast_add, Int.natCast_one]
      · exact ⟨⟨_, rfl, .refl _⟩, rfl, trivial⟩
    have hfin : (rsum a).take i = rsum a := by rw [show i = r.length by omega, ← hrl, List.take_length]
    have hdb := sums_abs (by omega) hra i
    rw [hfin, ← hD] at hdb
    simp -implicitDefEqProofs only [go_sem, evR, ints, rows, rat, rats, decide_eq_false (show ¬ (i : Int) < (r.length : Int) by omega)]
    refine he2 _ _ ?_
    obtain ⟨m0, hm0⟩ : ∃ m0, m[0]? = some m0 := ⟨_, List.getElem?_eq_getElem (by omega)⟩
    have hmw : wid m = m0.length := by rw [wid, List.headD_eq_head?_getD, List.head?_eq_getElem?, hm0]; rfl
    have hw4 : m0.length ≤ 4 := by rw [← hmw]; exact m4
    have hbr : bigL (rsum a) := fun x hx => by have := hra x hx; omega
    have hbc : bigL (rsum (tr a r.length)) := fun x hx => by
      obtain ⟨y, hy, rfl⟩ := List.mem_map.1 hx
      obtain ⟨k, hk, rfl⟩ := List.mem_map.1 hy
      obtain ⟨c1, c2⟩ := col_abs (by omega) har k
      have := sum_abs (b := 3840000) (by omega) c2
      omega
    simp -implicitDefEqProofs only [go_sem, evR, ints, rows, rat, rats, hfin, ← hD, hm0, made_fillZ, ratC_div, fillZ_length (Nat.zero_le _)]
    refine ⟨fun h0 => by rw [hT, if_pos (by simpa using h0)]; rfl, fun h0 => ?_⟩
    have hd0 : dd ≠ 0 := by simpa using h0
    rw [if_neg hd0] at hT
    refine ⟨by omega, by omega, by omega, by omega, by omega, by omega, ?_⟩
    refine SemC.loopR (σ := Nat) (fun i => St.of [(0, .t (rows m)), (1, .t (ints r)), (2, .t (ints c)), (6, .own 6), (7, .t (.b false)), (8, .t (rows b)), (11, .t (rows a)), (12, .t (.i dd)), (15, .own 15), (65, .t (.i m.length)), (66, .t (.i i))] [(6, .box [.v (.slice none 0 0), .v (.slice none 0 0), .v (.int .i64 0), .v (.int .i64 0)]), (15, .box [ratsO (fillZ m.length i), ratsO (fillZ m0.length 0), .v (.int .i64 0), .v (.int .i64 0)])]) (fun i => i ≤ m.length) (fun i => m.length - i) 0 (Weak.trans (Weak.close1 15 0 64 rfl rfl (by decide) rfl) (Weak.of _ _ [some 6, some 15] (by simp) (by simp) ?_ ?_)) (by omega) fun i hi R3 hn3 hr3 he3 => ?_
    · simp -implicitDefEqProofs only [ints, rows, Nat.reduceBEq, wkR, Nat.reduceEqDiff, ↓reduceIte, wrR]
    · exact ⟨⟨_, rfl, .refl _⟩, rfl, ⟨_, rfl, .refl _⟩, rfl, trivial⟩
    rcases Nat.lt_or_ge i m.length with h7 | h7
    · have hfl := fillZ_length (n := m.length) (i := i) (by omega)
      simp -implicitDefEqProofs only [go_sem, evR, ints, rows, rat, rats, decide_eq_true (show (i : Int) < (m.length : Int) by omega), ratsO]
      refine ⟨by omega, by rw [ratC_length]; omega, by rw [ratC_length]; omega, hn3 _ (i + 1) (Weak.trans (Weak.close1 15 0 70 rfl rfl (by decide) rfl) (Weak.of _ _ [some 6, some 15] (by simp) (by simp) ?_ ?_)) (by omega) (by omega)⟩
      · simp -implicitDefEqProofs only [ints, rows, Nat.reduceBEq, wkR, Nat.reduceEqDiff, ↓reduceIte, wrR, next64 h7 (by omega)]
      · have hset := ratC_set (l := fillZ m.length i) (i := i) (0, 1) (by omega)
        rw [fillZ_set h7] at hset
        refine ⟨⟨_, rfl, .refl _⟩, rfl, ⟨_, rfl, ?_⟩, rfl, trivial⟩
        rw [ratsO, ← hset]; exact .refl _
    · have h01 := fillZ_length (n := m0.length) (i := 0) (by omega)
      simp -implicitDefEqProofs only [go_sem, evR, ints, rows, rat, rats, decide_eq_false (show ¬ (i : Int) < (m.length : Int) by omega)]
      refine he3 _ _ ?_
      simp -implicitDefEqProofs only [go_sem, evR, ints, rows, rat, rats, ratsO, ratC_div, h01]
      refine SemC.loopR (σ := Nat) (fun i => St.of [(0, .t (rows m)), (1, .t (ints r)), (2, .t (ints c)), (6, .own 6), (7, .t (.b false)), (8, .t (rows b)), (11, .t (rows a)), (12, .t (.i dd)), (15, .own 15), (77, .t (.i m0.length)), (78, .t (.i i))] [(6, .box [.v (.slice none 0 0), .v (.slice none 0 0), .v (.int .i64 0), .v (.int .i64 0)]), (15, .box [ratsO (List.replicate m.length (0, 1)), ratsO (fillZ m0.length i), .v (.int .i64 0), .v (.int .i64 0)])]) (fun i => i ≤ m0.length) (fun i => m0.length - i) 0 (Weak.trans (Weak.close1 15 1 76 rfl rfl (by decide) rfl) (Weak.of _ _ [some 6, some 15] (by simp) (by simp) ?_ ?_)) (by omega) fun j hj R4 hn4 hr4 he4 => ?_
      · simp -implicitDefEqProofs only [ints, rows, Nat.reduceBEq, wkR, Nat.reduceEqDiff, ↓reduceIte, wrR]
      · exact ⟨⟨_, rfl, .refl _⟩, rfl, ⟨_, rfl, by rw [show i = m.length by omega, fillZ_all]; exact .refl _⟩, rfl, trivial⟩
      rcases Nat.lt_or_ge j m0.length with h6 | h6
      · have hfl := fillZ_length (n := m0.length) (i := j) (by omega)
        simp -implicitDefEqProofs only [go_sem, evR, ints, rows, rat, rats, decide_eq_true (show (j : Int) < (m0.length : Int) by omega), ratsO]
        refine ⟨by omega, by rw [ratC_length]; omega, by rw [ratC_length]; omega, hn4 _ (j + 1) (Weak.trans (Weak.close1 15 1 82 rfl rfl (by decide) rfl) (Weak.of _ _ [some 6, some 15] (by simp) (by simp) ?_ ?_)) (by omega) (by omega)⟩
        · simp -implicitDefEqProofs only [ints, rows, Nat.reduceBEq, wkR, Nat.reduceEqDiff, ↓reduceIte, wrR, next64 h6 (by omega)]
        · have hset := ratC_set (l := fillZ m0.length j) (i := j) (0, 1) (by omega)
          rw [fillZ_set h6] at hset
          refine ⟨⟨_, rfl, .refl _⟩, rfl, ⟨_, rfl, ?_⟩, rfl, trivial⟩
          rw [ratsO, ratsO, ← hset]; exact .refl _
      simp -implicitDefEqProofs only [go_sem, evR, ints, rows, rat, rats, decide_eq_false (show ¬ (j : Int) < (m0.length : Int) by omega)]
      refine he4 _ _ ?_
      simp -implicitDefEqProofs only [go_sem, evR, ints, rows, rat, rats]
      rw [show j = m0.length by omega, fillZ_all]
      refine CallW.res (impl_turned_ok a r.length (by intro he; rw [he] at hal; simp at hal; omega) (fun y hy => (har y hy).1) (by omega) (by omega)) [] rfl Try.call62 ?_ (.inl rfl) ?_
      · simp -implicitDefEqProofs only [agR, Nat.reduceLeDiff, Nat.reduceSub, vaR, go_sem, ints, rows, rat, rats, ratsO, rtR, intsO, rowsO]
      simp -implicitDefEqProofs only [clR, Nat.reduceLeDiff, go_sem, evR, rat]
      have hpl : (rsum (tr a r.length)).length = r.length := by simp [rsum, tr]
      have htl : (tr a r.length).length = r.length := by simp [tr]
      refine SemC.loopR (σ := Nat) (fun i => St.of [(0, .t (rows m)), (1, .t (ints r)), (2, .t (ints c)), (6, .own 6), (7, .t (.b false)), (8, .t (rows b)), (11, .t (rows a)), (12, .t (.i dd)), (15, .own 15), (18, .t (rows (tr a r.length))), (19, .t (.b (okI (rsum (tr a r.length)) (rsum a) dd i))), (89, .t (ints r)), (90, .t (.i r.length)), (91, .t (.i i))] [(6, .box [.v (.slice none 0 0), .v (.slice none 0 0), .v (.int .i64 0), .v (.int .i64 0)]), (15, .box [ratsO (mixI m.length r (rsum (tr a r.length)) dd i), ratsO (mixI m0.length c (rsum a) dd i), .v (.int .i64 0), .v (.int .i64 0)])]) (fun i => i ≤ r.length) (fun i => r.length - i) 0 (Weak.trans (Weak.share 88 rfl) (Weak.of _ _ [some 6, some 15] (by simp) (by simp) ?_ ?_)) (by omega) fun e he' R5 hn5 hr5 he5 => ?_
      · simp -implicitDefEqProofs only [ints, rows, Nat.reduceBEq, wkR, Nat.reduceEqDiff, ↓reduceIte, wrR, shareA, rowsO_toSh, okI]
      · exact ⟨⟨_, rfl, .refl _⟩, rfl, ⟨_, rfl, .refl _⟩, rfl, trivial⟩
      rcases Nat.lt_or_ge e r.length with h5 | h5
      · obtain ⟨x, hx⟩ : ∃ x, r[e]? = some x := ⟨_, List.getElem?_eq_getElem h5⟩
        obtain ⟨z, hz⟩ : ∃ z, c[e]? = some z := ⟨_, List.getElem?_eq_getElem (by omega)⟩
        obtain ⟨y, hy⟩ : ∃ y, a[e]? = some y := ⟨_, List.getElem?_eq_getElem (by omega)⟩
        obtain ⟨u, hu⟩ : ∃ u, (tr a r.length)[e]? = some u := ⟨_, List.getElem?_eq_getElem (by omega)⟩
        have hxb := k4 x (List.mem_of_getElem? hx)
        have hzb := k5 z (List.mem_of_getElem? hz)
        rw [hmw] at hzb
        have hym := har y (List.mem_of_getElem? hy)
        have hys : -15360000 ≤ y.sum ∧ y.sum ≤ 15360000 := hra _ (List.mem_map.2 ⟨y, List.mem_of_getElem? hy, rfl⟩)
        have huc : u = colOf a e := by
          have : (tr a r.length)[e]? = some (colOf a e) := by simp [tr, h5]
          rw [hu, Option.some.injEq] at this; exact this
        have hum := col_abs (by omega) har e
        rw [← huc] at hum
        have hus := sum_abs (b := 3840000) (by omega) hum.2
        have hpd : (rsum (tr a r.length)).getD e 0 = u.sum := by rw [List.getD_eq_getElem?_getD, rsum, List.getElem?_map, hu]; rfl
        have hqd : (rsum a).getD e 0 = y.sum := by rw [List.getD_eq_getElem?_getD, rsum, List.getElem?_map, hy]; rfl
        have hxd : r.getD e 0 = x := by rw [List.getD_eq_getElem?_getD, hx]; rfl
        have hzd : c.getD e 0 = z := by rw [List.getD_eq_getElem?_getD, hz]; rfl
        have hl1 := mixI_length m.length r (rsum (tr a r.length)) dd e
        have hl2 := mixI_length m0.length c (rsum a) dd e
        simp -implicitDefEqProofs only [go_sem, evR, ints, rows, rat, rats, decide_eq_true (show (e : Int) < (r.length : Int) by omega)]
        refine ⟨_, Weak.open 15 0 500 rfl rfl rfl (by decide) rfl, ?_⟩
        simp -implicitDefEqProofs only [go_sem, evR, ints, rows, rat, rats, hx, hu, hy, hz, ratsO, (show List.lookup 0 [(0, 500)] = some 500 from rfl)]
        refine ⟨by omega, by omega, by omega, by omega, by omega, by omega, ?_⟩
        refine CallV.pure (impl_sumOf_ok u (small_of (by omega) hum.2)) [] rfl Try.call101 (fun e R' hR => ?_) (by first | trivial | simp [T.noSh, T.noShL, rat]) (fun _ => rfl) ?_
        · simp -implicitDefEqProofs only [agR, Nat.reduceLeDiff, Nat.reduceSub, vaR, go_sem, ints, rows, rat, rats, ratsO, rtR, intsO, rowsO]
        simp -implicitDefEqProofs only [go_sem, evR, ints, rows, rat, rats]
        refine CallV.pure (impl_signedRatio_ok u.sum dd (by omega) (by omega) hd0 (by omega) (by omega)) [] rfl Try.call102 (fun e R' hR => ?_) (by first | trivial | simp [T.noSh, T.noShL, rat]) (fun _ => rfl) ?_
        · simp -implicitDefEqProofs only [agR, Nat.reduceLeDiff, Nat.reduceSub, vaR, go_sem, ints, rows, rat, rats, ratsO, rtR, intsO, rowsO]
        simp -implicitDefEqProofs only [go_sem, evR, ints, rows, rat, rats]
        refine ⟨by omega, by rw [ratC_length]; omega, by rw [ratC_length]; omega, ?_⟩
        have hset1 := ratC_set (l := mixI m.length r (rsum (tr a r.length)) dd e) (i := x.toNat) (sgR u.sum dd).1 (by omega)
        rw [show (mixI m.length r (rsum (tr a r.length)) dd e).set x.toNat (sgR u.sum dd).1 = mixI m.length r (rsum (tr a r.length)) dd (e + 1) by rw [mixI, hxd, hpd]] at hset1
        have hset2 := ratC_set (l := mixI m0.length c (rsum a) dd e) (i := z.toNat) (sgR y.sum dd).1 (by omega)
        rw [show (mixI m0.length c (rsum a) dd e).set z.toNat (sgR y.sum dd).1 = mixI m0.length c (rsum a) dd (e + 1) by rw [mixI, hzd, hqd]] at hset2
        refine ⟨fun h => ?_, fun h => ?_⟩
        all_goals
          refine ⟨_, Weak.trans (Weak.close1 15 0 500 rfl rfl (by decide) rfl) (Weak.trans (Weak.of [(0, .t (rows m)), (1, .t (ints r)), (2, .t (ints c)), (6, .own 6), (7, .t (.b false)), (8, .t (rows b)), (11, .t (rows a)), (12, .t (.i dd)), (15, .own 15), (18, .t (rows (tr a r.length))), (19, .t (.b (okI (rsum (tr a r.length)) (rsum a) dd e && ((sgR u.sum dd).2 == 0)))), (21, .t (.i e)), (89, .t (ints r)), (90, .t (.i r.length)), (91, .t (.i e))] [(6, .box [.v (.slice none 0 0), .v (.slice none 0 0), .v (.int .i64 0), .v (.int .i64 0)]), (15, .box [ratsO (mixI m.length r (rsum (tr a r.length)) dd (e + 1)), ratsO (mixI m0.length c (rsum a) dd e), .v (.int .i64 0), .v (.int .i64 0)])] [some 6, some 15] (by simp) (by simp) ?_ ?_) (Weak.open 15 1 501 rfl rfl rfl (by decide) rfl)), ?_⟩
          · simp -implicitDefEqProofs only [ints, rows, Nat.reduceBEq, wkR, Nat.reduceEqDiff, ↓reduceIte, wrR, h, Bool.true_and, Bool.false_and]
          · refine ⟨⟨_, rfl, .refl _⟩, rfl, ⟨_, rfl, ?_⟩, rfl, trivial⟩
            rw [ratsO, ratsO, ← hset1]; exact .refl _
          simp -implicitDefEqProofs only [go_sem, evR, ints, rows, rat, rats, hx, hu, hy, hz, ratsO, (show List.lookup 1 [(1, 501)] = some 501 from rfl)]
          refine ⟨by omega, by omega, by omega, by omega, by omega, by omega, ?_⟩
          refine CallV.pure (impl_sumOf_ok y (small_of (by omega) hym.2)) [] rfl Try.call101 (fun e R' hR => ?_) (by first | trivial | simp [T.noSh, T.noShL, rat]) (fun _ => rfl) ?_
          · simp -implicitDefEqProofs only [agR, Nat.reduceLeDiff, Nat.reduceSub, vaR, go_sem, ints, rows, rat, rats, ratsO, rtR, intsO, rowsO]
          simp -implicitDefEqProofs only [go_sem, evR, ints, rows, rat, rats]
          refine CallV.pure (impl_signedRatio_ok y.sum dd (by omega) (by omega) hd0 (by omega) (by omega)) [] rfl Try.call102 (fun e R' hR => ?_) (by first | trivial | simp [T.noSh, T.noShL, rat]) (fun _ => rfl) ?_
          · simp -implicitDefEqProofs only [agR, Nat.reduceLeDiff, Nat.reduceSub, vaR, go_sem, ints, rows, rat, rats, ratsO, rtR, intsO, rowsO]
          simp -implicitDefEqProofs only [go_sem, evR, ints, rows, rat, rats]
          refine ⟨by omega, by rw [ratC_length]; omega, by rw [ratC_length]; omega, ?_⟩
          refine ⟨fun h2 => ?_, fun h2 => ?_⟩
          all_goals
            refine hn5 _ (e + 1) (Weak.trans (Weak.close1 15 1 501 rfl rfl (by decide) rfl) (Weak.of _ _ [some 6, some 15] (by simp) (by simp) ?_ ?_)) (by omega) (by omega)
            · have hok : okI (rsum (tr a r.length)) (rsum a) dd (e + 1) = (okI (rsum (tr a r.length)) (rsum a) dd e && ((sgR u.sum dd).2 == 0) && ((sgR y.sum dd).2 == 0)) := by rw [okI, hpd, hqd]
              simp -implicitDefEqProofs only [ints, rows, Nat.reduceBEq, wkR, Nat.reduceEqDiff, ↓reduceIte, wrR, next64 h5 (by omega), hok, h2, Bool.true_and, Bool.false_and]
            · refine ⟨⟨_, rfl, .refl _⟩, rfl, ⟨_, rfl, ?_⟩, rfl, trivial⟩
              rw [ratsO, ratsO, ← hset2]; exact .refl _
      simp -implicitDefEqProofs only [go_sem, evR, ints, rows, rat, rats, decide_eq_false (show ¬ (e : Int) < (r.length : Int) by omega)]
      refine he5 _ _ ?_
      simp -implicitDefEqProofs only [go_sem, evR, ints, rows, rat, rats]
      have hel : e = r.length := by omega
      have hdet := detN_abs hs
      have hdet2 := detB_le k2
      refine CallW.pure (impl_determinant_ok r.length k2 b hs) [] rfl Try.call103 ?_ (by first | trivial | simp [T.noSh, T.noShL, rat]) rfl ?_
      · simp -implicitDefEqProofs only [agR, Nat.reduceLeDiff, Nat.reduceSub, vaR, go_sem, ints, rows, rat, rats, ratsO, rtR, intsO, rowsO]
      simp -implicitDefEqProofs only [go_sem, evR, ints, rows, rat, rats]
      refine CallW.pure (impl_signedRatio_ok (detN r.length b) dd (by omega) (by omega) hd0 (by omega) (by omega)) [] rfl Try.call102 ?_ (by first | trivial | simp [T.noSh, T.noShL, rat]) rfl ?_
      · simp -implicitDefEqProofs only [agR, Nat.reduceLeDiff, Nat.reduceSub, vaR, go_sem, ints, rows, rat, rats, ratsO, rtR, intsO, rowsO]
      simp -implicitDefEqProofs only [go_sem, evR, ints, rows, rat, rats]
      subst hel
      have hX' : kernX m r c = ⟨mixI m.length r (rsum (tr a r.length)) dd r.length, mixI m0.length c (rsum a) dd r.length, (sgR (detN r.length b) dd).1⟩ := by rw [hX, hmw]; simp only [mixK, k3]
      have hXl : (kernX m r c).r.length = m.length ∧ (kernX m r c).c.length = m0.length := by rw [hX']; exact ⟨mixI_length _ _ _ _ _, mixI_length _ _ _ _ _⟩
      rw [show mixI m.length r (rsum (tr a r.length)) dd r.length = (kernX m r c).r by rw [hX'], show mixI m0.length c (rsum a) dd r.length = (kernX m r c).c by rw [hX'], show (sgR (detN r.length b) dd).1 = (kernX m r c).v by rw [hX']]
      clear hX hX'
      generalize kernX m r c = X at *
      generalize okI (rsum (tr a r.length)) (rsum a) dd r.length = o1 at *
      generalize ((sgR (detN r.length b) dd).2 == 0) = o2 at *
      refine ⟨_, Weak.trans (Weak.of [(0, .t (rows m)), (6, .own 6), (15, .own 15), (19, .t (.b o1)), (20, .t (.b o2))] [(6, .box [.v (.slice none 0 0), .v (.slice none 0 0), .v (.int .i64 0), .v (.int .i64 0)]), (15, .box [ratsO X.r, ratsO X.c, .i X.v.1, .i X.v.2])] [some 6, some 15] (by simp) (by simp) ?_ ?_) (Weak.trans (Weak.open 15 0 500 rfl rfl rfl (by decide) rfl) (Weak.open 15 1 501 rfl rfl rfl (by decide) rfl)), ?_⟩
      · simp -implicitDefEqProofs only [ints, rows, Nat.reduceBEq, wkR, Nat.reduceEqDiff, ↓reduceIte, wrR]
      · exact ⟨⟨_, rfl, .refl _⟩, rfl, ⟨_, rfl, .refl _⟩, rfl, trivial⟩
      have his := impl_isSolution_ok m hm X (by omega) (by omega)
      rw [solT] at his
      rw [hO] at hT
      have hlk : List.lookup 0 [(1, 501), (0, 500)] = some 500 ∧ List.lookup 1 [(1, 501), (0, 500)] = some 501 ∧ List.lookup 2 [(1, 501), (0, 500)] = none ∧ List.lookup 3 [(1, 501), (0, 500)] = none := ⟨rfl, rfl, rfl, rfl⟩
      obtain ⟨lk1, lk2, lk3, lk4⟩ := hlk
      cases o1
      · simp -implicitDefEqProofs only [go_sem, evR, ints, rows, rat, rats, lk1, lk2, lk3, lk4]
        rw [hT]; rfl
      cases o2
      · simp -implicitDefEqProofs only [go_sem, evR, ints, rows, rat, rats, lk1, lk2, lk3, lk4]
        rw [hT]; rfl
      simp -implicitDefEqProofs only [go_sem, evR, ints, rows, rat, rats, lk1, lk2, lk3, lk4]
      refine CallV.pure his [500, 501] rfl Try.call74 (fun e R' hR => ?_) (by first | trivial | simp [T.noSh, T.noShL, rat]) (fun _ => rfl) ?_
      · have hq500 := (hR 500).resolve_left (by simp -implicitDefEqProofs only [go_sem, evR, ints, rows, rat, rats, not_false_eq_true]); have hq501 := (hR 501).resolve_left (by simp -implicitDefEqProofs only [go_sem, evR, ints, rows, rat, rats, not_false_eq_true])
        simp -implicitDefEqProofs only [go_sem, evR, ints, rows, rat, rats] at hq500 hq501
        simp -implicitDefEqProofs only [agR, Nat.reduceLeDiff, Nat.reduceSub, vaR, go_sem, ints, rows, rat, rats, ratsO, rtR, intsO, rowsO, hq500, hq501]
      simp -implicitDefEqProofs only [go_sem, evR, ints, rows, rat, rats, lk1, lk2, lk3, lk4]
      rw [hT]; rfl
end
end Go.Ab

/- A kernel's solution: all ratios fit (no program in sight). -/
set_option linter.unusedSimpArgs false
set_option linter.unusedVariables false
namespace Go.Ab
open Go.Proofs
theorem comb_nodup : ∀ (d k : Nat) (lo : Int), ∀ c ∈ comb d k lo, c.Nodup
  | 0, 0, lo, c, h => by simp [comb] at h; rw [h]; exact List.nodup_nil
  | d + 1, 0, lo, c, h => by simp [comb] at h; rw [h]; exact List.nodup_nil
  | 0, k + 1, lo, c, h => by simp [comb] at h
  | d + 1, k + 1, lo, c, h => by
    rw [comb, List.mem_append] at h
    rcases h with h | h
    · obtain ⟨t, ht, rfl⟩ := List.mem_map.1 h
      exact List.nodup_cons.2 ⟨fun hx => by have := comb_bound _ _ _ t ht lo hx; omega, comb_nodup d k (lo + 1) t ht⟩
    · exact comb_nodup d (k + 1) (lo + 1) c h
theorem sgR_bad {n d : Int} (h : (sgR n d).2 ≠ 0) : (sgR n d).1 = (0, 0) := by
  unfold sgR at h ⊢
  split at h <;> rename_i hd <;> simp only [hd, if_true, if_false] <;> unfold redR at h ⊢ <;> split at h <;> rename_i h2 <;> simp_all
theorem mixI_keep {n : Nat} {at' parts : List Int} {d : Int} : ∀ (j i : Nat), i ≤ j → j ≤ at'.length → at'.Nodup → (∀ x ∈ at', 0 ≤ x) → (mixI n at' parts d j)[(at'.getD i 0).toNat]? = (mixI n at' parts d (i + 1))[(at'.getD i 0).toNat]? ∨ j = i
  | 0, i, h, _, _, _ => .inr (by omega)
  | j + 1, i, h, hj, hn, h0 => by
    rcases Nat.lt_or_ge i (j + 1) with h1 | h1
    · left
      rcases Nat.lt_or_ge i j with h2 | h2
      · rcases mixI_keep (n := n) (parts := parts) (d := d) j i (by omega) (by omega) hn h0 with h3 | h3
        · rw [← h3]
          have hne : (at'.getD j 0).toNat ≠ (at'.getD i 0).toNat := by
            have a1 : at'[j]? = some (at'.getD j 0) := by rw [List.getD_eq_getElem?_getD, List.getElem?_eq_getElem (by omega)]; rfl
            have a2 : at'[i]? = some (at'.getD i 0) := by rw [List.getD_eq_getElem?_getD, List.getElem?_eq_getElem (by omega)]; rfl
            have b1 := h0 _ (List.mem_of_getElem? a1)
            have b2 := h0 _ (List.mem_of_getElem? a2)
            intro he
            have he2 : at'.getD j 0 = at'.getD i 0 := by omega
            rw [he2, ← a2] at a1
            have := (List.getElem?_inj (by omega) hn).1 a1
            omega
          rw [mixI, List.getElem?_set_ne hne]
        · omega
      · rw [show i = j by omega]
    · exact .inr (by omega)
theorem mix_rat {p : List (Int × Int)} {n : Nat} (h : isMixB p n = true) {i : Nat} {x : Int × Int} (hx : p[i]? = some x) : isRat x = true := (mix_spec h).2.1 x (List.mem_of_getElem? hx)
theorem mixK_ok {n : Nat} {at' parts : List Int} {d : Int} (hn : at'.Nodup) (h0 : ∀ x ∈ at', 0 ≤ x ∧ x < n) (h : isMixB (mixK n at' parts d) n = true) {i : Nat} (hi : i < at'.length) : (sgR (parts.getD i 0) d).2 = 0 := by
  apply Decidable.byContradiction
  intro hc
  have a2 : at'[i]? = some (at'.getD i 0) := by rw [List.getD_eq_getElem?_getD, List.getElem?_eq_getElem hi]; rfl
  have b2 := h0 _ (List.mem_of_getElem? a2)
  have hs : (mixI n at' parts d (i + 1))[(at'.getD i 0).toNat]? = some (0, 0) := by
    rw [mixI, sgR_bad hc, List.getElem?_set_self (by rw [mixI_length]; omega)]
  rcases mixI_keep (n := n) (parts := parts) (d := d) at'.length i (by omega) (Nat.le_refl _) hn (fun x hx => (h0 x hx).1) with h1 | h1
  · rw [hs] at h1
    have := mix_rat h h1
    exact absurd this (by decide)
  · omega
theorem okI_of {p q : List Int} {d : Int} : ∀ (k : Nat), (∀ i < k, (sgR (p.getD i 0) d).2 = 0 ∧ (sgR (q.getD i 0) d).2 = 0) → okI p q d k = true
  | 0, _ => rfl
  | k + 1, h => by
    have h1 := h k (by omega)
    rw [okI, okI_of k (fun i hi => h i (by omega)), h1.1, h1.2]; rfl
theorem kOK_of {m : List (List Int)} {r c : List Int} (hix : kerIx m r c) (hr : r.Nodup) (hc : c.Nodup) (h : isSolB m (kernX m r c) = true) : kOK m r c = true := by
  obtain ⟨k1, k2, k3, k4, k5⟩ := hix
  unfold isSolB at h
  simp only [Bool.and_eq_true] at h
  have hr1 : isMixB (mixK m.length r (rsum (tr (kA m r c) r.length)) (kD m r c)) m.length = true := h.1.1.1.1.1.1
  have hc1 : isMixB (mixK (wid m) c (rsum (kA m r c)) (kD m r c)) (wid m) = true := h.1.1.1.1.1.2
  have hv : isRat (sgR (detN r.length (kB m r c)) (kD m r c)).1 = true := h.1.1.1.1.2
  have h1 : okI (rsum (tr (kA m r c) r.length)) (rsum (kA m r c)) (kD m r c) r.length = true := okI_of _ fun i hi => ⟨mixK_ok hr k4 hr1 hi, mixK_ok hc k5 hc1 (by omega)⟩
  have h2 : (sgR (detN r.length (kB m r c)) (kD m r c)).2 = 0 := by
    apply Decidable.byContradiction
    intro h2
    rw [sgR_bad h2] at hv
    exact absurd hv (by decide)
  rw [kOK, h1, h2]; rfl
end Go.Ab

/- Contracts: the first kernel (the other side). -/
set_option linter.unusedSimpArgs false
set_option linter.unusedVariables false
namespace Go.Ab
open Go.Proofs
section
attribute [-go_sem] load1C load1V fldC lenC idxC loadNV
def firstO (m : List (List Int)) : T := match firstF m with
  | some (r, c) => .tup [solO (kernX m r c), intsO r, intsO c]
  | none => .tup [zeroT, .v (.slice none 0 0), .v (.slice none 0 0)]
def zbox : T := .box [.v (.slice none 0 0), .v (.slice none 0 0), .v (.int .i64 0), .v (.int .i64 0)]
def nbox : T := .box [.v (.slice none 0 0)]
theorem rnd3_normal {n : Nat} {Sm Sn S' : St} {NI : Prop} {srcs : List Nat} {Q : Exit → St → Prop} {a b c : T} (h1 : S'.roots 1000000000 = .live a []) (h2 : S'.roots 1000000001 = .live b []) (h3 : S'.roots 1000000002 = .live c []) (hns : T.noShL [a, b, c]) (hNI : NI) (hw : Weak n (setS Sm srcs [a, b, c]) Sn) : rndQ n Sm Sn NI srcs 3 Q .normal S' := by
  simp only [rndQ, routW, h1, h2, h3]; exact ⟨hns, hNI, hw⟩
theorem rnd3_ret {n : Nat} {Sm Sn S' : St} {NI : Prop} {srcs : List Nat} {Q : Exit → St → Prop} {a b c : T} (h1 : S'.roots 1000000000 = .live a []) (h2 : S'.roots 1000000001 = .live b []) (h3 : S'.roots 1000000002 = .live c []) (hns : T.noShL [a, b, c]) (hq : Q .ret (setS Sm srcs [a, b, c])) : rndQ n Sm Sn NI srcs 3 Q .ret S' := by
  simp only [rndQ, routW, h1, h2, h3]; exact ⟨hns, hq⟩
set_option maxHeartbeats 4000000 in
set_option maxRecDepth 20000 in
theorem impl_firstKernel_ok (m : List (List Int)) (hm : isMat m = true) : Fun Try.prog 55 [] [.t (rows m)] fun o res => o = [] ∧ res = firstO m := by
  obtain ⟨m1, m2, m3, m4, m5, m6⟩ := isMat_spec hm
  obtain ⟨m0, hm0⟩ : ∃ m0, m[0]? = some m0 := ⟨_, List.getElem?_eq_getElem (by omega)⟩
  have hmw : wid m = m0.length := by rw [wid, List.headD_eq_head?_getD, List.head?_eq_getElem?, hm0]; rfl
  have hw1 : 1 ≤ m0.length := by rw [← hmw]; exact m3
  have hw4 : m0.length ≤ 4 := by rw [← hmw]; exact m4
  refine fun_impl_firstKernel_h (by simp) ?_
  simp -implicitDefEqProofs only [go_sem, evR, ints, rows, rat, rats, c_impl_firstKernel_h]
  refine SemC.loopR (σ := Nat) (fun k => St.of [(1, .own 1), (2, .own 2), (3, .own 3), (4, .own 4), (5, .own 77)] [(1, .box [rows m]), (2, zbox), (3, nbox), (4, nbox), (77, .box [.i (k + 1 : Nat)])]) (fun k => k ≤ 4 ∧ noneI m k) (fun k => 4 - k) 0 (Weak.of _ _ [some 1, some 2, some 3, some 4, some 5] (by simp) (by simp) ?_ ?_) ⟨by omega, fun k' hk => by omega⟩ fun k hk R hn hr' he => ?_
  · simp -implicitDefEqProofs only [ints, rows, Nat.reduceBEq, wkR, Nat.reduceEqDiff, ↓reduceIte, wrR]
  · exact ⟨⟨_, rfl, .refl _⟩, rfl, ⟨_, rfl, .refl _⟩, rfl, ⟨_, rfl, .refl _⟩, rfl, ⟨_, rfl, .refl _⟩, rfl, ⟨_, rfl, .refl _⟩, rfl, trivial⟩
  obtain ⟨hk4, hkI⟩ := hk
  rcases Nat.lt_or_ge k (min m.length m0.length) with h9 | h9
  · have hmm : ((k + 1 : Nat) : Int) ≤ min (m.length : Int) (m0.length : Int) := by omega
    simp -implicitDefEqProofs only [go_sem, evR, ints, rows, rat, rats, hm0, decide_eq_true hmm]
    refine ⟨by omega, by omega, ?_⟩
    refine CallW.res (impl_choices_ok m.length (k + 1 : Nat)) [] rfl Try.call77 ?_ (.inl rfl) ?_
    · simp -implicitDefEqProofs only [agR, Nat.reduceLeDiff, Nat.reduceSub, vaR, go_sem, ints, rows, rat, rats, ratsO, rtR, intsO, rowsO]
    simp -implicitDefEqProofs only [clR, Nat.reduceLeDiff, go_sem, evR, rat]
    have hit := choices_iter m.length (k + 1) (by omega) (by omega) (by omega)
    have hit2 := choices_iter m0.length (k + 1) (by omega) (by omega) (by omega)
    refine SemC.range Try.call98 hit (fun _ => St.of [(1, .own 1), (2, .own 2), (3, .own 3), (4, .own 4), (5, .own 77), (24, .t (.fn 98 [.pin [.i (k + 1 : Nat)] 0, .pin [.i m.length] 0]))] [(1, .box [rows m]), (2, zbox), (3, nbox), (4, nbox), (77, .box [.i (k + 1 : Nat)])]) (fun i => noneR m (k + 1) i) (fun r hr => by simp at hr) [2, 3, 4] [1, 77] (fun _ => [zbox, nbox, nbox]) (fun _ => [(1, .t (.pin [rows m] 0)), (2, .own 1000000000), (3, .own 1000000001), (4, .own 1000000002), (5, .t (.pin [.i (k + 1 : Nat)] 0))]) (Weak.of _ _ [some 1, some 2, some 3, some 4, some 77] (by simp) (by simp) ?_ ?_) ?_ (by decide) (by decide) ?_ (by decide) ?_ ?_ ?_
    · simp -implicitDefEqProofs only [ints, rows, Nat.reduceBEq, wkR, Nat.reduceEqDiff, ↓reduceIte, wrR]
    · exact ⟨⟨_, rfl, .refl _⟩, rfl, ⟨_, rfl, .refl _⟩, rfl, ⟨_, rfl, .refl _⟩, rfl, ⟨_, rfl, .refl _⟩, rfl, ⟨_, rfl, .refl _⟩, rfl, trivial⟩
    · exact fun i _ => rfl
    · exact fun i _ => ⟨rfl, rfl, rfl, trivial⟩
    · intro i _ s hs
      simp only [List.mem_cons, List.not_mem_nil, or_false] at hs
      rcases hs with rfl | rfl | rfl | rfl | rfl
      all_goals
        refine ⟨by simp, ?_⟩
        simp -implicitDefEqProofs only [agR, Nat.reduceLeDiff, Nat.reduceSub, vaR, go_sem, ints, rows, rat, rats, ratsO, rtR, intsO, rowsO, T.toSh, T.toShL]
        trace_state
    · intro i h hI
      rw [List.length_map] at h
      obtain ⟨r, hr⟩ : ∃ r, (comb m.length (k + 1) 0)[i]? = some r := ⟨_, List.getElem?_eq_getElem h⟩
      have hy : (List.map ints (comb m.length (k + 1) 0))[i]'(by rw [List.length_map]; exact h) = ints r := by
        rw [List.getElem_map]; congr 1; exact (List.getElem?_eq_some_iff.1 hr).2
      rw [hy]
      generalize hQ2 : rndQ _ _ _ _ _ _ _ = Q2
      simp -implicitDefEqProofs only [go_sem, evR, ints, rows, rat, rats, hm0]
      refine ⟨by omega, by omega, ?_⟩
      refine CallC.res (impl_choices_ok m0.length (k + 1 : Nat)) [] rfl Try.call77 (fun e R' hR => ?_) (.inl rfl) ?_
      · simp -implicitDefEqProofs only [agR, Nat.reduceLeDiff, Nat.reduceSub, vaR, go_sem, ints, rows, rat, rats, ratsO, rtR, intsO, rowsO]
      simp -implicitDefEqProofs only [clR, Nat.reduceLeDiff, go_sem, evR, rat]
      refine SemC.range Try.call98 hit2 (fun _ => St.of [(1, .t (.pin [rows m] 0)), (2, .own 1000000000), (3, .own 1000000001), (4, .own 1000000002), (5, .t (.pin [.i (k + 1 : Nat)] 0)), (6, .own 6), (31, .t (.fn 98 [.pin [.i (k + 1 : Nat)] 0, .pin [.i m0.length] 0]))] [(1000000000, zbox), (1000000001, nbox), (1000000002, nbox), (6, .box [ints r])]) (fun j => noneC m (k + 1) r j) (fun r hr => by simp at hr) [1000000000, 1000000001, 1000000002] [6] (fun _ => [zbox, nbox, nbox]) (fun _ => [(1, .t (.pin [rows m] 0)), (2, .own 1000000000), (3, .own 1000000001), (4, .own 1000000002), (6, .t (.pin [ints r] 0))]) (Weak.of _ _ [some 1000000000, some 1000000001, some 1000000002, some 6] (by simp) (by simp) ?_ ?_) ?_ (by decide) (by decide) ?_ (by decide) ?_ ?_ ?_
      · simp -implicitDefEqProofs only [ints, rows, Nat.reduceBEq, wkR, Nat.reduceEqDiff, ↓reduceIte, wrR]
      · exact ⟨⟨_, rfl, .refl _⟩, rfl, ⟨_, rfl, .refl _⟩, rfl, ⟨_, rfl, .refl _⟩, rfl, ⟨_, rfl, .refl _⟩, rfl, trivial⟩
      · exact fun i _ => rfl
      · exact fun i _ => ⟨rfl, rfl, rfl, trivial⟩
      · intro i _ s hs
        simp only [List.mem_cons, List.not_mem_nil, or_false] at hs
        rcases hs with rfl | rfl | rfl | rfl | rfl
        all_goals
          refine ⟨by simp, ?_⟩
          simp -implicitDefEqProofs only [agR, Nat.reduceLeDiff, Nat.reduceSub, vaR, go_sem, ints, rows, rat, rats, ratsO, rtR, intsO, rowsO, T.toSh, T.toShL]
          trace_state
      · intro j hj hJ
        rw [List.length_map] at hj
        obtain ⟨c, hc⟩ : ∃ c, (comb m0.length (k + 1) 0)[j]? = some c := ⟨_, List.getElem?_eq_getElem hj⟩
        have hy : (List.map ints (comb m0.length (k + 1) 0))[j]'(by rw [List.length_map]; exact hj) = ints c := by
          rw [List.getElem_map]; congr 1; exact (List.getElem?_eq_some_iff.1 hc).2
        rw [hy]
        have hix : kerIx m r c := kerIx_of hm (k := k + 1) (by omega) (by omega) (List.mem_of_getElem? hr) (by rw [hmw]; exact List.mem_of_getElem? hc)
        generalize hQ3 : rndQ _ _ _ _ _ _ _ = Q3
        simp -implicitDefEqProofs only [go_sem, evR, ints, rows, rat, rats]
        have hkr := comb_nodup _ _ _ r (List.mem_of_getElem? hr)
        have hkc := comb_nodup _ _ _ c (List.mem_of_getElem? hc)
        have hks := impl_kernelSolution_ok m r c hm hix
        by_cases hd : kD m r c = 0
        · rw [kerSolT, if_pos hd] at hks
          refine CallW.res hks [] rfl Try.call78 ?_ (.inl rfl) ?_
          · simp -implicitDefEqProofs only [agR, Nat.reduceLeDiff, Nat.reduceSub, vaR, go_sem, ints, rows, rat, rats, ratsO, rtR, intsO, rowsO]
          simp -implicitDefEqProofs only [clR, Nat.reduceLeDiff, go_sem, evR, rat, zeroT]
          rw [← hQ3]
          refine rnd3_normal rfl rfl rfl (by simp [zbox, nbox, T.noShL, T.noSh]) (noneC_succ hJ (by rw [hmw]; exact hc) (by simp [hitB, hd])) (Weak.of _ _ [some 1000000000, some 1000000001, some 1000000002, some 6] (by simp) (by simp) ?_ ?_)
          · simp -implicitDefEqProofs only [ints, rows, Nat.reduceBEq, wkR, Nat.reduceEqDiff, ↓reduceIte, wrR, setS, St.of, mkEnv, mkRoots]
          · exact ⟨⟨_, rfl, .refl _⟩, rfl, ⟨_, rfl, .refl _⟩, rfl, ⟨_, rfl, .refl _⟩, rfl, ⟨_, rfl, .refl _⟩, rfl, trivial⟩
        · have hb : (kOK m r c && isSolB m (kernX m r c)) = isSolB m (kernX m r c) := by
            cases hB : isSolB m (kernX m r c)
            · simp
            · rw [kOK_of hix hkr hkc hB]; rfl
          rw [kerSolT, if_neg hd, hb] at hks
          refine CallW.res hks [] rfl Try.call78 ?_ (.inl rfl) ?_
          · simp -implicitDefEqProofs only [agR, Nat.reduceLeDiff, Nat.reduceSub, vaR, go_sem, ints, rows, rat, rats, ratsO, rtR, intsO, rowsO]
          simp -implicitDefEqProofs only [clR, Nat.reduceLeDiff, go_sem, evR, rat, solO]
          have hlk : List.lookup 0 [(1, 501), (0, 500)] = some 500 ∧ List.lookup 1 [(1, 501), (0, 500)] = some 501 ∧ List.lookup 2 [(1, 501), (0, 500)] = none ∧ List.lookup 3 [(1, 501), (0, 500)] = none := ⟨rfl, rfl, rfl, rfl⟩
          obtain ⟨lk1, lk2, lk3, lk4⟩ := hlk
          refine ⟨fun hB => ?_, fun hB => ?_⟩
          · refine ⟨_, Weak.trans (Weak.open 8 0 500 rfl rfl rfl (by decide) rfl) (Weak.open 8 1 501 rfl rfl rfl (by decide) rfl), ?_⟩
            simp -implicitDefEqProofs only [go_sem, evR, ints, rows, rat, rats, lk1, lk2, lk3, lk4, zbox, nbox]
            refine CallC.res (impl_indicesOf_ok r (by have := hix.2.1; omega)) [] rfl Try.call79 (fun e R' hR => ?_) (.inl rfl) ?_
            · simp -implicitDefEqProofs only [agR, Nat.reduceLeDiff, Nat.reduceSub, vaR, go_sem, ints, rows, rat, rats, ratsO, rtR, intsO, rowsO]
            simp -implicitDefEqProofs only [clR, Nat.reduceLeDiff, go_sem, evR, rat]
            refine CallC.res (impl_indicesOf_ok c (by have := hix.2.1; have := hix.2.2.1; omega)) [] rfl Try.call79 (fun e R' hR => ?_) (.inl rfl) ?_
            · simp -implicitDefEqProofs only [agR, Nat.reduceLeDiff, Nat.reduceSub, vaR, go_sem, ints, rows, rat, rats, ratsO, rtR, intsO, rowsO]
            simp -implicitDefEqProofs only [clR, Nat.reduceLeDiff, go_sem, evR, rat]
            rw [← hQ3]
            refine rnd3_ret rfl rfl rfl (by simp [ratsO_noSh, intsO_noSh, T.noShL, T.noSh]) ?_
            simp -implicitDefEqProofs only [go_sem, evR, ints, rows, rat, rats]
            rw [← hQ2]
            refine rnd3_ret rfl rfl rfl (by simp [ratsO_noSh, intsO_noSh, T.noShL, T.noSh]) ?_
            have hff := firstF_some (m := m) (k := k) (r := r) (c := c) (by rw [hmw]; exact h9) hkI hr hI (by rw [hmw]; exact hc) hJ (by simp [hitB, hB, hd])
            simp -implicitDefEqProofs only [go_sem, evR, ints, rows, rat, rats]
            refine hr' _ ?_
            simp -implicitDefEqProofs only [go_sem, evR, ints, rows, rat, rats, setS, updS, rootOf]
            rw [firstO, hff]; rfl
          · rw [← hQ3]
            refine rnd3_normal rfl rfl rfl (by simp [zbox, nbox, T.noShL, T.noSh]) (noneC_succ hJ (by rw [hmw]; exact hc) (by simp [hitB, hB])) (Weak.of _ _ [some 1000000000, some 1000000001, some 1000000002, some 6] (by simp) (by simp) ?_ ?_)
            · simp -implicitDefEqProofs only [ints, rows, Nat.reduceBEq, wkR, Nat.reduceEqDiff, ↓reduceIte, wrR, setS, St.of, mkEnv, mkRoots]
            · exact ⟨⟨_, rfl, .refl _⟩, rfl, ⟨_, rfl, .refl _⟩, rfl, ⟨_, rfl, .refl _⟩, rfl, ⟨_, rfl, .refl _⟩, rfl, trivial⟩
      · intro hJ
        rw [List.length_map] at hJ
        simp -implicitDefEqProofs only [go_sem, evR, ints, rows, rat, rats]
        rw [← hQ2]
        refine rnd3_normal rfl rfl rfl (by simp [zbox, nbox, T.noShL, T.noSh]) (noneR_succ hI hr (by rw [hmw]; exact Nat.le_refl _) hJ) (Weak.of _ _ [some 1, some 2, some 3, some 4, some 77] (by simp) (by simp) ?_ ?_)
        · simp -implicitDefEqProofs only [ints, rows, Nat.reduceBEq, wkR, Nat.reduceEqDiff, ↓reduceIte, wrR, setS, St.of, mkEnv, mkRoots]
        · exact ⟨⟨_, rfl, .refl _⟩, rfl, ⟨_, rfl, .refl _⟩, rfl, ⟨_, rfl, .refl _⟩, rfl, ⟨_, rfl, .refl _⟩, rfl, ⟨_, rfl, .refl _⟩, rfl, trivial⟩
    · intro hI
      rw [List.length_map] at hI
      simp -implicitDefEqProofs only [go_sem, evR, ints, rows, rat, rats]
      have hk2 : IntKind.i64.wrap (((k + 1 : Nat) : Int) + 1) = ((k + 1 + 1 : Nat) : Int) := by rw [wrap64 (by omega) (by omega)]; omega
      rw [hk2]
      refine hn _ (k + 1) (Weak.of _ _ [some 1, some 2, some 3, some 4, some 5] (by simp) (by simp) ?_ ?_) ⟨by omega, noneI_succ (i := (comb m.length (k + 1) 0).length) hkI (Nat.le_refl _) hI⟩ (by omega)
      · simp -implicitDefEqProofs only [ints, rows, Nat.reduceBEq, wkR, Nat.reduceEqDiff, ↓reduceIte, wrR]
      · exact ⟨⟨_, rfl, .refl _⟩, rfl, ⟨_, rfl, .refl _⟩, rfl, ⟨_, rfl, .refl _⟩, rfl, ⟨_, rfl, .refl _⟩, rfl, ⟨_, rfl, .refl _⟩, rfl, trivial⟩
  · have hmm : ¬ ((k + 1 : Nat) : Int) ≤ min (m.length : Int) (m0.length : Int) := by omega
    simp -implicitDefEqProofs only [go_sem, evR, ints, rows, rat, rats, hm0, decide_eq_false hmm]
    refine ⟨by omega, by omega, he _ _ ?_⟩
    simp -implicitDefEqProofs only [go_sem, evR, ints, rows, rat, rats, zbox, nbox]
    rw [firstO, firstF_none hkI (by omega)]; rfl
end
end Go.Ab

/- Contracts: solutions of matrices, both sides. -/
set_option linter.unusedSimpArgs false
set_option linter.unusedVariables false
namespace Go.Ab
open Go.Proofs
theorem CallW.weak {P : Program} {n : Nat} {d : Option Nat} {f : Operand} {ops : List Operand} {K : St → Prop} {S S' : St} (h : Weak n S S') (hk : CallW P n d f ops K S') : CallW P n d f ops K S := fun o ts h1 h2 h3 X w0 O0 a w hs fp g Q => by
  obtain ⟨hs', fp', g'⟩ := h X w0 O0 a w hs fp g
  exact hk o ts h1 h2 h3 X w0 O0 a w hs' fp' g' Q
def kerSol (m : List (List Int)) : Sol := match firstF m with
  | some (r, c) => kernX m r c
  | none => ⟨[], [], (0, 0)⟩
def kerR (m : List (List Int)) : List Int := match firstF m with
  | some (r, _) => r
  | none => []
def kerC (m : List (List Int)) : List Int := match firstF m with
  | some (_, c) => c
  | none => []
theorem Le.agg4 {a a' b b' c d : T} (h1 : Le a a') (h2 : Le b b') : Le (.agg [a, b, c, d]) (.agg [a', b', c, d]) :=
  .agg rfl fun i h h' => match i, h, h' with
    | 0, _, _ => h1
    | 1, _, _ => h2
    | 2, _, _ => .refl _
    | 3, _, _ => .refl _
    | _ + 4, h, _ => absurd h (by simp)
theorem zeroO : Le zeroT (solO ⟨[], [], (0, 0)⟩) := Le.agg4 (.nilArr 2) (.nilArr 2)
theorem zeroS : Le zeroT (solT ⟨[], [], (0, 0)⟩) := Le.agg4 (.nilSh 2) (.nilSh 2)
theorem impl_firstKernel_le (m : List (List Int)) (hm : isMat m = true) : Fun Try.prog 55 [] [.t (rows m)] fun o res => o = [] ∧ res = .tup [solO (kerSol m), intsO (kerR m), intsO (kerC m)] := by
  refine Fun.le (impl_firstKernel_ok m hm) ?_
  rintro o r ⟨rfl, rfl⟩
  refine ⟨_, ?_, rfl, rfl⟩
  unfold firstO kerSol kerR kerC
  cases firstF m with
  | none => exact .tup3 zeroO (.nilArr 1) (.nilArr 1)
  | some x => exact .refl _
theorem spec_l27First_le (m : List (List Int)) (hm : isMat m = true) : Fun Try.prog 56 [] [.t (rows m)] fun o res => o = [] ∧ res = .tup [ints (kerR m), ints (kerC m), solT (kerSol m)] := by
  refine Fun.le (spec_l27First_ok m hm) ?_
  rintro o r ⟨rfl, rfl⟩
  refine ⟨_, ?_, rfl, rfl⟩
  unfold firstT kerSol kerR kerC
  cases firstF m with
  | none => exact .tup3 (.nilSh 1) (.nilSh 1) zeroS
  | some x => exact .refl _
def smR (m : List (List Int)) : Sol × Int := if isMat m then (kerSol m, 0) else (⟨[], [], (0, 0)⟩, 1)
def vmR (m : List (List Int)) : (Int × Int) × Int := if isMat m then ((kerSol m).v, 0) else ((0, 0), 1)
def matC (m : List (List Int)) : Int := if isMat m then 0 else 1
section
attribute [-go_sem] load1C load1V fldC lenC idxC loadNV
theorem impl_ValueOfMatrix_ok (m : List (List Int)) (hml : (m.length : Int) ≤ 1000000000000) (hr : ∀ r ∈ m, r.length ≤ 1000000000000) : Pure Try.prog 17 [rows m] (redT (vmR m)) := by
  refine fun_impl_ValueOfMatrix (by simp) ?_
  simp -implicitDefEqProofs only [go_sem, evR, ints, rows, rat, rats, c_impl_ValueOfMatrix]
  refine CallW.pure (impl_IsMatrix_ok m hml hr) [] rfl Try.call38 ?_ (by first | trivial | simp [T.noSh, T.noShL, rat]) rfl ?_
  · simp -implicitDefEqProofs only [agR, Nat.reduceLeDiff, Nat.reduceSub, vaR, go_sem, ints, rows, rat, rats, ratsO, rtR, intsO, rowsO]
  simp -implicitDefEqProofs only [go_sem, evR, ints, rows, rat, rats]
  refine ⟨fun h => ?_, fun h => ?_⟩
  · have h : isMat m = false := by simpa using h
    rw [vmR, h]; rfl
  · have h : isMat m = true := by simpa using h
    refine CallW.res (impl_firstKernel_le m h) [] rfl Try.call55 ?_ (.inl rfl) ?_
    · simp -implicitDefEqProofs only [agR, Nat.reduceLeDiff, Nat.reduceSub, vaR, go_sem, ints, rows, rat, rats, ratsO, rtR, intsO, rowsO]
    simp -implicitDefEqProofs only [clR, Nat.reduceLeDiff, go_sem, evR, rat, solO]
    rw [vmR, h]; rfl
theorem spec_SolveMatrix_ok (m : List (List Int)) : Fun Try.prog 25 [] [.t (rows m)] fun o res => o = [] ∧ res = .tup [solT (smR m).1, .i (matC m)] := by
  refine Fun.le (Q := fun o res => o = [] ∧ res = if isMat m then .tup [solT (kerSol m), .i 0] else .tup [zeroT, .i 1]) ?_ ?_
  · refine fun_spec_SolveMatrix (by simp) ?_
    simp -implicitDefEqProofs only [go_sem, evR, ints, rows, rat, rats, c_spec_SolveMatrix]
    refine CallW.pure (spec_IsMatrix_ok m) [] rfl Try.call39 ?_ (by first | trivial | simp [T.noSh, T.noShL, rat]) rfl ?_
    · simp -implicitDefEqProofs only [agR, Nat.reduceLeDiff, Nat.reduceSub, vaR, go_sem, ints, rows, rat, rats, ratsO, rtR, intsO, rowsO]
    simp -implicitDefEqProofs only [go_sem, evR, ints, rows, rat, rats]
    refine ⟨fun h => ?_, fun h => ?_⟩
    · have h : isMat m = false := by simpa using h
      rw [h]; rfl
    · have h : isMat m = true := by simpa using h
      refine CallW.res (spec_l27First_le m h) [] rfl Try.call56 ?_ (.inl rfl) ?_
      · simp -implicitDefEqProofs only [agR, Nat.reduceLeDiff, Nat.reduceSub, vaR, go_sem, ints, rows, rat, rats, ratsO, rtR, intsO, rowsO]
      simp -implicitDefEqProofs only [clR, Nat.reduceLeDiff, go_sem, evR, rat, solT, rats, ints]
      rw [h]; rfl
  · rintro o r ⟨rfl, rfl⟩
    refine ⟨_, ?_, rfl, rfl⟩
    rw [smR, matC]
    cases isMat m
    · exact .tup2 zeroS (.refl _)
    · exact .refl _
theorem spec_ValueOfMatrix_ok (m : List (List Int)) : Pure Try.prog 16 [rows m] (redT (vmR m)) := by
  refine fun_spec_ValueOfMatrix (by simp) ?_
  simp -implicitDefEqProofs only [go_sem, evR, ints, rows, rat, rats, c_spec_ValueOfMatrix]
  refine CallW.res (spec_SolveMatrix_ok m) [] rfl Try.call25 ?_ (.inl rfl) ?_
  · simp -implicitDefEqProofs only [agR, Nat.reduceLeDiff, Nat.reduceSub, vaR, go_sem, ints, rows, rat, rats, ratsO, rtR, intsO, rowsO]
  simp -implicitDefEqProofs only [clR, Nat.reduceLeDiff, go_sem, evR, rat, solT, rats]
  rw [vmR, smR, matC]; cases isMat m <;> rfl
end
end Go.Ab

/- Kernels of a flipped matrix (no program in sight). -/
set_option linter.unusedSimpArgs false
set_option linter.unusedVariables false
namespace Go.Ab
open Go.Proofs
def sgn (n : Nat) : Int := if n % 2 = 0 then 1 else -1
theorem sgn_cases (n : Nat) : sgn n = 1 ∨ sgn n = -1 := by unfold sgn; split <;> simp
theorem det_flip : ∀ {n : Nat}, n ≤ 4 → ∀ {m : List (List Int)}, sq n m → detN n (flipM m n n) = sgn n * detN n m
  | 0, _, m, hm => by simp [detN, sgn]
  | 1, _, m, hm => by
    obtain ⟨a, rfl⟩ := list_len.2.1 hm.1
    obtain ⟨a1, rfl⟩ := list_len.2.1 (hm.2 a (by simp)).1
    simp [detN, sumTo, sg, sgn, flipM, neg, colOf, without, List.range_succ]
  | 2, _, m, hm => by
    obtain ⟨a, b, rfl⟩ := list_len.2.2.1 hm.1
    obtain ⟨a1, a2, rfl⟩ := list_len.2.2.1 (hm.2 a (by simp)).1
    obtain ⟨b1, b2, rfl⟩ := list_len.2.2.1 (hm.2 b (by simp)).1
    simp [detN, sumTo, sg, sgn, flipM, neg, colOf, without, List.range_succ]; grind
  | 3, _, m, hm => by
    obtain ⟨a, b, c, rfl⟩ := list_len.2.2.2.1 hm.1
    obtain ⟨a1, a2, a3, rfl⟩ := list_len.2.2.2.1 (hm.2 a (by simp)).1
    obtain ⟨b1, b2, b3, rfl⟩ := list_len.2.2.2.1 (hm.2 b (by simp)).1
    obtain ⟨c1, c2, c3, rfl⟩ := list_len.2.2.2.1 (hm.2 c (by simp)).1
    clear hm
    simp [detN, sumTo, sg, sgn, flipM, neg, colOf, without, List.range_succ]; grind
  | 4, _, m, hm => by
    obtain ⟨a, b, c, d, rfl⟩ := list_len.2.2.2.2 hm.1
    obtain ⟨a1, a2, a3, a4, rfl⟩ := list_len.2.2.2.2 (hm.2 a (by simp)).1
    obtain ⟨b1, b2, b3, b4, rfl⟩ := list_len.2.2.2.2 (hm.2 b (by simp)).1
    obtain ⟨c1, c2, c3, c4, rfl⟩ := list_len.2.2.2.2 (hm.2 c (by simp)).1
    obtain ⟨d1, d2, d3, d4, rfl⟩ := list_len.2.2.2.2 (hm.2 d (by simp)).1
    clear hm
    simp [detN, sumTo, sg, sgn, flipM, neg, colOf, without, List.range_succ]; grind
  | n + 5, h, m, hm => absurd h (by omega)
theorem without_flip : ∀ {n : Nat}, n ≤ 4 → ∀ {m : List (List Int)}, sq n m → ∀ {i j : Nat}, i < n → j < n → without (flipM m n n) j i = flipM (without m i j) (n - 1) (n - 1)
  | 0, _, m, hm, i, j, hi, _ => absurd hi (by omega)
  | 1, _, m, hm, i, j, hi, hj => by
    obtain ⟨a, rfl⟩ := list_len.2.1 hm.1
    obtain ⟨a1, rfl⟩ := list_len.2.1 (hm.2 a (by simp)).1
    obtain rfl : i = 0 := by omega
    obtain rfl : j = 0 := by omega
    simp [flipM, neg, colOf, without, List.range_succ]
  | 2, _, m, hm, i, j, hi, hj => by
    obtain ⟨a, b, rfl⟩ := list_len.2.2.1 hm.1
    obtain ⟨a1, a2, rfl⟩ := list_len.2.2.1 (hm.2 a (by simp)).1
    obtain ⟨b1, b2, rfl⟩ := list_len.2.2.1 (hm.2 b (by simp)).1
    have hi' : i = 0 ∨ i = 1 := by omega
    have hj' : j = 0 ∨ j = 1 := by omega
    rcases hi' with rfl | rfl <;> rcases hj' with rfl | rfl <;> simp [flipM, neg, colOf, without, List.range_succ]
  | 3, _, m, hm, i, j, hi, hj => by
    obtain ⟨a, b, c, rfl⟩ := list_len.2.2.2.1 hm.1
    obtain ⟨a1, a2, a3, rfl⟩ := list_len.2.2.2.1 (hm.2 a (by simp)).1
    obtain ⟨b1, b2, b3, rfl⟩ := list_len.2.2.2.1 (hm.2 b (by simp)).1
    obtain ⟨c1, c2, c3, rfl⟩ := list_len.2.2.2.1 (hm.2 c (by simp)).1
    have hi' : i = 0 ∨ i = 1 ∨ i = 2 := by omega
    have hj' : j = 0 ∨ j = 1 ∨ j = 2 := by omega
    clear hi hj hm
    rcases hi' with rfl | rfl | rfl <;> rcases hj' with rfl | rfl | rfl <;> simp [flipM, neg, colOf, without, List.range_succ]
  | 4, _, m, hm, i, j, hi, hj => by
    obtain ⟨a, b, c, d, rfl⟩ := list_len.2.2.2.2 hm.1
    obtain ⟨a1, a2, a3, a4, rfl⟩ := list_len.2.2.2.2 (hm.2 a (by simp)).1
    obtain ⟨b1, b2, b3, b4, rfl⟩ := list_len.2.2.2.2 (hm.2 b (by simp)).1
    obtain ⟨c1, c2, c3, c4, rfl⟩ := list_len.2.2.2.2 (hm.2 c (by simp)).1
    obtain ⟨d1, d2, d3, d4, rfl⟩ := list_len.2.2.2.2 (hm.2 d (by simp)).1
    have hi' : i = 0 ∨ i = 1 ∨ i = 2 ∨ i = 3 := by omega
    have hj' : j = 0 ∨ j = 1 ∨ j = 2 ∨ j = 3 := by omega
    clear hi hj hm
    rcases hi' with rfl | rfl | rfl | rfl <;> rcases hj' with rfl | rfl | rfl | rfl <;> simp [flipM, neg, colOf, without, List.range_succ]
  | n + 5, h, m, hm, _, _, _, _ => absurd h (by omega)
theorem sum_scale (s : Int) (f : Nat → Int) : ∀ l : List Nat, (l.map fun j => s * f j).sum = s * (l.map f).sum
  | [] => by simp
  | a :: l => by simp [sum_scale s f l, Int.mul_add]
def adjE (n : Nat) (m : List (List Int)) (i j : Nat) : Int := sg (i + j) * detN (n - 1) (without m j i)
theorem adjM_eq (n : Nat) (m : List (List Int)) : adjM n m = (List.range n).map fun i => (List.range n).map fun j => adjE n m i j := rfl
theorem adjE_flip {n : Nat} (hn : n ≤ 4) {m : List (List Int)} (hm : sq n m) {i j : Nat} (hi : i < n) (hj : j < n) : adjE n (flipM m n n) i j = sgn (n - 1) * adjE n m j i := by
  obtain ⟨p, rfl⟩ : ∃ p, n = p + 1 := ⟨n - 1, by omega⟩
  have h1 := sq_without hm hi hj
  rw [adjE, without_flip hn hm hi hj, det_flip (by omega) (by simpa using h1), adjE, Nat.add_comm j i]
  grind
theorem rsum_adj (n : Nat) (m : List (List Int)) : rsum (adjM n m) = (List.range n).map fun i => ((List.range n).map fun j => adjE n m i j).sum := by
  rw [adjM_eq, rsum, List.map_map]; rfl
theorem rsum_tr_adj (n : Nat) (m : List (List Int)) : rsum (tr (adjM n m) n) = (List.range n).map fun j => ((List.range n).map fun i => adjE n m i j).sum := by
  rw [adjM_eq, tr, rsum, List.map_map]
  refine List.map_congr_left fun j hj => ?_
  rw [List.mem_range] at hj
  simp only [Function.comp_apply, colOf, List.map_map]
  congr 1
  refine List.map_congr_left fun i hi => ?_
  simp [hj]
theorem rsum_flip {n : Nat} (hn : n ≤ 4) {m : List (List Int)} (hm : sq n m) : rsum (adjM n (flipM m n n)) = (rsum (tr (adjM n m) n)).map (sgn (n - 1) * ·) := by
  rw [rsum_adj, rsum_tr_adj, List.map_map]
  refine List.map_congr_left fun i hi => ?_
  rw [List.mem_range] at hi
  simp only [Function.comp_apply]
  rw [← sum_scale]
  congr 1
  exact List.map_congr_left fun j hj => adjE_flip hn hm hi (List.mem_range.1 hj)
theorem rsum_tr_flip {n : Nat} (hn : n ≤ 4) {m : List (List Int)} (hm : sq n m) : rsum (tr (adjM n (flipM m n n)) n) = (rsum (adjM n m)).map (sgn (n - 1) * ·) := by
  rw [rsum_adj, rsum_tr_adj, List.map_map]
  refine List.map_congr_left fun i hi => ?_
  rw [List.mem_range] at hi
  simp only [Function.comp_apply]
  rw [← sum_scale]
  congr 1
  exact List.map_congr_left fun j hj => adjE_flip hn hm (List.mem_range.1 hj) hi
theorem sum_scaleL (s : Int) : ∀ l : List Int, (l.map (s * ·)).sum = s * l.sum
  | [] => by simp
  | a :: l => by simp [sum_scaleL s l, Int.mul_add]
theorem sum_swapN (f : Nat → Nat → Int) (l' : List Nat) : ∀ l : List Nat, (l.map fun i => (l'.map fun j => f i j).sum).sum = (l'.map fun j => (l.map fun i => f i j).sum).sum
  | [] => by
    induction l' with
    | nil => rfl
    | cons a l' ih => simpa using ih
  | a :: l => by
    have hadd : ∀ (g h : Nat → Int) (q : List Nat), (q.map fun j => g j + h j).sum = (q.map g).sum + (q.map h).sum := by
      intro g h q
      induction q with
      | nil => simp
      | cons b q ih => simp [ih]; omega
    simp only [List.map_cons, List.sum_cons]
    rw [sum_swapN f l' l, hadd]
def ngR (v : Int × Int) : Int × Int := (-v.1, v.2)
theorem gcdI_neg (n d : Int) : gcdI (-n) d = gcdI n d := by simp [gcdI]
theorem isRat_neg (v : Int × Int) : isRat (ngR v) = isRat v := by
  simp only [isRat, ngR, gcdI_neg]
  congr 1; congr 1
  exact decide_eq_decide.2 ⟨fun h => ⟨by omega, by omega⟩, fun h => ⟨by omega, by omega⟩⟩
theorem redR_neg (n d : Int) : redR (-n) d = (ngR (redR n d).1, (redR n d).2) := by
  unfold redR
  rw [gcdI_neg, Int.neg_tdiv]
  have h := isRat_neg (n.tdiv (gcdI n d), d.tdiv (gcdI n d))
  simp only [ngR] at h
  rw [h]
  split <;> simp [ngR]
theorem sgR_both (n d : Int) (hd : d ≠ 0) : sgR (-n) (-d) = sgR n d := by
  unfold sgR
  by_cases h : d < 0
  · rw [if_neg (by omega), if_pos h]
  · rw [if_pos (by omega), if_neg h, Int.neg_neg, Int.neg_neg]
theorem sgR_sgn {s : Int} (hs : s = 1 ∨ s = -1) (n d : Int) (hd : d ≠ 0) : sgR (s * n) (s * d) = sgR n d := by
  rcases hs with rfl | rfl
  · rw [Int.one_mul, Int.one_mul]
  · rw [Int.neg_one_mul, Int.neg_one_mul]; exact sgR_both n d hd
theorem sgR_neg (n d : Int) : (sgR (-n) d).1 = ngR (sgR n d).1 := by
  unfold sgR
  split <;> rw [redR_neg]
theorem mixI_sgn {s : Int} (hs : s = 1 ∨ s = -1) {n : Nat} {at' parts : List Int} {d : Int} (hd : d ≠ 0) : ∀ i, i ≤ parts.length → mixI n at' (parts.map (s * ·)) (s * d) i = mixI n at' parts d i
  | 0, _ => rfl
  | i + 1, h => by
    obtain ⟨p, hp⟩ : ∃ p, parts[i]? = some p := ⟨_, List.getElem?_eq_getElem (by omega)⟩
    rw [mixI, mixI, mixI_sgn hs hd i (by omega), List.getD_eq_getElem?_getD (l := parts.map _), List.getElem?_map, hp, List.getD_eq_getElem?_getD (l := parts), hp]
    simp only [Option.map_some, Option.getD_some]
    rw [sgR_sgn hs p d hd]
theorem map_idx (l : List Int) : l = (List.range l.length).map fun q => l.getD q 0 := by
  apply List.ext_getElem?
  intro i
  rcases Nat.lt_or_ge i l.length with h | h
  · simp [h]
  · simp [h]
def flipX (m : List (List Int)) : List (List Int) := flipM m (wid m) (wid m)
theorem flipX_get {m : List (List Int)} {j : Nat} (hj : j < wid m) : (flipX m)[j]? = some (neg (colOf m j)) := by simp [flipX, flipM, hj]
theorem flipX_length (m : List (List Int)) : (flipX m).length = wid m := by simp [flipX, flipM]
theorem flipX_rows (m : List (List Int)) : ∀ r ∈ flipX m, r.length = m.length := by
  intro r hr
  obtain ⟨k, -, rfl⟩ := List.mem_map.1 hr
  simp [neg, colOf]
theorem flipX_wid {m : List (List Int)} (h : 1 ≤ wid m) : wid (flipX m) = m.length := by
  have h1 := flipX_get (m := m) (j := 0) (by omega)
  rw [wid, List.headD_eq_head?_getD, List.head?_eq_getElem?, h1]
  simp [neg, colOf]
theorem flipX_at {m : List (List Int)} {i j : Nat} (hi : i < m.length) (hj : j < wid m) : ((flipX m).getD j []).getD i 0 = -((m.getD i []).getD j 0) := by
  obtain ⟨row, hrow⟩ : ∃ row, m[i]? = some row := ⟨_, List.getElem?_eq_getElem hi⟩
  rw [List.getD_eq_getElem?_getD (l := flipX m), flipX_get hj, Option.getD_some, List.getD_eq_getElem?_getD (l := neg _), neg, colOf, List.getElem?_map, List.getElem?_map, hrow, List.getD_eq_getElem?_getD (l := m), hrow]; rfl
theorem kB_flip {m : List (List Int)} {r c : List Int} (hix : kerIx m r c) : kB (flipX m) c r = flipM (kB m r c) r.length r.length := by
  obtain ⟨k1, k2, k3, k4, k5⟩ := hix
  unfold kB flipM
  rw [← k3]
  unfold partM
  conv => lhs; rw [map_idx c]
  rw [List.map_map]
  refine List.map_congr_left fun q hq => ?_
  rw [List.mem_range] at hq
  obtain ⟨j, hj⟩ : ∃ j, c[q]? = some j := ⟨_, List.getElem?_eq_getElem hq⟩
  have hjb := k5 j (List.mem_of_getElem? hj)
  have hjd : c.getD q 0 = j := by rw [List.getD_eq_getElem?_getD, hj]; rfl
  simp only [Function.comp_apply, hjd, neg, colOf, List.map_map]
  refine List.map_congr_left fun i hi => ?_
  have hib := k4 i hi
  rw [flipX_at (by omega) (by omega)]
  simp [List.getD_eq_getElem?_getD, hj]
theorem flip_small {m : List (List Int)} (h : ∀ r ∈ m, ∀ x ∈ r, -20 ≤ x ∧ x ≤ 20) : ∀ r ∈ flipX m, ∀ x ∈ r, -20 ≤ x ∧ x ≤ 20 := by
  intro r hr x hx
  obtain ⟨k, hk, rfl⟩ := List.mem_map.1 hr
  rw [List.mem_range] at hk
  obtain ⟨y, hy, rfl⟩ := List.mem_map.1 hx
  have := tr_small h (wid m) (colOf m k) (List.mem_map.2 ⟨k, List.mem_range.2 hk, rfl⟩) y hy
  omega
theorem isMat_of {m : List (List Int)} {c : Nat} (h1 : 1 ≤ m.length) (h2 : m.length ≤ 4) (h3 : 1 ≤ c) (h4 : c ≤ 4) (h5 : ∀ r ∈ m, r.length = c) (h6 : ∀ r ∈ m, ∀ x ∈ r, -20 ≤ x ∧ x ≤ 20) : isMat m = true := by
  have hw : (m.headD []).length = c := by
    cases m with
    | nil => simp at h1
    | cons a m => exact h5 a (by simp)
  simp only [isMat, hw, Bool.and_eq_true, decide_eq_true_eq, List.all_eq_true, rowOK]
  exact ⟨⟨⟨h1, h2⟩, h3, h4⟩, fun r hr => ⟨h5 r hr, fun x hx => h6 r hr x hx⟩⟩
theorem flip_mat {m : List (List Int)} (hm : isMat m = true) : isMat (flipX m) = true := by
  obtain ⟨m1, m2, m3, m4, m5, m6⟩ := isMat_spec hm
  exact isMat_of (c := m.length) (by rw [flipX_length]; exact m3) (by rw [flipX_length]; exact m4) m1 m2 (flipX_rows m) (flip_small m6)
theorem flip_flip {m : List (List Int)} (hm : isMat m = true) : flipX (flipX m) = m := by
  obtain ⟨m1, m2, m3, m4, m5, m6⟩ := isMat_spec hm
  have hw := flipX_wid (m := m) m3
  have hfl := flipX_length m
  apply List.ext_getElem?
  intro i
  rcases Nat.lt_or_ge i m.length with hi | hi
  · rw [flipX_get (by omega)]
    obtain ⟨row, hrow⟩ : ∃ row, m[i]? = some row := ⟨_, List.getElem?_eq_getElem hi⟩
    have hrl : row.length = wid m := m5 row (List.mem_of_getElem? hrow)
    rw [hrow]
    congr 1
    apply List.ext_getElem?
    intro j
    rcases Nat.lt_or_ge j (wid m) with hj | hj
    · obtain ⟨x, hx⟩ : ∃ x, row[j]? = some x := ⟨_, List.getElem?_eq_getElem (by omega)⟩
      have h1 := flipX_at (m := m) hi hj
      rw [List.getD_eq_getElem?_getD (l := m), hrow, Option.getD_some, List.getD_eq_getElem?_getD (l := row), hx, Option.getD_some] at h1
      rw [neg, colOf, List.getElem?_map, List.getElem?_map, flipX_get hj, hx]
      rw [List.getD_eq_getElem?_getD (l := flipX m), flipX_get hj, Option.getD_some] at h1
      simp only [Option.map_some, h1, Int.neg_neg]
    · rw [List.getElem?_eq_none (by simp [neg, colOf, hfl]; exact hj), List.getElem?_eq_none (by omega)]
  · rw [List.getElem?_eq_none (by rw [flipX_length, hw]; exact hi), List.getElem?_eq_none hi]
theorem kD_flip {m : List (List Int)} (hm : isMat m = true) {r c : List Int} (hix : kerIx m r c) : kD (flipX m) c r = sgn (r.length - 1) * kD m r c := by
  have hs := kB_sq hm hix
  have k3 := hix.2.2.1
  unfold kD kA
  rw [kB_flip hix, k3, rsum_flip hix.2.1 hs, sum_scaleL]
  congr 1
  rw [rsum_tr_adj, rsum_adj]
  exact sum_swapN (fun j i => adjE r.length (kB m r c) i j) _ _
theorem kernX_flip {m : List (List Int)} (hm : isMat m = true) {r c : List Int} (hix : kerIx m r c) (hd : kD m r c ≠ 0) : kernX (flipX m) c r = ⟨(kernX m r c).c, (kernX m r c).r, ngR (kernX m r c).v⟩ := by
  obtain ⟨m1, m2, m3, m4, m5, m6⟩ := isMat_spec hm
  have hs := kB_sq hm hix
  have k1 := hix.1
  have k2 := hix.2.1
  have k3 := hix.2.2.1
  have hA : kA (flipX m) c r = adjM r.length (flipM (kB m r c) r.length r.length) := by rw [kA, kB_flip hix, k3]
  have hdet : detN c.length (kB (flipX m) c r) = sgn (r.length - 1) * -(detN r.length (kB m r c)) := by
    rw [kB_flip hix, k3, det_flip k2 hs]
    obtain ⟨q, hq⟩ : ∃ q, r.length = q + 1 := ⟨r.length - 1, by omega⟩
    rw [hq, Nat.add_sub_cancel]
    have : sgn (q + 1) = - sgn q := by
      unfold sgn
      rcases Nat.mod_two_eq_zero_or_one q with h | h
      · rw [if_neg (by omega), if_pos h]
      · rw [if_pos (by omega), if_neg (by omega)]; rfl
    rw [this]; grind
  unfold kernX
  rw [kD_flip hm hix, hA, hdet, sgR_sgn (sgn_cases _) _ _ hd, sgR_neg]
  rw [k3, rsum_flip k2 hs, rsum_tr_flip k2 hs, flipX_length, flipX_wid m3]
  rw [mixK, mixI_sgn (sgn_cases _) hd _ (by simp [rsum, tr, adjM, k3]), mixK, mixI_sgn (sgn_cases _) hd _ (by simp [rsum, tr, adjM])]
  rfl
theorem addR_neg (a b : Int × Int) : addR (ngR a) (ngR b) = (ngR (addR a b).1, (addR a b).2) := by
  unfold addR
  rw [isRat_neg, isRat_neg]
  split
  · show redR (-a.1 * b.2 + -b.1 * a.2) (a.2 * b.2) = _
    rw [show -a.1 * b.2 + -b.1 * a.2 = -(a.1 * b.2 + b.1 * a.2) by rw [Int.neg_mul, Int.neg_mul]; omega, redR_neg]
  · rfl
theorem mulR_neg (a b : Int × Int) : mulR a (ngR b) = (ngR (mulR a b).1, (mulR a b).2) := by
  unfold mulR
  rw [isRat_neg]
  split
  · show redR (a.1 * -b.1) (a.2 * b.2) = _
    rw [Int.mul_neg, redR_neg]
  · rfl
theorem spGo_neg : ∀ (a b : List (Int × Int)) (s : Int × Int), spGo (ngR s) (a.zip (b.map ngR)) = (ngR (spGo s (a.zip b)).1, (spGo s (a.zip b)).2)
  | [], b, s => by simp [spGo]
  | a :: as', [], s => by simp [spGo]
  | a :: as', b :: bs, s => by
    simp only [List.map_cons, List.zip_cons_cons, spGo]
    rw [mulR_neg, addR_neg]
    split
    · rfl
    · split
      · rfl
      · exact spGo_neg as' bs _
theorem ones_neg (r : List Int) : ones (neg r) = (ones r).map ngR := by simp [ones, neg, ngR]
theorem gains_neg (q : List (Int × Int)) : ∀ m : List (List Int), gainsGo q (m.map neg) = ((gainsGo q m).1.map ngR, (gainsGo q m).2)
  | [] => rfl
  | r :: m => by
    have h := spGo_neg q (ones r) (0, 1)
    rw [show ngR (0, 1) = ((0, 1) : Int × Int) from rfl] at h
    simp only [List.map_cons, gainsGo, spR, ones_neg, h, gains_neg q m]
    by_cases h1 : (spGo (0, 1) (q.zip (ones r))).2 = 0 <;> by_cases h2 : (gainsGo q m).2 = 0 <;> simp [h1, h2]
theorem leR_neg (a b : Int × Int) : leR (ngR a) (ngR b) ↔ leR b a := by
  simp only [leR, ngR, Int.neg_mul]; omega
theorem flipX_map (m : List (List Int)) : flipX m = (tr m (wid m)).map neg := by simp [flipX, flipM, tr]
theorem tr_flip {m : List (List Int)} (hm : isMat m = true) : tr (flipX m) m.length = m.map neg := by
  have h := flip_flip hm
  have hw := flipX_wid (m := m) (isMat_spec hm).2.2.1
  rw [flipX_map (flipX m), hw] at h
  have h2 : ((tr (flipX m) m.length).map neg).map neg = m.map neg := by rw [h]
  rw [List.map_map] at h2
  rw [← h2]
  have : neg ∘ neg = id := by funext l; simp [neg, Function.comp_def]
  rw [this, List.map_id]
theorem sol_flip {m : List (List Int)} (hm : isMat m = true) (x : Sol) (h : isSolB m x = true) : isSolB (flipX m) ⟨x.c, x.r, ngR x.v⟩ = true := by
  have hw := flipX_wid (m := m) (isMat_spec hm).2.2.1
  unfold isSolB at h ⊢
  simp only [Bool.and_eq_true, decide_eq_true_eq, List.all_eq_true] at h ⊢
  obtain ⟨⟨⟨⟨⟨⟨h1, h2⟩, h3⟩, h4⟩, h5⟩, h6⟩, h7⟩ := h
  rw [hw, tr_flip hm, flipX_length, gains_neg, flipX_map, gains_neg]
  refine ⟨⟨⟨⟨⟨⟨h2, h1⟩, by rw [isRat_neg]; exact h3⟩, h5⟩, h4⟩, fun g hg => ?_⟩, fun g hg => ?_⟩
  · obtain ⟨y, hy, rfl⟩ := List.mem_map.1 hg
    exact (leR_neg _ _).2 (h7 y hy)
  · obtain ⟨y, hy, rfl⟩ := List.mem_map.1 hg
    exact (leR_neg _ _).2 (h6 y hy)
theorem hit_flip {m : List (List Int)} (hm : isMat m = true) {r c : List Int} (hix : kerIx m r c) (h : hitB m r c = true) : hitB (flipX m) c r = true := by
  simp only [hitB, Bool.and_eq_true, decide_eq_true_eq] at h ⊢
  refine ⟨?_, ?_⟩
  · rw [kD_flip hm hix]
    rcases sgn_cases (r.length - 1) with e | e <;> rw [e] <;> omega
  · rw [kernX_flip hm hix h.1]; exact sol_flip hm _ h.2
theorem firstF_ex {m : List (List Int)} {k : Nat} (hk : k < min m.length (wid m)) {r c : List Int} (hr : r ∈ comb m.length (k + 1) 0) (hc : c ∈ comb (wid m) (k + 1) 0) (h : hitB m r c = true) : firstF m ≠ none := by
  intro hn
  unfold firstF at hn
  rw [List.findSome?_eq_none_iff] at hn
  have h1 := hn k (by rw [List.mem_range]; exact hk)
  unfold sizeF at h1
  rw [List.findSome?_eq_none_iff] at h1
  have h2 := h1 _ hr
  unfold rowF at h2
  rw [List.findSome?_eq_none_iff] at h2
  have h3 := h2 _ hc
  simp [colF, h] at h3
theorem firstF_mem {m : List (List Int)} {r c : List Int} (h : firstF m = some (r, c)) : ∃ k, k < min m.length (wid m) ∧ r ∈ comb m.length (k + 1) 0 ∧ c ∈ comb (wid m) (k + 1) 0 ∧ hitB m r c = true := by
  obtain ⟨k, hk, h1⟩ := fs_some h
  obtain ⟨r', hr, h2⟩ := fs_some h1
  obtain ⟨c', hc, h3⟩ := fs_some h2
  rw [List.mem_range] at hk
  unfold colF at h3
  split at h3 <;> rename_i hh
  · cases h3; exact ⟨k, hk, hr, hc, hh⟩
  · cases h3
theorem first_flip {m : List (List Int)} (hm : isMat m = true) (h : firstF m ≠ none) : firstF (flipX m) ≠ none := by
  have hw := flipX_wid (m := m) (isMat_spec hm).2.2.1
  cases hq : firstF m with
  | none => exact absurd hq h
  | some x =>
    obtain ⟨r, c⟩ := x
    obtain ⟨k, hk, hr, hc, hh⟩ := firstF_mem hq
    refine firstF_ex (k := k) (r := c) (c := r) (by rw [flipX_length, hw]; omega) (by rw [flipX_length]; exact hc) (by rw [hw]; exact hr) (hit_flip hm (firstF_ix hm hq).2 hh)
theorem value_flip {m : List (List Int)} (hm : isMat m = true) : (kerSol (flipX m)).v = ngR (kerSol m).v := by
  have hm2 := flip_mat hm
  cases hq : firstF m with
  | none =>
    cases hp : firstF (flipX m) with
    | none => simp [kerSol, hq, hp, ngR]
    | some x =>
      have := first_flip hm2 (by rw [hp]; simp)
      rw [flip_flip hm] at this
      exact absurd hq this
  | some x =>
    obtain ⟨r, c⟩ := x
    cases hp : firstF (flipX m) with
    | none => exact absurd hp (first_flip hm (by rw [hq]; simp))
    | some y =>
      obtain ⟨r', c'⟩ := y
      have h1 := (firstF_ix hm hq).1
      have h2 := (firstF_ix hm2 hp).1
      simp only [hitB, Bool.and_eq_true] at h1 h2
      have := sol_unique (m := flipX m) (isMat_spec hm2).2.2.2.2.1 h2.2 (sol_flip hm _ h1.2)
      rw [kerSol, kerSol, hq, hp]
      exact this
end Go.Ab

/- The law FnFlips, as a contract. -/
set_option linter.unusedSimpArgs false
set_option linter.unusedVariables false
namespace Go.Ab
open Go.Proofs
theorem kerSol_bound {m : List (List Int)} (hm : isMat m = true) : -1000000000 ≤ (kerSol m).v.1 ∧ (kerSol m).v.1 ≤ 1000000000 := by
  cases hq : firstF m with
  | none => simp [kerSol, hq]
  | some x =>
    obtain ⟨r, c⟩ := x
    have h := (firstF_ix hm hq).1
    simp only [hitB, Bool.and_eq_true] at h
    have h2 := h.2
    unfold isSolB at h2
    simp only [Bool.and_eq_true] at h2
    have h3 := isRat_spec h2.1.1.1.1.2
    rw [kerSol, hq]
    exact ⟨h3.1, h3.2.1⟩
section
attribute [-go_sem] load1C load1V fldC lenC idxC loadNV
theorem spec_DrawFlipMatrix_ok (cs : List Int) (hc : bytesOK cs) (hl : cs.length ≤ 100000000000) : Fun Try.prog 41 [] [.t (bytes cs)] fun o r => ∃ x : List (List Int), o = [] ∧ r = rowsO x ∧ smallM x := by
  refine fun_spec_DrawFlipMatrix (by simp) ?_
  simp -implicitDefEqProofs only [go_sem, evR, ints, rows, rat, rats, c_spec_DrawFlipMatrix]
  refine CallW.res (spec_l01From_ok cs hc (by omega)) [] rfl Try.call61 ?_ (.inl rfl) ?_
  · simp -implicitDefEqProofs only [agR, Nat.reduceLeDiff, Nat.reduceSub, vaR, go_sem, ints, rows, rat, rats, ratsO, rtR, intsO, rowsO]
  simp -implicitDefEqProofs only [clR, Nat.reduceLeDiff, go_sem, evR, rat, srcT]
  have hs0 := seed_from (cs.take 64)
  generalize fromS (cs.take 64) = sd at hs0 ⊢
  refine CallW.exi (spec_l26Draw_ok cs hc hl (0, sd) hs0) [4] [] rfl Try.call60 (by simp) ?_ (by simp) ?_ (.inl rfl) (fun x hx => ?_)
  · simp -implicitDefEqProofs only [srR, Nat.reduceEqDiff, ↓reduceIte, ints, rows, intsO, rowsO]
  · simp -implicitDefEqProofs only [agR, Nat.reduceLeDiff, Nat.reduceSub, vaR, go_sem, ints, rows, rat, rats, ratsO, rtR, intsO, rowsO]
  simp -implicitDefEqProofs only [clR, Nat.reduceLeDiff, go_sem, evR, rat]
  exact ⟨x.1, rfl, hx.1⟩
theorem spec_DrawValueOfMatrix_ok (cs : List Int) (hc : bytesOK cs) (hl : cs.length ≤ 100000000000) : Fun Try.prog 44 [] [.t (bytes cs)] fun o r => ∃ x : List (List Int), o = [] ∧ r = rowsO x ∧ smallM x := by
  refine fun_spec_DrawValueOfMatrix (by simp) ?_
  simp -implicitDefEqProofs only [go_sem, evR, ints, rows, rat, rats, c_spec_DrawValueOfMatrix]
  refine CallW.res (spec_l01From_ok cs hc (by omega)) [] rfl Try.call61 ?_ (.inl rfl) ?_
  · simp -implicitDefEqProofs only [agR, Nat.reduceLeDiff, Nat.reduceSub, vaR, go_sem, ints, rows, rat, rats, ratsO, rtR, intsO, rowsO]
  simp -implicitDefEqProofs only [clR, Nat.reduceLeDiff, go_sem, evR, rat, srcT]
  have hs0 := seed_from (cs.take 64)
  generalize fromS (cs.take 64) = sd at hs0 ⊢
  refine CallW.exi (spec_l26Draw_ok cs hc hl (0, sd) hs0) [4] [] rfl Try.call60 (by simp) ?_ (by simp) ?_ (.inl rfl) (fun x hx => ?_)
  · simp -implicitDefEqProofs only [srR, Nat.reduceEqDiff, ↓reduceIte, ints, rows, intsO, rowsO]
  · simp -implicitDefEqProofs only [agR, Nat.reduceLeDiff, Nat.reduceSub, vaR, go_sem, ints, rows, rat, rats, ratsO, rtR, intsO, rowsO]
  simp -implicitDefEqProofs only [clR, Nat.reduceLeDiff, go_sem, evR, rat]
  exact ⟨x.1, rfl, hx.1⟩
set_option maxRecDepth 20000 in
theorem laws_FnFlips_ok (cs : List Int) (hc : bytesOK cs) : Pure Try.prog 8 [bytes cs] (.b true) := by
  refine fun_laws_FnFlips (by simp) ?_
  simp -implicitDefEqProofs only [go_sem, evR, ints, rows, rat, rats, c_laws_FnFlips]
  refine CallW.pure (laws_big_ok cs) [] rfl Try.call30 ?_ (by first | trivial | simp [T.noSh, T.noShL, rat]) rfl ?_
  · simp -implicitDefEqProofs only [agR, Nat.reduceLeDiff, Nat.reduceSub, vaR, go_sem, ints, rows, rat, rats, ratsO, rtR, intsO, rowsO]
  simp -implicitDefEqProofs only [go_sem, evR, ints, rows, rat, rats]
  refine ⟨fun _ => trivial, fun hbig => ?_⟩
  have hl : cs.length ≤ 4096 := by have : (cs.length : Int) ≤ 4096 := by simpa using hbig
                                   omega
  refine CallW.exi (spec_DrawFlipMatrix_ok cs hc (by omega)) [] [] rfl Try.call41 (by simp) ?_ (by simp) ?_ (.inl rfl) (fun m hm => ?_)
  · simp -implicitDefEqProofs only [srR, Nat.reduceEqDiff, ↓reduceIte, ints, rows, intsO, rowsO]
  · simp -implicitDefEqProofs only [agR, Nat.reduceLeDiff, Nat.reduceSub, vaR, go_sem, ints, rows, rat, rats, ratsO, rtR, intsO, rowsO]
  simp -implicitDefEqProofs only [clR, Nat.reduceLeDiff, go_sem, evR, rat]
  have hml : m.length ≤ 1000000000000 := by have := hm.1; omega
  have hmr : ∀ r ∈ m, r.length ≤ 1000000000000 := fun r hr => by have := hm.2 r hr; omega
  refine CallW.res (impl_FlipMatrix_ok m hml hmr) [22] rfl Try.call42 ?_ (.inr (fmT_noSh m)) ?_
  · simp -implicitDefEqProofs only [agR, Nat.reduceLeDiff, Nat.reduceSub, vaR, go_sem, ints, rows, rat, rats, ratsO, rtR, intsO, rowsO]
  simp -implicitDefEqProofs only [clR, Nat.reduceLeDiff, go_sem, evR, rat, fmT]
  refine CallW.res (spec_FlipMatrix_ok m) [22] rfl Try.call43 ?_ (.inr (fmT_noSh m)) ?_
  · simp -implicitDefEqProofs only [agR, Nat.reduceLeDiff, Nat.reduceSub, vaR, go_sem, ints, rows, rat, rats, ratsO, rtR, intsO, rowsO]
  simp -implicitDefEqProofs only [clR, Nat.reduceLeDiff, go_sem, evR, rat, fmT]
  refine CallW.exi (spec_DrawValueOfMatrix_ok cs hc (by omega)) [] [] rfl Try.call44 (by simp) ?_ (by simp) ?_ (.inl rfl) (fun x hx => ?_)
  · simp -implicitDefEqProofs only [srR, Nat.reduceEqDiff, ↓reduceIte, ints, rows, intsO, rowsO]
  · simp -implicitDefEqProofs only [agR, Nat.reduceLeDiff, Nat.reduceSub, vaR, go_sem, ints, rows, rat, rats, ratsO, rtR, intsO, rowsO]
  simp -implicitDefEqProofs only [clR, Nat.reduceLeDiff, go_sem, evR, rat]
  have hxl : x.length ≤ 1000000000000 := by have := hx.1; omega
  have hxr : ∀ r ∈ x, r.length ≤ 1000000000000 := fun r hr => by have := hx.2 r hr; omega
  refine CallW.pure (impl_ValueOfMatrix_ok x (by omega) hxr) [34] rfl Try.call17 ?_ (by first | trivial | simp [T.noSh, T.noShL, rat]) rfl ?_
  · simp -implicitDefEqProofs only [agR, Nat.reduceLeDiff, Nat.reduceSub, vaR, go_sem, ints, rows, rat, rats, ratsO, rtR, intsO, rowsO]
  simp -implicitDefEqProofs only [go_sem, evR, ints, rows, rat, rats, redT]
  refine CallW.pure (spec_ValueOfMatrix_ok x) [34] rfl Try.call16 ?_ (by first | trivial | simp [T.noSh, T.noShL, rat]) rfl ?_
  · simp -implicitDefEqProofs only [agR, Nat.reduceLeDiff, Nat.reduceSub, vaR, go_sem, ints, rows, rat, rats, ratsO, rtR, intsO, rowsO]
  simp -implicitDefEqProofs only [go_sem, evR, ints, rows, rat, rats, redT, not_true_eq_false, decide_false]
  obtain ⟨hf1, hf2⟩ := fmRes_small m
  have hf3 : ∀ r ∈ (fmRes m).1, r.length ≤ 1000000000000 := fun r hr => by have := hf2 r hr; omega
  refine CallW.pure (laws_likeLists_ok (fmRes m).1 (fmRes m).1 (by omega) (by omega) hf3 hf3) [25, 30] rfl Try.call45 ?_ (by first | trivial | simp [T.noSh, T.noShL, rat]) rfl ?_
  · simp -implicitDefEqProofs only [agR, Nat.reduceLeDiff, Nat.reduceSub, vaR, go_sem, ints, rows, rat, rats, ratsO, rtR, intsO, rowsO]
  simp -implicitDefEqProofs only [go_sem, evR, ints, rows, rat, rats, not_true_eq_false, decide_false, decide_true]
  have hfx : isMat x = true → fmRes x = (flipX x, 0) := fun h => by rw [fmRes, if_pos h]; rfl
  have hfm : isMat m = true → fmRes m = (flipX m, 0) := fun h => by rw [fmRes, if_pos h]; rfl
  have hm2 : (fmRes m).2 = 0 → isMat m = true := fun h => by
    cases hM : isMat m with
    | true => rfl
    | false => rw [fmRes, hM] at h; simp at h
  refine ⟨fun h1 => ?_, fun h1 => ?_⟩
  · have h1 : (vmR x).2 = 0 := by simpa using h1
    have hM : isMat x = true := by
      cases hM : isMat x with
      | true => rfl
      | false => rw [vmR, hM] at h1; simp at h1
    obtain ⟨x1, x2, x3, x4, x5, x6⟩ := isMat_spec hM
    have hfl := flipX_length x
    have hfr := flipX_rows x
    have hy := impl_ValueOfMatrix_ok (flipX x) (by rw [hfl]; unfold wid; omega) (fun r hr => by rw [hfr r hr]; omega)
    have hvb := kerSol_bound hM
    have hvx : vmR x = ((kerSol x).v, 0) := by rw [vmR, if_pos hM]
    have hvy : vmR (flipX x) = ((-(kerSol x).v.1, (kerSol x).v.2), 0) := by rw [vmR, if_pos (flip_mat hM), value_flip hM]; rfl
    rw [hvy] at hy
    refine CallW.res (impl_FlipMatrix_ok x hxl hxr) [34] rfl Try.call42 ?_ (.inr (fmT_noSh x)) ?_
    · simp -implicitDefEqProofs only [agR, Nat.reduceLeDiff, Nat.reduceSub, vaR, go_sem, ints, rows, rat, rats, ratsO, rtR, intsO, rowsO]
    simp -implicitDefEqProofs only [clR, Nat.reduceLeDiff, go_sem, evR, rat, fmT]
    simp only [hfx hM]
    refine CallW.pure hy [68] rfl Try.call17 ?_ (by first | trivial | simp [T.noSh, T.noShL, rat]) rfl ?_
    · simp -implicitDefEqProofs only [agR, Nat.reduceLeDiff, Nat.reduceSub, vaR, go_sem, ints, rows, rat, rats, ratsO, rtR, intsO, rowsO]
    simp -implicitDefEqProofs only [go_sem, evR, ints, rows, rat, rats, redT]
    simp only [hvx]
    rw [wrap64 (n := 0 - (kerSol x).v.1) (by omega) (by omega)]
    simp only [Int.zero_sub, bne_self_eq_false, Bool.false_eq_true, false_implies, forall_const, true_and, and_true]
    refine ⟨fun _ => trivial, fun h4 => ?_⟩
    have hMm := hm2 (by simpa using h4)
    have hfl2 := flipX_length m
    have hfr2 := flipX_rows m
    obtain ⟨n1, n2, n3, n4, n5, n6⟩ := isMat_spec hMm
    have hb := impl_FlipMatrix_ok (flipX m) (by rw [hfl2]; unfold wid; omega) (fun r hr => by rw [hfr2 r hr]; omega)
    have hbR : fmRes (flipX m) = (m, 0) := by rw [fmRes, if_pos (flip_mat hMm)]; congr 1; exact flip_flip hMm
    rw [fmT, hbR] at hb
    simp only [hfm hMm]
    refine CallW.res hb [25] rfl Try.call42 ?_ (.inr (by simp [T.noSh, T.noShL, rowsO_noSh])) ?_
    · simp -implicitDefEqProofs only [agR, Nat.reduceLeDiff, Nat.reduceSub, vaR, go_sem, ints, rows, rat, rats, ratsO, rtR, intsO, rowsO]
    simp -implicitDefEqProofs only [clR, Nat.reduceLeDiff, go_sem, evR, rat]
    refine ⟨fun _ => ?_, fun h => absurd h (by decide)⟩
    refine CallW.pure (laws_likeLists_ok m m (by omega) (by omega) hmr hmr) [22, 101] rfl Try.call45 ?_ (by first | trivial | simp [T.noSh, T.noShL, rat]) rfl ?_
    · simp -implicitDefEqProofs only [agR, Nat.reduceLeDiff, Nat.reduceSub, vaR, go_sem, ints, rows, rat, rats, ratsO, rtR, intsO, rowsO]
    simp -implicitDefEqProofs only [go_sem, evR, ints, rows, rat, rats, decide_true]
  · refine ⟨fun _ => trivial, fun h4 => ?_⟩
    have hMm := hm2 (by simpa using h4)
    have hfl2 := flipX_length m
    have hfr2 := flipX_rows m
    obtain ⟨n1, n2, n3, n4, n5, n6⟩ := isMat_spec hMm
    have hb := impl_FlipMatrix_ok (flipX m) (by rw [hfl2]; unfold wid; omega) (fun r hr => by rw [hfr2 r hr]; omega)
    have hbR : fmRes (flipX m) = (m, 0) := by rw [fmRes, if_pos (flip_mat hMm)]; congr 1; exact flip_flip hMm
    rw [fmT, hbR] at hb
    simp only [hfm hMm]
    refine CallW.res hb [25] rfl Try.call42 ?_ (.inr (by simp [T.noSh, T.noShL, rowsO_noSh])) ?_
    · simp -implicitDefEqProofs only [agR, Nat.reduceLeDiff, Nat.reduceSub, vaR, go_sem, ints, rows, rat, rats, ratsO, rtR, intsO, rowsO]
    simp -implicitDefEqProofs only [clR, Nat.reduceLeDiff, go_sem, evR, rat]
    refine ⟨fun _ => ?_, fun h => absurd h (by decide)⟩
    refine CallW.pure (laws_likeLists_ok m m (by omega) (by omega) hmr hmr) [22, 101] rfl Try.call45 ?_ (by first | trivial | simp [T.noSh, T.noShL, rat]) rfl ?_
    · simp -implicitDefEqProofs only [agR, Nat.reduceLeDiff, Nat.reduceSub, vaR, go_sem, ints, rows, rat, rats, ratsO, rtR, intsO, rowsO]
    simp -implicitDefEqProofs only [go_sem, evR, ints, rows, rat, rats, decide_true]
end
end Go.Ab

set_option linter.unusedSimpArgs false
set_option linter.unusedVariables false
namespace Go.Proofs.Ytdleindmpgadcaa
open Go.ChangeShapes Go.WideShapes Go.ChangeAt Go.RowKit Go.Ab

namespace fnFlips
theorem said : ∀ xs, wtL [tyU8s] xs → Pure Try.prog 8 xs (.b true)
  | [x], h => by
    obtain ⟨cs, rfl, _, hc⟩ := wt_bytes h.1
    exact laws_FnFlips_ok cs hc
  | [], h => h.elim
  | _ :: _ :: _, h => h.2.elim

set_option maxRecDepth 100000 in
theorem lifted (os : Os) (started : os.Started) (H : Type) (enc : TypeId × Value → H) :
    ReturnsInHanded {} Try.checked os 8 .any (Rows.fnFlipsSpec.pre6 enc Try.prog Try.f8 Rows.fnFlipsRow.domain false) (Rows.fnFlipsSpec.post enc Try.prog Try.f8 false true false false) := by
  refine returnsInHanded_of_change (C := Try.checked) (by kernel_rfl) started (by kernel_rfl) Try.func8
    (ChangeSpec.witness6 (enc := enc) (C := Try.checked) false ⟨#[], #[.slice none 0 0], []⟩ 8 (by kernel_rfl) (by kernel_rfl) (by kernel_rfl) (by kernel_rfl)) ?_
  intro W base args ds gs before hval hW _ _
  refine law_contract (tys := [tyU8s]) (by kernel_rfl) (by kernel_rfl) rfl (by kernel_rfl) rfl (fun ds h => ?_) said W base args ds gs before hval hW
  match ds, h with
  | [d0], _ => rfl

theorem andT {a b : Bool} (ha : a = true) (hb : b = true) : (a && b) = true := by rw [ha, hb]; rfl
theorem joined0 : ((Rows.fnFlipsRow.wf (OpenSpec.ofChange Rows.fnFlipsSpec))) = true := by kernel_rfl
theorem joined1 : (laidOutB Try.prog) = true := Try.laidOutT
theorem joined2 : (mapsRowed Try.prog) = true := Try.mapsRowedT
theorem joined3 : (Try.f8.params.all (Try.prog.readableRec ·)) = true := by kernel_rfl
theorem joined4 : (namedTie Try.prog Rows.fnFlipsRow.named Rows.fnFlipsSpec.vars) = true := by kernel_rfl
theorem joined5 : ((Rows.fnFlipsRow.stops == [])) = true := by kernel_rfl
theorem joined6 : ((Try.prog.stops == [])) = true := by kernel_rfl
theorem joined7 : ((Rows.fnFlipsRow.knobs == [])) = true := by kernel_rfl
theorem joined8 : ((Try.prog.stopKnobs == [])) = true := by kernel_rfl
theorem joined9 : ((Rows.fnFlipsRow.inPlace == Try.prog.inPlace 8)) = true := by kernel_rfl
theorem joined10 : ((Rows.fnFlipsRow.unfollowed == Try.prog.unfollowed 8)) = true := by kernel_rfl
theorem joined11 : ((Rows.fnFlipsRow.recurses == Try.prog.recurses 8)) = true := by kernel_rfl
theorem joined12 : ((Rows.fnFlipsRow.named == Try.prog.varsNamed 8)) = true := by kernel_rfl
theorem joined13 : ((Rows.fnFlipsRow.maps == (Try.f8.params.toList ++ Rows.fnFlipsSpec.plain.varTypes Try.prog).any (Try.prog.mapsRec ·))) = true := by kernel_rfl
theorem joined14 : ((Rows.fnFlipsRow.ifaces == (Try.f8.params.toList ++ Rows.fnFlipsSpec.plain.varTypes Try.prog).any (Try.prog.ifacesRec ·))) = true := by kernel_rfl
theorem joined15 : ((Rows.fnFlipsRow.mapsOut == Try.prog.mapsAmong Try.f8.resultTypes.toList)) = true := by kernel_rfl
theorem joined16 : ((Rows.fnFlipsRow.loops == (Try.f8.params.toList ++ Rows.fnFlipsSpec.plain.varTypes Try.prog).any (Try.prog.loopsFrom ·))) = true := by kernel_rfl
theorem joined17 : ((Rows.fnFlipsRow.wideKeys == (Try.f8.params.toList ++ Rows.fnFlipsSpec.plain.varTypes Try.prog ++ Try.f8.resultTypes.toList).any (Try.prog.wideKeysFrom ·))) = true := by kernel_rfl
theorem joined18 : (Rows.fnFlipsSpec.vars.all (Try.prog.varReadable ·)) = true := by kernel_rfl
theorem joined19 : (Try.f8.resultTypes.all (fun t => Try.prog.readableRec t && decide (t < Try.prog.types.size))) = true := by kernel_rfl
theorem joined20 : ((Rows.fnFlipsRow.ifacesOut == Try.f8.resultTypes.toList.any (Try.prog.ifacesRec ·))) = true := by kernel_rfl
theorem joined21 : ((Rows.fnFlipsRow.loopsOut == Try.f8.resultTypes.toList.any (Try.prog.loopsFrom ·))) = true := by kernel_rfl
theorem joined22 : ((Rows.fnFlipsRow.plainKeys == Try.prog.plainKeys)) = true := by kernel_rfl
theorem joined23 : (Rows.fnFlipsRow.shortTexts.isNone) = true := by kernel_rfl
theorem joined24 : (Try.prog.stopsHeard) = true := Try.heardT
theorem joined25 : (Try.prog.mayEnter) = true := Try.mayEnterT
theorem joined26 : ((Rows.fnFlipsRow.lifted == Try.prog.liftsFinal)) = true := (by rw [Try.liftsF]; rfl)
theorem joined27 : ((Try.prog.make == some Rows.fnFlipsRow.make)) = true := (by rw [Try.makeC]; rfl)
theorem joined28 : ((Rows.fnFlipsRow.kinds == (if Rows.fnFlipsRow.domain.isEmpty then [] else Try.f8.params.toList.map fun t => match Try.prog.underlying t with | some (.int k) => some k | _ => none))) = true := by kernel_rfl
theorem joined29 : ((Rows.fnFlipsRow.pinned == Rows.fnFlipsRow.pinnedBy)) = true := by kernel_rfl
theorem joined30 : ((Rows.fnFlipsRow.veiled == (Try.f8.params.toList ++ Rows.fnFlipsSpec.plain.varTypes Try.prog ++ Try.f8.resultTypes.toList).any (Try.prog.veiledRec ·))) = true := by kernel_rfl
theorem joined31 : (Rows.fnFlipsRow.veiledFits Try.prog Try.f8.params.toList (Try.f8.params.toList ++ Rows.fnFlipsSpec.plain.varTypes Try.prog ++ Try.f8.resultTypes.toList)) = true := by kernel_rfl
set_option maxRecDepth 100000 in
theorem joined : joinedFacts Try.prog 8 Try.f8 Rows.fnFlipsSpec Rows.fnFlipsRow = true := by
  unfold joinedFacts
  exact andT (andT (andT (andT (andT (andT (andT (andT (andT (andT (andT (andT (andT (andT (andT (andT (andT (andT (andT (andT (andT (andT (andT (andT (andT (andT (andT (andT (andT (andT (andT (joined0) joined1) joined2) joined3) joined4) joined5) joined6) joined7) joined8) joined9) joined10) joined11) joined12) joined13) joined14) joined15) joined16) joined17) joined18) joined19) joined20) joined21) joined22) joined23) joined24) joined25) joined26) joined27) joined28) joined29) joined30) joined31
theorem over : Rows.fnFlipsRow.holds Try.pinned (OpenSpec.ofChange Rows.fnFlipsSpec) :=
  OpenClaim.holds_of_wide 8 Try.f8 rfl rfl rfl rfl rfl rfl rfl ⟨rfl, rfl, rfl, rfl, rfl⟩ rfl rfl rfl rfl rfl (by kernel_rfl) Try.func8 joined
    (of_decide_eq_true (by kernel_rfl)) (by unfold Func.isWrapper; first | (rw [if_pos (by decide +kernel)]; kernel_rfl) | (rw [if_neg (by decide +kernel)]; exact ⟨rfl, rfl⟩))
    (fun os started H enc _ => lifted os started H enc)
end fnFlips

theorem fnFlips_holds : Rows.FnFlipsSaid := fnFlips.over
#print axioms fnFlips_holds
end Go.Proofs.Ytdleindmpgadcaa
