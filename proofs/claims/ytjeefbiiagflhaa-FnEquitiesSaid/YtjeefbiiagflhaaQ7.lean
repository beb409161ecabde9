/- Chips split among winners. -/
import Derived.Test.YtjeefbiiagflhaaQ6
set_option linter.unusedSimpArgs false
set_option linter.unusedVariables false
set_option maxRecDepth 20000
namespace Go.Ab
open Go.Proofs
section
attribute [-go_sem] q0i5 q0id fldC lenC idxC q0ip
def ixW (x : Int) : List Int -> Nat -> Int
  | [], _ => -1
  | y :: l, k => if x = y then (k : Int) else ixW x l (k + 1)
theorem q1k4 {x : Int} : ∀ {l : List Int} {k : Nat}, ixW x l k ≥ 0 ↔ x ∈ l
  | [], k => by simp [ixW]
  | y :: l, k => by
    rw [ixW, List.mem_cons]
    split
    . rename_i h; simp [h]
    . rename_i h; rw [q1k4]; simp [h]
theorem q1k3 {x : Int} {l : List Int} : ∀ {i : Nat}, i <= l.length -> x ∉ l.take i -> ixW x l 0 = ixW x (l.drop i) i
  | 0, _, _ => rfl
  | i + 1, h, hx => by
    obtain ⟨y, hy⟩ : ∃ y, l[i]? = some y := ⟨_, List.getElem?_eq_getElem (by omega)⟩
    rw [q0uj hy, List.mem_append, not_or] at hx
    rw [q1k3 (i := i) (by omega) hx.1]
    have hd : l.drop i = y :: l.drop (i + 1) := by
      rw [List.drop_eq_getElem_cons (by omega)]
      congr 1
      exact (List.getElem?_eq_some_iff.1 hy).2
    rw [hd, ixW, if_neg (by have := hx.2; simpa using this)]
theorem q1ov (l : List Int) (x : Int) (hl : l.length <= 1000000) : Pure Try.prog 45 [ints l, .i x] (.i (ixW x l 0)) := by
  refine q0be (by simp) ?_
  simp -implicitDefEqProofs only [eR', go_sem, q04g]
  refine SemC.loopR (σ := Nat) (fun i => St.of [(0, .t (ints l)), (1, .t (.i x)), (7, .t (.i l.length)), (8, .t (.i i))] []) (fun i => i <= l.length /\ x ∉ l.take i) (fun i => l.length - i) 0 (Weak.o _ [] [] ?_ trivial) ⟨by omega, by simp⟩ fun i hi R hn hr he => ?_
  . simp -implicitDefEqProofs only [wR', Nat.reduceBEq, Nat.reduceEqDiff, ↓reduceIte]
  . obtain ⟨hi, hno⟩ := hi
    have hd := q1k3 hi hno
    rcases Nat.lt_or_ge i l.length with h9 | h9
    . obtain ⟨y, hx⟩ : ∃ y, l[i]? = some y := ⟨_, List.getElem?_eq_getElem h9⟩
      have hdr : l.drop i = y :: l.drop (i + 1) := by
        rw [List.drop_eq_getElem_cons h9]; congr 1; exact (List.getElem?_eq_some_iff.1 hx).2
      rw [hdr, ixW] at hd
      simp -implicitDefEqProofs only [eR', go_sem, hx, decide_eq_true (show (i : Int) < (l.length : Int) by omega)]
      refine ⟨by omega, by omega, by omega, fun h => ?_, fun h => ?_⟩
      . have h : x = y := by simpa using h
        rw [if_pos h] at hd
        refine hr _ ?_
        simp -implicitDefEqProofs only [eR', go_sem, hd]
      . have h : ¬ x = y := by simpa using h
        refine hn _ (i + 1) (Weak.o _ [] [] ?_ trivial) ⟨by omega, by rw [q0uj hx]; simp [hno, h]⟩ (by omega)
        simp -implicitDefEqProofs only [wR', Nat.reduceBEq, Nat.reduceEqDiff, ↓reduceIte, q0lb h9 (by omega)]
    . simp -implicitDefEqProofs only [eR', go_sem, decide_eq_false (show ¬ (i : Int) < (l.length : Int) by omega)]
      refine he _ _ ?_
      rw [List.drop_eq_nil_of_le h9, ixW] at hd
      simp -implicitDefEqProofs only [eR', go_sem, hd]
theorem q1ot (l : List Int) (x : Int) (hl : l.length <= 1000000) : Pure Try.prog 115 [ints l, .i x] (.b (decide (x ∈ l))) := by
  refine q1gr (by simp) ?_
  simp -implicitDefEqProofs only [eR', go_sem, q1bu]
  refine q006.p (q1ov l x hl) [] rfl Try.call45 ?_ ?_
  . simp -implicitDefEqProofs only [aR', go_sem]
  simp -implicitDefEqProofs only [eR', go_sem]
  simp only [q1k4]
def q1op (W : List Int) (a : Int) (k : Nat) : Int := if (k : Int) ∈ W then a / W.length else 0
def shTo (W : List Int) (a : Int) (n i : Nat) : List Int := tabT n fun k => if k < i then q1op W a k else 0
theorem q1oo (W : List Int) (a : Int) (n : Nat) : shTo W a n 0 = List.replicate n 0 := by
  refine List.ext_getElem? fun k => ?_
  by_cases h : k < n
  . rw [shTo, q1qj h, List.getElem?_replicate, if_pos h, if_neg (by omega)]
  . rw [List.getElem?_eq_none (by rw [shTo, q1qk]; omega), List.getElem?_eq_none (by simp; omega)]
theorem q1ol (W : List Int) (a : Int) (n : Nat) : shTo W a n n = tabT n (q1op W a) := by
  refine List.ext_getElem? fun k => ?_
  by_cases h : k < n
  . rw [shTo, q1qj h, q1qj h, if_pos h]
  . rw [List.getElem?_eq_none (by rw [shTo, q1qk]; omega), List.getElem?_eq_none (by rw [q1qk]; omega)]
theorem q1on {W : List Int} {a : Int} {n i : Nat} (h : (i : Int) ∉ W) : shTo W a n (i + 1) = shTo W a n i := by
  refine List.ext_getElem? fun k => ?_
  by_cases hk : k < n
  . rw [shTo, shTo, q1qj hk, q1qj hk]
    by_cases h1 : k < i
    . rw [if_pos h1, if_pos (by omega)]
    . rw [if_neg h1]
      by_cases h2 : k = i
      . subst h2; rw [if_pos (by omega), q1op, if_neg h]
      . rw [if_neg (by omega)]
  . rw [List.getElem?_eq_none (by rw [shTo, q1qk]; omega), List.getElem?_eq_none (by rw [shTo, q1qk]; omega)]
theorem q1om {W : List Int} {a : Int} {n i : Nat} (h : (i : Int) ∈ W) : (shTo W a n i).set i (a / W.length) = shTo W a n (i + 1) := by
  refine q1ql ?_ fun j hj => ?_
  . rw [if_pos (by omega), q1op, if_pos h]
  . by_cases h1 : j < i
    . rw [if_pos h1, if_pos (by omega)]
    . rw [if_neg h1, if_neg (by omega)]
theorem q1jq (a : Nat) (W : List Int) (n : Nat) (hn : n <= 1000) (hW : 0 < W.length) (hWl : W.length <= 1000) (ha : a <= 1000) (hd : a % W.length = 0) :
    Fun Try.prog 100 [] [.t (.i a), .t (ints W), .t (.i n), .t (.i 0)] fun o r => o = [] /\ r = intsO (tabT n (q1op W a)) := by
  have hl : ∀ i, (shTo W a n i).length = n := fun i => q1qk
  refine q1gg (by simp) ?_
  have hrem : ((a : Int)).tmod (W.length : Int) = 0 := by
    rw [Int.tmod_eq_emod_of_nonneg (by omega)]; omega
  have hquo : IntKind.i64.wrap (((a : Int)).tdiv (W.length : Int)) = (a : Int) / (W.length : Int) := by
    have h1 : 0 <= (a : Int) / (W.length : Int) := Int.ediv_nonneg (by omega) (by omega)
    have h2 : (a : Int) / (W.length : Int) <= a := Int.ediv_le_self _ (by omega)
    rw [Int.tdiv_eq_ediv_of_nonneg (by omega), wrap64 (by omega) (by omega)]
  simp -implicitDefEqProofs only [eR', go_sem, q1bj, hrem]
  refine ⟨by omega, by omega, by omega, ?_⟩
  refine SemC.loopR (σ := Nat) (fun i => St.of [(0, .t (.i a)), (1, .t (ints W)), (2, .t (.i n)), (3, .t (.i 0)), (9, .own 99), (10, .t (.i W.length)), (11, .t (.i 0)), (21, .t (.i n)), (22, .t (.i i))] [(99, .arr 1 ((shTo W a n i).map T.i))]) (fun i => i <= n) (fun i => n - i) 0 (Weak.o _ _ [some 15] ?_ ?_) (by omega) fun i hi R hn' hr he => ?_
  . simp -implicitDefEqProofs only [wR', Nat.reduceBEq, Nat.reduceEqDiff, ↓reduceIte]
  . refine ⟨⟨_, rfl, ?_⟩, rfl, trivial⟩
    rw [q0jc, q1oo, List.map_replicate]; exact .refl _
  . rcases Nat.lt_or_ge i n with h9 | h9
    . have hm : IntKind.i64.wrap (0 + (i : Int)) = (i : Int) := by rw [Int.zero_add, wrap64 (by omega) (by omega)]
      have hm2 : ((i : Int)).tmod (n : Int) = (i : Int) := by rw [Int.tmod_eq_emod_of_nonneg (by omega), Int.emod_eq_of_lt (by omega) (by omega)]
      simp -implicitDefEqProofs only [eR', go_sem, decide_eq_true (show (i : Int) < (n : Int) by omega), hm, hm2]
      refine ⟨by omega, ?_⟩
      by_cases hin : (i : Int) ∈ W
      . refine q006.p (q1ot W i (by omega)) [] rfl Try.call115 ?_ ?_
        . simp -implicitDefEqProofs only [aR', go_sem]
        simp -implicitDefEqProofs only [eR', go_sem, decide_eq_true hin, hquo, hl, show decide ((0 : Int) > 0) = false from rfl]
        refine ⟨by omega, by omega, by omega, by omega, ?_⟩
        refine hn' _ (i + 1) (Weak.of _ _ [some 99] (by simp) (by simp) ?_ ⟨⟨_, rfl, by rw [← q1om hin, List.map_set]; exact .refl _⟩, rfl, trivial⟩) (by omega) (by omega)
        simp -implicitDefEqProofs only [wR', Nat.reduceBEq, Nat.reduceEqDiff, ↓reduceIte, q0lb h9 (by omega)]
      . refine q006.p (q1ot W i (by omega)) [] rfl Try.call115 ?_ ?_
        . simp -implicitDefEqProofs only [aR', go_sem]
        simp -implicitDefEqProofs only [eR', go_sem, decide_eq_false hin]
        refine hn' _ (i + 1) (Weak.of _ _ [some 99] (by simp) (by simp) ?_ ⟨⟨_, rfl, by rw [q1on hin]; exact .refl _⟩, rfl, trivial⟩) (by omega) (by omega)
        simp -implicitDefEqProofs only [wR', Nat.reduceBEq, Nat.reduceEqDiff, ↓reduceIte, q0lb h9 (by omega)]
    . simp -implicitDefEqProofs only [eR', go_sem, decide_eq_false (show ¬ (i : Int) < (n : Int) by omega)]
      refine he _ _ ?_
      simp -implicitDefEqProofs only [eR', go_sem]
      rw [show i = n by omega, q1ol]; rfl
def addL (A B : List Int) : List Int := tabT A.length fun k => A.getD k 0 + B.getD k 0
def adTo (A B : List Int) (i : Nat) : List Int := tabT A.length fun k => if k < i then A.getD k 0 + B.getD k 0 else A.getD k 0
theorem q19p (A B : List Int) : adTo A B 0 = A := by
  refine List.ext_getElem? fun k => ?_
  by_cases h : k < A.length
  . rw [adTo, q1qj h, if_neg (by omega), List.getD_eq_getElem?_getD, List.getElem?_eq_getElem h]; rfl
  . rw [List.getElem?_eq_none (by rw [adTo, q1qk]; omega), List.getElem?_eq_none (by omega)]
theorem q19n (A B : List Int) : adTo A B A.length = addL A B := by
  refine List.ext_getElem? fun k => ?_
  by_cases h : k < A.length
  . rw [adTo, addL, q1qj h, q1qj h, if_pos h]
  . rw [List.getElem?_eq_none (by rw [adTo, q1qk]; omega), List.getElem?_eq_none (by rw [addL, q1qk]; omega)]
theorem q19o (A B : List Int) (i : Nat) : (adTo A B i).set i (A.getD i 0 + B.getD i 0) = adTo A B (i + 1) := by
  refine q1ql ?_ fun j hj => ?_
  . rw [if_pos (by omega)]
  . by_cases h1 : j < i
    . rw [if_pos h1, if_pos (by omega)]
    . rw [if_neg h1, if_neg (by omega)]
theorem q1j4 (a : Nat) (W A : List Int) (n : Nat) (hn : n <= 1000) (hW : 0 < W.length) (hWl : W.length <= 1000) (ha : a <= 1000) (hd : a % W.length = 0) (hA : A.length = n) (hAb : ∀ x ∈ A, 0 <= x /\ x <= 1000) :
    Fun Try.prog 99 [.box [.i n], .box [.i 0], .box [intsO A]] [.t (.i a), .t (ints W), .own 1000000000, .own 1000000001, .own 1000000002] fun o r => o = [.box [.i n], .box [.i 0], .box [intsO (addL A (tabT n (q1op W a)))]] /\ r = .tup [] := by
  refine q1fw (by simp) ?_
  simp -implicitDefEqProofs only [eR', go_sem, q1ax]
  refine q006.res (q1jq a W n hn hW hWl ha hd) [] rfl Try.call100 ?_ (.inl rfl) ?_
  . simp -implicitDefEqProofs only [aR', go_sem]
  simp -implicitDefEqProofs only [cR', go_sem, intsO]
  have hsl : (tabT n (q1op W a)).length = n := q1qk
  have hal : ∀ i, (adTo A (tabT n (q1op W a)) i).length = n := fun i => by rw [adTo, q1qk, hA]
  refine SemC.loopR (σ := Nat) (fun i => St.of [(4, .own 1000000002), (13, .own 13), (14, .t (.i n)), (15, .t (.i i))] [(1000000000, .box [.i n]), (1000000001, .box [.i 0]), (1000000002, .box [intsO (adTo A (tabT n (q1op W a)) i)]), (13, intsO (tabT n (q1op W a)))]) (fun i => i <= n) (fun i => n - i) 0 (Weak.o _ _ [some 1000000000, some 1000000001, some 1000000002, some 13] ?_ ?_) (by omega) fun i hi R hn' hr he => ?_
  . simp -implicitDefEqProofs only [wR', Nat.reduceBEq, Nat.reduceEqDiff, ↓reduceIte, hsl]
  . refine ⟨⟨_, rfl, .refl _⟩, rfl, ⟨_, rfl, .refl _⟩, rfl, ⟨_, rfl, ?_⟩, rfl, ⟨_, rfl, .refl _⟩, rfl, trivial⟩
    rw [q19p]; exact .refl _
  . rcases Nat.lt_or_ge i n with h9 | h9
    . have hS : (tabT n (q1op W a))[i]? = some (q1op W a i) := q1qj h9
      have hP : (adTo A (tabT n (q1op W a)) i)[i]? = some (A.getD i 0) := by rw [adTo, q1qj (by omega), if_neg (by omega)]
      have hSg : (tabT n (q1op W a)).getD i 0 = q1op W a i := by rw [List.getD_eq_getElem?_getD, hS]; rfl
      have hAi : 0 <= A.getD i 0 /\ A.getD i 0 <= 1000 := by
        obtain ⟨y, hy⟩ : ∃ y, A[i]? = some y := ⟨_, List.getElem?_eq_getElem (by omega)⟩
        rw [List.getD_eq_getElem?_getD, hy]; exact hAb y (List.mem_of_getElem? hy)
      have hSi : 0 <= q1op W a i /\ q1op W a i <= 1000 := by
        rw [q1op]
        split
        . have h1 : 0 <= (a : Int) / (W.length : Int) := Int.ediv_nonneg (by omega) (by omega)
          have h2 : (a : Int) / (W.length : Int) <= a := Int.ediv_le_self _ (by omega)
          omega
        . omega
      have hw : IntKind.i64.wrap (A.getD i 0 + q1op W a i) = A.getD i 0 + q1op W a i := wrap64 (by omega) (by omega)
      have hset := q19o A (tabT n (q1op W a)) i
      rw [hSg] at hset
      simp -implicitDefEqProofs only [eR', go_sem, intsO, hS, hP, hsl, hal, hw, decide_eq_true (show (i : Int) < (n : Int) by omega)]
      refine ⟨by omega, by omega, by omega, by omega, by omega, by omega, by omega, by omega, by omega, ?_⟩
      refine hn' _ (i + 1) (Weak.trans (Weak.close1 1000000002 0 20 rfl rfl (by decide) rfl) (Weak.o _ _ [some 1000000000, some 1000000001, some 1000000002, some 13] ?_ ?_)) (by omega) (by omega)
      . simp -implicitDefEqProofs only [wR', Nat.reduceBEq, Nat.reduceEqDiff, ↓reduceIte, q0lb h9 (by omega)]
      . refine ⟨⟨_, rfl, .refl _⟩, rfl, ⟨_, rfl, .refl _⟩, rfl, ⟨_, rfl, ?_⟩, rfl, ⟨_, rfl, .refl _⟩, rfl, trivial⟩
        rw [← hset, intsO, List.map_set]; exact .refl _
    . simp -implicitDefEqProofs only [eR', go_sem, decide_eq_false (show ¬ (i : Int) < (n : Int) by omega)]
      refine he _ _ ?_
      simp -implicitDefEqProofs only [eR', go_sem]
      rw [show i = A.length by omega, q19n]; rfl
end
section
attribute [-go_sem] q0i5 q0id fldC lenC idxC q0ip
def awL (n : Nat) (hw lw : List Int) : List Int :=
  if lw = [] then addL (List.replicate n 0) (tabT n (q1op hw 24)) else addL (addL (List.replicate n 0) (tabT n (q1op lw 12))) (tabT n (q1op hw 12))
theorem q1eg {k : Nat} (h : 0 < k) (h4 : k <= 4) : 12 % k = 0 /\ 24 % k = 0 := by
  have : k = 1 ∨ k = 2 ∨ k = 3 ∨ k = 4 := by omega
  rcases this with rfl | rfl | rfl | rfl <;> decide
theorem q1oq {W : List Int} {a k : Nat} (ha : a <= 24) : 0 <= q1op W a k /\ q1op W a k <= 24 := by
  rw [q1op]
  split
  . have h1 : 0 <= (a : Int) / (W.length : Int) := Int.ediv_nonneg (by omega) (by omega)
    have h2 : (a : Int) / (W.length : Int) <= a := Int.ediv_le_self _ (by omega)
    omega
  . omega
theorem q1j5 (n : Nat) (highs lows : List Int) (hn : n <= 4) (hh : highs.length = n) (hl : lows.length = n) (h0 : ∀ v ∈ highs, 0 <= v) (hw0 : q1a7 true highs (idsL n) ≠ []) :
    Fun Try.prog 83 [] [.t (.sh 2 [.i 24, ints (idsL n)]), .t (ints highs), .t (ints lows), .t (.i 0)] fun o r => o = [] /\ r = intsO (awL n (q1a7 true highs (idsL n)) (q1a7 false lows (idsL n))) := by
  have hil : (idsL n).length = n := q1qg
  have hH := q1je n highs (by omega) hh h0
  have hL := q1jk n lows (by omega) hl
  have hHl : (q1a7 true highs (idsL n)).length <= 4 := by have := q1a4 true highs (idsL n) (idsL n).length; rw [q1a7]; omega
  have hLl : (q1a7 false lows (idsL n)).length <= 4 := by have := q1a4 false lows (idsL n) (idsL n).length; rw [q1a7]; omega
  have hHp : 0 < (q1a7 true highs (idsL n)).length := List.length_pos_iff.2 hw0
  generalize q1a7 true highs (idsL n) = hw at hH hHl hHp
  generalize q1a7 false lows (idsL n) = lw at hL hLl
  refine q1fv (by simp) ?_
  simp -implicitDefEqProofs only [eR', go_sem, q1aw, hh]
  refine ⟨by omega, by omega, ?_⟩
  refine SemC.loopR (σ := Nat) (fun i => St.of [(1, .t (ints highs)), (2, .t (ints lows)), (10, .own 10), (11, .fn 99 [.own 9, .own 7, .own 10]), (21, .t (.sh 2 [.i 24, ints (idsL n)])), (22, .t (.i 1)), (23, .t (.i i))] [(9, .box [.i n]), (7, .box [.i 0]), (10, .box [intsO (if i = 0 then List.replicate n 0 else awL n hw lw)])]) (fun i => i <= 1) (fun i => 1 - i) 0 (Weak.o _ _ [some 9, some 7, some 10] ?_ ?_) (by omega) fun i hi R hn' hr he => ?_
  . simp -implicitDefEqProofs only [wR', Nat.reduceBEq, Nat.reduceEqDiff, ↓reduceIte]
    exact ⟨rfl, rfl, rfl, rfl⟩
  . refine ⟨⟨_, rfl, .refl _⟩, rfl, ⟨_, rfl, .refl _⟩, rfl, ⟨_, rfl, ?_⟩, rfl, trivial⟩
    rw [if_pos rfl, q0jc, intsO, List.map_replicate]; exact .refl _
  . rcases Nat.eq_zero_or_pos i with h9 | h9
    . subst h9
      simp -implicitDefEqProofs only [eR', go_sem, show decide (((0 : Nat) : Int) < 1) = true from rfl]
      refine ⟨by omega, ?_⟩
      refine q000.res hH [] rfl Try.call101 (fun e R' hR => ?_) (.inl rfl) ?_
      . simp -implicitDefEqProofs only [aR', go_sem]
      simp -implicitDefEqProofs only [cR', go_sem]
      have hns : ∀ X : List Int, (T.tup []).noSh /\ T.noShL [T.box [T.i n], T.box [T.i 0], T.box [intsO X]] := fun X => ⟨trivial, by simp [T.noSh, T.noShL], by simp [T.noSh, T.noShL], ⟨q0fh X, trivial⟩, trivial⟩
      have hz : (List.replicate n (0 : Int)).length = n := by simp
      have hzb : ∀ x ∈ List.replicate n (0 : Int), 0 <= x /\ x <= 1000 := fun x hx => by have := List.eq_of_mem_replicate hx; omega
      rcases Nat.eq_zero_or_pos lw.length with h8 | h8
      . refine q000.res hL [] rfl Try.call102 (fun e R' hR => ?_) (.inl rfl) ?_
        . simp -implicitDefEqProofs only [aR', go_sem]
        simp -implicitDefEqProofs only [cR', go_sem, intsO, h8, decide_eq_true (show (hw.length : Int) > 0 by omega), show decide (((0 : Nat) : Int) > 0) = false from rfl]
        have hA := q1j4 24 hw (List.replicate n 0) n (by omega) hHp (by omega) (by omega) (q1eg hHp hHl).2 hz hzb
        refine q006.ref hA [9, 7, 10] [30] rfl Try.call99 (by simp) ?_ (by simp) ?_ (.inr (hns _)) ?_
        . simp -implicitDefEqProofs only [sR', Nat.reduceEqDiff, ↓reduceIte]
        . simp -implicitDefEqProofs only [aR', go_sem]
        simp -implicitDefEqProofs only [cR', go_sem, intsO]
        refine hn' _ 1 (Weak.o _ _ [some 9, some 7, some 10] ?_ ?_) (by omega) (by omega)
        . simp -implicitDefEqProofs only [wR', Nat.reduceBEq, Nat.reduceEqDiff, ↓reduceIte, show IntKind.i64.wrap (((0 : Nat) : Int) + 1) = ((1 : Nat) : Int) from rfl]
          exact ⟨⟨rfl, rfl, rfl, rfl⟩, .inr (.inl rfl)⟩
        . refine ⟨⟨_, rfl, .refl _⟩, rfl, ⟨_, rfl, .refl _⟩, rfl, ⟨_, rfl, ?_⟩, rfl, trivial⟩
          rw [if_neg (by omega), awL, if_pos (List.eq_nil_of_length_eq_zero h8)]; exact .refl _
      . refine q000.res hL [] rfl Try.call102 (fun e R' hR => ?_) (.inl rfl) ?_
        . simp -implicitDefEqProofs only [aR', go_sem]
        simp -implicitDefEqProofs only [cR', go_sem, intsO, decide_eq_true (show (hw.length : Int) > 0 by omega), decide_eq_true (show (lw.length : Int) > 0 by omega), show IntKind.i64.wrap ((24 : Int).tdiv 2) = 12 from rfl]
        refine ⟨by omega, ?_⟩
        have hA := q1j4 12 lw (List.replicate n 0) n (by omega) h8 (by omega) (by omega) (q1eg h8 hLl).1 hz hzb
        refine q006.ref hA [9, 7, 10] [34] rfl Try.call99 (by simp) ?_ (by simp) ?_ (.inr (hns _)) ?_
        . simp -implicitDefEqProofs only [sR', Nat.reduceEqDiff, ↓reduceIte]
        . simp -implicitDefEqProofs only [aR', go_sem]
        simp -implicitDefEqProofs only [cR', go_sem, intsO, show IntKind.i64.wrap ((24 : Int).tdiv 2) = 12 from rfl, show IntKind.i64.wrap (24 - 12) = 12 from rfl]
        refine ⟨by omega, ?_⟩
        have hz2 : (addL (List.replicate n (0 : Int)) (tabT n (q1op lw ((12 : Nat) : Int)))).length = n := by rw [addL, q1qk, hz]
        have hzb2 : ∀ x ∈ addL (List.replicate n (0 : Int)) (tabT n (q1op lw ((12 : Nat) : Int))), 0 <= x /\ x <= 1000 := fun x hx => by
          obtain ⟨k, hk, rfl⟩ := List.mem_map.1 hx
          have hk : k < n := by simpa using hk
          have h1 : (List.replicate n (0 : Int)).getD k 0 = 0 := by rw [List.getD_eq_getElem?_getD, List.getElem?_replicate, if_pos hk]; rfl
          have h2 : (tabT n (q1op lw ((12 : Nat) : Int))).getD k 0 = q1op lw ((12 : Nat) : Int) k := by rw [List.getD_eq_getElem?_getD, q1qj hk]; rfl
          have := q1oq (W := lw) (a := 12) (k := k) (by omega)
          simp only [h1, h2]; omega
        have hB := q1j4 12 hw _ n (by omega) hHp (by omega) (by omega) (q1eg hHp hHl).1 hz2 hzb2
        simp only [intsO] at hB
        refine q006.ref hB [9, 7, 10] [30] rfl Try.call99 (by simp) ?_ (by simp) ?_ (.inr (hns _)) ?_
        . simp -implicitDefEqProofs only [sR', Nat.reduceEqDiff, ↓reduceIte]
        . simp -implicitDefEqProofs only [aR', go_sem]
        simp -implicitDefEqProofs only [cR', go_sem, intsO]
        refine hn' _ 1 (Weak.o _ _ [some 9, some 7, some 10] ?_ ?_) (by omega) (by omega)
        . simp -implicitDefEqProofs only [wR', Nat.reduceBEq, Nat.reduceEqDiff, ↓reduceIte, show IntKind.i64.wrap (((0 : Nat) : Int) + 1) = ((1 : Nat) : Int) from rfl]
          exact ⟨⟨rfl, rfl, rfl, rfl⟩, .inr (.inl rfl)⟩
        . refine ⟨⟨_, rfl, .refl _⟩, rfl, ⟨_, rfl, .refl _⟩, rfl, ⟨_, rfl, ?_⟩, rfl, trivial⟩
          rw [if_neg (by omega), awL, if_neg (fun e => by rw [e] at h8; simp at h8)]; exact .refl _
    . have h1 : i = 1 := by omega
      subst h1
      simp -implicitDefEqProofs only [eR', go_sem, show decide (((1 : Nat) : Int) < 1) = false from rfl]
      refine he _ _ ?_
      simp -implicitDefEqProofs only [eR', go_sem, intsO]
end
section
attribute [-go_sem] q0i5 q0id fldC lenC idxC q0ip
def q1mq (H L : List Int) : List Int := awL H.length (q1a7 true H (idsL H.length)) (q1a7 false L (idsL H.length))
theorem q1a8 {vals : List Int} {n : Nat} (hv : vals.length = n) (h0 : ∀ v ∈ vals, 0 <= v) : ∀ j, 1 <= j -> j <= n -> 0 <= (q1a3 true vals (idsL n) j).1 /\ (q1a3 true vals (idsL n) j).2 ≠ []
  | 0, h, _ => by omega
  | j + 1, _, hj => by
    have hx : (idsL n)[j]? = some (j : Int) := q1qf (by omega)
    have hg : (idsL n).getD j 0 = (j : Int) := by rw [List.getD_eq_getElem?_getD, hx]; rfl
    obtain ⟨v, hvx⟩ : ∃ v, vals[j]? = some v := ⟨_, List.getElem?_eq_getElem (by omega)⟩
    have hv0 := h0 v (List.mem_of_getElem? hvx)
    have hvg : vals.getD ((idsL n).getD j 0).toNat 0 = v := by rw [hg, Int.toNat_natCast, List.getD_eq_getElem?_getD, hvx]; rfl
    rw [q1a3, hvg, hg, q01x, if_neg (by omega)]
    split
    . exact ⟨hv0, by simp⟩
    . rename_i h1
      have h2 : ¬ (q1a3 true vals (idsL n) j).1 < 0 := fun e => h1 (.inl e)
      split
      . exact ⟨by simp only []; omega, by simp⟩
      . rcases Nat.eq_zero_or_pos j with e | e
        . subst e; exact absurd (show (q1a3 true vals (idsL n) 0).1 < 0 by simp [q1a3]) h2
        . exact q1a8 hv h0 j e (by omega)
theorem q1jn (v a b c : Int) (d : Bool) (lw : Int) (hsv : Pure Try.prog 49 [.i v] (.agg [.i a, .i b, .i c, .i 5, .b d, .i lw])) (holes : List (List Int)) (board : List Int) (hn : holes.length <= 4) (hn1 : 1 <= holes.length) (hv lv : List Int -> Int)
    (hhi : ∀ h ∈ holes, Pure Try.prog 81 [.agg [.i a, .i b, .i c, .i 5, .b d, .i lw], ints h, ints board] (.i (hv h)))
    (hlo : lw ≠ 0 -> ∀ h ∈ holes, Pure Try.prog 82 [.agg [.i a, .i b, .i c, .i 5, .b d, .i lw], ints h, ints board] (.i (lv h))) (hlz : lw = 0 -> ∀ h, lv h = -1) (h0 : ∀ h ∈ holes, 0 <= hv h) :
    Fun Try.prog 58 [] [.t (.i v), .t (rows holes), .t (ints board)] fun o r => o = [] /\ r = intsO (q1mq (holes.map hv) (holes.map lv)) := by
  have hml : (holes.map hv).length = holes.length := by simp
  have hll : (holes.map lv).length = holes.length := by simp
  have hil : (idsL holes.length).length = holes.length := q1qg
  refine q1gd (by simp) ?_
  simp -implicitDefEqProofs only [eR', go_sem, q1bg]
  refine q006.p hsv [] rfl Try.call49 ?_ ?_
  . simp -implicitDefEqProofs only [aR', go_sem]
  simp -implicitDefEqProofs only [eR', go_sem]
  refine ⟨by omega, by omega, by omega, by omega, by omega, by omega, ?_⟩
  refine SemC.loopR (σ := Nat) (fun i => St.of [(2, .t (ints board)), (7, .own 97), (8, .own 98), (9, .own 99), (10, .own 100), (24, .t (rows holes)), (25, .t (.i holes.length)), (26, .t (.i i))] [(97, .box [.i a, .i b, .i c, .i 5, .b d, .i lw]), (98, .arr 1 (((idsL holes.length).take i ++ List.replicate (holes.length - i) 0).map T.i)), (99, .arr 1 (((holes.map hv).take i ++ List.replicate (holes.length - i) 0).map T.i)), (100, .arr 1 (((holes.map lv).take i ++ List.replicate (holes.length - i) 0).map T.i))]) (fun i => i <= holes.length) (fun i => holes.length - i) 0 (Weak.o _ _ [some 7, some 17, some 20, some 23] ?_ ?_) (by omega) fun i hi R hn' hr he => ?_
  . simp -implicitDefEqProofs only [wR', Nat.reduceBEq, Nat.reduceEqDiff, ↓reduceIte]
  . refine ⟨⟨_, rfl, .refl _⟩, rfl, ⟨_, rfl, ?_⟩, rfl, ⟨_, rfl, ?_⟩, rfl, ⟨_, rfl, ?_⟩, rfl, trivial⟩
    all_goals
      simp only [List.take_zero, List.nil_append, Nat.sub_zero, q0jc, List.map_replicate]
      exact .refl _
  . have hfl : ∀ A : List Int, A.length = holes.length -> (A.take i ++ List.replicate (holes.length - i) 0).length = holes.length := fun A hA => by simp [hA]; omega
    rcases Nat.lt_or_ge i holes.length with h9 | h9
    . obtain ⟨h, hx⟩ : ∃ h, holes[i]? = some h := ⟨_, List.getElem?_eq_getElem h9⟩
      have hm := List.mem_of_getElem? hx
      simp -implicitDefEqProofs only [eR', go_sem, hx, hfl _ hil, decide_eq_true (show (i : Int) < (holes.length : Int) by omega)]
      have hI : (idsL holes.length)[i]? = some (i : Int) := q1qf h9
      have hH : (holes.map hv)[i]? = some (hv h) := by rw [List.getElem?_map, hx]; rfl
      have hL : (holes.map lv)[i]? = some (lv h) := by rw [List.getElem?_map, hx]; rfl
      have hc0 := hhi h hm
      refine ⟨by omega, by omega, by omega, by omega, by omega, by omega, ?_⟩
      by_cases hlw : lw = 0
      . have hlvz := hlz hlw h
        rw [hlvz] at hL
        refine q006.p hc0 [] rfl Try.call81 ?_ ?_
        . simp -implicitDefEqProofs only [aR', go_sem]
        simp -implicitDefEqProofs only [eR', go_sem, hfl _ hml, hfl _ hll, show (lw != 0) = false from by rw [hlw]; rfl]
        refine ⟨by omega, by omega, by omega, by omega, by omega, by omega, ?_⟩
        refine hn' _ (i + 1) (Weak.o _ _ [some 97, some 98, some 99, some 100] ?_ ?_) (by omega) (by omega)
        . simp -implicitDefEqProofs only [wR', Nat.reduceBEq, Nat.reduceEqDiff, ↓reduceIte, q0lb h9 (by omega)]
        . rw [← q1ez hI h9, ← q1ez hH h9, ← q1ez hL h9, List.map_set, List.map_set, List.map_set]
          exact ⟨⟨_, rfl, .refl _⟩, rfl, ⟨_, rfl, .refl _⟩, rfl, ⟨_, rfl, .refl _⟩, rfl, ⟨_, rfl, .refl _⟩, rfl, trivial⟩
      . have hc1 := hlo hlw h hm
        refine q006.p hc0 [] rfl Try.call81 ?_ ?_
        . simp -implicitDefEqProofs only [aR', go_sem]
        simp -implicitDefEqProofs only [eR', go_sem, hfl _ hml, hfl _ hll, show (lw != 0) = true from by rw [bne_iff_ne]; exact hlw]
        refine ⟨by omega, by omega, by omega, by omega, by omega, by omega, ?_⟩
        refine q006.p hc1 [] rfl Try.call82 ?_ ?_
        . simp -implicitDefEqProofs only [aR', go_sem]
        simp -implicitDefEqProofs only [eR', go_sem, hfl _ hml, hfl _ hll, List.length_set, List.set_set]
        refine ⟨by omega, by omega, by omega, ?_⟩
        refine hn' _ (i + 1) (Weak.o _ _ [some 97, some 98, some 99, some 100] ?_ ?_) (by omega) (by omega)
        . simp -implicitDefEqProofs only [wR', Nat.reduceBEq, Nat.reduceEqDiff, ↓reduceIte, q0lb h9 (by omega)]
        . rw [← q1ez hI h9, ← q1ez hH h9, ← q1ez hL h9, List.map_set, List.map_set, List.map_set]
          refine ⟨⟨_, rfl, .refl _⟩, rfl, ⟨_, rfl, .refl _⟩, rfl, ⟨_, rfl, .refl _⟩, rfl, ⟨_, rfl, ?_⟩, rfl, trivial⟩
          first | exact .refl _ | (rw [List.set_set]; exact .refl _)
    . simp -implicitDefEqProofs only [eR', go_sem, decide_eq_false (show ¬ (i : Int) < (holes.length : Int) by omega)]
      refine he _ _ ?_
      have e : i = holes.length := by omega
      have ef : ∀ A : List Int, A.length = holes.length -> A.take i ++ List.replicate (holes.length - i) 0 = A := fun A hA => by
        rw [e, Nat.sub_self, List.replicate_zero, List.append_nil, ← hA, List.take_length]
      rw [ef _ hil, ef _ hml, ef _ hll]
      have hb := q1a8 hml (fun x hx => by obtain ⟨h, h1, rfl⟩ := List.mem_map.1 hx; exact h0 h h1) holes.length hn1 (Nat.le_refl _)
      have haw := q1j5 holes.length (holes.map hv) (holes.map lv) hn hml hll (fun x hx => by obtain ⟨h, h1, rfl⟩ := List.mem_map.1 hx; exact h0 h h1) (by rw [q1a7, hil]; exact hb.2)
      simp -implicitDefEqProofs only [eR', go_sem]
      refine q006.res haw [58, 99, 100] rfl Try.call83 ?_ (.inr (q0fh _)) ?_
      . simp -implicitDefEqProofs only [aR', go_sem]
      simp -implicitDefEqProofs only [cR', go_sem]
      rw [q1mq, hml]
end
section
attribute [-go_sem] q0i5 q0id fldC lenC idxC q0ip
theorem q1a6 (hi : Bool) (vals : List Int) (n : Nat) : ∀ j, j <= n -> (∀ w ∈ (q1a3 hi vals (idsL n) j).2, ∃ k : Nat, k < j /\ w = (k : Int)) /\ (q1a3 hi vals (idsL n) j).2.Nodup
  | 0, _ => ⟨fun w h => by simp [q1a3] at h, by simp [q1a3]⟩
  | j + 1, hj => by
    obtain ⟨h1, h2⟩ := q1a6 hi vals n j (by omega)
    have hx : (idsL n)[j]? = some (j : Int) := q1qf (by omega)
    have hg : (idsL n).getD j 0 = (j : Int) := by rw [List.getD_eq_getElem?_getD, hx]; rfl
    rw [q1a3, hg, q01x]
    split
    . exact ⟨fun w hw => by obtain ⟨k, a, b⟩ := h1 w hw; exact ⟨k, by omega, b⟩, h2⟩
    . split
      . exact ⟨fun w hw => ⟨j, by omega, by simpa using hw⟩, by simp⟩
      . split
        . refine ⟨fun w hw => ?_, ?_⟩
          . rcases List.mem_append.1 hw with hw | hw
            . obtain ⟨k, a, b⟩ := h1 w hw; exact ⟨k, by omega, b⟩
            . exact ⟨j, by omega, by simpa using hw⟩
          . rw [List.nodup_append]
            refine ⟨h2, by simp, fun x hx y hy e => ?_⟩
            have hy : y = (j : Int) := by simpa using hy
            obtain ⟨k, a, b⟩ := h1 x hx
            omega
        . exact ⟨fun w hw => by obtain ⟨k, a, b⟩ := h1 w hw; exact ⟨k, by omega, b⟩, h2⟩
def outT (n : Nat) (base : Nat -> Int) (W : List Int) (x : Int) (i : Nat) : List Int := tabT n fun k => base k + if (k : Int) ∈ W.take i then x else 0
theorem q1mk {n : Nat} {base : Nat -> Int} {W : List Int} {x : Int} {i w : Nat} (hx : W[i]? = some (w : Int)) (hnd : W.Nodup) : (outT n base W x i).set w (base w + x) = outT n base W x (i + 1) := by
  refine q1ql ?_ fun j hj => ?_
  . rw [if_pos (by rw [q0uj hx]; simp)]
  . have : ((j : Int) ∈ W.take (i + 1)) ↔ (j : Int) ∈ W.take i := by
      rw [q0uj hx]; simp; omega
    simp only [this]
theorem q1mn {n : Nat} {base : Nat -> Int} {W : List Int} {x : Int} {i w : Nat} (hx : W[i]? = some (w : Int)) (hnd : W.Nodup) (hw : w < n) : (outT n base W x i)[w]? = some (base w) := by
  rw [outT, q1qj hw]
  have : (w : Int) ∉ W.take i := by
    intro h
    have h2 := hnd.sublist (List.take_sublist (i + 1) W)
    rw [q0uj hx, List.nodup_append] at h2
    exact h2.2.2 _ h _ (by simp) rfl
  rw [if_neg this, Int.add_zero]
theorem q1a1 (n : Nat) (hw lw : List Int) : awL n hw lw = outT n (fun k => 0 + if (k : Int) ∈ hw.take hw.length then (if lw = [] then 24 else 12) / (hw.length : Int) else 0) lw ((if lw = [] then 24 else 12) / (lw.length : Int)) lw.length := by
  have hr : (List.replicate n (0 : Int)).length = n := by simp
  have hr0 : ∀ k, k < n -> (List.replicate n (0 : Int)).getD k 0 = 0 := fun k h => by rw [List.getD_eq_getElem?_getD, List.getElem?_replicate, if_pos h]; rfl
  have hg : ∀ (F : Nat -> Int) k, k < n -> (tabT n F).getD k 0 = F k := fun F k h => by rw [List.getD_eq_getElem?_getD, q1qj h]; rfl
  refine List.ext_getElem? fun k => ?_
  by_cases hk : k < n
  . rw [outT, q1qj hk, List.take_length, List.take_length]
    unfold awL
    by_cases hl : lw = []
    . subst hl
      simp only [if_pos, if_true]
      rw [addL, q1qj (by rw [hr]; exact hk), hr0 k hk, hg _ k hk, q1op]; simp
    . rw [if_neg hl, if_neg hl, addL, q1qj (by rw [addL, q1qk, hr]; exact hk), hg _ k hk]
      have : (addL (List.replicate n 0) (tabT n (q1op lw 12))).getD k 0 = q1op lw 12 k := by
        rw [addL, hr, hg _ k hk, hr0 k hk, hg _ k hk, Int.zero_add]
      rw [this, q1op, q1op]
      congr 1
      simp only [Int.zero_add]
      exact Int.add_comm _ _
  . rw [List.getElem?_eq_none (by unfold awL; split <;> simp [addL, q1qk]; all_goals omega), List.getElem?_eq_none (by rw [outT, q1qk]; omega)]
end
section
attribute [-go_sem] q0i5 q0id fldC lenC idxC q0ip
def loOf : Nat -> Nat | 0 => 0 | _ => 2
def hoOf : Nat -> Nat | 0 => 2 | _ => 4
def lwOf : Nat -> Int | 2 => 1 | _ => 0
def hvV (v : Nat) (board h : List Int) : Int := maxV (q1if (loOf v) 2 h board)
def lvV (v : Nat) (board h : List Int) : Int := if v = 2 then lowR (q1if (loOf v) 2 h board) else -1
theorem q1q1 : ∀ v, v <= 2 -> List.take 6 (List.drop (v * 6) [T.i 2, T.i 0, T.i 2, T.i 5, T.b true, T.i 0, T.i 4, T.i 2, T.i 2, T.i 5, T.b true, T.i 0, T.i 4, T.i 2, T.i 2, T.i 5, T.b true, T.i 1, T.i 7, T.i 5, T.i 5, T.i 0, T.b true, T.i 0, T.i 7, T.i 5, T.i 5, T.i 0, T.b true, T.i 1, T.i 7, T.i 5, T.i 5, T.i 0, T.b false, T.i 2, T.i 5, T.i 5, T.i 5, T.i 0, T.b true, T.i 0, T.i 5, T.i 5, T.i 5, T.i 0, T.b false, T.i 3]) = [.i (hoOf v : Nat), .i (loOf v : Nat), .i (2 : Nat), .i 5, .b true, .i (lwOf v)]
  | 0, _ => rfl | 1, _ => rfl | 2, _ => rfl | n + 3, h => by omega
theorem q1kw : ∀ {v : Nat}, v <= 2 -> v ≠ 2 -> lwOf v = 0
  | 0, _, _ => rfl | 1, _, _ => rfl | 2, _, h => absurd rfl h | n + 3, h, _ => by omega
theorem q1ku : ∀ v, loOf v <= 2
  | 0 => by decide | n + 1 => Nat.le_refl 2
theorem q1is : ∀ v, hoOf v <= 4
  | 0 => by decide | n + 1 => Nat.le_refl 4
theorem q1id {lo hi : Nat} {hole board h : List Int} (hhi : hi <= 5) (hc : q1cv (hole ++ board)) (hh : h ∈ q1if lo hi hole board) : q1cv h /\ h.length = 5 := by
  obtain ⟨n, a, b, h1, h2, h3, h4, h5, h6, rfl⟩ := q1ig.1 hh
  have hs : (a ++ b).Sublist (hole ++ board) := h3.append h5
  refine ⟨⟨hc.1.sublist hs, fun x hx => hc.2 x (hs.subset hx)⟩, ?_⟩
  rw [List.length_append]; omega
theorem q1ml (n : Nat) (base : Nat -> Int) (W : List Int) (x : Int) : outT n base W x 0 = tabT n base := by
  refine List.ext_getElem? fun k => ?_
  by_cases h : k < n
  . rw [outT, q1qj h, q1qj h]; simp
  . rw [List.getElem?_eq_none (by rw [outT, q1qk]; omega), List.getElem?_eq_none (by rw [q1qk]; omega)]
theorem q1mm (n : Nat) (W : List Int) (x : Int) : outT n (fun _ => 0) W x 0 = List.replicate n 0 := by
  refine List.ext_getElem? fun k => ?_
  by_cases h : k < n
  . rw [outT, q1qj h, List.getElem?_replicate, if_pos h]; simp
  . rw [List.getElem?_eq_none (by rw [outT, q1qk]; omega), List.getElem?_eq_none (by simp; omega)]
theorem q1pw (v : Nat) (hv3 : v <= 2) (holes : List (List Int)) (board : List Int) (hn : holes.length <= 4) (hn1 : 1 <= holes.length) (hc : ∀ h ∈ holes, q1cv (h ++ board) /\ h.length = hoOf v) (h5 : board.length = 5) :
    Fun Try.prog 59 [] [.t (.i v), .t (rows holes), .t (ints board)] fun o r => o = [] /\ r = intsO (q1mq (holes.map (hvV v board)) (holes.map (lvV v board))) := by
  refine q1hp (by simp) ?_
  simp -implicitDefEqProofs only [eR', go_sem, q1cs]
  have hcut := q1q1 v hv3
  refine q006.res q1pr [] rfl Try.call54 ?_ (.inl rfl) ?_
  . simp -implicitDefEqProofs only [aR', go_sem]
  simp -implicitDefEqProofs only [cR', go_sem, stdT, hcut]
  refine ⟨by omega, by omega, by omega, ?_⟩
  have hml : (holes.map (hvV v board)).length = holes.length := by simp
  have hll : (holes.map (lvV v board)).length = holes.length := by simp
  have hil : (idsL holes.length).length = holes.length := q1qg
  have hlo := q1ku v
  have hho := q1is v
  refine SemC.loopR (σ := Nat) (fun i => St.of [(1, .t (rows holes)), (2, .t (ints board)), (7, .own 97), (8, .own 98), (9, .own 99), (10, .own 100), (11, .t (.i i))] [(97, .box [.i (hoOf v : Nat), .i (loOf v : Nat), .i (2 : Nat), .i 5, .b true, .i (lwOf v)]), (98, .arr 1 (((holes.map (hvV v board)).take i).map T.i)), (99, .arr 1 (((holes.map (lvV v board)).take i).map T.i)), (100, .arr 1 (((idsL holes.length).take i).map T.i))]) (fun i => i <= holes.length) (fun i => holes.length - i) 0 (Weak.of _ _ [some 7, some 28, some 29, some 30] (by simp) (by simp) ?_ ⟨⟨_, rfl, .refl _⟩, rfl, ⟨_, rfl, .refl _⟩, rfl, ⟨_, rfl, .refl _⟩, rfl, ⟨_, rfl, .refl _⟩, rfl, trivial⟩) (by omega) fun i hi R hn' hr he => ?_
  . simp -implicitDefEqProofs only [wR', Nat.reduceBEq, Nat.reduceEqDiff, ↓reduceIte]
  . rcases Nat.lt_or_ge i holes.length with h9 | h9
    . obtain ⟨h, hx⟩ : ∃ h, holes[i]? = some h := ⟨_, List.getElem?_eq_getElem h9⟩
      obtain ⟨hcd, hhl⟩ := hc h (List.mem_of_getElem? hx)
      have hI : (idsL holes.length)[i]? = some (i : Int) := q1qf h9
      have hH : (holes.map (hvV v board))[i]? = some (hvV v board h) := by rw [List.getElem?_map, hx]; rfl
      have hL : (holes.map (lvV v board))[i]? = some (lvV v board h) := by rw [List.getElem?_map, hx]; rfl
      have hhd := q1po (hoOf v) (loOf v) 2 true (lwOf v) h board (by omega) (by omega) hlo (by omega)
      simp only [vGen] at hhd
      have hhc : ∀ x ∈ q1if (loOf v) 2 h board, q1cv x /\ x.length = 5 := fun x hx => q1id (by omega) hcd hx
      have hhn : (q1if (loOf v) 2 h board).length <= 100000 := by
        rw [← q1ii]
        have := q1ij (lo := loOf v) (hole := h) (board := board) (by omega) (by omega) (2 + 1 - loOf v)
        omega
      have hhv : hvV v board h = maxV (q1if (loOf v) 2 h board) := rfl
      have hlv : lvV v board h = if v = 2 then lowR (q1if (loOf v) 2 h board) else -1 := rfl
      generalize hvV v board h = hv at hH hhv
      generalize lvV v board h = lv at hL hlv
      generalize q1if (loOf v) 2 h board = HH at hhd hhc hhn hhv hlv
      have hhigh := q1pp HH hhc hhn
      rw [← hhv] at hhigh
      have htl : ∀ A : List Int, (A.take i).length <= 4 := fun A => by rw [List.length_take]; omega
      have t1 := htl (holes.map (hvV v board))
      have t2 := htl (holes.map (lvV v board))
      have t3 := htl (idsL holes.length)
      simp -implicitDefEqProofs only [eR', go_sem, hx, decide_eq_true (show (i : Int) < (holes.length : Int) by omega)]
      refine ⟨by omega, by omega, by omega, ?_⟩
      refine q000.res hhd [] rfl Try.call84 (fun e R' hR => ?_) (.inl rfl) ?_
      . simp -implicitDefEqProofs only [aR', go_sem]
      simp -implicitDefEqProofs only [cR', go_sem]
      by_cases hv2 : v = 2
      . have hlow : Pure Try.prog 86 [.agg [.i (hoOf v : Nat), .i (loOf v : Nat), .i (2 : Nat), .i 5, .b true, .i (lwOf v)], rows HH] (.tup [.i (lowX HH HH.length), .i (lowT HH HH.length)]) := by subst hv2; exact q1pq HH hhc hhn
        have hcnt : Pure Try.prog 87 [.agg [.i (hoOf v : Nat), .i (loOf v : Nat), .i (2 : Nat), .i 5, .b true, .i (lwOf v)], .i (lowT HH HH.length)] (.b (decide (0 <= lowT HH HH.length /\ lowT HH HH.length <= 228487))) := by subst hv2; exact q1pn _
        rw [if_pos hv2, lowR] at hlv
        generalize lowT HH HH.length = m at hlow hcnt hlv
        generalize lowX HH HH.length = mx at hlow
        refine q006.p hhigh [43] rfl Try.call85 ?_ ?_
        . simp -implicitDefEqProofs only [aR', go_sem]
        simp -implicitDefEqProofs only [eR', go_sem, show (lwOf v != 0) = true from by rw [hv2]; rfl]
        refine q006.p hlow [43] rfl Try.call86 ?_ ?_
        . simp -implicitDefEqProofs only [aR', go_sem]
        simp -implicitDefEqProofs only [eR', go_sem]
        by_cases hP : 0 <= m /\ m <= 228487
        . rw [if_pos hP] at hlv
          subst hlv
          refine q006.p hcnt [] rfl Try.call87 ?_ ?_
          . simp -implicitDefEqProofs only [aR', go_sem]
          simp -implicitDefEqProofs only [eR', go_sem, decide_eq_true hP]
          refine ⟨by omega, by omega, by omega, ?_⟩
          refine hn' _ (i + 1) (Weak.o _ _ [some 97, some 65, some 69, some 73] ?_ ?_) (by omega) (by omega)
          . simp -implicitDefEqProofs only [wR', Nat.reduceBEq, Nat.reduceEqDiff, ↓reduceIte, q0lb h9 (by omega)]
          . rw [q0uj hI, q0uj hH, q0uj hL, List.map_append, List.map_append, List.map_append]
            exact ⟨⟨_, rfl, .refl _⟩, rfl, ⟨_, rfl, .refl _⟩, rfl, ⟨_, rfl, .refl _⟩, rfl, ⟨_, rfl, .refl _⟩, rfl, trivial⟩
        . rw [if_neg hP] at hlv
          subst hlv
          refine q006.p hcnt [] rfl Try.call87 ?_ ?_
          . simp -implicitDefEqProofs only [aR', go_sem]
          simp -implicitDefEqProofs only [eR', go_sem, decide_eq_false hP]
          refine ⟨by omega, by omega, by omega, ?_⟩
          refine hn' _ (i + 1) (Weak.o _ _ [some 97, some 65, some 69, some 73] ?_ ?_) (by omega) (by omega)
          . simp -implicitDefEqProofs only [wR', Nat.reduceBEq, Nat.reduceEqDiff, ↓reduceIte, q0lb h9 (by omega)]
          . rw [q0uj hI, q0uj hH, q0uj hL, List.map_append, List.map_append, List.map_append]
            exact ⟨⟨_, rfl, .refl _⟩, rfl, ⟨_, rfl, .refl _⟩, rfl, ⟨_, rfl, .refl _⟩, rfl, ⟨_, rfl, .refl _⟩, rfl, trivial⟩
      . have hlz := q1kw hv3 hv2
        rw [if_neg hv2] at hlv
        subst hlv
        refine q006.p hhigh [43] rfl Try.call85 ?_ ?_
        . simp -implicitDefEqProofs only [aR', go_sem]
        simp -implicitDefEqProofs only [eR', go_sem, show (lwOf v != 0) = false from by rw [hlz]; rfl]
        refine ⟨by omega, by omega, by omega, ?_⟩
        refine hn' _ (i + 1) (Weak.o _ _ [some 97, some 65, some 69, some 73] ?_ ?_) (by omega) (by omega)
        . simp -implicitDefEqProofs only [wR', Nat.reduceBEq, Nat.reduceEqDiff, ↓reduceIte, q0lb h9 (by omega)]
        . rw [q0uj hI, q0uj hH, q0uj hL, List.map_append, List.map_append, List.map_append]
          exact ⟨⟨_, rfl, .refl _⟩, rfl, ⟨_, rfl, .refl _⟩, rfl, ⟨_, rfl, .refl _⟩, rfl, ⟨_, rfl, .refl _⟩, rfl, trivial⟩
    . simp -implicitDefEqProofs only [eR', go_sem, decide_eq_false (show ¬ (i : Int) < (holes.length : Int) by omega)]
      refine he _ _ ?_
      have e : i = holes.length := by omega
      have ef : ∀ A : List Int, A.length = holes.length -> A.take i = A := fun A hA => by rw [e, ← hA, List.take_length]
      rw [ef _ hil, ef _ hml, ef _ hll]
      have hbH := q1pt true holes.length _ (by omega) hml
      have hbL := q1pt false holes.length _ (by omega) hll
      have hout := q1a1 holes.length (q1a7 true (holes.map (hvV v board)) (idsL holes.length)) (q1a7 false (holes.map (lvV v board)) (idsL holes.length))
      rw [q1mq, hml, hout]
      obtain ⟨hwm, hwd⟩ := q1a6 true (holes.map (hvV v board)) holes.length holes.length (Nat.le_refl _)
      obtain ⟨lwm, lwd⟩ := q1a6 false (holes.map (lvV v board)) holes.length holes.length (Nat.le_refl _)
      have eH : (q1a3 true (holes.map (hvV v board)) (idsL holes.length) holes.length).2 = q1a7 true (holes.map (hvV v board)) (idsL holes.length) := by rw [q1a7, hil]
      have eL : (q1a3 false (holes.map (lvV v board)) (idsL holes.length) holes.length).2 = q1a7 false (holes.map (lvV v board)) (idsL holes.length) := by rw [q1a7, hil]
      have hHl := q1a4 true (holes.map (hvV v board)) (idsL holes.length) holes.length
      have hLl := q1a4 false (holes.map (lvV v board)) (idsL holes.length) holes.length
      rw [eH] at hwm hwd hHl
      rw [eL] at lwm lwd hLl
      generalize q1a7 true (holes.map (hvV v board)) (idsL holes.length) = hw at hbH hout hwm hwd hHl ⊢
      generalize q1a7 false (holes.map (lvV v board)) (idsL holes.length) = lw at hbL hout lwm lwd hLl ⊢
      simp -implicitDefEqProofs only [eR', go_sem]
      refine ⟨by omega, by omega, ?_⟩
      refine q006.res hbH [100, 98] rfl Try.call88 ?_ (.inr (q0fh _)) ?_
      . simp -implicitDefEqProofs only [aR', go_sem]
      simp -implicitDefEqProofs only [cR', go_sem]
      refine q006.res hbL [100, 99] rfl Try.call88 ?_ (.inr (q0fh _)) ?_
      . simp -implicitDefEqProofs only [aR', go_sem]
      simp -implicitDefEqProofs only [cR', go_sem, intsO]
      by_cases h8 : lw = []
      . have hP : (if lw = [] then (24 : Int) else 12) = 24 := by rw [if_pos h8]
        try rw [hP] at hout
        have hqh : IntKind.i64.wrap ((24 : Int).tdiv (hw.length : Int)) = (24 : Int) / (hw.length : Int) := by
          rw [Int.tdiv_eq_ediv_of_nonneg (by omega)]
          have h1 : 0 <= (24 : Int) / (hw.length : Int) := Int.ediv_nonneg (by omega) (by omega)
          have h2 : (24 : Int) / (hw.length : Int) <= 24 := Int.ediv_le_self _ (by omega)
          exact wrap64 (by omega) (by omega)
        have hqb : ∀ k : Nat, 0 <= (0 + if (k : Int) ∈ hw.take hw.length then (24 : Int) / (hw.length : Int) else 0) /\ (0 + if (k : Int) ∈ hw.take hw.length then (24 : Int) / (hw.length : Int) else 0) <= 24 := fun k => by
          have h1 : 0 <= (24 : Int) / (hw.length : Int) := Int.ediv_nonneg (by omega) (by omega)
          have h2 : (24 : Int) / (hw.length : Int) <= 24 := Int.ediv_le_self _ (by omega)
          split <;> omega
        have hz : ¬ ((lw.length : Int) > 0) := by rw [h8]; simp
        simp only [hP]
        refine ⟨fun h => absurd h hz, fun _ => ?_⟩
        refine SemC.loopR (σ := Nat) (fun i => St.of [(18, .own 118), (19, .own 119), (20, .own 120), (21, .t (.i 24)), (22, .t (.i i))] [(118, .arr 1 ((outT holes.length (fun _ => 0) hw ((24 : Int) / (hw.length : Int)) i).map T.i)), (119, .arr 1 (hw.map T.i)), (120, .arr 1 (lw.map T.i))]) (fun i => i <= hw.length) (fun i => hw.length - i) 0 (Weak.o _ _ [some 76, some 79, some 82] ?_ ?_) (by omega) fun i hi R hn' hr he => ?_
        . simp -implicitDefEqProofs only [wR', Nat.reduceBEq, Nat.reduceEqDiff, ↓reduceIte]
        . refine ⟨⟨_, rfl, ?_⟩, rfl, ⟨_, rfl, .refl _⟩, rfl, ⟨_, rfl, .refl _⟩, rfl, trivial⟩
          rw [q1mm, q0jc, List.map_replicate]; exact .refl _
        . rcases Nat.lt_or_ge i hw.length with h9 | h9
          . obtain ⟨x, hx⟩ : ∃ x, hw[i]? = some x := ⟨_, List.getElem?_eq_getElem h9⟩
            obtain ⟨w, hwn, rfl⟩ := hwm x (List.mem_of_getElem? hx)
            have hS := q1mk (n := holes.length) (base := fun _ => (0 : Int)) (x := (24 : Int) / (hw.length : Int)) hx hwd
            have hA := q1mn (n := holes.length) (base := fun _ => (0 : Int)) (x := (24 : Int) / (hw.length : Int)) hx hwd hwn
            simp only [Int.zero_add] at hS
            have hol : (outT holes.length (fun _ => (0 : Int)) hw ((24 : Int) / (hw.length : Int)) i).length = holes.length := q1qk
            simp -implicitDefEqProofs only [eR', go_sem, hx, hol, hqh, decide_eq_true (show (i : Int) < (hw.length : Int) by omega)]
            refine ⟨by omega, by omega, by omega, by omega, by omega, by omega, by omega, ?_⟩
            refine hn' _ (i + 1) (Weak.o _ _ [some 118, some 119, some 120] ?_ ?_) (by omega) (by omega)
            . simp -implicitDefEqProofs only [wR', Nat.reduceBEq, Nat.reduceEqDiff, ↓reduceIte, q0lb h9 (by omega)]
            . refine ⟨⟨_, rfl, ?_⟩, rfl, ⟨_, rfl, .refl _⟩, rfl, ⟨_, rfl, .refl _⟩, rfl, trivial⟩
              rw [← hS, List.map_set]; exact .refl _
          . simp -implicitDefEqProofs only [eR', go_sem, decide_eq_false (show ¬ (i : Int) < (hw.length : Int) by omega)]
            refine he _ _ ?_
            simp -implicitDefEqProofs only [eR', go_sem]
            rw [show i = hw.length by omega]
            generalize hbs : (fun k : Nat => (0 : Int) + if (k : Int) ∈ hw.take hw.length then (24 : Int) / (hw.length : Int) else 0) = base at hqb ⊢
            have hbt : outT holes.length (fun _ => 0) hw ((24 : Int) / (hw.length : Int)) hw.length = tabT holes.length base := by rw [← hbs]; rfl
            rw [hbt]
            have hqb2 : ∀ k, 0 <= base k /\ base k <= 24 := fun k => by rw [← hbs]; exact hqb k
            refine SemC.loopR (σ := Nat) (fun i => St.of [(18, .own 118), (20, .own 120), (21, .t (.i 24)), (23, .t (.i i))] [(118, .arr 1 ((outT holes.length base lw ((24 : Int) / (lw.length : Int)) i).map T.i)), (120, .arr 1 (lw.map T.i))]) (fun i => i <= lw.length) (fun i => lw.length - i) 0 (Weak.o _ _ [some 118, some 120] ?_ ?_) (by omega) fun i hi R hn' hr he => ?_
            . simp -implicitDefEqProofs only [wR', Nat.reduceBEq, Nat.reduceEqDiff, ↓reduceIte]
            . refine ⟨⟨_, rfl, ?_⟩, rfl, ⟨_, rfl, .refl _⟩, rfl, trivial⟩
              rw [q1ml]; exact .refl _
            . rcases Nat.lt_or_ge i lw.length with h9 | h9
              . obtain ⟨x, hx⟩ : ∃ x, lw[i]? = some x := ⟨_, List.getElem?_eq_getElem h9⟩
                obtain ⟨w, lwn, rfl⟩ := lwm x (List.mem_of_getElem? hx)
                have hS := q1mk (n := holes.length) (base := base) (x := (24 : Int) / (lw.length : Int)) hx lwd
                have hA := q1mn (n := holes.length) (base := base) (x := (24 : Int) / (lw.length : Int)) hx lwd lwn
                have hol : (outT holes.length base lw ((24 : Int) / (lw.length : Int)) i).length = holes.length := q1qk
                have h1 : 0 <= (24 : Int) / (lw.length : Int) := Int.ediv_nonneg (by omega) (by omega)
                have h2 : (24 : Int) / (lw.length : Int) <= 24 := Int.ediv_le_self _ (by omega)
                have hql : IntKind.i64.wrap ((24 : Int).tdiv (lw.length : Int)) = (24 : Int) / (lw.length : Int) := by
                  rw [Int.tdiv_eq_ediv_of_nonneg (by omega)]; exact wrap64 (by omega) (by omega)
                have hbw := hqb2 w
                have hadd : IntKind.i64.wrap (base w + (24 : Int) / (lw.length : Int)) = base w + (24 : Int) / (lw.length : Int) := wrap64 (by omega) (by omega)
                simp -implicitDefEqProofs only [eR', go_sem, hx, hol, hA, hql, hadd, decide_eq_true (show (i : Int) < (lw.length : Int) by omega)]
                refine ⟨by omega, by omega, by omega, by omega, by omega, by omega, by omega, by omega, by omega, by omega, by omega, by omega, by omega, ?_⟩
                refine hn' _ (i + 1) (Weak.o _ _ [some 118, some 120] ?_ ?_) (by omega) (by omega)
                . simp -implicitDefEqProofs only [wR', Nat.reduceBEq, Nat.reduceEqDiff, ↓reduceIte, q0lb h9 (by omega)]
                . refine ⟨⟨_, rfl, ?_⟩, rfl, ⟨_, rfl, .refl _⟩, rfl, trivial⟩
                  rw [← hS, List.map_set]; exact .refl _
              . simp -implicitDefEqProofs only [eR', go_sem, decide_eq_false (show ¬ (i : Int) < (lw.length : Int) by omega)]
                refine he _ _ ?_
                simp -implicitDefEqProofs only [eR', go_sem]
                rw [show i = lw.length by omega]
      . have hP : (if lw = [] then (24 : Int) else 12) = 12 := by rw [if_neg h8]
        try rw [hP] at hout
        have hqh : IntKind.i64.wrap ((12 : Int).tdiv (hw.length : Int)) = (12 : Int) / (hw.length : Int) := by
          rw [Int.tdiv_eq_ediv_of_nonneg (by omega)]
          have h1 : 0 <= (12 : Int) / (hw.length : Int) := Int.ediv_nonneg (by omega) (by omega)
          have h2 : (12 : Int) / (hw.length : Int) <= 12 := Int.ediv_le_self _ (by omega)
          exact wrap64 (by omega) (by omega)
        have hqb : ∀ k : Nat, 0 <= (0 + if (k : Int) ∈ hw.take hw.length then (12 : Int) / (hw.length : Int) else 0) /\ (0 + if (k : Int) ∈ hw.take hw.length then (12 : Int) / (hw.length : Int) else 0) <= 12 := fun k => by
          have h1 : 0 <= (12 : Int) / (hw.length : Int) := Int.ediv_nonneg (by omega) (by omega)
          have h2 : (12 : Int) / (hw.length : Int) <= 12 := Int.ediv_le_self _ (by omega)
          split <;> omega
        have hz : (lw.length : Int) > 0 := by have := List.length_pos_iff.2 h8; omega
        simp only [hP]
        refine ⟨fun _ => ?_, fun h => absurd hz h⟩
        refine SemC.loopR (σ := Nat) (fun i => St.of [(18, .own 118), (19, .own 119), (20, .own 120), (21, .t (.i 12)), (22, .t (.i i))] [(118, .arr 1 ((outT holes.length (fun _ => 0) hw ((12 : Int) / (hw.length : Int)) i).map T.i)), (119, .arr 1 (hw.map T.i)), (120, .arr 1 (lw.map T.i))]) (fun i => i <= hw.length) (fun i => hw.length - i) 0 (Weak.o _ _ [some 76, some 79, some 82] ?_ ?_) (by omega) fun i hi R hn' hr he => ?_
        . simp -implicitDefEqProofs only [wR', Nat.reduceBEq, Nat.reduceEqDiff, ↓reduceIte]
        . refine ⟨⟨_, rfl, ?_⟩, rfl, ⟨_, rfl, .refl _⟩, rfl, ⟨_, rfl, .refl _⟩, rfl, trivial⟩
          rw [q1mm, q0jc, List.map_replicate]; exact .refl _
        . rcases Nat.lt_or_ge i hw.length with h9 | h9
          . obtain ⟨x, hx⟩ : ∃ x, hw[i]? = some x := ⟨_, List.getElem?_eq_getElem h9⟩
            obtain ⟨w, hwn, rfl⟩ := hwm x (List.mem_of_getElem? hx)
            have hS := q1mk (n := holes.length) (base := fun _ => (0 : Int)) (x := (12 : Int) / (hw.length : Int)) hx hwd
            have hA := q1mn (n := holes.length) (base := fun _ => (0 : Int)) (x := (12 : Int) / (hw.length : Int)) hx hwd hwn
            simp only [Int.zero_add] at hS
            have hol : (outT holes.length (fun _ => (0 : Int)) hw ((12 : Int) / (hw.length : Int)) i).length = holes.length := q1qk
            simp -implicitDefEqProofs only [eR', go_sem, hx, hol, hqh, decide_eq_true (show (i : Int) < (hw.length : Int) by omega)]
            refine ⟨by omega, by omega, by omega, by omega, by omega, by omega, by omega, ?_⟩
            refine hn' _ (i + 1) (Weak.o _ _ [some 118, some 119, some 120] ?_ ?_) (by omega) (by omega)
            . simp -implicitDefEqProofs only [wR', Nat.reduceBEq, Nat.reduceEqDiff, ↓reduceIte, q0lb h9 (by omega)]
            . refine ⟨⟨_, rfl, ?_⟩, rfl, ⟨_, rfl, .refl _⟩, rfl, ⟨_, rfl, .refl _⟩, rfl, trivial⟩
              rw [← hS, List.map_set]; exact .refl _
          . simp -implicitDefEqProofs only [eR', go_sem, decide_eq_false (show ¬ (i : Int) < (hw.length : Int) by omega)]
            refine he _ _ ?_
            simp -implicitDefEqProofs only [eR', go_sem]
            rw [show i = hw.length by omega]
            generalize hbs : (fun k : Nat => (0 : Int) + if (k : Int) ∈ hw.take hw.length then (12 : Int) / (hw.length : Int) else 0) = base at hqb ⊢
            have hbt : outT holes.length (fun _ => 0) hw ((12 : Int) / (hw.length : Int)) hw.length = tabT holes.length base := by rw [← hbs]; rfl
            rw [hbt]
            have hqb2 : ∀ k, 0 <= base k /\ base k <= 12 := fun k => by rw [← hbs]; exact hqb k
            refine SemC.loopR (σ := Nat) (fun i => St.of [(18, .own 118), (20, .own 120), (21, .t (.i 12)), (23, .t (.i i))] [(118, .arr 1 ((outT holes.length base lw ((12 : Int) / (lw.length : Int)) i).map T.i)), (120, .arr 1 (lw.map T.i))]) (fun i => i <= lw.length) (fun i => lw.length - i) 0 (Weak.o _ _ [some 118, some 120] ?_ ?_) (by omega) fun i hi R hn' hr he => ?_
            . simp -implicitDefEqProofs only [wR', Nat.reduceBEq, Nat.reduceEqDiff, ↓reduceIte]
            . refine ⟨⟨_, rfl, ?_⟩, rfl, ⟨_, rfl, .refl _⟩, rfl, trivial⟩
              rw [q1ml]; exact .refl _
            . rcases Nat.lt_or_ge i lw.length with h9 | h9
              . obtain ⟨x, hx⟩ : ∃ x, lw[i]? = some x := ⟨_, List.getElem?_eq_getElem h9⟩
                obtain ⟨w, lwn, rfl⟩ := lwm x (List.mem_of_getElem? hx)
                have hS := q1mk (n := holes.length) (base := base) (x := (12 : Int) / (lw.length : Int)) hx lwd
                have hA := q1mn (n := holes.length) (base := base) (x := (12 : Int) / (lw.length : Int)) hx lwd lwn
                have hol : (outT holes.length base lw ((12 : Int) / (lw.length : Int)) i).length = holes.length := q1qk
                have h1 : 0 <= (12 : Int) / (lw.length : Int) := Int.ediv_nonneg (by omega) (by omega)
                have h2 : (12 : Int) / (lw.length : Int) <= 12 := Int.ediv_le_self _ (by omega)
                have hql : IntKind.i64.wrap ((12 : Int).tdiv (lw.length : Int)) = (12 : Int) / (lw.length : Int) := by
                  rw [Int.tdiv_eq_ediv_of_nonneg (by omega)]; exact wrap64 (by omega) (by omega)
                have hbw := hqb2 w
                have hadd : IntKind.i64.wrap (base w + (12 : Int) / (lw.length : Int)) = base w + (12 : Int) / (lw.length : Int) := wrap64 (by omega) (by omega)
                simp -implicitDefEqProofs only [eR', go_sem, hx, hol, hA, hql, hadd, decide_eq_true (show (i : Int) < (lw.length : Int) by omega)]
                refine ⟨by omega, by omega, by omega, by omega, by omega, by omega, by omega, by omega, by omega, by omega, by omega, by omega, by omega, ?_⟩
                refine hn' _ (i + 1) (Weak.o _ _ [some 118, some 120] ?_ ?_) (by omega) (by omega)
                . simp -implicitDefEqProofs only [wR', Nat.reduceBEq, Nat.reduceEqDiff, ↓reduceIte, q0lb h9 (by omega)]
                . refine ⟨⟨_, rfl, ?_⟩, rfl, ⟨_, rfl, .refl _⟩, rfl, trivial⟩
                  rw [← hS, List.map_set]; exact .refl _
              . simp -implicitDefEqProofs only [eR', go_sem, decide_eq_false (show ¬ (i : Int) < (lw.length : Int) by omega)]
                refine he _ _ ?_
                simp -implicitDefEqProofs only [eR', go_sem]
                rw [show i = lw.length by omega]
end
section
attribute [-go_sem] q0i5 q0id fldC lenC idxC q0ip
theorem q1iv {board h : List Int} (hc : q1cv (h ++ board)) (h2 : h.length = 2) (h5 : board.length = 5) : hvV 0 board h = valI (h ++ board) := q1it hc h2 h5
theorem q1l7 {H : List (List Int)} {h : List Int} (hh : h ∈ H) : 0 <= maxV H := by
  have := (q1fk (l := H.map fun h => (valI h : Int)) (m := -1)).2 (valI h : Int) (List.mem_map.2 ⟨h, hh, rfl⟩)
  have h2 : (0 : Int) <= (valI h : Int) := by omega
  exact Int.le_trans h2 this
theorem q1iu : ∀ {v : Nat}, v <= 2 -> ∀ {board h : List Int}, h.length = hoOf v -> board.length = 5 -> 0 <= hvV v board h := by
  intro v hv board h hl h5
  have hlo := q1ku v
  have hex : ∃ n, loOf v <= n /\ n <= 2 /\ n <= h.length := ⟨2, hlo, by omega, by
    have : v = 0 ∨ v = 1 ∨ v = 2 := by omega
    rcases this with rfl | rfl | rfl <;> (rw [hl]; decide)⟩
  obtain ⟨n, h1, h2, h3⟩ := hex
  refine q1l7 (h := h.take n ++ board.take (5 - n)) (q1ig.2 ⟨n, h.take n, board.take (5 - n), h1, h2, List.take_sublist _ _, by rw [List.length_take]; omega, List.take_sublist _ _, by rw [List.length_take]; omega, rfl⟩)
def q1o6 (v : Nat) (holes : List (List Int)) (board : List Int) : List Int := q1mq (holes.map (hvV v board)) (holes.map (lvV v board))
theorem q0eu (v : Nat) (hv3 : v <= 2) (holes : List (List Int)) (board : List Int) (hn : holes.length <= 4) (hn1 : 1 <= holes.length) (hc : ∀ h ∈ holes, q1cv (h ++ board) /\ h.length = hoOf v) (h5 : board.length = 5) :
    Fun Try.prog 58 [] [.t (.i v), .t (rows holes), .t (ints board)] fun o r => o = [] /\ r = intsO (q1o6 v holes board) := by
  have : v = 0 ∨ v = 1 ∨ v = 2 := by omega
  rcases this with rfl | rfl | rfl
  . exact q1jn _ 2 0 2 true 0 (q1jr 0 (by omega)) holes board hn hn1 (hvV 0 board) (lvV 0 board)
      (fun h hh => by
        obtain ⟨h1, h2⟩ := hc h hh
        rw [q1iv h1 h2 h5]
        exact q1jc h board h1 h2 h5) (fun h => absurd rfl h) (fun _ h => rfl) (fun h hh => q1iu (by omega) (hc h hh).2 h5)
  . exact q1jn _ 4 2 2 true 0 (q1jr 1 (by omega)) holes board hn hn1 (hvV 1 board) (lvV 1 board)
      (fun h hh => q1jd 0 h board (hc h hh).1 (hc h hh).2 h5) (fun h => absurd rfl h) (fun _ h => rfl) (fun h hh => q1iu (by omega) (hc h hh).2 h5)
  . exact q1jn _ 4 2 2 true 1 (q1jr 2 (by omega)) holes board hn hn1 (hvV 2 board) (lvV 2 board)
      (fun h hh => q1jd 1 h board (hc h hh).1 (hc h hh).2 h5) (fun _ h hh => q1jh h board (hc h hh).1 (hc h hh).2 h5) (fun h => absurd h (by decide)) (fun h hh => q1iu (by omega) (hc h hh).2 h5)
end
section
variable {P : Program} {n : Nat} {S : St} {K : St -> Prop}
theorem Weak.aggT (d : Nat) (l : List T) (h : S.env d = .agg (l.map A.t)) : Weak n S ⟨upd S.env d (.t (.agg l)), S.roots⟩ := by
  intro X w0 O0 a w hs fp g
  refine ⟨hs, fp, { g with env := fun i => ?_ }⟩
  by_cases hi : i = d
  . subst hi
    show Is _ _ _ (upd S.env i _ i) _
    rw [q0x2]
    have := g.env i
    rw [h] at this
    generalize a.tmps.getD i undef = y at this
    cases this with
    | agg hl hr =>
      refine .t (.agg l _ (by simpa using hl) fun j hj => ?_)
      have h2 := hr j (by simpa using hj)
      rw [List.getElem_map] at h2
      cases h2 with
      | t h3 => exact h3
  . show Is _ _ _ (upd S.env d _ i) _
    rw [q0x1 _ _ _ _ hi]; exact g.env i
theorem q006.pureT {d : Nat} {fo : Operand} {ops : List Operand} {f : FuncId} {cap : List A} {args : List T} {l : List T} (hF : Pure P f args (.agg l)) (bor : List Nat) (hfo : fnA (S.ev fo) = some (f, cap)) (hcall : ∀ args w, (callFunc f args).run P w = .ok (.enter f args) w)
    (hargs : vaL S [] bor (args.map A.t) (ops.map S.ev ++ cap)) (hns : (T.agg l).noSh) (hx : absT d 0 (.agg l) = (.agg (l.map A.t), [], 0)) (hk : K { S with env := upd S.env d (.t (.agg l)) }) : q006 P n (some d) fo ops K S := fun o ts h1 h2 h3 X w0 O0 a w hs fp g Q => by
  have h := q006.pure (n := n) (K := fun S' => S' = { S with env := upd S.env d (.agg (l.map A.t)) }) hF bor hfo hcall hargs hns hx rfl o ts h1 h2 h3 X w0 O0 a w hs fp g Q
  refine Go.Oper.wp_mono (fun a' w' ⟨S', hs', fp', g', e⟩ => ?_) h
  subst e
  obtain ⟨hs2, fp2, g2⟩ := Weak.aggT d l (q0x2 _ _ _) _ _ _ _ _ _ _ g'
  rw [q1rd] at g2
  exact ⟨_, hs2, fp2, g2, hk⟩
end
section
attribute [-go_sem] q0i5 q0id fldC lenC idxC q0ip
def q1ec (k : Nat) (holes : List (List Int)) (board dead : List Int) : Prop := 2 <= holes.length /\ holes.length <= 4 /\ 3 <= board.length /\ board.length <= 5 /\ (∀ h ∈ holes, h.length = hoOf k) /\ q1cv ((board ++ dead) ++ holes.flatten)
instance (k : Nat) (holes : List (List Int)) (board dead : List Int) : Decidable (q1ec k holes board dead) := inferInstanceAs (Decidable (_ /\ _ /\ _ /\ _ /\ _ /\ _))
def q1eb (v : Int) (holes : List (List Int)) (board dead : List Int) : Bool := decide (0 <= v /\ v <= 2) && decide (q1ec v.toNat holes board dead)
theorem q1rj : ∀ k, k <= 2 -> varT k = .agg [.i (hoOf k : Nat), .i (loOf k : Nat), .i (2 : Nat), .i 5, .b true, .i (lwOf k)]
  | 0, _ => rfl | 1, _ => rfl | 2, _ => rfl | n + 3, h => by omega
theorem q1fc {L : List (List Int)} {i : Nat} {l : List Int} (h : L[i]? = some l) : (L.take (i + 1)).flatten = (L.take i).flatten ++ l := by rw [q0uj h]; simp
theorem q1f9 (L : List (List Int)) (i : Nat) : (L.take i).flatten.length <= L.flatten.length := by
  have h := congrArg (fun M : List (List Int) => M.flatten.length) (List.take_append_drop i L)
  simp only [List.flatten_append, List.length_append] at h
  omega
theorem q1iz (v : Int) (holes : List (List Int)) (board dead : List Int) (hh : holes.flatten.length <= 2000000) (hhn : holes.length <= 2000000) (hb : board.length <= 2000000) (hd : dead.length <= 2000000) :
    Pure Try.prog 23 [.i v, rows holes, ints board, ints dead] (.b (q1eb v holes board dead)) := by
  refine q1fq (by simp) ?_
  simp -implicitDefEqProofs only [eR', go_sem, q1ar]
  by_cases h1 : 0 <= v /\ v <= 2
  . obtain ⟨k, rfl⟩ : ∃ k : Nat, v = k := ⟨v.toNat, by omega⟩
    have hk : k <= 2 := by omega
    rw [q1eb, decide_eq_true h1, Bool.true_and, Int.toNat_natCast]
    refine q006.p (q0f9 k 0 2) [] rfl Try.call47 ?_ ?_
    . simp -implicitDefEqProofs only [aR', go_sem]
    simp -implicitDefEqProofs only [eR', go_sem, decide_eq_true h1, show (!true) = false from rfl]
    by_cases h2 : 2 <= (holes.length : Int) /\ (holes.length : Int) <= 4
    . refine q006.p (q0f9 holes.length 2 4) [] rfl Try.call47 ?_ ?_
      . simp -implicitDefEqProofs only [aR', go_sem]
      simp -implicitDefEqProofs only [eR', go_sem, decide_eq_true h2, show (!true) = false from rfl]
      by_cases h3 : 3 <= (board.length : Int) /\ (board.length : Int) <= 5
      . refine q006.p (q0f9 board.length 3 5) [] rfl Try.call47 ?_ ?_
        . simp -implicitDefEqProofs only [aR', go_sem]
        simp -implicitDefEqProofs only [eR', go_sem, decide_eq_true h3, show (!true) = false from rfl]
        have hcc := q1os [board, dead] (by simp) (by simp; omega) (by intro h; simp at h; rw [h.1] at h3; simp at h3)
        simp only [List.flatten_cons, List.flatten_nil, List.append_nil] at hcc
        refine q006.res hcc [29] rfl Try.call48 ?_ (.inr (q0fh _)) ?_
        . simp -implicitDefEqProofs only [aR', go_sem]
        simp -implicitDefEqProofs only [cR', go_sem, intsO]
        have hsv := q1jr k hk
        rw [q1rj k hk] at hsv
        refine SemC.loopR (σ := Nat) (fun i => St.of [(0, .t (.i k)), (9, .own 95), (31, .t (rows holes)), (32, .t (.i holes.length)), (33, .t (.i i))] [(95, .arr 1 (((board ++ dead) ++ (holes.take i).flatten).map T.i))]) (fun i => i <= holes.length /\ ∀ h ∈ holes.take i, h.length = hoOf k) (fun i => holes.length - i) 0 (Weak.o _ _ [some 30] ?_ ?_) ⟨by omega, by simp⟩ fun i hi R hn hr he => ?_
        . simp -implicitDefEqProofs only [wR', Nat.reduceBEq, Nat.reduceEqDiff, ↓reduceIte]
        . refine ⟨⟨_, rfl, ?_⟩, rfl, trivial⟩
          simp; exact .refl _
        . obtain ⟨hi, hall⟩ := hi
          rcases Nat.lt_or_ge i holes.length with h9 | h9
          . obtain ⟨h, hx⟩ : ∃ h, holes[i]? = some h := ⟨_, List.getElem?_eq_getElem h9⟩
            have hm := List.mem_of_getElem? hx
            have hfl2 := q1f9 holes (i + 1)
            rw [q1fc hx, List.length_append] at hfl2
            have hxl : ((board ++ dead) ++ (holes.take i).flatten).length <= 8000000 := by rw [List.length_append, List.length_append]; omega
            simp -implicitDefEqProofs only [eR', go_sem, hx, decide_eq_true (show (i : Int) < (holes.length : Int) by omega)]
            refine ⟨by omega, by omega, by omega, ?_⟩
            by_cases hl : h.length = hoOf k
            . refine q006.pureT hsv [] rfl Try.call49 ?_ (by first | trivial | simp [T.noSh, T.noShL, rat]) rfl ?_
              . simp -implicitDefEqProofs only [aR', go_sem]
              simp -implicitDefEqProofs only [eR', go_sem, show (((h.length : Nat) : Int) != ((hoOf k : Nat) : Int)) = false from by rw [hl]; exact bne_self_eq_false _]
              refine ⟨by omega, ?_⟩
              refine hn _ (i + 1) (Weak.o _ _ [some 45] ?_ ?_) ⟨by omega, fun x hx2 => ?_⟩ (by omega)
              . simp -implicitDefEqProofs only [wR', Nat.reduceBEq, Nat.reduceEqDiff, ↓reduceIte, q0lb h9 (by omega)]
              . refine ⟨⟨_, rfl, ?_⟩, rfl, trivial⟩
                rw [q1fc hx]; simp only [List.map_append, List.append_assoc]; exact .refl _
              . rw [q0uj hx] at hx2
                rcases List.mem_append.1 hx2 with h7 | h7
                . exact hall x h7
                . have : x = h := by simpa using h7
                  rw [this]; exact hl
            . refine q006.pureT hsv [] rfl Try.call49 ?_ (by first | trivial | simp [T.noSh, T.noShL, rat]) rfl ?_
              . simp -implicitDefEqProofs only [aR', go_sem]
              simp -implicitDefEqProofs only [eR', go_sem, show (((h.length : Nat) : Int) != ((hoOf k : Nat) : Int)) = true from by rw [bne_iff_ne]; omega]
              refine hr _ ?_
              simp -implicitDefEqProofs only [eR', go_sem, decide_eq_false (show ¬ q1ec k holes board dead from fun hp => hl (hp.2.2.2.2.1 h hm))]
          . simp -implicitDefEqProofs only [eR', go_sem, decide_eq_false (show ¬ (i : Int) < (holes.length : Int) by omega)]
            refine he _ _ ?_
            rw [List.take_of_length_le h9] at hall ⊢
            have hac := q1iw ((board ++ dead) ++ holes.flatten) (by rw [List.length_append, List.length_append]; omega)
            have hpe : areB ((board ++ dead) ++ holes.flatten) = decide (q1ec k holes board dead) := by
              rw [areB, decide_eq_decide]
              exact ⟨fun h => ⟨by omega, by omega, by omega, by omega, hall, h⟩, fun h => h.2.2.2.2.2⟩
            rw [hpe] at hac
            simp -implicitDefEqProofs only [eR', go_sem]
            refine q006.p hac [95] rfl Try.call50 ?_ ?_
            . simp -implicitDefEqProofs only [aR', go_sem]
            simp -implicitDefEqProofs only [eR', go_sem]
      . refine q006.p (q0f9 board.length 3 5) [] rfl Try.call47 ?_ ?_
        . simp -implicitDefEqProofs only [aR', go_sem]
        simp -implicitDefEqProofs only [eR', go_sem, decide_eq_false h3, show (!false) = true from rfl]
        rw [decide_eq_false (show ¬ q1ec k holes board dead from fun hp => h3 ⟨by have := hp.2.2.1; omega, by have := hp.2.2.2.1; omega⟩)]
    . refine q006.p (q0f9 holes.length 2 4) [] rfl Try.call47 ?_ ?_
      . simp -implicitDefEqProofs only [aR', go_sem]
      simp -implicitDefEqProofs only [eR', go_sem, decide_eq_false h2, show (!false) = true from rfl]
      rw [decide_eq_false (show ¬ q1ec k holes board dead from fun hp => h2 ⟨by have := hp.1; omega, by have := hp.2.1; omega⟩)]
  . rw [q1eb, decide_eq_false h1, Bool.false_and]
    refine q006.p (q0f9 v 0 2) [] rfl Try.call47 ?_ ?_
    . simp -implicitDefEqProofs only [aR', go_sem]
    simp -implicitDefEqProofs only [eR', go_sem, decide_eq_false h1, show (!false) = true from rfl]
end
end Go.Ab

/- The cards that are left, and all boards, of the reference; the cards that are left, of the program. -/
namespace Go.Ab
open Go.Proofs
section
attribute [-go_sem] q0i5 q0id fldC lenC idxC q0ip
def q1nk (holes : List (List Int)) (board dead : List Int) : List Int := q1mf ((board ++ dead) ++ holes.flatten)
theorem q1mh {l m : List Int} (h : ∀ x, x ∈ l ↔ x ∈ m) : q1mf l = q1mf m := by
  simp only [q1mf, q1mg, h]
theorem q1nm (holes : List (List Int)) (board dead : List Int) : (q1nk holes board dead).length <= 52 := q1md _ 52
theorem q1cw {l m : List Int} (h : l.Perm m) (hl : q1cv l) : q1cv m := ⟨h.nodup_iff.1 hl.1, fun x hx => hl.2 x (h.mem_iff.2 hx)⟩
theorem q1jp (holes : List (List Int)) (board dead : List Int) (hhn : holes.length <= 4) (hc : q1cv ((board ++ dead) ++ holes.flatten)) (hf : holes.flatten ≠ []) :
    Fun Try.prog 65 [] [.t (rows holes), .t (ints board), .t (ints dead)] fun o r => o = [] /\ r = intsO (q1nk holes board dead) := by
  have hp : ((board ++ dead) ++ holes.flatten).Perm (holes.flatten ++ (board ++ dead)) := List.perm_append_comm
  have hc2 := q1cw hp hc
  have h52 := q1lg (ys := (List.range 52).map fun (k : Nat) => (k : Int)) hc2.1 fun x hx => by
    have := hc2.2 x hx
    exact List.mem_map.2 ⟨x.toNat, by simp; omega, by omega⟩
  simp only [List.length_map, List.length_range, List.length_append] at h52
  have hc1 := q1os holes (by omega) (by omega) hf
  have hcc := q1os [holes.flatten, board, dead] (by simp) (by rw [show [holes.flatten, board, dead].flatten = holes.flatten ++ (board ++ dead) by simp only [List.flatten_cons, List.flatten_nil, List.append_nil], List.length_append, List.length_append]; omega) (by intro h; simp at h; exact hf (by simpa using h.1))
  simp only [List.flatten_cons, List.flatten_nil, List.append_nil] at hcc
  have ho := q1jl (holes.flatten ++ (board ++ dead)) (by rw [List.length_append, List.length_append]; omega) hc2
  have e : q1mf (holes.flatten ++ (board ++ dead)) = q1nk holes board dead := q1mh fun x => hp.mem_iff.symm
  rw [e] at ho
  generalize holes.flatten = F at hc1 hcc ho
  refine q1gf (by simp) ?_
  simp -implicitDefEqProofs only [eR', go_sem, q1bi]
  refine q006.res hc1 [] rfl Try.call48 ?_ (.inl rfl) ?_
  . simp -implicitDefEqProofs only [aR', go_sem]
  simp -implicitDefEqProofs only [cR', go_sem]
  refine q006.res hcc [11] rfl Try.call48 ?_ (.inr (q0fh _)) ?_
  . simp -implicitDefEqProofs only [aR', go_sem]
  simp -implicitDefEqProofs only [cR', go_sem]
  refine q006.res ho [12] rfl Try.call92 ?_ (.inr (q0fh _)) ?_
  . simp -implicitDefEqProofs only [aR', go_sem]
  simp -implicitDefEqProofs only [cR', go_sem]
theorem q1px (holes : List (List Int)) (board dead : List Int) (hh : holes.flatten.length <= 2000000) (hhn : holes.length <= 2000000) (hb : board.length <= 2000000) (hd : dead.length <= 2000000) :
    Fun Try.prog 76 [] [.t (rows holes), .t (ints board), .t (ints dead)] fun o r => o = [] /\ r = intsO (q1nk holes board dead) := by
  refine q1hq (by simp) ?_
  simp -implicitDefEqProofs only [eR', go_sem, q1ct]
  refine q006.res (q0s5 board (by omega)) [] rfl Try.call53 ?_ (.inl rfl) ?_
  . simp -implicitDefEqProofs only [aR', go_sem]
  simp -implicitDefEqProofs only [cR', go_sem, intsO]
  refine ⟨by omega, ?_⟩
  refine SemC.loopR (σ := Nat) (fun i => St.of [(0, .t (rows holes)), (7, .own 95), (8, .t (.i i))] [(95, .arr 1 (((board ++ dead) ++ (holes.take i).flatten).map T.i))]) (fun i => i <= holes.length) (fun i => holes.length - i) 0 (Weak.o _ _ [some 12] ?_ ?_) (by omega) fun i hi R hn hr he => ?_
  . simp -implicitDefEqProofs only [wR', Nat.reduceBEq, Nat.reduceEqDiff, ↓reduceIte]
  . refine ⟨⟨_, rfl, ?_⟩, rfl, trivial⟩
    simp; exact .refl _
  . have hfl := q1f9 holes i
    rcases Nat.lt_or_ge i holes.length with h9 | h9
    . obtain ⟨h, hx⟩ : ∃ h, holes[i]? = some h := ⟨_, List.getElem?_eq_getElem h9⟩
      have hfl2 := q1f9 holes (i + 1)
      rw [q1fc hx, List.length_append] at hfl2
      have hxl : ((board ++ dead) ++ (holes.take i).flatten).length <= 8000000 := by rw [List.length_append, List.length_append]; omega
      simp -implicitDefEqProofs only [eR', go_sem, hx, decide_eq_true (show (i : Int) < (holes.length : Int) by omega)]
      refine ⟨by omega, by omega, by omega, by omega, ?_⟩
      refine hn _ (i + 1) (Weak.o _ _ [some 24] ?_ ?_) (by omega) (by omega)
      . simp -implicitDefEqProofs only [wR', Nat.reduceBEq, Nat.reduceEqDiff, ↓reduceIte, q0lb h9 (by omega)]
      . refine ⟨⟨_, rfl, ?_⟩, rfl, trivial⟩
        rw [q1fc hx]; simp only [List.map_append, List.append_assoc]; exact .refl _
    . simp -implicitDefEqProofs only [eR', go_sem, decide_eq_false (show ¬ (i : Int) < (holes.length : Int) by omega)]
      refine he _ _ ?_
      rw [List.take_of_length_le h9]
      have ho := q1p9 ((board ++ dead) ++ holes.flatten) (by rw [List.length_append, List.length_append]; omega)
      simp -implicitDefEqProofs only [eR', go_sem]
      refine q006.res ho [95] rfl Try.call93 ?_ (.inr (q0fh _)) ?_
      . simp -implicitDefEqProofs only [aR', go_sem]
      simp -implicitDefEqProofs only [cR', go_sem]
      rfl
def q1ak (holes : List (List Int)) (board dead : List Int) : List (List Int) := (choL (q1nk holes board dead) (5 - board.length)).map (board ++ ·)
theorem q1pv (holes : List (List Int)) (board dead : List Int) (hh : holes.flatten.length <= 2000000) (hhn : holes.length <= 2000000) (hb3 : 3 <= board.length) (hb : board.length <= 5) (hd : dead.length <= 2000000) :
    Fun Try.prog 63 [] [.t (rows holes), .t (ints board), .t (ints dead)] fun o r => o = [] /\ r = q0qa (q1ak holes board dead) := by
  have hr := q1px holes board dead hh hhn (by omega) hd
  have h52 := q1nm holes board dead
  have hw : IntKind.i64.wrap (5 - (board.length : Int)) = ((5 - board.length : Nat) : Int) := by rw [wrap64 (by omega) (by omega)]; omega
  have hp : ((q1nk holes board dead).length + 1) ^ (5 - board.length) <= 60000 :=
    Nat.le_trans (Nat.pow_le_pow_left (show (q1nk holes board dead).length + 1 <= 53 by omega) _) (Nat.le_trans (Nat.pow_le_pow_right (by omega) (show 5 - board.length <= 2 by omega)) (by decide))
  have hcc := q1pd (5 - board.length) (q1nk holes board dead) hp (by omega) (by omega)
  have hcn := Nat.le_trans (q1df (q1nk holes board dead) (5 - board.length)) hp
  have hcl : ∀ c ∈ choL (q1nk holes board dead) (5 - board.length), c.length <= 2 := fun c hc => by rw [(q1dd.1 hc).2]; omega
  have hbd : q1ak holes board dead = (choL (q1nk holes board dead) (5 - board.length)).map (board ++ ·) := rfl
  rw [hbd]
  generalize q1nk holes board dead = rs at hr hcc hcn hcl
  generalize choL rs (5 - board.length) = C at hcc hcn hcl
  refine q1ho (by simp) ?_
  simp -implicitDefEqProofs only [eR', go_sem, q1cr]
  refine q006.res hr [] rfl Try.call76 ?_ (.inl rfl) ?_
  . simp -implicitDefEqProofs only [aR', go_sem]
  simp -implicitDefEqProofs only [cR', go_sem, hw]
  refine q006.res hcc [13] rfl Try.call91 ?_ (.inr (q0qb _)) ?_
  . simp -implicitDefEqProofs only [aR', go_sem]
  simp -implicitDefEqProofs only [cR', go_sem]
  refine SemC.loopR (σ := Nat) (fun i => St.of [(1, .t (ints board)), (7, .t (rows C)), (8, .own 98), (9, .t (.i i))] [(98, q0qa ((C.take i).map (board ++ ·)))]) (fun i => i <= C.length) (fun i => C.length - i) 0 (Weak.trans (Weak.share 17 rfl) (Weak.of _ _ [some 18] (by simp) (by simp) ?_ ⟨⟨_, rfl, .refl _⟩, rfl, trivial⟩)) (by omega) fun i hi R hn hr' he => ?_
  . simp -implicitDefEqProofs only [wR', Nat.reduceBEq, Nat.reduceEqDiff, ↓reduceIte, q0rg, q17t]
  . rcases Nat.lt_or_ge i C.length with h9 | h9
    . obtain ⟨c, hx⟩ : ∃ c, C[i]? = some c := ⟨_, List.getElem?_eq_getElem h9⟩
      have hc2 := hcl c (List.mem_of_getElem? hx)
      have hll : ((C.take i).map (board ++ ·)).length <= 100000 := by rw [List.length_map, List.length_take]; omega
      simp -implicitDefEqProofs only [eR', go_sem, decide_eq_true (show (i : Int) < (C.length : Int) by omega), q0qa]
      refine q000.res (q0s5 board (by omega)) [] rfl Try.call53 (fun e R' hR => ?_) (.inl rfl) ?_
      . simp -implicitDefEqProofs only [aR', go_sem]
      simp -implicitDefEqProofs only [cR', go_sem, hx, intsO, ints]
      refine ⟨by omega, by omega, by omega, by omega, by rw [List.length_take]; omega, ?_⟩
      refine hn _ (i + 1) (Weak.o _ _ [some 34] ?_ ?_) (by omega) (by omega)
      . simp -implicitDefEqProofs only [wR', Nat.reduceBEq, Nat.reduceEqDiff, ↓reduceIte, q0lb h9 (by omega)]
      . refine ⟨⟨_, rfl, ?_⟩, rfl, trivial⟩
        rw [q0uj hx]; simp only [q0qa, intsO, List.map_append, List.map_cons, List.map_nil]; exact .refl _
    . simp -implicitDefEqProofs only [eR', go_sem, decide_eq_false (show ¬ (i : Int) < (C.length : Int) by omega)]
      refine he _ _ ?_
      simp -implicitDefEqProofs only [eR', go_sem]
      rw [List.take_of_length_le h9]
end
section
attribute [-go_sem] q0i5 q0id fldC lenC idxC q0ip
theorem q1q0 : ∀ k, k <= 2 -> (match stdT with | .arr _ l => l[k * 6]? | _ => none) = some (.i (hoOf k : Nat))
  | 0, _ => rfl | 1, _ => rfl | 2, _ => rfl | n + 3, h => by omega
theorem q1p0 (v : Int) (holes : List (List Int)) (board dead : List Int) (hh : holes.flatten.length <= 2000000) (hhn : holes.length <= 2000000) (hb : board.length <= 2000000) (hd : dead.length <= 2000000) :
    Pure Try.prog 24 [.i v, rows holes, ints board, ints dead] (.b (q1eb v holes board dead)) := by
  refine q1gu (by simp) ?_
  simp -implicitDefEqProofs only [eR', go_sem, q1bx]
  by_cases h1 : 0 <= v /\ v <= 2
  . obtain ⟨k, rfl⟩ : ∃ k : Nat, v = k := ⟨v.toNat, by omega⟩
    have hk : k <= 2 := by omega
    rw [q1eb, decide_eq_true h1, Bool.true_and, Int.toNat_natCast]
    refine q006.p (q1pu k) [] rfl Try.call51 ?_ ?_
    . simp -implicitDefEqProofs only [aR', go_sem]
    simp -implicitDefEqProofs only [eR', go_sem, decide_eq_true h1, show (!true) = false from rfl]
    by_cases h2 : 2 <= (holes.length : Int) /\ (holes.length : Int) <= 4
    . refine q006.p (q0s4 holes.length 2 4) [] rfl Try.call52 ?_ ?_
      . simp -implicitDefEqProofs only [aR', go_sem]
      simp -implicitDefEqProofs only [eR', go_sem, decide_eq_true h2, show (!true) = false from rfl]
      by_cases h3 : 3 <= (board.length : Int) /\ (board.length : Int) <= 5
      . refine q006.p (q0s4 board.length 3 5) [] rfl Try.call52 ?_ ?_
        . simp -implicitDefEqProofs only [aR', go_sem]
        simp -implicitDefEqProofs only [eR', go_sem, decide_eq_true h3, show (!true) = false from rfl]
        refine q006.res (q0s5 board (by omega)) [] rfl Try.call53 ?_ (.inl rfl) ?_
        . simp -implicitDefEqProofs only [aR', go_sem]
        simp -implicitDefEqProofs only [cR', go_sem, intsO]
        refine ⟨by omega, ?_⟩
        have hsc := q1q0 k hk
        simp only [stdT] at hsc
        refine SemC.loopR (σ := Nat) (fun i => St.of [(0, .t (.i k)), (1, .t (rows holes)), (9, .own 95), (10, .t (.i i))] [(95, .arr 1 (((board ++ dead) ++ (holes.take i).flatten).map T.i))]) (fun i => i <= holes.length /\ ∀ h ∈ holes.take i, h.length = hoOf k) (fun i => holes.length - i) 0 (Weak.o _ _ [some 29] ?_ ?_) ⟨by omega, by simp⟩ fun i hi R hn hr he => ?_
        . simp -implicitDefEqProofs only [wR', Nat.reduceBEq, Nat.reduceEqDiff, ↓reduceIte]
        . refine ⟨⟨_, rfl, ?_⟩, rfl, trivial⟩
          simp; exact .refl _
        . obtain ⟨hi, hall⟩ := hi
          rcases Nat.lt_or_ge i holes.length with h9 | h9
          . obtain ⟨h, hx⟩ : ∃ h, holes[i]? = some h := ⟨_, List.getElem?_eq_getElem h9⟩
            have hm := List.mem_of_getElem? hx
            have hfl2 := q1f9 holes (i + 1)
            rw [q1fc hx, List.length_append] at hfl2
            have hxl : ((board ++ dead) ++ (holes.take i).flatten).length <= 8000000 := by rw [List.length_append, List.length_append]; omega
            simp -implicitDefEqProofs only [eR', go_sem, hx, decide_eq_true (show (i : Int) < (holes.length : Int) by omega)]
            refine ⟨by omega, by omega, by omega, ?_⟩
            by_cases hl : h.length = hoOf k
            . refine q000.res q1pr [] rfl Try.call54 (fun e R' hR => ?_) (.inl rfl) ?_
              . simp -implicitDefEqProofs only [aR', go_sem]
              simp -implicitDefEqProofs only [cR', go_sem, stdT, hsc, show (((h.length : Nat) : Int) != ((hoOf k : Nat) : Int)) = false from by rw [hl]; exact bne_self_eq_false _, hx, ints]
              refine ⟨by omega, by omega, by omega, by omega, by omega, by omega, by omega, ?_⟩
              refine hn _ (i + 1) (Weak.o _ _ [some 52] ?_ ?_) ⟨by omega, fun x hx2 => ?_⟩ (by omega)
              . simp -implicitDefEqProofs only [wR', Nat.reduceBEq, Nat.reduceEqDiff, ↓reduceIte, q0lb h9 (by omega)]
              . refine ⟨⟨_, rfl, ?_⟩, rfl, trivial⟩
                rw [q1fc hx]; simp only [List.map_append, List.append_assoc]; exact .refl _
              . rw [q0uj hx] at hx2
                rcases List.mem_append.1 hx2 with h7 | h7
                . exact hall x h7
                . have : x = h := by simpa using h7
                  rw [this]; exact hl
            . refine q000.res q1pr [] rfl Try.call54 (fun e R' hR => ?_) (.inl rfl) ?_
              . simp -implicitDefEqProofs only [aR', go_sem]
              simp -implicitDefEqProofs only [cR', go_sem, stdT, hsc, show (((h.length : Nat) : Int) != ((hoOf k : Nat) : Int)) = true from by rw [bne_iff_ne]; omega]
              refine ⟨by omega, by omega, by omega, ?_⟩
              refine hr _ ?_
              simp -implicitDefEqProofs only [eR', go_sem, decide_eq_false (show ¬ q1ec k holes board dead from fun hp => hl (hp.2.2.2.2.1 h hm))]
          . simp -implicitDefEqProofs only [eR', go_sem, decide_eq_false (show ¬ (i : Int) < (holes.length : Int) by omega)]
            refine he _ _ ?_
            rw [List.take_of_length_le h9] at hall ⊢
            have hac := q1ox ((board ++ dead) ++ holes.flatten) (by rw [List.length_append, List.length_append]; omega)
            have hpe : areB ((board ++ dead) ++ holes.flatten) = decide (q1ec k holes board dead) := by
              rw [areB, decide_eq_decide]
              exact ⟨fun h => ⟨by omega, by omega, by omega, by omega, hall, h⟩, fun h => h.2.2.2.2.2⟩
            rw [hpe] at hac
            simp -implicitDefEqProofs only [eR', go_sem]
            refine q006.p hac [95] rfl Try.call55 ?_ ?_
            . simp -implicitDefEqProofs only [aR', go_sem]
            simp -implicitDefEqProofs only [eR', go_sem]
      . refine q006.p (q0s4 board.length 3 5) [] rfl Try.call52 ?_ ?_
        . simp -implicitDefEqProofs only [aR', go_sem]
        simp -implicitDefEqProofs only [eR', go_sem, decide_eq_false h3, show (!false) = true from rfl]
        rw [decide_eq_false (show ¬ q1ec k holes board dead from fun hp => h3 ⟨by have := hp.2.2.1; omega, by have := hp.2.2.2.1; omega⟩)]
    . refine q006.p (q0s4 holes.length 2 4) [] rfl Try.call52 ?_ ?_
      . simp -implicitDefEqProofs only [aR', go_sem]
      simp -implicitDefEqProofs only [eR', go_sem, decide_eq_false h2, show (!false) = true from rfl]
      rw [decide_eq_false (show ¬ q1ec k holes board dead from fun hp => h2 ⟨by have := hp.1; omega, by have := hp.2.1; omega⟩)]
  . rw [q1eb, decide_eq_false h1, Bool.false_and]
    refine q006.p (q1pu v) [] rfl Try.call51 ?_ ?_
    . simp -implicitDefEqProofs only [aR', go_sem]
    simp -implicitDefEqProofs only [eR', go_sem, decide_eq_false h1, show (!false) = true from rfl]
end
section
attribute [-go_sem] q0i5 q0id fldC lenC idxC q0ip
theorem q19q (A B : List Int) : (addL A B).length = A.length := q1qk
theorem q19r {A B : List Int} {a b : Int} (hA : ∀ x ∈ A, 0 <= x /\ x <= a) (hB : ∀ x ∈ B, 0 <= x /\ x <= b) (ha : 0 <= a) (hb : 0 <= b) : ∀ x ∈ addL A B, 0 <= x /\ x <= a + b := by
  intro x hx
  obtain ⟨k, hk, rfl⟩ := List.mem_map.1 hx
  have hk : k < A.length := by simpa using hk
  have h1 : 0 <= A.getD k 0 /\ A.getD k 0 <= a := by
    rw [List.getD_eq_getElem?_getD, List.getElem?_eq_getElem hk]; exact hA _ (List.getElem_mem _)
  have h2 : 0 <= B.getD k 0 /\ B.getD k 0 <= b := by
    by_cases h : k < B.length
    . rw [List.getD_eq_getElem?_getD, List.getElem?_eq_getElem h]; exact hB _ (List.getElem_mem _)
    . rw [List.getD_eq_getElem?_getD, List.getElem?_eq_none (by omega)]; exact ⟨by decide, hb⟩
  show 0 <= A.getD k 0 + B.getD k 0 /\ A.getD k 0 + B.getD k 0 <= a + b
  omega
theorem q1a0 (n : Nat) (hw lw : List Int) : (awL n hw lw).length = n := by
  unfold awL; split <;> simp [q19q]
theorem q19z (n : Nat) (hw lw : List Int) : ∀ x ∈ awL n hw lw, 0 <= x /\ x <= 48 := by
  have hz : ∀ x ∈ List.replicate n (0 : Int), 0 <= x /\ x <= 0 := fun x hx => by rw [List.eq_of_mem_replicate hx]; omega
  have hs : ∀ (W : List Int) (a : Nat), a <= 24 -> ∀ x ∈ tabT n (q1op W (a : Int)), 0 <= x /\ x <= 24 := fun W a ha x hx => by
    obtain ⟨k, _, rfl⟩ := List.mem_map.1 hx
    exact q1oq ha
  intro x hx
  unfold awL at hx
  split at hx
  . have := q19r hz (hs hw 24 (by omega)) (by omega) (by omega) x hx; omega
  . have := q19r (q19r hz (hs lw 12 (by omega)) (by omega) (by omega)) (hs hw 12 (by omega)) (by omega) (by omega) x hx; omega
theorem q1ow (v : Nat) (holes : List (List Int)) (board : List Int) : (q1o6 v holes board).length = holes.length := by rw [q1o6, q1mq, q1a0]; simp
theorem q1ps (A B : List Int) (hAB : B.length = A.length) (hn : A.length <= 1000) (hA : ∀ x ∈ A, 0 <= x /\ x <= 1000000000) (hB : ∀ x ∈ B, 0 <= x /\ x <= 1000000000) : Fun Try.prog 66 [] [.t (ints A), .t (ints B)] fun o r => o = [] /\ r = intsO (addL A B) := by
  refine q1hl (by simp) ?_
  simp -implicitDefEqProofs only [eR', go_sem, q1co]
  refine SemC.loopR (σ := Nat) (fun i => St.of [(0, .t (ints A)), (1, .t (ints B)), (5, .own 95), (6, .t (.i i))] [(95, .arr 1 (((addL A B).take i).map T.i))]) (fun i => i <= A.length) (fun i => A.length - i) 0 (Weak.of _ _ [some 7] (by simp) (by simp) ?_ ⟨⟨_, rfl, .refl _⟩, rfl, trivial⟩) (by omega) fun i hi R hn' hr he => ?_
  . simp -implicitDefEqProofs only [wR', Nat.reduceBEq, Nat.reduceEqDiff, ↓reduceIte]
  . rcases Nat.lt_or_ge i A.length with h9 | h9
    . obtain ⟨x, hx⟩ : ∃ x, A[i]? = some x := ⟨_, List.getElem?_eq_getElem h9⟩
      obtain ⟨y, hy⟩ : ∃ y, B[i]? = some y := ⟨_, List.getElem?_eq_getElem (by omega)⟩
      have hx1 := hA x (List.mem_of_getElem? hx)
      have hy1 := hB y (List.mem_of_getElem? hy)
      have hxy : (addL A B)[i]? = some (x + y) := by
        rw [addL, q1qj h9, List.getD_eq_getElem?_getD, List.getD_eq_getElem?_getD, hx, hy]; rfl
      have hw : IntKind.i64.wrap (x + y) = x + y := wrap64 (by omega) (by omega)
      have htl : ((addL A B).take i).length <= 1000 := by rw [List.length_take]; omega
      simp -implicitDefEqProofs only [eR', go_sem, hx, hy, hw, decide_eq_true (show (i : Int) < (A.length : Int) by omega)]
      refine ⟨by omega, by omega, by omega, by omega, by omega, by omega, by omega, ?_⟩
      refine hn' _ (i + 1) (Weak.o _ _ [some 25] ?_ ?_) (by omega) (by omega)
      . simp -implicitDefEqProofs only [wR', Nat.reduceBEq, Nat.reduceEqDiff, ↓reduceIte, q0lb h9 (by omega)]
      . refine ⟨⟨_, rfl, ?_⟩, rfl, trivial⟩
        rw [q0uj hxy, List.map_append]; exact .refl _
    . simp -implicitDefEqProofs only [eR', go_sem, decide_eq_false (show ¬ (i : Int) < (A.length : Int) by omega)]
      refine he _ _ ?_
      simp -implicitDefEqProofs only [eR', go_sem]
      rw [List.take_of_length_le (by rw [q19q]; omega)]; rfl
def q1q5 (v : Nat) (holes B : List (List Int)) : Nat -> List Int
  | 0 => List.replicate holes.length 0
  | i + 1 => addL (q1q5 v holes B i) (q1o6 v holes (B.getD i []))
theorem q1q7 (v : Nat) (holes B : List (List Int)) : ∀ i, (q1q5 v holes B i).length = holes.length
  | 0 => by simp [q1q5]
  | i + 1 => by rw [q1q5, q19q, q1q7 v holes B i]
theorem q1q6 (v : Nat) (holes B : List (List Int)) : ∀ i, ∀ x ∈ q1q5 v holes B i, 0 <= x /\ x <= 48 * (i : Int)
  | 0 => fun x hx => by rw [List.eq_of_mem_replicate hx]; omega
  | i + 1 => fun x hx => by
    have := q19r (q1q6 v holes B i) (b := 48) (by rw [q1o6]; exact q19z _ _ _) (by omega) (by omega) x hx
    omega
theorem q1aj {k : Nat} {holes : List (List Int)} {board dead : List Int} (h : q1ec k holes board dead) {b : List Int} (hb : b ∈ q1ak holes board dead) : b.length = 5 /\ ∀ x ∈ holes, q1cv (x ++ b) /\ x.length = hoOf k := by
  obtain ⟨c, hc, rfl⟩ := List.mem_map.1 hb
  obtain ⟨hs, hl⟩ := q1dd.1 hc
  obtain ⟨_, _, h3, h4, h5, hcd⟩ := h
  refine ⟨by rw [List.length_append]; omega, fun x hx => ⟨⟨?_, fun y hy => ?_⟩, h5 x hx⟩⟩
  . have hrn : (q1nk holes board dead).Nodup := by
      unfold q1nk q1mf q1mg
      refine List.Pairwise.filter _ ?_
      rw [List.pairwise_map]
      exact List.Pairwise.imp (fun h e => h (by omega)) List.nodup_range
    have hcn := hrn.sublist hs
    have hout : ∀ y ∈ c, y ∉ (board ++ dead) ++ holes.flatten := fun y hy => by
      have := hs.subset hy
      unfold q1nk q1mf q1mg at this
      simpa using (List.mem_filter.1 this).2
    obtain ⟨h6, h7, h8⟩ := List.nodup_append.1 hcd.1
    obtain ⟨h9, h10, h11⟩ := List.nodup_append.1 h6
    have hxf : ∀ y ∈ x, y ∈ holes.flatten := fun y hy => List.mem_flatten.2 ⟨x, hx, hy⟩
    have hxs : x.Sublist holes.flatten := List.sublist_flatten_of_mem hx
    refine List.nodup_append.2 ⟨h7.sublist hxs, List.nodup_append.2 ⟨h9, hcn, fun a ha b hb2 e => hout b hb2 (by rw [← e]; simp [ha])⟩, fun a ha b hb2 e => ?_⟩
    subst e
    rcases List.mem_append.1 hb2 with h12 | h12
    . exact h8 a (by simp [h12]) a (hxf a ha) rfl
    . exact hout a h12 (List.mem_append.2 (.inr (hxf a ha)))
  . rcases List.mem_append.1 hy with h6 | h6
    . exact hcd.2 y (List.mem_append.2 (.inr (List.mem_flatten.2 ⟨x, hx, h6⟩)))
    . rcases List.mem_append.1 h6 with h7 | h7
      . exact hcd.2 y (by simp [h7])
      . have := hs.subset h7
        unfold q1nk q1mf q1mg at this
        obtain ⟨j, hj, rfl⟩ := List.mem_map.1 (List.mem_filter.1 this).1
        have : j < 52 := by simpa using hj
        omega
theorem q1al {holes : List (List Int)} {board dead : List Int} (hb3 : 3 <= board.length) : (q1ak holes board dead).length <= 60000 := by
  have h52 := q1nm holes board dead
  rw [q1ak, List.length_map]
  refine Nat.le_trans (q1df _ _) ?_
  exact Nat.le_trans (Nat.pow_le_pow_left (show (q1nk holes board dead).length + 1 <= 53 by omega) _) (Nat.le_trans (Nat.pow_le_pow_right (by omega) (show 5 - board.length <= 2 by omega)) (by decide))
def q1qc (v : Nat) (holes : List (List Int)) (board dead : List Int) : List Int := q1q5 v holes (q1ak holes board dead) (q1ak holes board dead).length
theorem q1py (v : Nat) (hv3 : v <= 2) (holes : List (List Int)) (board dead : List Int) (hp : q1ec v holes board dead) (hh : holes.flatten.length <= 2000000) (hd : dead.length <= 2000000) :
    Fun Try.prog 38 [] [.t (.i v), .t (rows holes), .t (ints board), .t (ints dead)] fun o r => o = [] /\ r = .tup [intsO (q1qc v holes board dead), .i (q1ak holes board dead).length] := by
  have hB := q1pv holes board dead hh (by have := hp.2.1; omega) hp.2.2.1 hp.2.2.2.1 hd
  have hfew := q1al (holes := holes) (dead := dead) hp.2.2.1
  have hok := fun b (hb : b ∈ q1ak holes board dead) => q1aj hp hb
  have hpos := hp.2.1
  have hpos2 := hp.1
  rw [q1qc]
  generalize q1ak holes board dead = BB at hB hfew hok
  refine q1hr (by simp) ?_
  simp -implicitDefEqProofs only [eR', go_sem, q1cu]
  refine q006.res hB [] rfl Try.call63 ?_ (.inl rfl) ?_
  . simp -implicitDefEqProofs only [aR', go_sem]
  simp -implicitDefEqProofs only [cR', go_sem]
  refine ⟨by omega, by omega, ?_⟩
  refine SemC.loopR (σ := Nat) (fun i => St.of [(0, .t (.i v)), (1, .t (rows holes)), (10, .t (rows BB)), (11, .own 95), (12, .t (.i i))] [(95, intsO (q1q5 v holes BB i))]) (fun i => i <= BB.length) (fun i => BB.length - i) 0 (Weak.trans (Weak.share 16 rfl) (Weak.o _ _ [some 19] ?_ ?_)) (by omega) fun i hi R hn' hr he => ?_
  . simp -implicitDefEqProofs only [wR', Nat.reduceBEq, Nat.reduceEqDiff, ↓reduceIte, q0rg, q17t]
  . refine ⟨⟨_, rfl, ?_⟩, rfl, trivial⟩
    rw [q1q5, q0jc, intsO, List.map_replicate]; exact .refl _
  . rcases Nat.lt_or_ge i BB.length with h9 | h9
    . obtain ⟨b, hx⟩ : ∃ b, BB[i]? = some b := ⟨_, List.getElem?_eq_getElem h9⟩
      have hg : BB.getD i [] = b := by rw [List.getD_eq_getElem?_getD, hx]; rfl
      obtain ⟨hb5, hbc⟩ := hok b (List.mem_of_getElem? hx)
      have hparts : Fun Try.prog 59 [] [.t (.i v), .t (rows holes), .t (ints b)] fun o r => o = [] /\ r = intsO (q1o6 v holes b) := q1pw v hv3 holes b (by omega) (by omega) hbc hb5
      have hsb := q1q6 v holes BB i
      have hadd := q1ps (q1q5 v holes BB i) (q1o6 v holes b) (by rw [q1ow, q1q7]) (by rw [q1q7]; omega) (fun x hx => by have := hsb x hx; omega) (fun x hx => by have := q19z _ _ _ x hx; omega)
      have hS : q1q5 v holes BB (i + 1) = addL (q1q5 v holes BB i) (q1o6 v holes b) := by rw [q1q5, hg]
      simp -implicitDefEqProofs only [eR', go_sem, hx, decide_eq_true (show (i : Int) < (BB.length : Int) by omega)]
      refine ⟨by omega, by omega, by omega, ?_⟩
      refine q006.res hparts [] rfl Try.call59 ?_ (.inl rfl) ?_
      . simp -implicitDefEqProofs only [aR', go_sem]
      simp -implicitDefEqProofs only [cR', go_sem]
      refine q006.res hadd [95, 33] rfl Try.call66 ?_ (.inr (q0fh _)) ?_
      . simp -implicitDefEqProofs only [aR', go_sem]
      simp -implicitDefEqProofs only [cR', go_sem]
      refine hn' _ (i + 1) (Weak.of _ _ [some 34] (by simp) (by simp) ?_ ⟨⟨_, rfl, by rw [hS]; exact .refl _⟩, rfl, trivial⟩) (by omega) (by omega)
      simp -implicitDefEqProofs only [wR', Nat.reduceBEq, Nat.reduceEqDiff, ↓reduceIte, q0lb h9 (by omega)]
    . simp -implicitDefEqProofs only [eR', go_sem, decide_eq_false (show ¬ (i : Int) < (BB.length : Int) by omega)]
      refine he _ _ ?_
      have e : i = BB.length := by omega
      subst e
      simp -implicitDefEqProofs only [eR', go_sem, intsO]
end
section
attribute [-go_sem] q0i5 q0id fldC lenC idxC q0ip
theorem q1j6 (holes : List (List Int)) (board dead : List Int) : Fun Try.prog 61 [] [.t (rows holes), .t (ints board), .t (ints dead)] fun o r => o = [] /\ r = .fn 89 [.pin [rows holes] 0, .pin [ints board] 0, .pin [ints dead] 0] := by
  refine q1fx (by simp) ?_
  simp -implicitDefEqProofs only [eR', go_sem, q1az]
  refine ⟨_, Weak.trans (Weak.share 3 rfl) (Weak.trans (Weak.share 4 rfl) (Weak.trans (Weak.share 5 rfl) (Weak.o [(3, .t (.pin [rows holes] 0)), (4, .t (.pin [ints board] 0)), (5, .t (.pin [ints dead] 0))] [] [] ?_ trivial))), ?_⟩
  . simp -implicitDefEqProofs only [wR', Nat.reduceBEq, Nat.reduceEqDiff, ↓reduceIte, q0rg, T.toSh, T.toShL.eq_1, T.toShL.eq_2]
  . simp -implicitDefEqProofs only [eR', go_sem]
theorem q1dh (n k : Nat) (hn : n <= 1000) (hk : k <= 1000) : q19j Try.prog 107 [.pin [.i k] 0, .pin [.i n] 0] ((comb n k 0).map ints) := by
  rcases Nat.eq_zero_or_pos k with e | e
  . subst e
    have : (comb n 0 0).map ints = [ints []] := by cases n <;> rfl
    rw [this]; exact q1dg n hn
  . exact (q1di n k hn hk e).toY
def tlL (board rest : List Int) (C : List (List Int)) : Nat -> List Int
  | 0 => List.replicate (5 - board.length) 0
  | i + 1 => q1dj rest (C.getD i [])
def curL (board rest : List Int) (C : List (List Int)) (i : Nat) : List Int := board ++ tlL board rest C i
def filL (board A B : List Int) (j : Nat) : List Int := board ++ (A.take j ++ B.drop j)
theorem q1eu (board A B : List Int) : filL board A B 0 = board ++ B := by simp [filL]
theorem q1er {board A B : List Int} (h : A.length = B.length) : filL board A B A.length = board ++ A := by
  rw [filL, List.take_of_length_le (Nat.le_refl _), List.drop_eq_nil_of_le (by omega), List.append_nil]
theorem q1es {board A B : List Int} {j : Nat} (h : A.length = B.length) (hj : j <= A.length) : (filL board A B j).length = board.length + A.length := by simp [filL]; omega
theorem q1et {board A B : List Int} {j : Nat} {y : Int} (h : A.length = B.length) (hy : A[j]? = some y) : (filL board A B j).set (board.length + j) y = filL board A B (j + 1) := by
  have hj : j < A.length := (List.getElem?_eq_some_iff.1 hy).1
  have hd : B.drop j = B[j] :: B.drop (j + 1) := List.drop_eq_getElem_cons (by omega)
  have hl : (A.take j).length = j := by rw [List.length_take]; omega
  rw [filL, List.set_append_right _ _ (by omega), show board.length + j - board.length = j by omega, List.set_append_right _ _ (by omega), hl, Nat.sub_self, hd, List.set_cons_zero, filL, q0uj hy]
  simp
theorem q1am (holes : List (List Int)) (board dead : List Int) (k : Nat) (hp : q1ec k holes board dead) (hf : holes.flatten ≠ []) : q19j Try.prog 89 [.pin [rows holes] 0, .pin [ints board] 0, .pin [ints dead] 0] ((q1ak holes board dead).map ints) := by
  have hro := q1jp holes board dead hp.2.1 hp.2.2.2.2.2 hf
  have h52 := q1nm holes board dead
  have hbd : q1ak holes board dead = (comb (q1nk holes board dead).length (5 - board.length) 0).map fun c => board ++ q1dj (q1nk holes board dead) c := by
    rw [q1ak, ← q1db, List.map_map]; rfl
  rw [hbd]
  generalize q1nk holes board dead = rs at hro h52
  obtain ⟨_, _, hb3, hb5, _, _⟩ := hp
  have hw : IntKind.i64.wrap (5 - (board.length : Int)) = ((5 - board.length : Nat) : Int) := by rw [wrap64 (by omega) (by omega)]; omega
  have hit := q1dh rs.length (5 - board.length) (by omega) (by omega)
  refine q19j.of (n := 47) (c := q1ay) Try.func89 rfl rfl rfl (H := ⟨[], [9]⟩) (by kernel_rfl) (by kernel_rfl) (by decide) (by simp) fun l J hJ => ?_
  show q19l _ 47 J True _ _ (St.of [(0, A.v (.func (.yield l) #[] #[])), (1, .t (.pin [rows holes] 0)), (2, .t (.pin [ints board] 0)), (3, .t (.pin [ints dead] 0))] []) _
  unfold q1ay
  refine q19l.seq (q19l.of hJ ?_)
  simp -implicitDefEqProofs only [eR', go_sem]
  refine q19l.seq (q19l.of hJ ?_)
  simp -implicitDefEqProofs only [eR', go_sem]
  refine q006.res hro [] rfl Try.call65 ?_ (.inl rfl) ?_
  . simp -implicitDefEqProofs only [aR', go_sem]
  simp -implicitDefEqProofs only [cR', go_sem]
  refine q19l.seq (q19l.of hJ ?_)
  simp -implicitDefEqProofs only [eR', go_sem]
  refine ⟨by decide, ?_⟩
  refine q19l.seq (q19l.of hJ ?_)
  have hz5 : made [T.i 0] 5 = (List.replicate 5 (0 : Int)).map T.i := by rw [q0jc, List.map_replicate]
  simp -implicitDefEqProofs only [eR', go_sem, hz5]
  refine ⟨by omega, by omega, ?_⟩
  refine q19l.seq (q19l.of hJ ?_)
  simp -implicitDefEqProofs only [eR', go_sem, intsO, hw]
  refine q006.res (q1j7 rs.length (5 - board.length : Nat)) [] rfl Try.call90 ?_ (.inl rfl) ?_
  . simp -implicitDefEqProofs only [aR', go_sem]
  simp -implicitDefEqProofs only [cR', go_sem]
  refine q19l.block ?_
  generalize hC : comb rs.length (5 - board.length) 0 = C at hit ⊢
  have hCl : ∀ c ∈ C, c.length = 5 - board.length /\ ∀ x ∈ c, 0 <= x /\ x < rs.length := fun c hc => ⟨q1e1 _ _ _ c (hC ▸ hc), q1e3 (hC ▸ hc)⟩
  obtain ⟨mk, hmk⟩ : ∃ mk : Nat -> St, mk = (fun (i : Nat) => St.of [(2, .t (.pin [ints board] 0)), (4, .own 94), (5, .own 95), (6, .own 96), (23, .t (.fn 107 [.pin [.i (5 - board.length : Nat)] 0, .pin [.i rs.length] 0]))] [(96, .box [intsO (curL board rs C i)]), (94, .box [.v (.func (.yield l) #[] #[])]), (95, .box [intsO rs])]) := ⟨_, rfl⟩
  have hms : ∀ i, mk i = St.of [(2, .t (.pin [ints board] 0)), (4, .own 94), (5, .own 95), (6, .own 96), (23, .t (.fn 107 [.pin [.i (5 - board.length : Nat)] 0, .pin [.i rs.length] 0]))] [(96, .box [intsO (curL board rs C i)]), (94, .box [.v (.func (.yield l) #[] #[])]), (95, .box [intsO rs])] := fun i => by rw [hmk]
  refine q19l.range hJ Try.call107 hit mk (fun i => some i) [96] [94, 95] (fun i => [.box [intsO (curL board rs C i)]]) (fun i => [(2, .t (.pin [ints board] 0)), (4, .t (.pin [.v (.func (.yield l) #[] #[])] 0)), (5, .t (.pin [ints rs] 0)), (6, .own 1000000000)]) ?_ rfl ?_ (by simp) (by simp) (fun i hi => ?_) (by decide) (fun i hi s hs => ?_) (fun i hi => ?_) ?_
  . rw [hms]
    refine Weak.trans (Weak.close1 6 0 15 rfl rfl (by decide) rfl) (Weak.trans (Weak.close1 5 0 18 rfl rfl (by decide) rfl) (Weak.o _ _ [some 6, some 4, some 5] ?_ ?_))
    . simp -implicitDefEqProofs only [wR', Nat.reduceBEq, Nat.reduceEqDiff, ↓reduceIte]
    . refine ⟨⟨_, rfl, ?_⟩, rfl, ⟨_, rfl, .refl _⟩, rfl, ⟨_, rfl, .refl _⟩, rfl, trivial⟩
      simp only [curL, tlL, intsO, List.map_append, List.map_replicate, List.drop_replicate, List.length_map]
      have hd5 : List.drop board.length [T.i 0, T.i 0, T.i 0, T.i 0, T.i 0] = List.replicate (5 - board.length) (T.i 0) := by
        show List.drop board.length (List.replicate 5 (T.i 0)) = _
        rw [List.drop_replicate]
      rw [hd5]; exact .refl _
  . rw [hms]; rfl
  . rw [hms]; exact ⟨rfl, trivial⟩
  . rw [hms]
    simp only [List.mem_cons, List.not_mem_nil, or_false] at hs
    rcases hs with rfl | rfl | rfl | rfl
    all_goals
      refine ⟨by simp, ?_⟩
      simp -implicitDefEqProofs only [aR', go_sem, T.toSh, T.toShL, q0fi]
      done
  . rw [List.length_map] at hi
    obtain ⟨c, hx⟩ : ∃ c, C[i]? = some c := ⟨_, List.getElem?_eq_getElem hi⟩
    obtain ⟨hcl, hcr⟩ := hCl c (List.mem_of_getElem? hx)
    have hg : C.getD i [] = c := by rw [List.getD_eq_getElem?_getD, hx]; rfl
    have hI : (List.map ints C)[i] = ints c := by
      have : (List.map ints C)[i]? = some (ints c) := by rw [List.getElem?_map, hx]; rfl
      exact (List.getElem?_eq_some_iff.1 this).2
    rw [hI]
    have hnext : curL board rs C (i + 1) = board ++ q1dj rs c := by rw [curL, tlL, hg]
    have hAl : (q1dj rs c).length = 5 - board.length := by simp [q1dj, hcl]
    have hBl : (tlL board rs C i).length = 5 - board.length := by
      cases i with
      | zero => simp [tlL]
      | succ i =>
        have h2 : C[i]? = some (C.getD i []) := by rw [List.getD_eq_getElem?_getD, List.getElem?_eq_getElem (by omega)]; rfl
        rw [tlL]
        simp only [q1dj, List.length_map]
        exact (hCl _ (List.mem_of_getElem? h2)).1
    have hAB : (q1dj rs c).length = (tlL board rs C i).length := by omega
    have hcur : curL board rs C i = board ++ tlL board rs C i := rfl
    rw [hcur]
    generalize tlL board rs C i = tl at hBl hAB
    simp -implicitDefEqProofs only [eR', go_sem]
    refine q19l.block (q19l.seq (q19l.of hJ ?_))
    simp -implicitDefEqProofs only [eR', go_sem]
    refine SemC.loopR (σ := Nat) (fun j => St.of [(2, .t (.pin [ints board] 0)), (4, .t (.pin [.v (.func (.yield l) #[] #[])] 0)), (5, .t (.pin [ints rs] 0)), (6, .own 1000000000), (25, .t (ints c)), (26, .t (.i c.length)), (27, .t (.i j))] [(1000000000, .box [intsO (filL board (q1dj rs c) tl j)])]) (fun j => j <= c.length) (fun j => c.length - j) 0 (Weak.of _ _ [some 1000000000] (by simp) (by simp) ?_ ⟨⟨_, rfl, by rw [q1eu]; exact .refl _⟩, rfl, trivial⟩) (by omega) fun j hj R hn' hr he => ?_
    . simp -implicitDefEqProofs only [wR', Nat.reduceBEq, Nat.reduceEqDiff, ↓reduceIte]
    . rcases Nat.lt_or_ge j c.length with h9 | h9
      . obtain ⟨x, hxc⟩ : ∃ x, c[j]? = some x := ⟨_, List.getElem?_eq_getElem h9⟩
        obtain ⟨hx0, hx1⟩ := hcr x (List.mem_of_getElem? hxc)
        obtain ⟨m, rfl⟩ : ∃ m : Nat, x = m := ⟨x.toNat, by omega⟩
        obtain ⟨y, hy⟩ : ∃ y, rs[m]? = some y := ⟨_, List.getElem?_eq_getElem (by omega)⟩
        have hyc : (q1dj rs c)[j]? = some y := by rw [q1dj, List.getElem?_map, hxc]; simp [hy]
        have hset := q1et (board := board) hAB hyc
        have hfl := q1es (board := board) (j := j) hAB (by omega)
        have hadd : IntKind.i64.wrap ((board.length : Int) + (j : Int)) = ((board.length + j : Nat) : Int) := by rw [wrap64 (by omega) (by omega)]; omega
        simp -implicitDefEqProofs only [eR', go_sem, hxc, decide_eq_true (show (j : Int) < (c.length : Int) by omega)]
        refine ⟨by omega, by omega, by omega, ?_⟩
        refine ⟨_, Weak.open 1000000000 0 501 rfl rfl rfl (by decide) rfl, ?_⟩
        simp -implicitDefEqProofs only [eR', go_sem, hadd, hy, hfl, intsO, show List.lookup 0 [((0 : Nat), (501 : Nat))] = some 501 from rfl]
        refine ⟨by omega, by omega, by omega, by omega, by omega, by omega, ?_⟩
        refine hn' _ (j + 1) (Weak.trans (Weak.close1 1000000000 0 501 rfl rfl (by decide) rfl) (Weak.o _ _ [some 1000000000] ?_ ?_)) (by omega) (by omega)
        . simp -implicitDefEqProofs only [wR', Nat.reduceBEq, Nat.reduceEqDiff, ↓reduceIte, q0lb h9 (by omega)]
        . refine ⟨⟨_, rfl, ?_⟩, rfl, trivial⟩
          rw [← hset, intsO, List.map_set]; exact .refl _
      . simp -implicitDefEqProofs only [eR', go_sem, decide_eq_false (show ¬ (j : Int) < (c.length : Int) by omega)]
        refine he _ _ ?_
        have ej : j = (q1dj rs c).length := by omega
        rw [ej, q1er hAB]
        refine q19l.seq (q19l.yreg hJ (pre := [.o (.load1 43 (sl 4)), .o (.load1 44 (sl 6))]) (post := [.o (.un 46 .not (sl 45))]) ?_)
        simp -implicitDefEqProofs only [eR', go_sem, intsO]
        have hys : (List.map ints (List.map (fun c => board ++ q1dj rs c) (comb rs.length (5 - board.length) 0)))[i]? = some (ints (board ++ q1dj rs c)) := by
          rw [hC, List.getElem?_map, List.getElem?_map, hx]; rfl
        refine ⟨44, .arr 1 ((board ++ q1dj rs c).map T.i), i, rfl, rfl, rfl, q0fh _, rfl, ?_, by decide, fun b => ?_⟩
        . rw [hys]; exact congrArg some (q0fi _).symm
        . have hsame : setS (mk i) [96] [T.box [T.arr 1 ((board ++ q1dj rs c).map T.i)]] = mk (i + 1) := by
            simp only [hms, setS, updS, rootOf, St.of, q0kh, q1rd, hnext, intsO]
          refine q19l.weaken hJ (Weak.close1 1000000000 0 44 rfl rfl (by decide) rfl) ?_
          cases b with
          | true =>
            refine q19l.cond (b := false) rfl (fun h => by cases h) (fun _ => q19l.of hJ ?_)
            refine ⟨⟨⟨q0fh _, trivial⟩, trivial⟩, rfl, ?_⟩
            show Weak 47 (setS (mk i) [96] [T.box [T.arr 1 ((board ++ q1dj rs c).map T.i)]]) (mk (i + 1))
            rw [hsame]; exact Weak.refl _ _
          | false =>
            refine q19l.cond (b := true) rfl (fun _ => q19l.of hJ ?_) (fun h => by cases h)
            exact ⟨⟨⟨q0fh _, trivial⟩, trivial⟩, .inr rfl⟩
  . exact Or.inl (by rw [List.length_map])
end

def q1bf : CC :=
 (.seq (.reg [.o (.box 4 (sl 0)),.o (.box 5 (sl 1)),.o (.move 8 (cv (.slice none 0 0))),.o (.move 9 (ci 0))])
 ((.seq (.reg [l1 15 5,.o (.lenS 16 (sl 15)),.o (.make 17 [.v (.int .i64 0)] 8 (sl 16) (sl 16)),.o (.alloc 10 [.v (.slice none 0 0)]),.o (.store 1 (sl 10) (sl 17))])
 ((.seq (.reg [.o (.alloc 11 [.v (.int .i64 0)])])
 ((.seq (.seq (.reg [l1 18 5,mv 19 2,mv 20 3,.o (.call (some 21) (cf 61) [(sl 18), (sl 19), (sl 20)])])
 ((.block 0 (.rng (sl 21) [22] (.reg [mv 12 22])
 (.block 1 (.seq (.reg [l1 23 11,.o (.bin 24 .add (sl 23) (ci 1)),.o (.store 1 (sl 11) (sl 24))])
 ((.seq (.reg [l1 25 4,l1 26 5,mv 27 12,.o (.call (some 28) (cf 58) [(sl 25), (sl 26), (sl 27)]),.o (.lenS 29 (sl 28)),.o (.move 30 (ci 0))])
 ((.block 2 (.loop (.seq (.reg [.o (.bin 31 .lss (sl 30) (sl 29))])
 ((.seq (.cond (sl 31) .skip
 (.exit 2))
 ((.seq (.block 3 (.seq (.reg [mv 32 30,ix 33 28 30,l1 34 33,mv 13 32,mv 14 34])
 ((.reg [l1 35 10,mv 36 13,ix 37 35 36,l1 38 37,mv 39 14,.o (.bin 40 .add (sl 38) (sl 39)),ix 41 35 36,.o (.store 1 (sl 41) (sl 40))]))))
 ((.reg [.o (.bin 42 .add (sl 30) (ci 1)),mv 30 42]))))))))))))))))))
 ((.seq (.weak (.draw [] [kr (l1 43 10),kr (l1 44 11),kr (mv 8 43),kr (mv 9 44)]))
 (.ret))))))))))
theorem q1gc {rin args Q} (ha : args.length <= 45) (h : fW 45 q1bf [.tmp 8, .tmp 9] rin args Q) : Fun Try.prog 40 rin args Q :=
 Fun.of (H := ⟨[], [11]⟩) Try.func40 rfl rfl rfl (by kernel_rfl) ha (by decide) h

section
attribute [-go_sem] q0i5 q0id fldC lenC idxC q0ip
theorem q1rc (ff : Nat -> Root) (x y a b : Root) : upd (upd (upd (upd ff 97 x) 96 y) 97 b) 96 a = upd (upd ff 97 b) 96 a := by
  funext r
  simp only [upd]
  by_cases h1 : r = 96 <;> by_cases h2 : r = 97 <;> simp [h1, h2]
theorem q1jm (v : Nat) (hv3 : v <= 2) (holes : List (List Int)) (board dead : List Int) (hp : q1ec v holes board dead) (hf : holes.flatten ≠ []) :
    Fun Try.prog 40 [] [.t (.i v), .t (rows holes), .t (ints board), .t (ints dead)] fun o r => o = [] /\ r = .tup [intsO (q1qc v holes board dead), .i (q1ak holes board dead).length] := by
  have hit := q1am holes board dead v hp hf
  have hfew := q1al (holes := holes) (dead := dead) hp.2.2.1
  have hok := fun b (hb : b ∈ q1ak holes board dead) => q1aj hp hb
  have hpos := hp.2.1
  have hpos2 := hp.1
  rw [q1qc]
  generalize q1ak holes board dead = BB at hit hfew hok
  refine q1gc (by simp) ?_
  simp -implicitDefEqProofs only [eR', go_sem, q1bf]
  refine ⟨by omega, by omega, ?_⟩
  refine q006.res (q1j6 holes board dead) [] rfl Try.call61 ?_ (.inl rfl) ?_
  . simp -implicitDefEqProofs only [aR', go_sem]
  simp -implicitDefEqProofs only [cR', go_sem]
  refine SemC.rangeY Try.call89 hit (fun i => St.of [(4, .own 94), (5, .own 95), (10, .own 96), (11, .own 97), (21, .t (.fn 89 [.pin [rows holes] 0, .pin [ints board] 0, .pin [ints dead] 0]))] [(96, .box [intsO (q1q5 v holes BB i)]), (97, .box [.i i]), (94, .box [.i v]), (95, .box [rows holes])]) (fun i => True) trivial [96, 97] [94, 95] (fun i => [.box [intsO (q1q5 v holes BB i)], .box [.i i]]) (fun i => [(4, .t (.pin [.i v] 0)), (5, .t (.pin [rows holes] 0)), (10, .own 1000000000), (11, .own 1000000001)]) (Weak.o _ _ [some 10, some 11, some 4, some 5] ?_ ?_) rfl (by simp) (by simp) (fun i hi => ⟨rfl, rfl, trivial⟩) (by decide) (fun i hi s hs => ?_) (fun i hi _ => ?_) ?_
  . simp -implicitDefEqProofs only [wR', Nat.reduceBEq, Nat.reduceEqDiff, ↓reduceIte]
  . refine ⟨⟨_, rfl, ?_⟩, rfl, ⟨_, rfl, .refl _⟩, rfl, ⟨_, rfl, .refl _⟩, rfl, ⟨_, rfl, .refl _⟩, rfl, trivial⟩
    rw [q1q5, q0jc, intsO, List.map_replicate]; exact .refl _
  . simp only [List.mem_cons, List.not_mem_nil, or_false] at hs
    rcases hs with rfl | rfl | rfl | rfl
    all_goals
      refine ⟨by simp, ?_⟩
      simp -implicitDefEqProofs only [aR', go_sem, T.toSh, T.toShL]
  . rw [List.length_map] at hi
    obtain ⟨b, hx⟩ : ∃ b, BB[i]? = some b := ⟨_, List.getElem?_eq_getElem hi⟩
    have hg : BB.getD i [] = b := by rw [List.getD_eq_getElem?_getD, hx]; rfl
    obtain ⟨hb5, hbc⟩ := hok b (List.mem_of_getElem? hx)
    have hI : (List.map ints BB)[i] = ints b := by
      have : (List.map ints BB)[i]? = some (ints b) := by rw [List.getElem?_map, hx]; rfl
      exact (List.getElem?_eq_some_iff.1 this).2
    rw [hI]
    have hparts := q0eu v hv3 holes b (by omega) (by omega) hbc hb5
    have hS : q1q5 v holes BB (i + 1) = addL (q1q5 v holes BB i) (q1o6 v holes b) := by rw [q1q5, hg]
    have hsb := q1q6 v holes BB i
    have hsl := q1q7 v holes BB i
    have hpl := q1ow v holes b
    have hpb : ∀ x ∈ q1o6 v holes b, 0 <= x /\ x <= 48 := q19z _ _ _
    generalize q1q5 v holes BB i = S0 at hS hsb hsl
    generalize q1o6 v holes b = D at hparts hS hpl hpb
    simp -implicitDefEqProofs only [eR', go_sem, q0lb hi (by omega)]
    refine q006.res hparts [] rfl Try.call58 ?_ (.inl rfl) ?_
    . simp -implicitDefEqProofs only [aR', go_sem]
    simp -implicitDefEqProofs only [cR', go_sem, intsO]
    refine SemC.loopR (σ := Nat) (fun j => St.of [(10, .own 1000000000), (11, .own 1000000001), (28, .own 128), (29, .t (.i D.length)), (30, .t (.i j))] [(1000000000, .box [intsO (adTo S0 D j)]), (1000000001, .box [.i (i + 1 : Nat)]), (128, .arr 1 (D.map T.i))]) (fun j => j <= D.length) (fun j => D.length - j) 0 (Weak.o _ _ [some 1000000000, some 1000000001, some 28] ?_ ?_) (by omega) fun j hj R hn' hr he => ?_
    . simp -implicitDefEqProofs only [wR', Nat.reduceBEq, Nat.reduceEqDiff, ↓reduceIte]
    . refine ⟨⟨_, rfl, by rw [q19p]; exact .refl _⟩, rfl, ⟨_, rfl, .refl _⟩, rfl, ⟨_, rfl, .refl _⟩, rfl, trivial⟩
    . rcases Nat.lt_or_ge j D.length with h9 | h9
      . obtain ⟨y, hy⟩ : ∃ y, D[j]? = some y := ⟨_, List.getElem?_eq_getElem h9⟩
        have hyb := hpb y (List.mem_of_getElem? hy)
        have hyg : D.getD j 0 = y := by rw [List.getD_eq_getElem?_getD, hy]; rfl
        have hset := q19o S0 D j
        rw [hyg] at hset
        have hP : (adTo S0 D j)[j]? = some (S0.getD j 0) := by rw [adTo, q1qj (by omega), if_neg (by omega)]
        have hal : (adTo S0 D j).length = holes.length := by rw [adTo, q1qk, hsl]
        have hSb : 0 <= S0.getD j 0 /\ S0.getD j 0 <= 48 * (i : Int) := by
          obtain ⟨z, hz⟩ : ∃ z, S0[j]? = some z := ⟨_, List.getElem?_eq_getElem (by omega)⟩
          rw [List.getD_eq_getElem?_getD, hz]; exact hsb z (List.mem_of_getElem? hz)
        have hw : IntKind.i64.wrap (S0.getD j 0 + y) = S0.getD j 0 + y := wrap64 (by omega) (by omega)
        simp -implicitDefEqProofs only [eR', go_sem, intsO, hy, hP, hal, hw, decide_eq_true (show (j : Int) < (D.length : Int) by omega)]
        refine ⟨by omega, by omega, by omega, by omega, by omega, by omega, by omega, by omega, by omega, ?_⟩
        refine hn' _ (j + 1) (Weak.trans (Weak.close1 1000000000 0 35 rfl rfl (by decide) rfl) (Weak.o _ _ [some 1000000000, some 1000000001, some 128] ?_ ?_)) (by omega) (by omega)
        . simp -implicitDefEqProofs only [wR', Nat.reduceBEq, Nat.reduceEqDiff, ↓reduceIte, q0lb h9 (by omega)]
        . refine ⟨⟨_, rfl, ?_⟩, rfl, ⟨_, rfl, .refl _⟩, rfl, ⟨_, rfl, .refl _⟩, rfl, trivial⟩
          rw [← hset, intsO, List.map_set]; exact .refl _
      . simp -implicitDefEqProofs only [eR', go_sem, decide_eq_false (show ¬ (j : Int) < (D.length : Int) by omega)]
        refine he _ _ ?_
        rw [show j = S0.length by omega, q19n, ← hS]
        refine ⟨⟨⟨q0fh _, trivial⟩, by simp [T.noSh, T.noShL], trivial⟩, trivial, ?_⟩
        simp only [setS, updS, rootOf, q1rc]
        rfl
  . rw [List.length_map]
    simp -implicitDefEqProofs only [eR', go_sem]
    refine ⟨_, Weak.open 96 0 501 rfl rfl rfl (by decide) rfl, ?_⟩
    simp -implicitDefEqProofs only [eR', go_sem, intsO, show List.lookup 0 [((0 : Nat), (501 : Nat))] = some 501 from rfl]
end

def mx0 (l : List Int) : Int := l.foldl max 0
def half (l : List Int) : List Int := l.map fun x => x / 2
def hvd : Nat -> List Int -> List Int
  | 0, l => l
  | f + 1, l => if mx0 l <= 1000000000 then l else hvd f (half l)

def W (f : Nat) : Int := ((2 ^ (29 + f) : Nat) : Int)
def hw (l : List Int) : List Int × Int := if 1 <= l.length /\ l.length <= 4 /\ ∀ x ∈ l, 0 <= x then (hvd 34 l, 0) else ([], 2)

theorem q1qt (a b : Nat) : ((a : Int).tmod (b : Int)) = ((a % b : Nat) : Int) := by
  rw [Int.tmod_eq_emod_of_nonneg (by omega)]; rfl

theorem q1p5 : ∀ (b a : Nat), a < 9223372036854775808 -> b < 9223372036854775808 -> Pure Try.prog 67 [.i a, .i b] (.i (Nat.gcd a b)) := by
  intro b
  induction b using Nat.strongRecOn with
  | _ b ih =>
    intro a ha hb
    refine q1gy (by simp) ?_
    simp -implicitDefEqProofs only [eR', go_sem, q1c1]
    refine ⟨fun h => ?_, fun h => ?_⟩
    . have : b = 0 := by simpa using h
      subst this
      simp
    . have h0 : b ≠ 0 := by simpa using h
      refine ⟨by omega, ?_⟩
      rw [q1qt]
      have hlt : a % b < b := Nat.mod_lt _ (by omega)
      refine q006.p (ih (a % b) hlt b hb (by omega)) [] rfl Try.call67 ?_ ?_
      . simp -implicitDefEqProofs only [aR', go_sem]
      simp -implicitDefEqProofs only [eR', go_sem]
      rw [Nat.gcd_comm a b, Nat.gcd_rec b a, Nat.gcd_comm]

theorem q1j9 (a b : Nat) (ha : a < 9223372036854775808) (hb : b < 9223372036854775808) : Pure Try.prog 70 [.i a, .i b] (.i (Nat.gcd a b)) := by
  refine q1g1 (by simp) ?_
  simp -implicitDefEqProofs only [eR', go_sem, q1b3]
  refine SemC.loopR (σ := Nat × Nat) (fun s => St.of [(0, .t (.i s.1)), (1, .t (.i s.2))] []) (fun s => s.1 < 9223372036854775808 /\ s.2 < 9223372036854775808 /\ Nat.gcd s.1 s.2 = Nat.gcd a b) (fun s => s.2) (a, b) (Weak.o _ [] [] ?_ trivial) ⟨ha, hb, rfl⟩ fun s hI R hn hr he => ?_
  . simp -implicitDefEqProofs only [ints, rows, wkR, Nat.reduceEqDiff, ↓reduceIte]
  . obtain ⟨x, y⟩ := s
    obtain ⟨hx, hy, hg⟩ := hI
    (try simp only [] at hx hy hg)
    simp -implicitDefEqProofs only [eR', go_sem]
    refine ⟨fun h => ⟨by omega, ?_⟩, fun h => he _ _ ?_⟩
    . have hlt : x % y < y := Nat.mod_lt _ (by omega)
      refine hn _ (y, x % y) (Weak.o _ [] [] ?_ trivial) ⟨hy, by simp only []; omega, ?_⟩ hlt
      . simp -implicitDefEqProofs only [ints, rows, wkR, Nat.reduceEqDiff, ↓reduceIte, q1qt]
      . simp only []
        rw [← hg, Nat.gcd_comm x y, Nat.gcd_rec y x, Nat.gcd_comm]
    . simp -implicitDefEqProofs only [eR', go_sem]
      have : y = 0 := by omega
      subst this
      simp only [Nat.gcd_zero_right] at hg
      rw [hg]

def gcdI (n d : Int) : Nat := Nat.gcd n.natAbs d.natAbs
def q1jw (r : Int × Int) : Bool := decide (-1000000000 <= r.1 /\ r.1 <= 1000000000) && decide (1 <= r.2 /\ r.2 <= 1000000000) && decide (gcdI r.1 r.2 = 1)

theorem q1p4 (n : Int) (h0 : -9223372036854775808 < n) (h1 : n < 9223372036854775808) : Pure Try.prog 68 [.i n] (.i n.natAbs) := by
  refine q1gx (by simp) ?_
  simp -implicitDefEqProofs only [eR', go_sem, q1c0]
  rw [wrap64 (by omega) (by omega)]
  congr 1; congr 1; omega
theorem q1j2 (n : Int) (h0 : -9223372036854775808 < n) (h1 : n < 9223372036854775808) : Pure Try.prog 71 [.i n] (.i n.natAbs) := by
  refine q1ft (by simp) ?_
  simp -implicitDefEqProofs only [eR', go_sem, q1au]
  rw [wrap64 (by omega) (by omega)]
  refine ⟨fun h => ?_, fun h => ?_⟩ <;> (congr 1; congr 1; omega)

theorem q1p3 (a b : Int) (a0 : 0 <= a) (a1 : a < 9223372036854775808) (b0 : 0 <= b) (b1 : b < 9223372036854775808) : Pure Try.prog 67 [.i a, .i b] (.i (gcdI a b)) := by
  have h := q1p5 b.natAbs a.natAbs (by omega) (by omega)
  rw [show ((a.natAbs : Nat) : Int) = a by omega, show ((b.natAbs : Nat) : Int) = b by omega] at h
  exact h
theorem q1ja (a b : Int) (a0 : 0 <= a) (a1 : a < 9223372036854775808) (b0 : 0 <= b) (b1 : b < 9223372036854775808) : Pure Try.prog 70 [.i a, .i b] (.i (gcdI a b)) := by
  have h := q1j9 a.natAbs b.natAbs (by omega) (by omega)
  rw [show ((a.natAbs : Nat) : Int) = a by omega, show ((b.natAbs : Nat) : Int) = b by omega] at h
  exact h
theorem q1hs (n d : Int) : gcdI n.natAbs d = gcdI n d := by simp [gcdI]
theorem q1uz (n d : Int) : (gcdI n d : Int) ∣ n := by
  have := Nat.gcd_dvd_left n.natAbs d.natAbs
  exact Int.ofNat_dvd_left.2 this
theorem q1v0 (n d : Int) : (gcdI n d : Int) ∣ d := by
  have := Nat.gcd_dvd_right n.natAbs d.natAbs
  exact Int.ofNat_dvd_left.2 this
theorem q1ht (n d : Int) (h : 0 < d) : 0 < gcdI n d := Nat.gcd_pos_of_pos_right _ (by omega)

def redR (n d : Int) : (Int × Int) × Int :=
  if q1jw (n.tdiv (gcdI n d), d.tdiv (gcdI n d)) then ((n.tdiv (gcdI n d), d.tdiv (gcdI n d)), 0) else ((0, 0), 3)
def redT (x : (Int × Int) × Int) : T := .tup [rat x.1, .i x.2]
theorem q1qq {n : Int} {g : Nat} (h0 : -9223372036854775808 < n) (h1 : n < 9223372036854775808) : IntKind.i64.wrap (n.tdiv (g : Int)) = n.tdiv (g : Int) := by
  have h2 : (n.tdiv (g : Int)).natAbs <= n.natAbs := by
    rw [Int.natAbs_tdiv]; exact Nat.div_le_self _ _
  exact wrap64 (by omega) (by omega)
theorem q1p2 (r : Int × Int) : Pure Try.prog 69 [rat r] (.b (q1jw r)) := by
  obtain ⟨n, d⟩ := r
  refine q1gw (by simp) ?_
  simp -implicitDefEqProofs only [eR', go_sem, q1bz]
  refine q004.pure (q0s4 n (-1000000000) 1000000000) [] rfl Try.call52 (fun e R' hR => ?_) (by first | trivial | simp [T.noSh, T.noShL, rat]) (fun _ => rfl) ?_
  . simp -implicitDefEqProofs only [aR', go_sem]
  simp -implicitDefEqProofs only [eR', go_sem]
  refine ⟨fun h1 h2 => ?_, fun h1 => ?_⟩
  . refine q004.pure (q0s4 d 1 1000000000) [] rfl Try.call52 (fun e R' hR => ?_) (by first | trivial | simp [T.noSh, T.noShL, rat]) (fun _ => rfl) ?_
    . simp -implicitDefEqProofs only [aR', go_sem]
    simp -implicitDefEqProofs only [eR', go_sem]
    refine ⟨fun h3 h4 => ?_, fun h3 => ?_⟩
    . refine q004.pure (q1p4 n (by omega) (by omega)) [] rfl Try.call68 (fun e R' hR => ?_) (by first | trivial | simp [T.noSh, T.noShL, rat]) (fun _ => rfl) ?_
      . simp -implicitDefEqProofs only [aR', go_sem]
      simp -implicitDefEqProofs only [eR', go_sem]
      refine q004.pure (q1p3 n.natAbs d (by omega) (by omega) (by omega) (by omega)) [] rfl Try.call67 (fun e R' hR => ?_) (by first | trivial | simp [T.noSh, T.noShL, rat]) (fun _ => rfl) ?_
      . simp -implicitDefEqProofs only [aR', go_sem]
      simp -implicitDefEqProofs only [eR', go_sem, q1hs]
      rw [q1jw, decide_eq_true ⟨h1, h2⟩, decide_eq_true ⟨h3, h4⟩]
      by_cases h : gcdI n d = 1 <;> simp [h]
      omega
    . rw [q1jw, decide_eq_false (p := 1 <= d /\ d <= 1000000000) (by omega)]; simp
  . rw [q1jw, decide_eq_false (p := -1000000000 <= n /\ n <= 1000000000) (by omega)]; simp

theorem q1j1 (r : Int × Int) : Pure Try.prog 56 [rat r] (.b (q1jw r)) := by
  obtain ⟨n, d⟩ := r
  refine q1fs (by simp) ?_
  simp -implicitDefEqProofs only [eR', go_sem, q1at]
  refine q004.pure (q0f9 n (-1000000000) 1000000000) [] rfl Try.call47 (fun e R' hR => ?_) (by first | trivial | simp [T.noSh, T.noShL, rat]) (fun _ => rfl) ?_
  . simp -implicitDefEqProofs only [aR', go_sem]
  simp -implicitDefEqProofs only [eR', go_sem]
  refine ⟨fun h1 h2 => ?_, fun h1 => ?_⟩
  . refine q004.pure (q0f9 d 1 1000000000) [] rfl Try.call47 (fun e R' hR => ?_) (by first | trivial | simp [T.noSh, T.noShL, rat]) (fun _ => rfl) ?_
    . simp -implicitDefEqProofs only [aR', go_sem]
    simp -implicitDefEqProofs only [eR', go_sem]
    refine ⟨fun h3 h4 => ?_, fun h3 => ?_⟩
    . refine q004.pure (q1j2 n (by omega) (by omega)) [] rfl Try.call71 (fun e R' hR => ?_) (by first | trivial | simp [T.noSh, T.noShL, rat]) (fun _ => rfl) ?_
      . simp -implicitDefEqProofs only [aR', go_sem]
      simp -implicitDefEqProofs only [eR', go_sem]
      refine q004.pure (q1ja n.natAbs d (by omega) (by omega) (by omega) (by omega)) [] rfl Try.call70 (fun e R' hR => ?_) (by first | trivial | simp [T.noSh, T.noShL, rat]) (fun _ => rfl) ?_
      . simp -implicitDefEqProofs only [aR', go_sem]
      simp -implicitDefEqProofs only [eR', go_sem, q1hs]
      rw [q1jw, decide_eq_true ⟨h1, h2⟩, decide_eq_true ⟨h3, h4⟩]
      by_cases h : gcdI n d = 1 <;> simp [h]
      omega
    . rw [q1jw, decide_eq_false (p := 1 <= d /\ d <= 1000000000) (by omega)]; simp
  . rw [q1jw, decide_eq_false (p := -1000000000 <= n /\ n <= 1000000000) (by omega)]; simp

theorem q1p7 (n d : Int) (n0 : -9223372036854775808 < n) (n1 : n < 9223372036854775808) (d0 : 0 < d) (d1 : d < 9223372036854775808) : Fun Try.prog 39 [] [.t (.i n), .t (.i d)] fun o r => o = [] /\ r = redT (redR n d) := by
  refine q1h0 (by simp) ?_
  simp -implicitDefEqProofs only [eR', go_sem, q1c3]
  refine q006.p (q1p4 n n0 n1) [] rfl Try.call68 ?_ ?_
  . simp -implicitDefEqProofs only [aR', go_sem]
  simp -implicitDefEqProofs only [eR', go_sem]
  refine q006.p (q1p3 n.natAbs d (by omega) (by omega) (by omega) d1) [] rfl Try.call67 ?_ ?_
  . simp -implicitDefEqProofs only [aR', go_sem]
  simp -implicitDefEqProofs only [eR', go_sem, q1hs]
  have hg := q1ht n d d0
  refine ⟨by omega, by omega, ?_⟩
  rw [q1qq n0 n1, q1qq (by omega) d1]
  refine q006.p (q1p2 (n.tdiv (gcdI n d), d.tdiv (gcdI n d))) [] rfl Try.call69 ?_ ?_
  . simp -implicitDefEqProofs only [aR', go_sem]
  simp -implicitDefEqProofs only [eR', go_sem]
  rw [redR]
  refine ⟨fun h => ?_, fun h => ?_⟩
  . rw [if_neg (by simpa using h)]; rfl
  . rw [if_pos (by simpa using h)]; rfl

theorem q1jo (n d : Int) (n0 : -9223372036854775808 < n) (n1 : n < 9223372036854775808) (d0 : 0 < d) (d1 : d < 9223372036854775808) : Fun Try.prog 41 [] [.t (.i n), .t (.i d)] fun o r => o = [] /\ r = redT (redR n d) := by
  refine q1ge (by simp) ?_
  simp -implicitDefEqProofs only [eR', go_sem, q1bh]
  refine q006.p (q1j2 n n0 n1) [] rfl Try.call71 ?_ ?_
  . simp -implicitDefEqProofs only [aR', go_sem]
  simp -implicitDefEqProofs only [eR', go_sem]
  refine q006.p (q1ja n.natAbs d (by omega) (by omega) (by omega) d1) [] rfl Try.call70 ?_ ?_
  . simp -implicitDefEqProofs only [aR', go_sem]
  simp -implicitDefEqProofs only [eR', go_sem, q1hs]
  have hg := q1ht n d d0
  refine ⟨by omega, by omega, ?_⟩
  rw [q1qq n0 n1, q1qq (by omega) d1]
  refine q006.p (q1j1 (n.tdiv (gcdI n d), d.tdiv (gcdI n d))) [] rfl Try.call56 ?_ ?_
  . simp -implicitDefEqProofs only [aR', go_sem]
  simp -implicitDefEqProofs only [eR', go_sem]
  rw [redR]
  refine ⟨fun h => ?_, fun h => ?_⟩
  . rw [if_neg (by simpa using h)]; rfl
  . rw [if_pos (by simpa using h)]; rfl

section
attribute [-go_sem] q0i5 q0id fldC lenC idxC q0ip
def q1en (N : Nat) (s : Int) : Int × Int := (redR s (24 * (N : Int))).1
def eqT (v : Int) (holes : List (List Int)) (board dead : List Int) : T :=
  if q1eb v holes board dead = false then .tup [.v (.slice none 0 0), .i 1]
  else if (q1ak holes board dead).length = 0 then .tup [.v (.slice none 0 0), .i 2]
  else .tup [q0p1 ((q1qc v.toNat holes board dead).map (q1en (q1ak holes board dead).length)), .i 0]
theorem q1oz (v : Int) (holes : List (List Int)) (board dead : List Int) (hh : holes.flatten.length <= 2000000) (hhn : holes.length <= 2000000) (hb : board.length <= 2000000) (hd : dead.length <= 2000000) :
    Fun Try.prog 7 [] [.t (.i v), .t (rows holes), .t (ints board), .t (ints dead)] fun o r => o = [] /\ r = eqT v holes board dead := by
  refine q1gt (by simp) ?_
  simp -implicitDefEqProofs only [eR', go_sem, q1bw]
  have hdl := q1p0 v holes board dead hh hhn hb hd
  unfold eqT
  cases hdb : q1eb v holes board dead with
  | false =>
    rw [hdb] at hdl
    refine q006.p hdl [] rfl Try.call24 ?_ ?_
    . simp -implicitDefEqProofs only [aR', go_sem]
    simp -implicitDefEqProofs only [eR', go_sem, show (!false) = true from rfl]
  | true =>
    rw [hdb] at hdl
    refine q006.p hdl [] rfl Try.call24 ?_ ?_
    . simp -implicitDefEqProofs only [aR', go_sem]
    simp -implicitDefEqProofs only [eR', go_sem, show (!true) = false from rfl]
    rw [q1eb, Bool.and_eq_true, decide_eq_true_eq, decide_eq_true_eq] at hdb
    obtain ⟨hv, hp⟩ := hdb
    obtain ⟨k, rfl⟩ : ∃ k : Nat, v = k := ⟨v.toNat, by omega⟩
    rw [Int.toNat_natCast] at hp ⊢
    have hsm := q1py k (by omega) holes board dead hp hh hd
    have hfew := q1al (holes := holes) (dead := dead) hp.2.2.1
    have hsb := q1q6 k holes (q1ak holes board dead) (q1ak holes board dead).length
    have hsl := q1q7 k holes (q1ak holes board dead) (q1ak holes board dead).length
    change ∀ x ∈ q1qc k holes board dead, _ at hsb
    change (q1qc k holes board dead).length = _ at hsl
    have hn4 := hp.2.1
    generalize q1qc k holes board dead = SS at hsm hsb hsl
    generalize (q1ak holes board dead).length = N at hsm hsb hfew
    refine q006.res hsm [] rfl Try.call38 ?_ (.inl rfl) ?_
    . simp -implicitDefEqProofs only [aR', go_sem]
    simp -implicitDefEqProofs only [cR', go_sem]
    rcases Nat.eq_zero_or_pos N with h0 | h0
    . subst h0
      refine ⟨fun _ => ?_, fun h => by simp at h⟩
      rw [if_pos rfl]
    . refine ⟨fun h => by simp at h; omega, fun _ => ?_⟩
      rw [if_neg (by omega)]
      have hmul : IntKind.i64.wrap (24 * (N : Int)) = 24 * (N : Int) := wrap64 (by omega) (by omega)
      refine SemC.loopR (σ := Nat) (fun i => St.of [(10, .own 90), (11, .t (.i N)), (12, .own 92), (13, .t (.i i))] [(90, intsO SS), (92, q0p1 ((SS.take i).map (q1en N)))]) (fun i => i <= SS.length) (fun i => SS.length - i) 0 (Weak.o _ _ [some 27, some 32] ?_ ?_) (by omega) fun i hi R hn' hr he => ?_
      . simp -implicitDefEqProofs only [wR', Nat.reduceBEq, Nat.reduceEqDiff, ↓reduceIte]
      . exact ⟨⟨_, rfl, .refl _⟩, rfl, ⟨_, rfl, .refl _⟩, rfl, trivial⟩
      . rcases Nat.lt_or_ge i SS.length with h9 | h9
        . obtain ⟨x, hx⟩ : ∃ x, SS[i]? = some x := ⟨_, List.getElem?_eq_getElem h9⟩
          have hxb := hsb x (List.mem_of_getElem? hx)
          have hred := q1p7 x (24 * (N : Int)) (by omega) (by omega) (by omega) (by omega)
          have hcl : (ratC ((SS.take i).map (q1en N))).length <= 100 := by
            rw [q0p0, List.length_map, List.length_take]; omega
          simp -implicitDefEqProofs only [eR', go_sem, intsO, hx, hmul, decide_eq_true (show (i : Int) < (SS.length : Int) by omega)]
          refine ⟨by omega, by omega, by omega, ?_⟩
          refine q006.res hred [] rfl Try.call39 ?_ (.inl rfl) ?_
          . simp -implicitDefEqProofs only [aR', go_sem]
          simp -implicitDefEqProofs only [cR', go_sem, redT, q0p1]
          refine ⟨by omega, ?_⟩
          refine hn' _ (i + 1) (Weak.of _ _ [some 90, some 52] (by simp) (by simp) ?_ ⟨⟨_, rfl, .refl _⟩, rfl, ⟨_, rfl, by rw [q0uj hx, List.map_append, q0p1, q1n8]; exact .refl _⟩, rfl, trivial⟩) (by omega) (by omega)
          simp -implicitDefEqProofs only [wR', Nat.reduceBEq, Nat.reduceEqDiff, ↓reduceIte, q0lb h9 (by omega)]
        . simp -implicitDefEqProofs only [eR', go_sem, intsO, decide_eq_false (show ¬ (i : Int) < (SS.length : Int) by omega)]
          refine he _ _ ?_
          rw [List.take_of_length_le h9]
          simp -implicitDefEqProofs only [eR', go_sem]
end

def addR (a b : Int × Int) : (Int × Int) × Int := if q1jw a && q1jw b then redR (a.1 * b.2 + b.1 * a.2) (a.2 * b.2) else ((0, 0), 1)
theorem q1v6 {r : Int × Int} (h : q1jw r = true) : -1000000000 <= r.1 /\ r.1 <= 1000000000 /\ 1 <= r.2 /\ r.2 <= 1000000000 := by
  simp only [q1jw, Bool.and_eq_true, decide_eq_true_eq] at h
  omega
theorem q1vb {a b : Int} (h1 : -1000000000 <= a) (h2 : a <= 1000000000) (h3 : -1000000000 <= b) (h4 : b <= 1000000000) : -1000000000000000000 <= a * b /\ a * b <= 1000000000000000000 := by
  have h : (a * b).natAbs <= 1000000000 * 1000000000 := by
    rw [Int.natAbs_mul]; exact Nat.mul_le_mul (by omega) (by omega)
  omega
theorem q1va {a b : Int} (h1 : -1000000000 <= a) (h2 : a <= 1000000000) (h3 : 1 <= b) (h4 : b <= 1000000000) : -1000000000000000000 <= a * b /\ a * b <= 1000000000000000000 := q1vb h1 h2 (by omega) h4
theorem q1vc {a b : Int} (h1 : 1 <= a) (h2 : 1 <= b) : 0 < a * b := Int.mul_pos (by omega) (by omega)

theorem q1v1 (a b : Int × Int) : Fun Try.prog 25 [] [.t (rat a), .t (rat b)] fun o r => o = [] /\ r = redT (addR a b) := by
  obtain ⟨an, ad⟩ := a
  obtain ⟨bn, bd⟩ := b
  refine q1ur (by simp) ?_
  simp -implicitDefEqProofs only [eR', go_sem, q1uc]
  refine q006.p (q1j1 (an, ad)) [] rfl Try.call56 ?_ ?_
  . simp -implicitDefEqProofs only [aR', go_sem]
  simp -implicitDefEqProofs only [eR', go_sem]
  refine ⟨fun h1 => ?_, fun h1 => ?_⟩
  . have h1 : q1jw (an, ad) = true := by simpa using h1
    refine q006.p (q1j1 (bn, bd)) [] rfl Try.call56 ?_ ?_
    . simp -implicitDefEqProofs only [aR', go_sem]
    simp -implicitDefEqProofs only [eR', go_sem]
    refine ⟨fun h2 => ?_, fun h2 => ?_⟩
    . rw [addR, if_neg (by simp at h2; simp [h2])]; rfl
    . have h2 : q1jw (bn, bd) = true := by simpa using h2
      obtain ⟨a1, a2, a3, a4⟩ := q1v6 h1
      obtain ⟨b1, b2, b3, b4⟩ := q1v6 h2
      (try simp only [] at a1 a2 a3 a4 b1 b2 b3 b4)
      have p1 := q1va a1 a2 b3 b4
      have p2 := q1va b1 b2 a3 a4
      have p3 := q1va (show -1000000000 <= ad by omega) a4 b3 b4
      have p4 := q1vc a3 b3
      rw [wrap64 (n := an * bd) (by omega) (by omega), wrap64 (n := bn * ad) (by omega) (by omega), wrap64 (n := ad * bd) (by omega) (by omega), wrap64 (n := an * bd + bn * ad) (by omega) (by omega)]
      refine q006.res (q1jo (an * bd + bn * ad) (ad * bd) (by omega) (by omega) (by omega) (by omega)) [] rfl Try.call41 ?_ (.inl rfl) ?_
      . simp -implicitDefEqProofs only [aR', go_sem]
      simp -implicitDefEqProofs only [cR', go_sem, redT]
      rw [addR, if_pos (by simp [h1, h2])]
  . rw [addR, if_neg (by simp at h1; simp [h1])]; rfl

def q1nn (l : List (Int × Int)) (i : Nat) : List (Int × Int) := l.take i ++ List.replicate (l.length - i) (0, 0)
theorem q1np (l : List (Int × Int)) (i : Nat) (h : i <= l.length) : (q1nn l i).length = l.length := by simp [q1nn]; omega
theorem q1no (l : List (Int × Int)) : q1nn l l.length = l := by simp [q1nn]
theorem q1nd : ∀ (n : Nat), made [T.v (.int .i64 0), T.v (.int .i64 0)] n = ratC (List.replicate n (0, 0)) := by
  intro n
  refine List.ext_getElem? fun i => ?_
  have e : made [T.v (.int .i64 0), T.v (.int .i64 0)] n = (List.range (n * 2)).map fun i => [T.v (.int .i64 0), T.v (.int .i64 0)].getD (i % 2) .any := rfl
  rw [e]
  by_cases hi : i < n * 2
  . rw [List.getElem?_map, List.getElem?_range hi]
    have h2 : i / 2 < n := by omega
    have hx : (List.replicate n ((0 : Int), (0 : Int)))[i / 2]? = some (0, 0) := by rw [List.getElem?_replicate, if_pos h2]
    rcases Nat.mod_two_eq_zero_or_one i with h | h
    . have := q1nb hx
      rw [show i / 2 * 2 = i by omega] at this
      rw [this, Option.map_some, h]; rfl
    . have := q1nc hx
      rw [show i / 2 * 2 + 1 = i by omega] at this
      rw [this, Option.map_some, h]; rfl
  . rw [List.getElem?_eq_none (by simpa using hi), List.getElem?_eq_none (by rw [q0p0]; simpa using hi)]
theorem q1ne {l : List (Int × Int)} {i : Nat} (r : Int × Int) (h : i < l.length) : (ratC l).take (i * 2) ++ [T.i r.1, T.i r.2] ++ (ratC l).drop (i * 2 + 2) = ratC (l.set i r) := by
  rw [show i * 2 + 2 = (i + 1) * 2 by omega, q1ng, q1na, ← show ratC [r] = [T.i r.1, T.i r.2] from rfl, ← q1n8, ← q1n8]
  congr 1
  rw [List.set_eq_take_append_cons_drop, if_pos h]; simp
theorem q1nq {l : List (Int × Int)} {i : Nat} {x : Int × Int} (h : l[i]? = some x) : (q1nn l i).set i x = q1nn l (i + 1) := by
  obtain ⟨hi, rfl⟩ := List.getElem?_eq_some_iff.1 h
  rw [q1nn, q1nn, List.set_append_right _ _ (by simp; omega), List.take_succ_eq_append_getElem hi]
  have e : i - (l.take i).length = 0 := by simp; omega
  have e2 : l.length - i = (l.length - (i + 1)) + 1 := by omega
  rw [e, e2, List.replicate_succ, List.set_cons_zero]
  simp only [List.append_assoc, List.cons_append, List.nil_append]

section
attribute [-go_sem] q0i5 q0id fldC lenC idxC q0ip
theorem q1ed {k : Nat} {holes : List (List Int)} {board dead : List Int} (h : q1ec k holes board dead) : holes.flatten ≠ [] := by
  obtain ⟨h1, h2, h3, h4, h5, hcd⟩ := h
  match holes, h1, h5 with
  | x :: l, _, h5 =>
    have hx := h5 x (by simp)
    have : 2 <= hoOf k := by unfold hoOf; split <;> omega
    match x, hx with
    | a :: x', _ => simp
    | [], hx => simp at hx; omega
  | [], h1, _ => exact absurd h1 (by simp)
theorem q1iy (v : Int) (holes : List (List Int)) (board dead : List Int) (hh : holes.flatten.length <= 2000000) (hhn : holes.length <= 2000000) (hb : board.length <= 2000000) (hd : dead.length <= 2000000) :
    Fun Try.prog 10 [] [.t (.i v), .t (rows holes), .t (ints board), .t (ints dead)] fun o r => o = [] /\ r = eqT v holes board dead := by
  refine q1fp (by simp) ?_
  simp -implicitDefEqProofs only [eR', go_sem, q1aq]
  have hdl := q1iz v holes board dead hh hhn hb hd
  unfold eqT
  cases hdb : q1eb v holes board dead with
  | false =>
    rw [hdb] at hdl
    refine q006.p hdl [] rfl Try.call23 ?_ ?_
    . simp -implicitDefEqProofs only [aR', go_sem]
    simp -implicitDefEqProofs only [eR', go_sem, show (!false) = true from rfl]
  | true =>
    rw [hdb] at hdl
    refine q006.p hdl [] rfl Try.call23 ?_ ?_
    . simp -implicitDefEqProofs only [aR', go_sem]
    simp -implicitDefEqProofs only [eR', go_sem, show (!true) = false from rfl]
    rw [q1eb, Bool.and_eq_true, decide_eq_true_eq, decide_eq_true_eq] at hdb
    obtain ⟨hv, hp⟩ := hdb
    obtain ⟨k, rfl⟩ : ∃ k : Nat, v = k := ⟨v.toNat, by omega⟩
    rw [Int.toNat_natCast] at hp ⊢
    have hsm := q1jm k (by omega) holes board dead hp (q1ed hp)
    have hfew := q1al (holes := holes) (dead := dead) hp.2.2.1
    have hsb := q1q6 k holes (q1ak holes board dead) (q1ak holes board dead).length
    have hsl := q1q7 k holes (q1ak holes board dead) (q1ak holes board dead).length
    change ∀ x ∈ q1qc k holes board dead, _ at hsb
    change (q1qc k holes board dead).length = _ at hsl
    have hn4 := hp.2.1
    generalize q1qc k holes board dead = SS at hsm hsb hsl
    generalize (q1ak holes board dead).length = N at hsm hsb hfew
    refine q006.res hsm [] rfl Try.call40 ?_ (.inl rfl) ?_
    . simp -implicitDefEqProofs only [aR', go_sem]
    simp -implicitDefEqProofs only [cR', go_sem, intsO]
    rcases Nat.eq_zero_or_pos N with h0 | h0
    . subst h0
      refine ⟨fun _ => ?_, fun h => by simp at h⟩
      rw [if_pos rfl]
    . refine ⟨fun h => by simp at h; omega, fun _ => ?_⟩
      rw [if_neg (by omega)]
      have hmul : IntKind.i64.wrap (24 * (N : Int)) = 24 * (N : Int) := wrap64 (by omega) (by omega)
      have hml : (SS.map (q1en N)).length = holes.length := by rw [List.length_map, hsl]
      refine ⟨by omega, by omega, ?_⟩
      refine SemC.loopR (σ := Nat) (fun i => St.of [(11, .t (.i N)), (12, .own 83), (34, .own 76), (35, .t (.i SS.length)), (36, .t (.i i))] [(76, intsO SS), (83, .arr 2 (ratC (q1nn (SS.map (q1en N)) i)))]) (fun i => i <= SS.length) (fun i => SS.length - i) 0 (Weak.o _ _ [some 26, some 33] ?_ ?_) (by omega) fun i hi R hn' hr he => ?_
      . simp -implicitDefEqProofs only [wR', Nat.reduceBEq, Nat.reduceEqDiff, ↓reduceIte]
      . exact ⟨⟨_, rfl, .refl _⟩, rfl, ⟨_, rfl, by rw [q1nd, ← hml]; simp only [q1nn, List.take_zero, List.nil_append, Nat.sub_zero]; exact .refl _⟩, rfl, trivial⟩
      . have hrl := q1np (SS.map (q1en N)) i (by omega)
        rcases Nat.lt_or_ge i SS.length with h9 | h9
        . obtain ⟨x, hx⟩ : ∃ x, SS[i]? = some x := ⟨_, List.getElem?_eq_getElem h9⟩
          have hxb := hsb x (List.mem_of_getElem? hx)
          have hred := q1jo x (24 * (N : Int)) (by omega) (by omega) (by omega) (by omega)
          simp -implicitDefEqProofs only [eR', go_sem, intsO, hx, hmul, decide_eq_true (show (i : Int) < (SS.length : Int) by omega)]
          refine ⟨by omega, by omega, by omega, ?_⟩
          refine q006.res hred [] rfl Try.call41 ?_ (.inl rfl) ?_
          . simp -implicitDefEqProofs only [aR', go_sem]
          simp -implicitDefEqProofs only [cR', go_sem, redT, q0p1]
          refine ⟨by omega, by rw [q0p0]; omega, by rw [q0p0]; omega, ?_⟩
          refine hn' _ (i + 1) (Weak.o _ _ [some 76, some 83] ?_ ?_) (by omega) (by omega)
          . simp -implicitDefEqProofs only [wR', Nat.reduceBEq, Nat.reduceEqDiff, ↓reduceIte, q0lb h9 (by omega)]
          . refine ⟨⟨_, rfl, .refl _⟩, rfl, ⟨_, rfl, ?_⟩, rfl, trivial⟩
            have hxr : (SS.map (q1en N))[i]? = some (q1en N x) := by rw [List.getElem?_map, hx]; rfl
            (try simp only [List.cons_append, List.nil_append, List.append_assoc])
            have := q1ne (l := q1nn (SS.map (q1en N)) i) (i := i) (q1en N x) (by omega)
            simp only [List.append_assoc, List.cons_append, List.nil_append] at this
            rw [q1nq hxr] at this
            rw [← this]; exact .refl _
        . simp -implicitDefEqProofs only [eR', go_sem, intsO, decide_eq_false (show ¬ (i : Int) < (SS.length : Int) by omega)]
          refine he _ _ ?_
          rw [show i = (SS.map (q1en N)).length by omega, q1no]
          simp -implicitDefEqProofs only [eR', go_sem, q0p1]
end

def maxI (r : List Int) : Nat -> Nat
  | 0 => 0
  | k + 1 => if r.getD (maxI r k) 0 < r.getD k 0 then k else maxI r k
theorem q0jx (r : List Int) : ∀ k, k <= r.length -> 0 < r.length -> maxI r k < r.length
  | 0, _, h => h
  | k + 1, hk, h => by
    have := q0jx r k (by omega) h
    rw [maxI]; split <;> omega
theorem q0jz (r : List Int) : maxI r 1 = 0 := by
  rw [maxI, show maxI r 0 = 0 from rfl, if_neg (Int.lt_irrefl _)]
theorem q0jy (r : List Int) : ∀ k i, i < k -> r.getD i 0 <= r.getD (maxI r k) 0
  | k + 1, i, h => by
    have ih := q0jy r k
    rw [maxI]
    split
    . rename_i h1
      by_cases hi : i = k
      . rw [hi]; exact Int.le_refl _
      . have := ih i (by omega); omega
    . rename_i h1
      by_cases hi : i = k
      . rw [hi]; omega
      . exact ih i (by omega)
theorem q0jw (r : List Int) : ∀ k i, i < maxI r k -> r.getD i 0 < r.getD (maxI r k) 0
  | 0, i, h => by simp [maxI] at h
  | k + 1, i, h => by
    have ih := q0jw r k
    have hm := q0jy r k
    rw [maxI] at h ⊢
    split at h
    . rename_i h1
      rw [if_pos h1]
      have := hm i h; omega
    . rename_i h1
      rw [if_neg h1]
      exact ih i h

structure HamI (w : List Int) (t : Int) (m : Nat) (p r : List Int) : Prop where
  lp : p.length = w.length
  lr : r.length = w.length
  each : ∀ i, i < w.length -> (r.getD i 0 = 60 * w.getD i 0 - t * p.getD i 0 /\ 0 <= r.getD i 0 /\ r.getD i 0 < t) ∨ (r.getD i 0 = -1 /\ 60 * w.getD i 0 < t * p.getD i 0 /\ t * p.getD i 0 < 60 * w.getD i 0 + t)
  sum : p.sum + m = 60

theorem q0ud (l : List Int) (x : Int) : (l ++ [x]).sum = l.sum + x := by simp
theorem tabS (n : Nat) (F : Nat -> Int) : tabT (n + 1) F = tabT n F ++ [F n] := by simp [tabT, List.range_succ]
theorem q1u0 {n : Nat} {F G : Nat -> Int} (h : ∀ k, k < n -> F k = G k) : tabT n F = tabT n G := List.map_congr_left fun k hk => h k (by simpa using hk)
theorem q1tz (F G : Nat -> Int) : ∀ n, (tabT n fun k => F k + G k).sum = (tabT n F).sum + (tabT n G).sum
  | 0 => by simp [tabT]
  | n + 1 => by rw [tabS, tabS, tabS, q0ud, q0ud, q0ud, q1tz F G n]; omega
theorem q1u1 (A : List Int) : (tabT A.length fun k => A.getD k 0) = A := by
  refine List.ext_getElem? fun k => ?_
  by_cases h : k < A.length
  . rw [q1qj h, List.getD_eq_getElem?_getD, List.getElem?_eq_getElem h]; rfl
  . rw [List.getElem?_eq_none (by rw [q1qk]; omega), List.getElem?_eq_none (by omega)]
theorem q1ry {A B : List Int} (h : B.length = A.length) : (addL A B).sum = A.sum + B.sum := by
  rw [addL, q1tz, q1u1, ← h, q1u1]
theorem q1ty : ∀ n, (List.replicate n (0 : Int)).sum = 0
  | 0 => rfl
  | n + 1 => by rw [List.replicate_succ, List.sum_cons, q1ty n]; rfl
theorem q1tx (x : Int) : ∀ (n : Nat) (W : List Int), W.Nodup -> (∀ w ∈ W, 0 <= w /\ w < (n : Int)) -> (tabT n fun k => if (k : Int) ∈ W then x else 0).sum = x * (W.length : Int)
  | 0, W, _, h => by
    have : W = [] := by
      cases W with
      | nil => rfl
      | cons a l => have := h a (by simp); omega
    subst this; simp [tabT]
  | n + 1, W, hn, h => by
    rw [tabS, q0ud]
    by_cases hm : (n : Int) ∈ W
    . have ih := q1tx x n (W.erase n) (hn.erase _) fun w hw => by
        have h1 := h w (List.mem_of_mem_erase hw)
        have h2 : w ≠ n := fun e => by subst e; exact (hn.mem_erase_iff.1 hw).1 rfl
        omega
      have hc : (tabT n fun k => if (k : Int) ∈ W then x else 0) = tabT n fun k => if (k : Int) ∈ W.erase n then x else 0 := q1u0 fun k hk => by
        have : (k : Int) ∈ W.erase n ↔ (k : Int) ∈ W := by
          rw [hn.mem_erase_iff]; exact ⟨fun h => h.2, fun h => ⟨by omega, h⟩⟩
        simp only [this]
      have hl := List.length_erase_of_mem hm
      have hp := List.length_pos_of_mem hm
      rw [hc, ih, if_pos hm, hl, show ((W.length - 1 : Nat) : Int) = (W.length : Int) - 1 by omega, Int.mul_sub]; omega
    . rw [if_neg hm, q1tx x n W hn fun w hw => by
        have h1 := h w hw
        have h2 : w ≠ n := fun e => by subst e; exact hm hw
        omega]
      omega
def q1u7 (n : Nat) (W : List Int) : Prop := W.Nodup /\ (∀ w ∈ W, 0 <= w /\ w < (n : Int)) /\ W.length <= 4
theorem q1ti {n a : Nat} {W : List Int} (h : q1u7 n W) (h0 : W ≠ []) (ha : a = 24 ∨ a = 12) : (tabT n (q1op W (a : Int))).sum = a := by
  have := q1tx ((a : Int) / W.length) n W h.1 h.2.1
  rw [show (fun k : Nat => if (k : Int) ∈ W then (a : Int) / W.length else 0) = q1op W (a : Int) from rfl] at this
  rw [this]
  have h4 := h.2.2
  have hp := List.length_pos_iff.2 h0
  clear this
  generalize W.length = k at h4 hp
  have : k = 1 ∨ k = 2 ∨ k = 3 ∨ k = 4 := by omega
  rcases ha with rfl | rfl <;> rcases this with rfl | rfl | rfl | rfl <;> decide
theorem q1s0 {n : Nat} {hw lw : List Int} (h1 : q1u7 n hw) (h2 : q1u7 n lw) (h0 : hw ≠ []) : (awL n hw lw).sum = 24 := by
  have hl : ∀ F : Nat -> Int, (tabT n F).length = n := fun F => q1qk
  have hr : (List.replicate n (0 : Int)).length = n := by simp
  unfold awL
  by_cases hz : lw = []
  . rw [if_pos hz, q1ry (by rw [hl, hr]), q1ty]
    have := q1ti h1 h0 (a := 24) (.inl rfl)
    rw [show ((24 : Nat) : Int) = 24 from rfl] at this
    rw [this]; rfl
  . rw [if_neg hz, q1ry (by rw [hl, q19q, hr]), q1ry (by rw [hl, hr]), q1ty]
    have e1 := q1ti h1 h0 (a := 12) (.inr rfl)
    have e2 := q1ti h2 hz (a := 12) (.inr rfl)
    rw [show ((12 : Nat) : Int) = 12 from rfl] at e1 e2
    rw [e1, e2]; rfl
theorem q1s1 (hi : Bool) (vals : List Int) (n : Nat) (h4 : n <= 4) : q1u7 n (q1a7 hi vals (idsL n)) := by
  have hil : (idsL n).length = n := q1qg
  obtain ⟨h1, h2⟩ := q1a6 hi vals n n (Nat.le_refl _)
  have h3 := q1a4 hi vals (idsL n) n
  rw [q1a7, hil]
  exact ⟨h2, fun w hw => by obtain ⟨k, a, b⟩ := h1 w hw; omega, by omega⟩
theorem q1te {H L : List Int} (h1 : 1 <= H.length) (h4 : H.length <= 4) (h0 : ∀ v ∈ H, 0 <= v) : (q1mq H L).sum = 24 := by
  have hil : (idsL H.length).length = H.length := q1qg
  refine q1s0 (q1s1 _ _ _ h4) (q1s1 _ _ _ h4) ?_
  have := (q1a8 (vals := H) (n := H.length) rfl h0 H.length h1 (Nat.le_refl _)).2
  rw [q1a7, hil]; exact this
theorem q1tg {k : Nat} {holes : List (List Int)} {b : List Int} (hk : k <= 2) (h1 : 1 <= holes.length) (h4 : holes.length <= 4) (hb : b.length = 5) (hc : ∀ x ∈ holes, x.length = hoOf k) : (q1o6 k holes b).sum = 24 := by
  rw [q1o6]
  refine q1te (by simpa using h1) (by simpa using h4) fun v hv => ?_
  obtain ⟨x, hx, rfl⟩ := List.mem_map.1 hv
  exact q1iu hk (hc x hx) hb
theorem q1vj {k : Nat} {holes B : List (List Int)} (h : ∀ b ∈ B, (q1o6 k holes b).sum = 24) : ∀ i, i <= B.length -> (q1q5 k holes B i).sum = 24 * (i : Int)
  | 0, _ => by rw [q1q5, q1ty]; rfl
  | i + 1, hi => by
    obtain ⟨b, hx⟩ : ∃ b, B[i]? = some b := ⟨_, List.getElem?_eq_getElem (by omega)⟩
    have hg : B.getD i [] = b := by rw [List.getD_eq_getElem?_getD, hx]; rfl
    rw [q1q5, q1ry (by rw [q1ow, q1q7]), q1vj h i (by omega), hg, h b (List.mem_of_getElem? hx)]
    omega
theorem q1vk {k : Nat} {holes : List (List Int)} {board dead : List Int} (hk : k <= 2) (hp : q1ec k holes board dead) : (q1qc k holes board dead).sum = 24 * ((q1ak holes board dead).length : Int) := by
  refine q1vj (fun b hb => ?_) _ (Nat.le_refl _)
  obtain ⟨h5, hc⟩ := q1aj hp hb
  exact q1tg hk (by have := hp.1; omega) hp.2.1 h5 fun x hx => (hc x hx).2
/- Counts of choices. -/
def q1eo (v : Int) (holes : List (List Int)) (board dead : List Int) : List (Int × Int) × Int :=
  if q1eb v holes board dead = false then ([], 1)
  else if (q1ak holes board dead).length = 0 then ([], 2)
  else ((q1qc v.toNat holes board dead).map (q1en (q1ak holes board dead).length), 0)
def eqO (x : List (Int × Int) × Int) : T := .tup [q0p1 x.1, .i x.2]
theorem Fun.eqO_nil {P : Program} {f : FuncId} {rin : List T} {args : List A} {x : List (Int × Int) × Int} {y : T} (h : Fun P f rin args fun o r => o = [] /\ r = y) (hy : Le y (eqO x)) : Fun P f rin args fun o r => o = [] /\ r = eqO x :=
  h.le fun o r h1 => ⟨eqO x, by rw [h1.2]; exact hy, h1.1, rfl⟩
theorem q1eq (v : Int) (holes : List (List Int)) (board dead : List Int) : Le (eqT v holes board dead) (eqO (q1eo v holes board dead)) := by
  unfold eqT q1eo
  by_cases h1 : q1eb v holes board dead = false
  . rw [if_pos h1, if_pos h1]; exact .tup2 (.nilArr 2) (.refl _)
  . rw [if_neg h1, if_neg h1]
    by_cases h2 : (q1ak holes board dead).length = 0
    . rw [if_pos h2, if_pos h2]; exact .tup2 (.nilArr 2) (.refl _)
    . rw [if_neg h2, if_neg h2]; exact .refl _
theorem q1ep (v : Int) (holes : List (List Int)) (board dead : List Int) : (q1eo v holes board dead).1.length <= 4 := by
  unfold q1eo
  split
  . simp
  . split
    . simp
    . rename_i h1 h2
      have h1 : q1eb v holes board dead = true := by simpa using h1
      rw [q1eb, Bool.and_eq_true, decide_eq_true_eq, decide_eq_true_eq] at h1
      have := h1.2.2.1
      simp only [List.length_map]
      rw [q1qc, q1q7]; exact this
theorem q1ix (v : Int) (holes : List (List Int)) (board dead : List Int) (hh : holes.flatten.length <= 2000000) (hhn : holes.length <= 2000000) (hb : board.length <= 2000000) (hd : dead.length <= 2000000) :
    Fun Try.prog 10 [] [.t (.i v), .t (rows holes), .t (ints board), .t (ints dead)] fun o r => o = [] /\ r = eqO (q1eo v holes board dead) :=
  (q1iy v holes board dead hh hhn hb hd).eqO_nil (q1eq _ _ _ _)
theorem q1oy (v : Int) (holes : List (List Int)) (board dead : List Int) (hh : holes.flatten.length <= 2000000) (hhn : holes.length <= 2000000) (hb : board.length <= 2000000) (hd : dead.length <= 2000000) :
    Fun Try.prog 7 [] [.t (.i v), .t (rows holes), .t (ints board), .t (ints dead)] fun o r => o = [] /\ r = eqO (q1eo v holes board dead) :=
  (q1oz v holes board dead hh hhn hb hd).eqO_nil (q1eq _ _ _ _)

theorem q0k0 (r : List Int) : ∀ k, 1 <= k -> k <= r.length -> maxL (r.take k) = r.getD (maxI r k) 0
  | 0, h, _ => by omega
  | 1, _, h => by
    rw [q0jz]
    cases r with
    | nil => simp at h
    | cons a r => simp [maxL]
  | k + 2, _, h => by
    have ih := q0k0 r (k + 1) (by omega) (by omega)
    obtain ⟨x, hx⟩ : ∃ x, r[k + 1]? = some x := ⟨_, List.getElem?_eq_getElem (by omega)⟩
    have hg : r.getD (k + 1) 0 = x := by rw [List.getD_eq_getElem?_getD, hx]; rfl
    rw [q0uj hx, q0k2 (List.ne_nil_of_length_pos (by rw [List.length_take]; omega)), ih]
    show _ = r.getD (if r.getD (maxI r (k + 1)) 0 < r.getD (k + 1) 0 then k + 1 else maxI r (k + 1)) 0
    rw [hg]
    split
    . rw [hg]; omega
    . omega
theorem q0rs (r : List Int) (hr : r.length <= 1000000) (h0 : 0 < r.length) : Pure Try.prog 45 [ints r, .i (maxL r)] (.i (maxI r r.length : Nat)) := by
  refine q0be (by simp) ?_
  simp -implicitDefEqProofs only [eR', go_sem, q04g]
  refine SemC.loopR (σ := Nat) (fun i => St.of [(0, .t (ints r)), (1, .t (.i (maxL r))), (7, .t (.i r.length)), (8, .t (.i i))] []) (fun i => i <= maxI r r.length) (fun i => r.length - i) 0 (Weak.o _ [] [] ?_ trivial) (by omega) fun i hi R hn hr' he => ?_
  . simp -implicitDefEqProofs only [wR', Nat.reduceBEq, Nat.reduceEqDiff, ↓reduceIte]
  . simp -implicitDefEqProofs only [eR', go_sem]
    have hv := q0k0 r r.length (by omega) (by omega)
    rw [List.take_length] at hv
    have hml := q0jx r r.length (Nat.le_refl _) h0
    refine ⟨fun h => ⟨by omega, by omega, by omega, fun x hx => ⟨fun hc => hr' _ ?_, fun hc => ?_⟩⟩, fun h => by omega⟩
    . have hg : r.getD i 0 = x := by rw [List.getD_eq_getElem?_getD, hx]; rfl
      have e : i = maxI r r.length := by
        by_cases hlt : i < maxI r r.length
        . have := q0jw r r.length i hlt
          have hc : maxL r = x := by simpa using hc
          omega
        . omega
      simp -implicitDefEqProofs only [eR', go_sem]
      rw [← e]
    . have hg : r.getD i 0 = x := by rw [List.getD_eq_getElem?_getD, hx]; rfl
      have hne : i ≠ maxI r r.length := by
        intro e
        rw [← e, hg] at hv
        simp [hv] at hc
      refine hn _ (i + 1) (Weak.o _ [] [] ?_ trivial) (by omega) (by omega)
      simp -implicitDefEqProofs only [wR', Nat.reduceBEq, Nat.reduceEqDiff, ↓reduceIte, q0lb (by omega : i < r.length) (by omega)]
section
attribute [-go_sem] q0i5 q0id fldC lenC idxC q0ip
theorem Fun.nilA {P : Program} {f : FuncId} {rin : List T} {args args' : List A} {Q : List T -> T -> Prop} (h : Fun P f rin args' Q) (hl : args'.length = args.length)
    (ha : ∀ i (h : i < args'.length) (h' : i < args.length), args'[i] = args[i] ∨ ((∃ s, args'[i] = .t (.sh s [])) /\ args[i] = .t (.v (.slice none 0 0)))) : Fun P f rin args Q := fun X w vals hs fp hm hv hi => h X w vals hs fp hm (by omega) fun i h1 => by
  rcases ha i h1 (by omega) with e | ⟨⟨s, e1⟩, e2⟩
  . rw [e]; exact hi i (by omega)
  . have := hi i (by omega)
    rw [e2] at this
    rw [e1]
    cases this with
    | t hr => exact .t (q0j9 (.inr ⟨⟨s, rfl⟩, rfl⟩) hr)
theorem q1sm {v : Int} {holes : List (List Int)} {board dead : List Int} (h : q1eb v holes board dead = true) : ∃ k : Nat, v = k /\ k <= 2 /\ q1ec k holes board dead := by
  rw [q1eb, Bool.and_eq_true, decide_eq_true_eq, decide_eq_true_eq] at h
  exact ⟨v.toNat, by omega, by omega, h.2⟩
/- Counts of boards. -/
theorem q1u8 {a b : Nat} (ha : a <= 100000) : IntKind.i64.wrap ((a : Int).tdiv (b : Int)) = ((a / b : Nat) : Int) := by
  rw [show (a : Int).tdiv (b : Int) = ((a / b : Nat) : Int) from by rw [Int.tdiv_eq_ediv_of_nonneg (by omega)]; rfl]
  have : a / b <= a := Nat.div_le_self _ _
  generalize a / b = c at this
  exact wrap64 (by omega) (by omega)
/- The leader. -/
def q1v9 (v : Int) (holes : List (List Int)) (board dead : List Int) : Int × Int :=
  if q1eb v holes board dead = false then (0, 1) else if (q1ak holes board dead).length = 0 then (0, 2) else ((maxI (q1qc v.toNat holes board dead) holes.length : Nat), 0)
theorem q1v3 (v : Int) (holes : List (List Int)) (board dead : List Int) (hh : holes.flatten.length <= 2000000) (hhn : holes.length <= 2000000) (hb : board.length <= 2000000) (hd : dead.length <= 2000000) :
    Pure Try.prog 20 [.i v, rows holes, ints board, ints dead] (.tup [.i (q1v9 v holes board dead).1, .i (q1v9 v holes board dead).2]) := by
  have hdl := q1iz v holes board dead hh hhn hb hd
  refine q1ut (by simp) ?_
  simp -implicitDefEqProofs only [eR', go_sem, q1ue]
  unfold q1v9
  cases hdb : q1eb v holes board dead with
  | false =>
    rw [hdb] at hdl
    refine q006.p hdl [] rfl Try.call23 ?_ ?_
    . simp -implicitDefEqProofs only [aR', go_sem]
    simp -implicitDefEqProofs only [eR', go_sem, show (!false) = true from rfl]
  | true =>
    rw [hdb] at hdl
    refine q006.p hdl [] rfl Try.call23 ?_ ?_
    . simp -implicitDefEqProofs only [aR', go_sem]
    simp -implicitDefEqProofs only [eR', go_sem, show (!true) = false from rfl]
    obtain ⟨k, rfl, hk, hp⟩ := q1sm hdb
    rw [Int.toNat_natCast]
    have hsm := q1jm k (by omega) holes board dead hp (q1ed hp)
    have hfew := q1al (holes := holes) (dead := dead) hp.2.2.1
    have hsl : (q1qc k holes board dead).length = holes.length := q1q7 _ _ _ _
    have hn4 := hp.2.1
    have hn2 := hp.1
    have hne : q1qc k holes board dead ≠ [] := List.ne_nil_of_length_pos (by omega)
    have hmx := q0rt (q1qc k holes board dead) hne (by omega)
    have hix := q0rs (q1qc k holes board dead) (by omega) (by omega)
    rw [hsl] at hix
    generalize q1qc k holes board dead = SS at hsm hsl hmx hix
    generalize (q1ak holes board dead).length = N at hsm hfew
    refine q006.res hsm [] rfl Try.call40 ?_ (.inl rfl) ?_
    . simp -implicitDefEqProofs only [aR', go_sem]
    simp -implicitDefEqProofs only [cR', go_sem, intsO]
    rcases Nat.eq_zero_or_pos N with h0 | h0
    . subst h0
      refine ⟨fun _ => ?_, fun h => by simp at h⟩
      simp
    . refine ⟨fun h => by simp at h; omega, fun _ => ?_⟩
      refine q006.p hmx [23] rfl Try.call46 ?_ ?_
      . simp -implicitDefEqProofs only [aR', go_sem]
      simp -implicitDefEqProofs only [eR', go_sem]
      refine q006.p hix [23] rfl Try.call45 ?_ ?_
      . simp -implicitDefEqProofs only [aR', go_sem]
      simp -implicitDefEqProofs only [eR', go_sem]
      simp [Nat.ne_of_gt h0]
theorem q1vi (v : Int) (holes : List (List Int)) (board dead : List Int) (hh : holes.flatten.length <= 2000000) (hhn : holes.length <= 2000000) (hb : board.length <= 2000000) (hd : dead.length <= 2000000) :
    Pure Try.prog 21 [.i v, rows holes, ints board, ints dead] (.tup [.i (q1v9 v holes board dead).1, .i (q1v9 v holes board dead).2]) := by
  have hdl := q1p0 v holes board dead hh hhn hb hd
  refine q1uy (by simp) ?_
  simp -implicitDefEqProofs only [eR', go_sem, q1uj]
  unfold q1v9
  cases hdb : q1eb v holes board dead with
  | false =>
    rw [hdb] at hdl
    refine q006.p hdl [] rfl Try.call24 ?_ ?_
    . simp -implicitDefEqProofs only [aR', go_sem]
    simp -implicitDefEqProofs only [eR', go_sem, show (!false) = true from rfl]
  | true =>
    rw [hdb] at hdl
    refine q006.p hdl [] rfl Try.call24 ?_ ?_
    . simp -implicitDefEqProofs only [aR', go_sem]
    simp -implicitDefEqProofs only [eR', go_sem, show (!true) = false from rfl]
    obtain ⟨k, rfl, hk, hp⟩ := q1sm hdb
    rw [Int.toNat_natCast]
    have hsm := q1py k (by omega) holes board dead hp hh hd
    have hfew := q1al (holes := holes) (dead := dead) hp.2.2.1
    have hsl : (q1qc k holes board dead).length = holes.length := q1q7 _ _ _ _
    have hn4 := hp.2.1
    have hn2 := hp.1
    generalize q1qc k holes board dead = SS at hsm hsl
    generalize (q1ak holes board dead).length = N at hsm hfew
    refine q006.res hsm [] rfl Try.call38 ?_ (.inl rfl) ?_
    . simp -implicitDefEqProofs only [aR', go_sem]
    simp -implicitDefEqProofs only [cR', go_sem, intsO]
    rcases Nat.eq_zero_or_pos N with h0 | h0
    . subst h0
      refine ⟨fun _ => ?_, fun h => by simp at h⟩
      simp
    . refine ⟨fun h => by simp at h; omega, fun _ => ?_⟩
      refine SemC.loopR (σ := Nat) (fun i => St.of [(10, .own 90), (12, .t (.i (maxI SS i : Nat))), (13, .t (.i i))] [(90, .arr 1 (SS.map T.i))]) (fun i => 1 <= i /\ i <= SS.length) (fun i => SS.length - i) 1 (Weak.of _ _ [some 25] (by simp) (by simp) ?_ ⟨⟨_, rfl, .refl _⟩, rfl, trivial⟩) (by omega) fun i hi R hn hr he => ?_
      . simp -implicitDefEqProofs only [wR', Nat.reduceBEq, Nat.reduceEqDiff, ↓reduceIte, q0jz]
      . have hlt := q0jx SS i hi.2 (by omega)
        rcases Nat.lt_or_ge i SS.length with h9 | h9
        . obtain ⟨x, hx⟩ : ∃ x, SS[i]? = some x := ⟨_, List.getElem?_eq_getElem h9⟩
          obtain ⟨y, hy⟩ : ∃ y, SS[maxI SS i]? = some y := ⟨_, List.getElem?_eq_getElem hlt⟩
          have hS : maxI SS (i + 1) = if y < x then i else maxI SS i := by
            rw [maxI, List.getD_eq_getElem?_getD, List.getD_eq_getElem?_getD, hx, hy]; rfl
          simp -implicitDefEqProofs only [eR', go_sem, hx, hy, decide_eq_true (show (i : Int) < (SS.length : Int) by omega)]
          refine ⟨by omega, by omega, by omega, by omega, by omega, by omega, fun h => ?_, fun h => ?_⟩
          . have h : y < x := by simpa using h
            rw [if_pos h] at hS
            refine hn _ (i + 1) (Weak.of _ _ [some 90] (by simp) (by simp) ?_ ⟨⟨_, rfl, .refl _⟩, rfl, trivial⟩) (by omega) (by omega)
            simp -implicitDefEqProofs only [wR', Nat.reduceBEq, Nat.reduceEqDiff, ↓reduceIte, q0lb h9 (by omega), hS]
          . have h : ¬ y < x := by simpa using h
            rw [if_neg h] at hS
            refine hn _ (i + 1) (Weak.of _ _ [some 90] (by simp) (by simp) ?_ ⟨⟨_, rfl, .refl _⟩, rfl, trivial⟩) (by omega) (by omega)
            simp -implicitDefEqProofs only [wR', Nat.reduceBEq, Nat.reduceEqDiff, ↓reduceIte, q0lb h9 (by omega), hS]
        . simp -implicitDefEqProofs only [eR', go_sem, decide_eq_false (show ¬ (i : Int) < (SS.length : Int) by omega)]
          refine he _ _ ?_
          rw [show i = holes.length by omega]
          simp -implicitDefEqProofs only [eR', go_sem]
          simp [Nat.ne_of_gt h0]
end
end Go.Ab

/- The bridge, part 5: bytes. -/
namespace Go.Ab

def bytes (cs : List Int) : T := .sh 1 (cs.map fun x => .v (.int .u8 x))
def q161 (cs : List Int) : Prop := ∀ c ∈ cs, 0 <= c /\ c <= 255
def q168 : Ty := .sl 1 (.int .u8)
theorem wf8 {n : Int} (h : (Lit.int .u8 n).wf = true) : 0 <= n /\ n <= 255 := by
  simp [Lit.wf, IntKind.min, IntKind.max, IntKind.signed, IntKind.bits] at h
  omega
theorem q166 : ∀ {xs : List (List T)}, (∀ x ∈ xs, x.length = 1 /\ (Ty.int .u8).wt x) -> ∃ l : List Int, xs.flatten = (l.map fun x => T.v (.int .u8 x)) /\ l.length = xs.length /\ q161 l
  | [], _ => ⟨[], rfl, rfl, fun x hx => by simp at hx⟩
  | x :: xs, h => by
    obtain ⟨l, hl, hlen, hf⟩ := q166 (xs := xs) fun y hy => h y (by simp [hy])
    obtain ⟨_, n, rfl, hw⟩ := h x (by simp)
    refine ⟨n :: l, by simp [hl], by simp [hlen], fun y hy => ?_⟩
    rcases List.mem_cons.1 hy with rfl | hy
    . exact wf8 hw
    . exact hf y hy
theorem q169 {x : T} (h : q168.wt [x]) : ∃ l : List Int, x = bytes l /\ l.length <= 9223372036854775807 /\ q161 l := by
  obtain ⟨xs, hx, hlen, hall⟩ := h
  obtain ⟨l, hl, hll, hf⟩ := q166 hall
  simp only [List.cons.injEq, and_true] at hx
  exact ⟨l, by rw [hx, hl]; rfl, by rw [hll]; exact hlen, hf⟩
end Go.Ab

/- Contracts: the source of drawn numbers. -/
namespace Go.Ab
open Go.Proofs

def srcT (cs : List Int) (a : Nat × Int) : T := .box [bytes cs, .i a.1, .i a.2]
def q0qx (a : Nat × Int) : Prop := 0 <= a.2 /\ a.2 < 2147483647 /\ a.1 <= 1000000000000
def q0za (l : List Int) : Int := l.foldl (fun s c => (s * 61 + c) % 2147483647) 45007
theorem q0zc (l : List Int) (c : Int) : q0za (l ++ [c]) = (q0za l * 61 + c) % 2147483647 := by simp [q0za, List.foldl_append]
theorem q0zb (l : List Int) : 0 <= q0za l /\ q0za l < 2147483647 := by
  rcases List.eq_nil_or_concat l with rfl | ⟨l, c, rfl⟩
  . decide
  . rw [List.concat_eq_append, q0zc]
    omega
def q10m (cs : List Int) (a : Nat × Int) (n : Int) : Int × (Nat × Int) :=
  if n <= 1 then (0, a) else
  let s := (a.2 * 48271 + 29) % 2147483647
  if a.1 < cs.length then ((if n <= 256 /\ (a.1 + 1) % 2 = 0 then cs.getD a.1 0 else s / 31 + cs.getD a.1 0) % n, (a.1 + 1, s)) else ((s / 31) % n, (a.1, s))
theorem q10n {cs : List Int} {a : Nat × Int} {n : Int} (hn : 1 <= n) : 0 <= (q10m cs a n).1 /\ (q10m cs a n).1 < n := by
  unfold q10m
  split
  . omega
  . split
    . exact ⟨Int.emod_nonneg _ (by omega), Int.emod_lt_of_pos _ (by omega)⟩
    . exact ⟨Int.emod_nonneg _ (by omega), Int.emod_lt_of_pos _ (by omega)⟩

theorem q11z (cs : List Int) (hc : q161 cs) (hl : cs.length <= 1000000000000) : Fun Try.prog 44 [] [.t (bytes cs)] fun o r => o = [] /\ r = srcT cs (0, q0za (cs.take 64)) := by
  refine q0zm (by simp) ?_
  simp -implicitDefEqProofs only [eR', go_sem, q0yh, bytes]
  refine SemC.loopR (σ := Nat) (fun i => St.of [(0, .t (bytes cs)), (3, .own 7), (4, .t (.i i))] [(7, .box [bytes cs, .i 0, .i (q0za (cs.take i))])]) (fun i => i <= 64 /\ i <= cs.length) (fun i => 64 - i) 0 (Weak.o _ _ [some 7] ?_ ?_) ⟨by omega, by omega⟩ fun i hi R hn hr he => ?_
  . simp -implicitDefEqProofs only [wR', Nat.reduceBEq, Nat.reduceEqDiff, ↓reduceIte, bytes]
  . exact ⟨⟨_, rfl, .refl _⟩, rfl, trivial⟩
  . simp -implicitDefEqProofs only [eR', go_sem, bytes]
    refine ⟨fun h1 => ⟨fun h2 => ⟨by omega, by omega, by omega, fun c hcc => ⟨by decide, ?_⟩⟩, fun h2 => he _ _ ?_⟩, fun h1 => he _ _ ?_⟩
    . have hb := hc c (List.mem_of_getElem? hcc)
      have hf := q0zb (cs.take i)
      have e := q0zc (cs.take i) c
      rw [← q0uj hcc] at e
      have hw : (IntKind.i64.wrap (IntKind.i64.wrap (q0za (cs.take i) * 61) + IntKind.i64.wrap c)).tmod 2147483647 = q0za (cs.take (i + 1)) := by
        rw [wrap64 (n := c) (by omega) (by omega), wrap64 (n := q0za (cs.take i) * 61) (by omega) (by omega), wrap64 (n := q0za (cs.take i) * 61 + c) (by omega) (by omega), Int.tmod_eq_emod_of_nonneg (by omega), e]
      rw [hw]
      refine hn _ (i + 1) (Weak.o _ _ [some 7] ?_ ?_) ⟨by omega, by omega⟩ (by omega)
      . simp -implicitDefEqProofs only [wR', Nat.reduceBEq, Nat.reduceEqDiff, ↓reduceIte, bytes, q0lb (by omega : i < cs.length) (by omega)]
      . exact ⟨⟨_, rfl, .refl _⟩, rfl, trivial⟩
    . simp -implicitDefEqProofs only [eR', go_sem, srcT, bytes]
      rw [show i = 64 by omega]; rfl
    . simp -implicitDefEqProofs only [eR', go_sem, srcT, bytes]
      have e : cs.take i = cs.take 64 := by rw [List.take_of_length_le (by omega), List.take_of_length_le (by omega)]
      rw [e]; rfl
set_option maxRecDepth 10000 in
theorem q120 (cs : List Int) (hc : q161 cs) (hl : cs.length <= 100000000000) (a : Nat × Int) (ha : q0qx a) (n : Int) (hn : n <= 1000000000000) : Fun Try.prog 73 [srcT cs a] [.own 1000000000, .t (.i n)] fun o r => o = [srcT cs (q10m cs a n).2] /\ r = .i (q10m cs a n).1 := by
  refine q0zn (by simp) ?_
  simp -implicitDefEqProofs only [eR', go_sem, q0yi, srcT, bytes]
  obtain ⟨a1, a2⟩ := a
  obtain ⟨h1, h2, h3⟩ := ha
  simp only [] at h1 h2 h3
  have hs : (IntKind.i64.wrap (IntKind.i64.wrap (a2 * 48271) + 29)).tmod 2147483647 = (a2 * 48271 + 29) % 2147483647 := by
    rw [wrap64 (n := a2 * 48271) (by omega) (by omega), wrap64 (n := a2 * 48271 + 29) (by omega) (by omega), Int.tmod_eq_emod_of_nonneg (by omega)]
  have hs1 := Int.emod_nonneg (a2 * 48271 + 29) (show (2147483647 : Int) ≠ 0 by decide)
  have hs2 := Int.emod_lt_of_pos (a2 * 48271 + 29) (show (0 : Int) < 2147483647 by decide)
  have hw1 : IntKind.i64.wrap ((a1 : Int) + 1) = ((a1 + 1 : Nat) : Int) := by rw [wrap64 (by omega) (by omega)]; omega
  have hw2 : IntKind.i64.wrap (((a1 + 1 : Nat) : Int) - 1) = (a1 : Int) := by rw [wrap64 (by omega) (by omega)]; omega
  simp only [hs, hw1, hw2, Int.toNat_natCast]
  have hnx : q10m cs (a1, a2) n = if n <= 1 then (0, (a1, a2)) else if a1 < cs.length then ((if n <= 256 /\ (a1 + 1) % 2 = 0 then cs.getD a1 0 else (a2 * 48271 + 29) % 2147483647 / 31 + cs.getD a1 0) % n, (a1 + 1, (a2 * 48271 + 29) % 2147483647)) else (((a2 * 48271 + 29) % 2147483647 / 31) % n, (a1, (a2 * 48271 + 29) % 2147483647)) := rfl
  generalize (a2 * 48271 + 29) % 2147483647 = s at hs1 hs2 hnx ⊢
  have hq : IntKind.i64.wrap (s.tdiv 31) = s / 31 := by rw [Int.tdiv_eq_ediv_of_nonneg hs1, wrap64 (by omega) (by omega)]
  have hq' : s.tdiv 31 = s / 31 := Int.tdiv_eq_ediv_of_nonneg hs1
  have hqs : IntKind.i64.wrap (s / 31) = s / 31 := wrap64 (by omega) (by omega)
  rw [hnx]
  by_cases hn1 : n <= 1
  . simp only [if_pos hn1]
    exact ⟨fun _ => by simp, fun h => absurd hn1 h⟩
  . simp only [if_neg hn1]
    refine ⟨fun h => absurd h hn1, fun _ => ⟨by decide, by decide, fun hl1 => ?_, fun hl1 => ?_⟩⟩
    . have hl2 : a1 < cs.length := by omega
      obtain ⟨c, hcc⟩ : ∃ c, cs[a1]? = some c := ⟨_, List.getElem?_eq_getElem hl2⟩
      have hcb := hc c (List.mem_of_getElem? hcc)
      have hg : cs.getD a1 0 = c := by rw [List.getD_eq_getElem?_getD, hcc]; rfl
      have hwc : IntKind.i64.wrap c = c := wrap64 (by omega) (by omega)
      simp only [if_pos hl2, hcc, hg, Option.some.injEq, forall_eq', hwc]
      have hws : IntKind.i64.wrap (s / 31 + c) = s / 31 + c := wrap64 (by omega) (by omega)
      simp only [hq', hqs, hws]
      refine ⟨by omega, by omega, by omega, fun h256 => ⟨by decide, fun he => ⟨by omega, by omega, by omega, by omega, by first | trivial | rfl, ?_⟩, fun he => ⟨by omega, by first | trivial | rfl, ?_⟩⟩, fun h256 => ⟨by omega, by first | trivial | rfl, ?_⟩⟩
      . rw [beq_iff_eq, Int.tmod_eq_emod_of_nonneg (by omega)] at he
        rw [if_pos ⟨h256, by omega⟩, Int.tmod_eq_emod_of_nonneg (by omega)]
      . rw [beq_eq_false_iff_ne, Int.tmod_eq_emod_of_nonneg (by omega)] at he
        rw [if_neg (by omega), Int.tmod_eq_emod_of_nonneg (by omega)]
      . rw [if_neg (by omega), Int.tmod_eq_emod_of_nonneg (by omega)]
    . have hl2 : ¬ a1 < cs.length := by omega
      simp only [if_neg hl2, hq', hqs]
      refine ⟨by omega, by first | trivial | rfl, ?_⟩
      rw [Int.tmod_eq_emod_of_nonneg (by omega)]

theorem q10o {cs : List Int} {a : Nat × Int} (hl : cs.length <= 100000000000) (ha : q0qx a) (n : Int) : q0qx (q10m cs a n).2 := by
  obtain ⟨h1, h2, h3⟩ := ha
  have hs1 := Int.emod_nonneg (a.2 * 48271 + 29) (show (2147483647 : Int) ≠ 0 by decide)
  have hs2 := Int.emod_lt_of_pos (a.2 * 48271 + 29) (show (0 : Int) < 2147483647 by decide)
  unfold q10m
  split
  . exact ⟨h1, h2, h3⟩
  . split
    . exact ⟨hs1, hs2, by show a.1 + 1 <= _; omega⟩
    . exact ⟨hs1, hs2, h3⟩
theorem q11l (l : List Int) : q0qx (0, q0za l) := ⟨(q0zb l).1, (q0zb l).2, Nat.zero_le _⟩
def q115 (cs : List Int) (a : Nat × Int) (l : List Int) : Int × (Nat × Int) := (l.getD (q10m cs a l.length).1.toNat 0, (q10m cs a l.length).2)
theorem q1tf {cs : List Int} {a : Nat × Int} {l : List Int} (h : 1 <= l.length) : (q115 cs a l).1 ∈ l := by
  have hb := q10n (cs := cs) (a := a) (show (1 : Int) <= l.length by omega)
  unfold q115
  rw [List.getD_eq_getElem?_getD, List.getElem?_eq_getElem (show (q10m cs a l.length).1.toNat < l.length by omega)]
  exact List.getElem_mem _
theorem q10p (cs : List Int) (hc : q161 cs) (hl : cs.length <= 100000000000) (a : Nat × Int) (ha : q0qx a) (n : Int) (hn : n <= 1000000000000) : Fun Try.prog 73 [.box [bytes cs, .i a.1, .i a.2]] [.own 1000000000, .t (.i n)] fun o r => o = [.box [bytes cs, .i (q10m cs a n).2.1, .i (q10m cs a n).2.2]] /\ r = .i (q10m cs a n).1 := q120 cs hc hl a ha n hn
theorem q116 {cs : List Int} {a : Nat × Int} (hl : cs.length <= 100000000000) (ha : q0qx a) (l : List Int) : q0qx (q115 cs a l).2 := q10o hl ha _
theorem q117 (cs : List Int) (hc : q161 cs) (hl : cs.length <= 100000000000) (a : Nat × Int) (ha : q0qx a) (l : List Int) (h1 : 1 <= l.length) (h2 : l.length <= 1000000) : Fun Try.prog 72 [.box [bytes cs, .i a.1, .i a.2], intsO l] [.own 1000000000, .own 1000000001] fun o r => o = [.box [bytes cs, .i (q115 cs a l).2.1, .i (q115 cs a l).2.2], intsO l] /\ r = .i (q115 cs a l).1 := by
  have hb := q10n (cs := cs) (a := a) (show (1 : Int) <= l.length by omega)
  obtain ⟨x, hx⟩ : ∃ x, l[(q10m cs a l.length).1.toNat]? = some x := ⟨_, List.getElem?_eq_getElem (show (q10m cs a l.length).1.toNat < l.length by omega)⟩
  have hg : (q115 cs a l).1 = x := by rw [q115, List.getD_eq_getElem?_getD, hx]; rfl
  refine q0zo (by simp) ?_
  simp -implicitDefEqProofs only [eR', go_sem, q0yj, intsO]
  refine q006.ref (q10p cs hc hl a ha l.length (by omega)) [1000000000] [] rfl Try.call73 (by simp) ?_ (by simp) ?_ (.inl rfl) ?_
  . simp -implicitDefEqProofs only [sR', Nat.reduceEqDiff, ↓reduceIte]
  . simp -implicitDefEqProofs only [aR', go_sem]
  simp -implicitDefEqProofs only [cR', go_sem]
  refine ⟨by omega, by omega, by omega, fun y hy => ?_⟩
  rw [hx] at hy; cases hy
  exact ⟨rfl, by rw [hg]⟩

def q1ug : CC :=
 (.seq (.reg [.o (.move 2 (cb false))])
 ((.seq (.seq (.reg [mv 21 0,.o (.call (some 22) (cf 18) [(sl 21)])])
 ((.cond (sl 22) (.seq (.reg [.o (.move 2 (cb true))])
 (.ret))
 .skip)))
 ((.seq (.reg [mv 24 0,.o (.call (some 25) (cf 19) [(sl 24)]),mv 23 25,.o (.extract 26 (sl 23) 0),.o (.extract 27 (sl 23) 1),.o (.extract 28 (sl 23) 2),.o (.extract 29 (sl 23) 3),mv 3 26,mv 4 27,mv 5 28,mv 6 29])
 ((.seq (.reg [mv 31 3,mv 32 4,mv 33 5,mv 34 6,.o (.call (some 35) (cf 10) [(sl 31), (sl 32), (sl 33), (sl 34)]),mv 30 35,.o (.extract 36 (sl 30) 0),.o (.extract 37 (sl 30) 1),mv 7 36,mv 8 37])
 ((.seq (.reg [mv 39 3,mv 40 4,mv 41 5,mv 42 6,.o (.call (some 43) (cf 7) [(sl 39), (sl 40), (sl 41), (sl 42)]),mv 38 43,.o (.extract 44 (sl 38) 0),.o (.extract 45 (sl 38) 1),mv 9 44,mv 10 45])
 ((.seq (.reg [mv 47 3,mv 48 4,mv 49 5,mv 50 6,.o (.call (some 51) (cf 20) [(sl 47), (sl 48), (sl 49), (sl 50)]),mv 46 51,.o (.extract 52 (sl 46) 0),.o (.extract 53 (sl 46) 1),mv 11 52,mv 12 53])
 ((.seq (.reg [mv 55 3,mv 56 4,mv 57 5,mv 58 6,.o (.call (some 59) (cf 21) [(sl 55), (sl 56), (sl 57), (sl 58)]),mv 54 59,.o (.extract 60 (sl 54) 0),.o (.extract 61 (sl 54) 1),mv 13 60,mv 14 61])
 ((.seq (.seq (.reg [mv 62 8,mv 63 10,.o (.bin 64 .neq (sl 62) (sl 63)),mv 65 64,.g 65 false (some 66) (.move 66 (sl 7)),.g 65 false (some 67) (.move 67 (sl 9)),.g 65 false (some 68) (.call (some 68) (cf 22) [(sl 66), (sl 67)]),.g 65 false (some 69) (.un 69 .not (sl 68)),.o (.pick 70 (sl 65) (cb true) (sl 69)),mv 71 70,.g 71 false (some 72) (.move 72 (sl 12)),.g 71 false (some 73) (.move 73 (sl 14)),.g 71 false (some 74) (.bin 74 .neq (sl 72) (sl 73)),.o (.pick 75 (sl 71) (cb true) (sl 74)),mv 76 75,.g 76 false (some 77) (.move 77 (sl 11)),.g 76 false (some 78) (.move 78 (sl 13)),.g 76 false (some 79) (.bin 79 .neq (sl 77) (sl 78)),.o (.pick 80 (sl 76) (cb true) (sl 79)),mv 81 80,.g 81 false (some 82) (.move 82 (sl 3)),.g 81 false (some 83) (.move 83 (sl 4)),.g 81 false (some 84) (.move 84 (sl 5)),.g 81 false (some 85) (.move 85 (sl 6)),.g 81 false (some 86) (.call (some 86) (cf 23) [(sl 82), (sl 83), (sl 84), (sl 85)]),.g 81 false (some 87) (.move 87 (sl 3)),.g 81 false (some 88) (.move 88 (sl 4)),.g 81 false (some 89) (.move 89 (sl 5)),.g 81 false (some 90) (.move 90 (sl 6)),.g 81 false (some 91) (.call (some 91) (cf 24) [(sl 87), (sl 88), (sl 89), (sl 90)]),.g 81 false (some 92) (.beq 92 true (sl 86) (sl 91)),.o (.pick 93 (sl 81) (cb true) (sl 92))])
 ((.cond (sl 93) (.seq (.reg [.o (.move 2 (cb false))])
 (.ret))
 .skip)))
 ((.seq (.seq (.reg [mv 94 8,.o (.bin 95 .neq (sl 94) (ci 0))])
 ((.cond (sl 95) (.seq (.reg [.o (.move 2 (cb true))])
 (.ret))
 .skip)))
 ((.seq (.reg [.o (.build 96 [.v (.int .i64 0), .v (.int .i64 0)] [(0, 1), (1, 1)] [(1, (ci 1))]),.o (.alloc 15 [.v (.int .i64 0), .v (.int .i64 0)]),.o (.store 2 (sl 15) (sl 96))])
 ((.seq (.seq (.reg [.o (.move 16 (ci 0))])
 ((.block 0 (.loop (.seq (.seq (.reg [mv 97 16,mv 98 7,.o (.lenS 99 (sl 98)),.o (.bin 100 .lss (sl 97) (sl 99))])
 ((.cond (sl 100) .skip
 (.exit 0))))
 ((.seq (.block 1 (.seq (.draw [17] [kr (ln 104 2 15),kr (mv 105 7),kr (mv 106 16),kr (.o (.idx 107 2 (sl 105) (sl 106))),kr (ln 108 2 107),kr (.o (.call (some 109) (cf 25) [(sl 104), (sl 108)])),kr (mv 103 109),kr (.o (.extract 110 (sl 103) 0)),(.r false [17], .o (.extract 111 (sl 103) 1)),(kN, .o (.alloc 17 [.v (.int .i64 0), .v (.int .i64 0)])),(.h (some [17]) [], .o (.store 2 (sl 17) (sl 110))),kr (mv 18 111)])
 ((.seq (.draw [] [kr (mv 113 7),kr (mv 114 16),kr (.o (.idx 115 2 (sl 113) (sl 114))),kr (ln 116 2 115),kr (mv 117 9),kr (mv 118 13),kr (.o (.idx 119 2 (sl 117) (sl 118))),kr (ln 120 2 119),kr (.o (.call (some 121) (cf 26) [(sl 116), (sl 120)])),kr (mv 112 121),kr (.o (.extract 122 (sl 112) 0)),kr (.o (.extract 123 (sl 112) 1)),kr (mv 19 122),kr (mv 20 123)])
 ((.seq (.seq (.reg [mv 124 18,.o (.bin 125 .neq (sl 124) (ci 0)),mv 126 125,.g 126 false (some 127) (.move 127 (sl 20)),.g 126 false (some 128) (.bin 128 .neq (sl 127) (ci 0)),.o (.pick 129 (sl 126) (cb true) (sl 128)),mv 130 129,.g 130 false (some 131) (.move 131 (sl 19)),.g 130 false (some 132) (.bin 132 .gtr (sl 131) (ci 0)),.o (.pick 133 (sl 130) (cb true) (sl 132)),mv 134 133,.g 134 false (some 135) (.move 135 (sl 19)),.g 134 false (some 136) (.bin 136 .eql (sl 135) (ci 0)),.g 134 false (some 137) (.move 137 (sl 136)),.g 137 true (some 138) (.move 138 (sl 16)),.g 137 true (some 139) (.move 139 (sl 13)),.g 137 true (some 140) (.bin 140 .lss (sl 138) (sl 139)),.g 134 false (some 141) (.pick 141 (sl 137) (sl 140) (cb false)),.o (.pick 142 (sl 134) (cb true) (sl 141))])
 ((.cond (sl 142) (.seq (.reg [.o (.move 2 (cb false))])
 (.ret))
 .skip)))
 ((.reg [ln 143 2 17,.o (.store 2 (sl 15) (sl 143))]))))))))
 ((.reg [mv 101 16,.o (.bin 102 .add (sl 101) (ci 1)),mv 16 102])))))))))
 ((.seq (.reg [ln 144 2 15,.o (.build 145 [.v (.int .i64 0), .v (.int .i64 0)] [(0, 1), (1, 1)] [(0, (ci 1)), (1, (ci 1))]),.o (.beqS 146 false 2 (sl 144) (sl 145)),mv 2 146])
 (.ret))))))))))))))))))))))))
theorem q1uv {rin args Q} (ha : args.length <= 147) (h : fW 147 q1ug [.tmp 2] rin args Q) : Fun Try.prog 4 rin args Q :=
 Fun.of (H := ⟨[(16, 8, .r false [17]), (16, 10, .h (some [17]) [])], []⟩) Try.func4 rfl rfl rfl (by kernel_rfl) ha (by decide) h

def q1sd : CC :=
 (.seq (.reg [.o (.move 6 (cv (.slice none 0 0)))])
 ((.seq (.reg [mv 10 2,.o (.call (some 11) (cf 93) [(sl 10)]),mv 7 11])
 ((.seq (.reg [.o (.bslice 12 1 0 []),mv 8 12])
 ((.seq (.block 0 (.loop (.seq (.seq (.reg [mv 13 1,.o (.bin 14 .gtr (sl 13) (ci 0)),mv 15 14,.g 15 true (some 16) (.move 16 (sl 7)),.g 15 true (some 17) (.lenS 17 (sl 16)),.g 15 true (some 18) (.bin 18 .gtr (sl 17) (ci 0)),.o (.pick 19 (sl 15) (sl 18) (cb false))])
 ((.cond (sl 19) .skip
 (.exit 0))))
 ((.seq (.block 1 (.seq (.reg [mv 22 0,mv 23 7,.o (.lenS 24 (sl 23)),.o (.call (some 25) (cf 73) [(sl 22), (sl 24)]),mv 9 25])
 ((.seq (.reg [mv 26 8,mv 27 7,mv 28 9,ix 29 27 28,l1 30 29,.o (.bslice 31 1 1 [(0, (sl 30))]),.o (.app 32 1 8 (sl 26) (sl 31)),mv 8 32])
 ((.draw [33] [(kN, .o (.bslice 33 1 0 [])),(.r false [33], mv 34 7),(.r false [33], mv 35 9),(.r false [33], .o (.slc 36 1 (sl 34) none (some (sl 35)))),(.h (some [33]) [], .o (.app 37 1 8 (sl 33) (sl 36))),(.r false [33, 37], mv 38 7),(.r false [33, 37], mv 39 9),(.r false [33, 37], .o (.bin 40 .add (sl 39) (ci 1))),(.r false [33, 37], .o (.slc 41 1 (sl 38) (some (sl 40)) none)),(kH, .o (.app 42 1 8 (sl 37) (sl 41))),kr (mv 7 42)]))))))
 ((.reg [mv 20 1,.o (.bin 21 .sub (sl 20) (ci 1)),mv 1 21])))))))
 ((.seq (.reg [mv 43 8,mv 6 43])
 (.ret))))))))))
theorem q1sy {rin args Q} (ha : args.length <= 44) (h : fW 44 q1sd [.tmp 6] rin args Q) : Fun Try.prog 74 rin args Q :=
 Fun.of (H := ⟨[(7, 5, .r false [33, 37]), (7, 6, .r false [33, 37]), (7, 7, .r false [33, 37]), (7, 8, .r false [33, 37]), (7, 4, .h (some [33]) [])], []⟩) Try.func74 rfl rfl rfl (by kernel_rfl) ha (by decide) h

def q1se : CC :=
 (.seq (.reg [.o (.move 4 (cv (.slice none 0 0)))])
 ((.seq (.reg [.o (.bslice 8 1 0 []),mv 5 8])
 ((.seq (.seq (.reg [.o (.move 6 (ci 0))])
 ((.block 0 (.loop (.seq (.seq (.reg [mv 9 6,mv 10 1,.o (.lenS 11 (sl 10)),.o (.bin 12 .lss (sl 9) (sl 11))])
 ((.cond (sl 12) .skip
 (.exit 0))))
 ((.seq (.block 1 (.seq (.reg [mv 15 0,mv 16 5,.o (.lenS 17 (sl 16)),.o (.bin 18 .add (sl 17) (ci 1)),.o (.call (some 19) (cf 73) [(sl 15), (sl 18)]),mv 7 19])
 ((.draw [20, 29] [(kN, .o (.bslice 20 1 0 [])),(.r false [20], mv 21 5),(.r false [20], mv 22 7),(.r false [20], .o (.slc 23 1 (sl 21) none (some (sl 22)))),(.h (some [20]) [], .o (.app 24 1 8 (sl 20) (sl 23))),(.r false [20, 24], mv 25 1),(.r false [20, 24], mv 26 6),(.r false [20, 24], ix 27 25 26),(.r false [20, 24], l1 28 27),(kN, .o (.bslice 29 1 1 [(0, (sl 28))])),(.h (some [24]) [], .o (.app 30 1 8 (sl 24) (sl 29))),(.r false [20, 24, 29, 30], mv 31 5),(.r false [20, 24, 29, 30], mv 32 7),(.r false [20, 24, 29, 30], .o (.slc 33 1 (sl 31) (some (sl 32)) none)),(kH, .o (.app 34 1 8 (sl 30) (sl 33))),kr (mv 5 34)]))))
 ((.reg [mv 13 6,.o (.bin 14 .add (sl 13) (ci 1)),mv 6 14])))))))))
 ((.seq (.reg [mv 35 5,mv 4 35])
 (.ret))))))))
theorem q1sz {rin args Q} (ha : args.length <= 36) (h : fW 36 q1se [.tmp 4] rin args Q) : Fun Try.prog 75 rin args Q :=
 Fun.of (H := ⟨[(6, 5, .r false [20, 24]), (6, 6, .r false [20, 24]), (6, 7, .r false [20, 24]), (6, 8, .r false [20, 24]), (6, 4, .h (some [20]) []), (6, 11, .r false [20, 24, 29, 30]), (6, 12, .r false [20, 24, 29, 30]), (6, 13, .r false [20, 24, 29, 30]), (6, 10, .h (some [24]) [])], []⟩) Try.func75 rfl rfl rfl (by kernel_rfl) ha (by decide) h

section
attribute [-go_sem] q0i5 q0id fldC lenC idxC q0ip
theorem q1rz {l : List T} {Rs : List Int} (h : ∀ z ∈ l, z ∈ Rs.map T.i) : l.all T.cell = true /\ l.all T.flat = true :=
  ⟨List.all_eq_true.2 fun z hz => by obtain ⟨k, _, rfl⟩ := List.mem_map.1 (h z hz); rfl, List.all_eq_true.2 fun z hz => by obtain ⟨k, _, rfl⟩ := List.mem_map.1 (h z hz); rfl⟩
def q1si (l : List Int) : Prop := ∀ c ∈ l, 0 <= c /\ c < 52
theorem q1tb : (q1mf []).length = 52 /\ q1si (q1mf []) := by
  constructor
  . decide
  . intro c hc
    unfold q1mf q1mg at hc
    obtain ⟨k, hk, rfl⟩ := List.mem_map.1 (List.mem_filter.1 hc).1
    have : k < 52 := by simpa using hk
    omega
theorem q1to : Fun Try.prog 93 [] [.t (.v (.slice none 0 0))] fun o r => o = [] /\ r = intsO (q1mf []) :=
  (q1p9 [] (by simp)).nilA rfl fun i h h' => by
    match i, h with
    | 0, _ => exact .inr ⟨⟨1, rfl⟩, rfl⟩
theorem q1tr (cs : List Int) (hc : q161 cs) (hl : cs.length <= 100000000000) (a : Nat × Int) (ha : q0qx a) (n : Nat) (hn : n <= 52) :
    Fun Try.prog 74 [.box [bytes cs, .i a.1, .i a.2]] [.own 1000000000, .t (.i n), .t (.v (.slice none 0 0))] fun o r => ∃ x : List Int × (Nat × Int), o = [.box [bytes cs, .i x.2.1, .i x.2.2]] /\ r = intsO x.1 /\ (x.1.length = n /\ q1si x.1 /\ q0qx x.2) := by
  obtain ⟨o1, o2⟩ := q1tb
  refine q1sy (by simp) ?_
  simp -implicitDefEqProofs only [eR', go_sem, q1sd]
  refine q006.res q1to [] rfl Try.call93 ?_ (.inl rfl) ?_
  . simp -implicitDefEqProofs only [aR', go_sem]
  simp -implicitDefEqProofs only [cR', go_sem]
  generalize q1mf [] = R0 at o1 o2
  refine SemC.loopR (σ := Nat × (List Int × List Int) × (Nat × Int)) (fun s => St.of [(0, .own 1000000000), (1, .t (.i s.1)), (7, .own 97), (8, .own 98)] [(1000000000, .box [bytes cs, .i s.2.2.1, .i s.2.2.2]), (97, .arr 1 (s.2.1.1.map T.i)), (98, .arr 1 (s.2.1.2.map T.i))]) (fun s => q0qx s.2.2 /\ s.2.1.2.length + s.1 = n /\ s.2.1.1.length + s.2.1.2.length = 52 /\ q1si s.2.1.1 /\ q1si s.2.1.2) (fun s => s.1) (n, (R0, []), a) (Weak.of _ _ [some 1000000000, some 11, some 12] (by simp) (by simp) ?_ ⟨⟨_, rfl, .refl _⟩, rfl, ⟨_, rfl, .refl _⟩, rfl, ⟨_, rfl, .refl _⟩, rfl, trivial⟩) ⟨ha, by simp, by simpa using o1, o2, fun c h => by simp at h⟩ fun s hI R hn' hr he => ?_
  . simp -implicitDefEqProofs only [wR', Nat.reduceBEq, Nat.reduceEqDiff, ↓reduceIte]
  obtain ⟨k, ⟨Rs, L⟩, b⟩ := s
  obtain ⟨hb, h1, h2, h3, h4⟩ := hI
  (try simp only [] at hb h1 h2 h3 h4)
  rcases Nat.eq_zero_or_pos k with h9 | h9
  . subst h9
    simp -implicitDefEqProofs only [eR', go_sem, show decide (((0 : Nat) : Int) > 0) = false from rfl]
    refine he _ _ ?_
    simp -implicitDefEqProofs only [eR', go_sem]
    exact ⟨(L, b), ⟨rfl, rfl, by simpa using h1, h4, hb⟩⟩
  . obtain ⟨k', rfl⟩ : ∃ k', k = k' + 1 := ⟨k - 1, by omega⟩
    simp -implicitDefEqProofs only [eR', go_sem, decide_eq_true (show ((k' + 1 : Nat) : Int) > 0 by omega), decide_eq_true (show (Rs.length : Int) > 0 by omega)]
    refine q006.ref (q10p cs hc hl b hb Rs.length (by omega)) [1000000000] [] rfl Try.call73 (by simp) ?_ (by simp) ?_ (.inl rfl) ?_
    . simp -implicitDefEqProofs only [sR', Nat.reduceEqDiff, ↓reduceIte]
    . simp -implicitDefEqProofs only [aR', go_sem]
    simp -implicitDefEqProofs only [cR', go_sem]
    have hb2 := q10n (cs := cs) (a := b) (show (1 : Int) <= Rs.length by omega)
    have hs2 := q10o (cs := cs) hl hb Rs.length
    generalize q10m cs b Rs.length = z at hb2 hs2 ⊢
    obtain ⟨x, c⟩ := z
    simp only [] at hb2 hs2 ⊢
    obtain ⟨X, rfl⟩ : ∃ X : Nat, x = X := ⟨x.toNat, by omega⟩
    have hX : X < Rs.length := by omega
    obtain ⟨y, hy⟩ : ∃ y, Rs[X]? = some y := ⟨_, List.getElem?_eq_getElem hX⟩
    have hy52 := h3 y (List.mem_of_getElem? hy)
    simp -implicitDefEqProofs only [eR', go_sem, hy, Int.toNat_natCast, q0lb hX (by omega)]
    have e1 := q1rz (l := (Rs.map T.i).take (X - 0)) (Rs := Rs) fun z hz => List.mem_of_mem_take hz
    have e2 := q1rz (l := ((Rs.map T.i).drop (X + 1)).take (Rs.length - (X + 1))) (Rs := Rs) fun z hz => List.mem_of_mem_drop (List.mem_of_mem_take hz)
    have e3 : ((Rs.map T.i).take (X - 0)).length <= Rs.length := by rw [List.length_take, List.length_map]; omega
    have e4 : (((Rs.map T.i).drop (X + 1)).take (Rs.length - (X + 1))).length <= Rs.length := by rw [List.length_take, List.length_drop, List.length_map]; omega
    refine ⟨by omega, by omega, by omega, by omega, by omega, by omega, by omega, e1.1, e1.2, by omega, ⟨by omega, by omega, by omega, e2.1, e2.2, by omega, ?_⟩, ((q09v.refl _ _ _).upd _ (.inl (by simp))).upd _ (.inr rfl)⟩
    have hdr : ((Rs.map T.i).drop (X + 1)).take (Rs.length - (X + 1)) = (Rs.drop (X + 1)).map T.i := by
      rw [List.take_of_length_le (by rw [List.length_drop, List.length_map]; omega), List.map_drop]
    refine hn' _ (k', (Rs.take X ++ Rs.drop (X + 1), L ++ [y]), c) (Weak.o _ _ [some 1000000000, some 42, some 32] ?_ ?_) ⟨hs2, ?_, ?_, ?_, ?_⟩ (by simp only []; omega)
    . have e : IntKind.i64.wrap (((k' + 1 : Nat) : Int) - 1) = (k' : Int) := by rw [wrap64 (by omega) (by omega)]; omega
      simp -implicitDefEqProofs only [wR', Nat.reduceBEq, Nat.reduceEqDiff, ↓reduceIte, e]
    . refine ⟨⟨_, rfl, .refl _⟩, rfl, ⟨_, rfl, ?_⟩, rfl, ⟨_, rfl, ?_⟩, rfl, trivial⟩
      . rw [hdr, List.map_append, List.map_take]; exact .refl _
      . rw [List.map_append]; exact .refl _
    . simp only [List.length_append, List.length_cons, List.length_nil]; omega
    . simp only [List.length_append, List.length_cons, List.length_nil, List.length_take, List.length_drop]; omega
    . intro z hz
      rcases List.mem_append.1 hz with hz | hz
      . exact h3 z (List.mem_of_mem_take hz)
      . exact h3 z (List.mem_of_mem_drop hz)
    . intro z hz
      rcases List.mem_append.1 hz with hz | hz
      . exact h4 z hz
      . have : z = y := by simpa using hz
        subst this; exact hy52
theorem q1ts (cs : List Int) (hc : q161 cs) (hl : cs.length <= 100000000000) (a : Nat × Int) (ha : q0qx a) (l : List Int) (hn : l.length <= 1000) :
    Fun Try.prog 75 [.box [bytes cs, .i a.1, .i a.2], .arr 1 (l.map T.i)] [.own 1000000000, .own 1000000001] fun o r => ∃ x : List Int × (Nat × Int), o = [.box [bytes cs, .i x.2.1, .i x.2.2], .arr 1 (l.map T.i)] /\ r = intsO x.1 /\ (x.1.length = l.length /\ (∀ c ∈ x.1, c ∈ l) /\ q0qx x.2) := by
  refine q1sz (by simp) ?_
  simp -implicitDefEqProofs only [eR', go_sem, q1se]
  refine SemC.loopR (σ := Nat × List Int × (Nat × Int)) (fun s => St.of [(0, .own 1000000000), (1, .own 1000000001), (5, .own 98), (6, .t (.i s.1))] [(1000000000, .box [bytes cs, .i s.2.2.1, .i s.2.2.2]), (1000000001, .arr 1 (l.map T.i)), (98, .arr 1 (s.2.1.map T.i))]) (fun s => q0qx s.2.2 /\ s.2.1.length = s.1 /\ s.1 <= l.length /\ ∀ c ∈ s.2.1, c ∈ l) (fun s => l.length - s.1) (0, [], a) (Weak.of _ _ [some 1000000000, some 1000000001, some 8] (by simp) (by simp) ?_ ⟨⟨_, rfl, .refl _⟩, rfl, ⟨_, rfl, .refl _⟩, rfl, ⟨_, rfl, .refl _⟩, rfl, trivial⟩) ⟨ha, by simp, by simp, by simp⟩ fun s hI R hn' hr he => ?_
  . simp -implicitDefEqProofs only [wR', Nat.reduceBEq, Nat.reduceEqDiff, ↓reduceIte]
  obtain ⟨i, L, b⟩ := s
  obtain ⟨hb, h1, h2, h3⟩ := hI
  (try simp only [] at hb h1 h2 h3)
  rcases Nat.lt_or_ge i l.length with h9 | h9
  . obtain ⟨y, hy⟩ : ∃ y, l[i]? = some y := ⟨_, List.getElem?_eq_getElem h9⟩
    simp -implicitDefEqProofs only [eR', go_sem, hy, decide_eq_true (show (i : Int) < (l.length : Int) by omega)]
    have hw : IntKind.i64.wrap ((L.length : Int) + 1) = ((L.length + 1 : Nat) : Int) := by rw [wrap64 (by omega) (by omega)]; omega
    rw [hw]
    refine q006.ref (q10p cs hc hl b hb ((L.length + 1 : Nat) : Int) (by omega)) [1000000000] [] rfl Try.call73 (by simp) ?_ (by simp) ?_ (.inl rfl) ?_
    . simp -implicitDefEqProofs only [sR', Nat.reduceEqDiff, ↓reduceIte]
    . simp -implicitDefEqProofs only [aR', go_sem]
    simp -implicitDefEqProofs only [cR', go_sem]
    have hb2 := q10n (cs := cs) (a := b) (show (1 : Int) <= ((L.length + 1 : Nat) : Int) by omega)
    have hs2 := q10o (cs := cs) hl hb ((L.length + 1 : Nat) : Int)
    generalize q10m cs b ((L.length + 1 : Nat) : Int) = z at hb2 hs2 ⊢
    obtain ⟨x, c⟩ := z
    simp only [] at hb2 hs2 ⊢
    obtain ⟨X, rfl⟩ : ∃ X : Nat, x = X := ⟨x.toNat, by omega⟩
    have hX : X <= L.length := by omega
    simp -implicitDefEqProofs only [eR', go_sem, hy, Int.toNat_natCast]
    have e1 := q1rz (l := (L.map T.i).take (X - 0)) (Rs := L) fun z hz => List.mem_of_mem_take hz
    have e2 := q1rz (l := ((L.map T.i).drop X).take (L.length - X)) (Rs := L) fun z hz => List.mem_of_mem_drop (List.mem_of_mem_take hz)
    have e3 : ((L.map T.i).take (X - 0)).length <= L.length := by rw [List.length_take, List.length_map]; omega
    have e4 : (((L.map T.i).drop X).take (L.length - X)).length <= L.length := by rw [List.length_take, List.length_drop, List.length_map]; omega
    have e5 : ((L.map T.i).take (X - 0) ++ [T.i y]).length <= L.length + 1 := by rw [List.length_append]; simp only [List.length_cons, List.length_nil]; omega
    refine ⟨by omega, by omega, by omega, e1.1, e1.2, by omega, ⟨by omega, by omega, by omega, by omega, ⟨by omega, by omega, by omega, e2.1, e2.2, by omega, ?_⟩, ((q09v.refl _ _ _).upd _ (.inl (by simp))).upd _ (.inr rfl)⟩, ((q09v.refl _ _ _).upd _ (.inl (by simp))).upd _ (.inr rfl)⟩
    have hdr : ((L.map T.i).drop X).take (L.length - X) = (L.drop X).map T.i := by
      rw [List.take_of_length_le (by rw [List.length_drop, List.length_map]; omega), List.map_drop]
    refine hn' _ (i + 1, L.take X ++ [y] ++ L.drop X, c) (Weak.o _ _ [some 1000000000, some 1000000001, some 34] ?_ ?_) ⟨hs2, ?_, by simp only []; omega, ?_⟩ (by simp only []; omega)
    . simp -implicitDefEqProofs only [wR', Nat.reduceBEq, Nat.reduceEqDiff, ↓reduceIte, q0lb h9 (by omega)]
    . refine ⟨⟨_, rfl, .refl _⟩, rfl, ⟨_, rfl, .refl _⟩, rfl, ⟨_, rfl, ?_⟩, rfl, trivial⟩
      rw [hdr, List.map_append, List.map_append, List.map_take]; exact .refl _
    . simp only [List.length_append, List.length_cons, List.length_nil, List.length_take, List.length_drop]; omega
    . intro z hz
      simp only [List.mem_append, List.mem_cons, List.not_mem_nil, or_false] at hz
      rcases hz with (hz | rfl) | hz
      . exact h3 z (List.mem_of_mem_take hz)
      . exact List.mem_of_getElem? hy
      . exact h3 z (List.mem_of_mem_drop hz)
  . simp -implicitDefEqProofs only [eR', go_sem, decide_eq_false (show ¬ (i : Int) < (l.length : Int) by omega)]
    refine he _ _ ?_
    simp -implicitDefEqProofs only [eR', go_sem]
    exact ⟨(L, b), ⟨rfl, rfl, by simp only []; omega, h3, hb⟩⟩
end

def q1sg : CC :=
 (.seq (.reg [.o (.move 2 (ci 0)),.o (.move 3 (cv (.slice none 0 0))),.o (.move 4 (cv (.slice none 0 0))),.o (.move 5 (cv (.slice none 0 0)))])
 ((.seq (.reg [mv 19 0,.o (.bslice 20 1 5 [(0, (ci 0)), (1, (ci 0)), (2, (ci 0)), (3, (ci 1)), (4, (ci 2))]),.o (.call (some 21) (cf 72) [(sl 19), (sl 20)]),mv 6 21])
 ((.seq (.reg [mv 22 0,.o (.call (some 23) (cf 73) [(sl 22), (ci 2)]),.o (.bin 24 .add (ci 2) (sl 23)),mv 7 24])
 ((.seq (.reg [.o (.call (some 25) (cf 54) []),mv 26 6,.o (.idx 27 6 (sl 25) (sl 26)),fl 28 0 27,l1 29 28,mv 8 29])
 ((.seq (.reg [mv 30 0,mv 31 7,mv 32 8,.o (.bin 33 .mul (sl 31) (sl 32)),.o (.bin 34 .add (sl 33) (ci 5)),mv 35 0,.o (.call (some 36) (cf 73) [(sl 35), (ci 4)]),.o (.bin 37 .add (sl 34) (sl 36)),.o (.call (some 38) (cf 74) [(sl 30), (sl 37), (cv (.slice none 0 0))]),mv 9 38])
 ((.seq (.seq (.reg [mv 39 0,.o (.call (some 40) (cf 73) [(sl 39), (ci 3)]),.o (.bin 41 .eql (sl 40) (ci 0))])
 ((.cond (sl 41) (.seq (.reg [.o (.bslice 42 1 0 []),mv 10 42])
 ((.seq (.seq (.reg [.o (.move 11 (ci 0))])
 ((.block 0 (.loop (.seq (.seq (.reg [mv 43 11,.o (.bin 44 .lss (sl 43) (ci 52))])
 ((.cond (sl 44) .skip
 (.exit 0))))
 ((.seq (.block 1 (.seq (.reg [mv 47 11,.o (.bin 48 .quo (sl 47) (ci 4)),.o (.bin 49 .rem (sl 48) (ci 2)),.o (.bin 50 .eql (sl 49) (ci 0))])
 ((.cond (sl 50) (.reg [mv 51 10,mv 52 11,.o (.bslice 53 1 1 [(0, (sl 52))]),.o (.app 54 1 8 (sl 51) (sl 53)),mv 10 54])
 .skip))))
 ((.reg [mv 45 11,.o (.bin 46 .add (sl 45) (ci 1)),mv 11 46])))))))))
 ((.reg [mv 55 0,mv 56 10,.o (.call (some 57) (cf 75) [(sl 55), (sl 56)]),mv 58 9,.o (.lenS 59 (sl 58)),.o (.slc 60 1 (sl 57) none (some (sl 59))),mv 9 60])))))
 .skip)))
 ((.seq (.weak (.reg [.o (.bslice 61 1 0 []),mv 12 61]))
 ((.seq (.seq (.reg [.o (.move 13 (ci 0))])
 ((.block 2 (.loop (.seq (.seq (.reg [mv 62 13,mv 63 7,.o (.bin 64 .lss (sl 62) (sl 63))])
 ((.cond (sl 64) .skip
 (.exit 2))))
 ((.seq (.block 3 (.reg [mv 67 12,mv 68 9,mv 69 13,mv 70 8,.o (.bin 71 .mul (sl 69) (sl 70)),mv 72 13,mv 73 8,.o (.bin 74 .mul (sl 72) (sl 73)),mv 75 8,.o (.bin 76 .add (sl 74) (sl 75)),.o (.slc 77 1 (sl 68) (some (sl 71)) (some (sl 76))),.o (.call (some 78) (cf 53) [(sl 77)]),.o (.bslice 79 1 1 [(0, (sl 78))]),.o (.app 80 1 24 (sl 67) (sl 79)),mv 12 80]))
 ((.reg [mv 65 13,.o (.bin 66 .add (sl 65) (ci 1)),mv 13 66])))))))))
 ((.seq (.reg [mv 81 9,mv 82 7,mv 83 8,.o (.bin 84 .mul (sl 82) (sl 83)),.o (.slc 85 1 (sl 81) (some (sl 84)) none),mv 14 85])
 ((.seq (.reg [mv 86 0,.o (.bslice 87 1 6 [(0, (ci 5)), (1, (ci 4)), (2, (ci 4)), (3, (ci 5)), (4, (ci 4)), (5, (ci 4))]),.o (.call (some 88) (cf 72) [(sl 86), (sl 87)]),mv 15 88])
 ((.seq (.seq (.reg [mv 89 6,.o (.bin 90 .eql (sl 89) (ci 0)),mv 91 90,.g 91 true (some 92) (.move 92 (sl 0)),.g 91 true (some 93) (.call (some 93) (cf 73) [(sl 92), (ci 40)]),.g 91 true (some 94) (.bin 94 .eql (sl 93) (ci 0)),.o (.pick 95 (sl 91) (sl 94) (cb false))])
 ((.cond (sl 95) (.reg [.o (.move 15 (ci 3))])
 .skip)))
 ((.seq (.weak (.draw [99, 102] [kr (mv 96 14),kr (mv 97 15),kr (.o (.slc 98 1 (sl 96) none (some (sl 97)))),(.c false [], .o (.call (some 99) (cf 53) [(sl 98)])),(.r false [99], mv 100 14),(.r false [99], .o (.slc 101 1 (sl 100) (some (ci 5)) none)),(.c false [], .o (.call (some 102) (cf 53) [(sl 101)])),kr (mv 16 99),kr (mv 17 102)]))
 ((.seq (.seq (.weak (.reg [mv 103 0,.o (.call (some 104) (cf 73) [(sl 103), (ci 24)])]))
 ((.block 4 (.seq (.reg [.o (.bin 106 .eql (sl 104) (ci 4)),mv 105 106])
 ((.cond (sl 105) (.seq (.reg [mv 107 12,mv 108 16,.o (.call (some 109) (cf 76) [(sl 107), (sl 108), (cv (.slice none 0 0))]),mv 18 109])
 ((.weak (.reg [mv 110 18,mv 111 18,.o (.lenS 112 (sl 111)),mv 113 0,.o (.call (some 114) (cf 73) [(sl 113), (ci 3)]),.o (.bin 115 .sub (sl 112) (sl 114)),.o (.slc 116 1 (sl 110) none (some (sl 115))),mv 17 116]))))
 (.seq (.reg [.o (.bin 118 .eql (sl 104) (ci 0)),mv 117 118])
 ((.cond (sl 117) (.reg [mv 119 16,mv 120 12,.o (.idx 121 1 (sl 120) (ci 0)),l1 122 121,.o (.idx 123 1 (sl 122) (ci 0)),l1 124 123,.o (.idx 125 1 (sl 119) (ci 0)),.o (.store 1 (sl 125) (sl 124))])
 (.seq (.reg [.o (.bin 127 .eql (sl 104) (ci 1)),mv 126 127])
 ((.cond (sl 126) (.reg [mv 128 0,.o (.bslice 129 1 3 [(0, (ci (-1))), (1, (ci 1)), (2, (ci 3))]),.o (.call (some 130) (cf 72) [(sl 128), (sl 129)]),mv 6 130])
 (.seq (.reg [.o (.bin 132 .eql (sl 104) (ci 2)),mv 131 132])
 ((.cond (sl 131) (.seq (.weak (.draw [] [kr (mv 133 6),kr (mv 134 12),kr (.o (.slc 135 1 (sl 134) (some (ci 1)) none)),kr (mv 136 16),kr (mv 137 17),kr (mv 2 133),kr (mv 3 135),kr (mv 4 136),kr (mv 5 137)]))
 (.ret))
 (.seq (.reg [.o (.bin 139 .eql (sl 104) (ci 3)),mv 138 139])
 ((.cond (sl 138) (.weak (.reg [mv 140 16,.o (.slc 141 1 (sl 140) none (some (ci 2))),mv 16 141]))
 .skip))))))))))))))))))
 ((.seq (.weak (.reg [mv 142 6,mv 143 12,mv 144 16,mv 145 17,mv 2 142,mv 3 143,mv 4 144,mv 5 145]))
 (.ret))))))))))))))))))))))))))))
theorem q1t1 {rin args Q} (ha : args.length <= 146) (h : fW 146 q1sg [.tmp 2, .tmp 3, .tmp 4, .tmp 5] rin args Q) : Fun Try.prog 43 rin args Q :=
 Fun.of (H := ⟨[], [13, 22, 23, 26, 32, 34, 35]⟩) Try.func43 rfl rfl rfl (by kernel_rfl) ha (by decide) h

end Go.Ab
