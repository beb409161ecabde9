/- The program's EquitiesOf returns what the reference's returns, for all arguments, and keeps its arguments (and its earlier result): the law FnExactEquitiesOf returns true for every input. No conditions. -/
import Derived.Test.YtjeefbiiagflhaaRows
import Derived.Test.YtjeefbiiagflhaaQ6
set_option linter.unusedSimpArgs false
set_option linter.unusedVariables false
set_option maxRecDepth 20000
/- Winners of the program. -/
namespace Go.Ab
open Go.Proofs
section
attribute [-go_sem] q0i5 q0id fldC lenC idxC q0ip
theorem q1a5 (hi : Bool) (vals ws : List Int) : ∀ j, (q1a3 hi vals ws j).1 < 0 -> (q1a3 hi vals ws j).2 = []
  | 0, _ => rfl
  | j + 1, h => by
    have ih := q1a5 hi vals ws j
    rw [q1a3, q01x] at h ⊢
    split
    . rename_i h1; rw [if_pos h1] at h; exact ih h
    . rename_i h1
      rw [if_neg h1] at h
      split
      . rename_i h2; rw [if_pos h2] at h; exact absurd h h1
      . rename_i h2
        rw [if_neg h2] at h
        split
        . rename_i h3; rw [if_pos h3] at h; exact absurd (.inl h) h2
        . rename_i h3; rw [if_neg h3] at h; exact absurd (.inl h) h2
theorem q1je (n : Nat) (vals : List Int) (hn : n <= 1000) (hv : vals.length = n) (h0 : ∀ v ∈ vals, 0 <= v) : Fun Try.prog 101 [] [.t (ints (idsL n)), .t (ints vals)] fun o r => o = [] /\ r = intsO (q1a7 true vals (idsL n)) := by
  have hil : (idsL n).length = n := q1qg
  refine q1g4 (by simp) ?_
  simp -implicitDefEqProofs only [eR', go_sem, q1b7]
  refine SemC.loopR (σ := Nat) (fun i => St.of [(1, .t (ints vals)), (5, .own 95), (6, .t (.i (max 0 (q1a3 true vals (idsL n) i).1))), (9, .t (ints (idsL n))), (10, .t (.i n)), (11, .t (.i i))] [(95, intsO (q1a3 true vals (idsL n) i).2)]) (fun i => i <= n) (fun i => n - i) 0 (Weak.of _ _ [none] (by simp) (by simp) ?_ ⟨⟨1, rfl⟩, trivial⟩) (by omega) fun i hin R hn' hr he => ?_
  . simp -implicitDefEqProofs only [wR', Nat.reduceBEq, Nat.reduceEqDiff, ↓reduceIte, hil]
    exact .inr (.inl rfl)
  . rcases Nat.lt_or_ge i n with h9 | h9
    . have hx : (idsL n)[i]? = some (i : Int) := q1qf h9
      have hg : (idsL n).getD i 0 = (i : Int) := by rw [List.getD_eq_getElem?_getD, hx]; rfl
      obtain ⟨v, hvx⟩ : ∃ v, vals[i]? = some v := ⟨_, List.getElem?_eq_getElem (by omega)⟩
      have hv0 := h0 v (List.mem_of_getElem? hvx)
      have hvg : vals.getD ((idsL n).getD i 0).toNat 0 = v := by rw [hg, Int.toNat_natCast, List.getD_eq_getElem?_getD, hvx]; rfl
      have hT : q1a3 true vals (idsL n) (i + 1) = q01x true (q1a3 true vals (idsL n) i) i v := by rw [q1a3, hvg, hg]
      have hlen := q1a4 true vals (idsL n) i
      have hnil := q1a5 true vals (idsL n) i
      generalize q1a3 true vals (idsL n) i = s at hT hlen hnil ⊢
      obtain ⟨b, L⟩ := s
      simp only [] at hT hlen hnil ⊢
      rw [q01x, if_neg (by omega)] at hT
      rcases Decidable.em (v > max 0 b) with h1 | h1
      . rw [if_pos (.inr (.inl ⟨rfl, by simp only []; omega⟩))] at hT
        simp -implicitDefEqProofs only [eR', go_sem, hil, hx, hvx, decide_eq_true (show (i : Int) < (n : Int) by omega), decide_eq_true h1, show (v == v) = true from beq_self_eq_true v]
        refine ⟨by omega, by omega, by omega, by omega, by omega, by omega, by omega, by omega, by omega, by omega, by omega, by omega, ?_⟩
        have e0 : max 0 v = v := by omega
        refine hn' _ (i + 1) (Weak.of _ _ [some 34] (by simp) (by simp) ?_ ⟨⟨_, rfl, by rw [hT]; exact .refl _⟩, rfl, trivial⟩) (by omega) (by omega)
        simp -implicitDefEqProofs only [wR', Nat.reduceBEq, Nat.reduceEqDiff, ↓reduceIte, q0lb h9 (by omega), hT, e0]
      . rcases Decidable.em (v = max 0 b) with h2 | h2
        . have hT2 : q1a3 true vals (idsL n) (i + 1) = (max 0 b, L ++ [(i : Int)]) := by
            rw [hT]
            rcases Decidable.em (b < 0) with h3 | h3
            . rw [if_pos (.inl h3), hnil h3, h2]; rfl
            . rw [if_neg (by simp [h3]; omega), if_pos (by simp only []; omega)]
              simp only [Prod.mk.injEq, and_true]; omega
          simp -implicitDefEqProofs only [eR', go_sem, hil, hx, hvx, decide_eq_true (show (i : Int) < (n : Int) by omega), decide_eq_false h1, show (v == max 0 b) = true from by rw [beq_iff_eq]; exact h2, intsO]
          refine ⟨by omega, by omega, by omega, by omega, by omega, by omega, by omega, by omega, by omega, by omega, ?_⟩
          have e0 : max 0 (max 0 b) = max 0 b := by omega
          refine hn' _ (i + 1) (Weak.of _ _ [some 34] (by simp) (by simp) ?_ ⟨⟨_, rfl, by rw [hT2, intsO, List.map_append]; exact .refl _⟩, rfl, trivial⟩) (by omega) (by omega)
          simp -implicitDefEqProofs only [wR', Nat.reduceBEq, Nat.reduceEqDiff, ↓reduceIte, q0lb h9 (by omega), hT2, e0]
        . have hT2 : q1a3 true vals (idsL n) (i + 1) = (b, L) := by
            rw [hT, if_neg (by simp; omega), if_neg (by simp only []; omega)]
          simp -implicitDefEqProofs only [eR', go_sem, hil, hx, hvx, decide_eq_true (show (i : Int) < (n : Int) by omega), decide_eq_false h1, show (v == max 0 b) = false from by rw [beq_eq_false_iff_ne]; exact h2]
          refine ⟨by omega, by omega, by omega, by omega, by omega, by omega, by omega, by omega, by omega, ?_⟩
          refine hn' _ (i + 1) (Weak.of _ _ [some 95] (by simp) (by simp) ?_ ⟨⟨_, rfl, by rw [hT2]; exact .refl _⟩, rfl, trivial⟩) (by omega) (by omega)
          simp -implicitDefEqProofs only [wR', Nat.reduceBEq, Nat.reduceEqDiff, ↓reduceIte, q0lb h9 (by omega), hT2]
    . simp -implicitDefEqProofs only [eR', go_sem, decide_eq_false (show ¬ (i : Int) < (n : Int) by omega)]
      refine he _ _ ?_
      simp -implicitDefEqProofs only [eR', go_sem]
      rw [q1a7, hil, show i = n by omega]
theorem q1jk (n : Nat) (vals : List Int) (hn : n <= 1000) (hv : vals.length = n) : Fun Try.prog 102 [] [.t (ints (idsL n)), .t (ints vals)] fun o r => o = [] /\ r = intsO (q1a7 false vals (idsL n)) := by
  have hil : (idsL n).length = n := q1qg
  refine q1ga (by simp) ?_
  simp -implicitDefEqProofs only [eR', go_sem, q1bd]
  refine SemC.loopR (σ := Nat) (fun i => St.of [(1, .t (ints vals)), (5, .own 95), (6, .t (.i (q1a3 false vals (idsL n) i).1)), (9, .t (ints (idsL n))), (10, .t (.i n)), (11, .t (.i i))] [(95, intsO (q1a3 false vals (idsL n) i).2)]) (fun i => i <= n) (fun i => n - i) 0 (Weak.of _ _ [none] (by simp) (by simp) ?_ ⟨⟨1, rfl⟩, trivial⟩) (by omega) fun i hin R hn' hr he => ?_
  . simp -implicitDefEqProofs only [wR', Nat.reduceBEq, Nat.reduceEqDiff, ↓reduceIte, hil]
    exact .inr (.inl rfl)
  . rcases Nat.lt_or_ge i n with h9 | h9
    . have hx : (idsL n)[i]? = some (i : Int) := q1qf h9
      have hg : (idsL n).getD i 0 = (i : Int) := by rw [List.getD_eq_getElem?_getD, hx]; rfl
      obtain ⟨v, hvx⟩ : ∃ v, vals[i]? = some v := ⟨_, List.getElem?_eq_getElem (by omega)⟩
      have hvg : vals.getD ((idsL n).getD i 0).toNat 0 = v := by rw [hg, Int.toNat_natCast, List.getD_eq_getElem?_getD, hvx]; rfl
      have hT : q1a3 false vals (idsL n) (i + 1) = q01x false (q1a3 false vals (idsL n) i) i v := by rw [q1a3, hvg, hg]
      have hlen := q1a4 false vals (idsL n) i
      generalize q1a3 false vals (idsL n) i = s at hT hlen ⊢
      obtain ⟨b, L⟩ := s
      simp only [] at hT hlen ⊢
      rcases Decidable.em (v < 0) with h1 | h1
      . rw [q01x, if_pos h1] at hT
        simp -implicitDefEqProofs only [eR', go_sem, hil, hx, hvx, decide_eq_true (show (i : Int) < (n : Int) by omega), decide_eq_true h1]
        refine ⟨by omega, by omega, by omega, by omega, by omega, by omega, ?_⟩
        refine hn' _ (i + 1) (Weak.of _ _ [some 95] (by simp) (by simp) ?_ ⟨⟨_, rfl, by rw [hT]; exact .refl _⟩, rfl, trivial⟩) (by omega) (by omega)
        simp -implicitDefEqProofs only [wR', Nat.reduceBEq, Nat.reduceEqDiff, ↓reduceIte, q0lb h9 (by omega), hT]
      . rcases Decidable.em (b < 0) with h2 | h2
        . rw [q01x, if_neg h1, if_pos (.inl h2)] at hT
          simp -implicitDefEqProofs only [eR', go_sem, hil, hx, hvx, decide_eq_true (show (i : Int) < (n : Int) by omega), decide_eq_false h1, decide_eq_true h2, show (v == v) = true from beq_self_eq_true v]
          refine ⟨by omega, by omega, by omega, by omega, by omega, by omega, by omega, by omega, by omega, by omega, by omega, by omega, ?_⟩
          refine hn' _ (i + 1) (Weak.of _ _ [some 43] (by simp) (by simp) ?_ ⟨⟨_, rfl, by rw [hT]; exact .refl _⟩, rfl, trivial⟩) (by omega) (by omega)
          simp -implicitDefEqProofs only [wR', Nat.reduceBEq, Nat.reduceEqDiff, ↓reduceIte, q0lb h9 (by omega), hT]
        . rcases Decidable.em (v < b) with h3 | h3
          . rw [q01x, if_neg h1, if_pos (.inr (.inr ⟨rfl, h3⟩))] at hT
            simp -implicitDefEqProofs only [eR', go_sem, hil, hx, hvx, decide_eq_true (show (i : Int) < (n : Int) by omega), decide_eq_false h1, decide_eq_false h2, decide_eq_true h3, show (v == v) = true from beq_self_eq_true v]
            refine ⟨by omega, by omega, by omega, by omega, by omega, by omega, by omega, by omega, by omega, by omega, by omega, by omega, by omega, by omega, by omega, ?_⟩
            refine hn' _ (i + 1) (Weak.of _ _ [some 43] (by simp) (by simp) ?_ ⟨⟨_, rfl, by rw [hT]; exact .refl _⟩, rfl, trivial⟩) (by omega) (by omega)
            simp -implicitDefEqProofs only [wR', Nat.reduceBEq, Nat.reduceEqDiff, ↓reduceIte, q0lb h9 (by omega), hT]
          . rw [q01x, if_neg h1, if_neg (by simp [h2]; omega)] at hT
            simp -implicitDefEqProofs only [eR', go_sem, hil, hx, hvx, decide_eq_true (show (i : Int) < (n : Int) by omega), decide_eq_false h1, decide_eq_false h2, decide_eq_false h3, intsO]
            refine ⟨by omega, by omega, by omega, by omega, by omega, by omega, by omega, by omega, by omega, by omega, by omega, by omega, fun h => ?_, fun h => ?_⟩
            . have h : v = b := by simpa using h
              rw [if_pos h] at hT
              refine ⟨by omega, ?_⟩
              refine hn' _ (i + 1) (Weak.of _ _ [some 43] (by simp) (by simp) ?_ ⟨⟨_, rfl, by rw [hT, intsO, List.map_append]; exact .refl _⟩, rfl, trivial⟩) (by omega) (by omega)
              simp -implicitDefEqProofs only [wR', Nat.reduceBEq, Nat.reduceEqDiff, ↓reduceIte, q0lb h9 (by omega), hT]
            . have h : ¬ v = b := by simpa using h
              rw [if_neg h] at hT
              refine hn' _ (i + 1) (Weak.of _ _ [some 95] (by simp) (by simp) ?_ ⟨⟨_, rfl, by rw [hT]; exact .refl _⟩, rfl, trivial⟩) (by omega) (by omega)
              simp -implicitDefEqProofs only [wR', Nat.reduceBEq, Nat.reduceEqDiff, ↓reduceIte, q0lb h9 (by omega), hT]
    . simp -implicitDefEqProofs only [eR', go_sem, decide_eq_false (show ¬ (i : Int) < (n : Int) by omega)]
      refine he _ _ ?_
      simp -implicitDefEqProofs only [eR', go_sem]
      rw [q1a7, hil, show i = n by omega]
end
section
attribute [-go_sem] q0i5 q0id fldC lenC idxC q0ip
def ixW (x : Int) : List Int -> Nat -> Int
  | [], _ => -1
  | y :: l, k => if x = y then (k : Int) else ixW x l (k + 1)
theorem q1k4 {x : Int} : ∀ {l : List Int} {k : Nat}, ixW x l k ≥ 0 ↔ x ∈ l
  | [], k => by simp [ixW]
  | y :: l, k => by
    rw [ixW, List.mem_cons]
    split
    . rename_i h; simp [h]
    . rename_i h; rw [q1k4]; simp [h]
theorem q1k3 {x : Int} {l : List Int} : ∀ {i : Nat}, i <= l.length -> x ∉ l.take i -> ixW x l 0 = ixW x (l.drop i) i
  | 0, _, _ => rfl
  | i + 1, h, hx => by
    obtain ⟨y, hy⟩ : ∃ y, l[i]? = some y := ⟨_, List.getElem?_eq_getElem (by omega)⟩
    rw [q0uj hy, List.mem_append, not_or] at hx
    rw [q1k3 (i := i) (by omega) hx.1]
    have hd : l.drop i = y :: l.drop (i + 1) := by
      rw [List.drop_eq_getElem_cons (by omega)]
      congr 1
      exact (List.getElem?_eq_some_iff.1 hy).2
    rw [hd, ixW, if_neg (by have := hx.2; simpa using this)]
theorem q1ov (l : List Int) (x : Int) (hl : l.length <= 1000000) : Pure Try.prog 45 [ints l, .i x] (.i (ixW x l 0)) := by
  refine q0be (by simp) ?_
  simp -implicitDefEqProofs only [eR', go_sem, q04g]
  refine SemC.loopR (σ := Nat) (fun i => St.of [(0, .t (ints l)), (1, .t (.i x)), (7, .t (.i l.length)), (8, .t (.i i))] []) (fun i => i <= l.length /\ x ∉ l.take i) (fun i => l.length - i) 0 (Weak.o _ [] [] ?_ trivial) ⟨by omega, by simp⟩ fun i hi R hn hr he => ?_
  . simp -implicitDefEqProofs only [wR', Nat.reduceBEq, Nat.reduceEqDiff, ↓reduceIte]
  . obtain ⟨hi, hno⟩ := hi
    have hd := q1k3 hi hno
    rcases Nat.lt_or_ge i l.length with h9 | h9
    . obtain ⟨y, hx⟩ : ∃ y, l[i]? = some y := ⟨_, List.getElem?_eq_getElem h9⟩
      have hdr : l.drop i = y :: l.drop (i + 1) := by
        rw [List.drop_eq_getElem_cons h9]; congr 1; exact (List.getElem?_eq_some_iff.1 hx).2
      rw [hdr, ixW] at hd
      simp -implicitDefEqProofs only [eR', go_sem, hx, decide_eq_true (show (i : Int) < (l.length : Int) by omega)]
      refine ⟨by omega, by omega, by omega, fun h => ?_, fun h => ?_⟩
      . have h : x = y := by simpa using h
        rw [if_pos h] at hd
        refine hr _ ?_
        simp -implicitDefEqProofs only [eR', go_sem, hd]
      . have h : ¬ x = y := by simpa using h
        refine hn _ (i + 1) (Weak.o _ [] [] ?_ trivial) ⟨by omega, by rw [q0uj hx]; simp [hno, h]⟩ (by omega)
        simp -implicitDefEqProofs only [wR', Nat.reduceBEq, Nat.reduceEqDiff, ↓reduceIte, q0lb h9 (by omega)]
    . simp -implicitDefEqProofs only [eR', go_sem, decide_eq_false (show ¬ (i : Int) < (l.length : Int) by omega)]
      refine he _ _ ?_
      rw [List.drop_eq_nil_of_le h9, ixW] at hd
      simp -implicitDefEqProofs only [eR', go_sem, hd]
theorem q1ot (l : List Int) (x : Int) (hl : l.length <= 1000000) : Pure Try.prog 115 [ints l, .i x] (.b (decide (x ∈ l))) := by
  refine q1gr (by simp) ?_
  simp -implicitDefEqProofs only [eR', go_sem, q1bu]
  refine q006.p (q1ov l x hl) [] rfl Try.call45 ?_ ?_
  . simp -implicitDefEqProofs only [aR', go_sem]
  simp -implicitDefEqProofs only [eR', go_sem]
  simp only [q1k4]
def q1op (W : List Int) (a : Int) (k : Nat) : Int := if (k : Int) ∈ W then a / W.length else 0
def shTo (W : List Int) (a : Int) (n i : Nat) : List Int := tabT n fun k => if k < i then q1op W a k else 0
theorem q1oo (W : List Int) (a : Int) (n : Nat) : shTo W a n 0 = List.replicate n 0 := by
  refine List.ext_getElem? fun k => ?_
  by_cases h : k < n
  . rw [shTo, q1qj h, List.getElem?_replicate, if_pos h, if_neg (by omega)]
  . rw [List.getElem?_eq_none (by rw [shTo, q1qk]; omega), List.getElem?_eq_none (by simp; omega)]
theorem q1ol (W : List Int) (a : Int) (n : Nat) : shTo W a n n = tabT n (q1op W a) := by
  refine List.ext_getElem? fun k => ?_
  by_cases h : k < n
  . rw [shTo, q1qj h, q1qj h, if_pos h]
  . rw [List.getElem?_eq_none (by rw [shTo, q1qk]; omega), List.getElem?_eq_none (by rw [q1qk]; omega)]
theorem q1on {W : List Int} {a : Int} {n i : Nat} (h : (i : Int) ∉ W) : shTo W a n (i + 1) = shTo W a n i := by
  refine List.ext_getElem? fun k => ?_
  by_cases hk : k < n
  . rw [shTo, shTo, q1qj hk, q1qj hk]
    by_cases h1 : k < i
    . rw [if_pos h1, if_pos (by omega)]
    . rw [if_neg h1]
      by_cases h2 : k = i
      . subst h2; rw [if_pos (by omega), q1op, if_neg h]
      . rw [if_neg (by omega)]
  . rw [List.getElem?_eq_none (by rw [shTo, q1qk]; omega), List.getElem?_eq_none (by rw [shTo, q1qk]; omega)]
theorem q1om {W : List Int} {a : Int} {n i : Nat} (h : (i : Int) ∈ W) : (shTo W a n i).set i (a / W.length) = shTo W a n (i + 1) := by
  refine q1ql ?_ fun j hj => ?_
  . rw [if_pos (by omega), q1op, if_pos h]
  . by_cases h1 : j < i
    . rw [if_pos h1, if_pos (by omega)]
    . rw [if_neg h1, if_neg (by omega)]
theorem q1jq (a : Nat) (W : List Int) (n : Nat) (hn : n <= 1000) (hW : 0 < W.length) (hWl : W.length <= 1000) (ha : a <= 1000) (hd : a % W.length = 0) :
    Fun Try.prog 100 [] [.t (.i a), .t (ints W), .t (.i n), .t (.i 0)] fun o r => o = [] /\ r = intsO (tabT n (q1op W a)) := by
  have hl : ∀ i, (shTo W a n i).length = n := fun i => q1qk
  refine q1gg (by simp) ?_
  have hrem : ((a : Int)).tmod (W.length : Int) = 0 := by
    rw [Int.tmod_eq_emod_of_nonneg (by omega)]; omega
  have hquo : IntKind.i64.wrap (((a : Int)).tdiv (W.length : Int)) = (a : Int) / (W.length : Int) := by
    have h1 : 0 <= (a : Int) / (W.length : Int) := Int.ediv_nonneg (by omega) (by omega)
    have h2 : (a : Int) / (W.length : Int) <= a := Int.ediv_le_self _ (by omega)
    rw [Int.tdiv_eq_ediv_of_nonneg (by omega), wrap64 (by omega) (by omega)]
  simp -implicitDefEqProofs only [eR', go_sem, q1bj, hrem]
  refine ⟨by omega, by omega, by omega, ?_⟩
  refine SemC.loopR (σ := Nat) (fun i => St.of [(0, .t (.i a)), (1, .t (ints W)), (2, .t (.i n)), (3, .t (.i 0)), (9, .own 99), (10, .t (.i W.length)), (11, .t (.i 0)), (21, .t (.i n)), (22, .t (.i i))] [(99, .arr 1 ((shTo W a n i).map T.i))]) (fun i => i <= n) (fun i => n - i) 0 (Weak.o _ _ [some 15] ?_ ?_) (by omega) fun i hi R hn' hr he => ?_
  . simp -implicitDefEqProofs only [wR', Nat.reduceBEq, Nat.reduceEqDiff, ↓reduceIte]
  . refine ⟨⟨_, rfl, ?_⟩, rfl, trivial⟩
    rw [q0jc, q1oo, List.map_replicate]; exact .refl _
  . rcases Nat.lt_or_ge i n with h9 | h9
    . have hm : IntKind.i64.wrap (0 + (i : Int)) = (i : Int) := by rw [Int.zero_add, wrap64 (by omega) (by omega)]
      have hm2 : ((i : Int)).tmod (n : Int) = (i : Int) := by rw [Int.tmod_eq_emod_of_nonneg (by omega), Int.emod_eq_of_lt (by omega) (by omega)]
      simp -implicitDefEqProofs only [eR', go_sem, decide_eq_true (show (i : Int) < (n : Int) by omega), hm, hm2]
      refine ⟨by omega, ?_⟩
      by_cases hin : (i : Int) ∈ W
      . refine q006.p (q1ot W i (by omega)) [] rfl Try.call115 ?_ ?_
        . simp -implicitDefEqProofs only [aR', go_sem]
        simp -implicitDefEqProofs only [eR', go_sem, decide_eq_true hin, hquo, hl, show decide ((0 : Int) > 0) = false from rfl]
        refine ⟨by omega, by omega, by omega, by omega, ?_⟩
        refine hn' _ (i + 1) (Weak.of _ _ [some 99] (by simp) (by simp) ?_ ⟨⟨_, rfl, by rw [← q1om hin, List.map_set]; exact .refl _⟩, rfl, trivial⟩) (by omega) (by omega)
        simp -implicitDefEqProofs only [wR', Nat.reduceBEq, Nat.reduceEqDiff, ↓reduceIte, q0lb h9 (by omega)]
      . refine q006.p (q1ot W i (by omega)) [] rfl Try.call115 ?_ ?_
        . simp -implicitDefEqProofs only [aR', go_sem]
        simp -implicitDefEqProofs only [eR', go_sem, decide_eq_false hin]
        refine hn' _ (i + 1) (Weak.of _ _ [some 99] (by simp) (by simp) ?_ ⟨⟨_, rfl, by rw [q1on hin]; exact .refl _⟩, rfl, trivial⟩) (by omega) (by omega)
        simp -implicitDefEqProofs only [wR', Nat.reduceBEq, Nat.reduceEqDiff, ↓reduceIte, q0lb h9 (by omega)]
    . simp -implicitDefEqProofs only [eR', go_sem, decide_eq_false (show ¬ (i : Int) < (n : Int) by omega)]
      refine he _ _ ?_
      simp -implicitDefEqProofs only [eR', go_sem]
      rw [show i = n by omega, q1ol]; rfl
def addL (A B : List Int) : List Int := tabT A.length fun k => A.getD k 0 + B.getD k 0
def adTo (A B : List Int) (i : Nat) : List Int := tabT A.length fun k => if k < i then A.getD k 0 + B.getD k 0 else A.getD k 0
theorem q19p (A B : List Int) : adTo A B 0 = A := by
  refine List.ext_getElem? fun k => ?_
  by_cases h : k < A.length
  . rw [adTo, q1qj h, if_neg (by omega), List.getD_eq_getElem?_getD, List.getElem?_eq_getElem h]; rfl
  . rw [List.getElem?_eq_none (by rw [adTo, q1qk]; omega), List.getElem?_eq_none (by omega)]
theorem q19n (A B : List Int) : adTo A B A.length = addL A B := by
  refine List.ext_getElem? fun k => ?_
  by_cases h : k < A.length
  . rw [adTo, addL, q1qj h, q1qj h, if_pos h]
  . rw [List.getElem?_eq_none (by rw [adTo, q1qk]; omega), List.getElem?_eq_none (by rw [addL, q1qk]; omega)]
theorem q19o (A B : List Int) (i : Nat) : (adTo A B i).set i (A.getD i 0 + B.getD i 0) = adTo A B (i + 1) := by
  refine q1ql ?_ fun j hj => ?_
  . rw [if_pos (by omega)]
  . by_cases h1 : j < i
    . rw [if_pos h1, if_pos (by omega)]
    . rw [if_neg h1, if_neg (by omega)]
theorem q1j4 (a : Nat) (W A : List Int) (n : Nat) (hn : n <= 1000) (hW : 0 < W.length) (hWl : W.length <= 1000) (ha : a <= 1000) (hd : a % W.length = 0) (hA : A.length = n) (hAb : ∀ x ∈ A, 0 <= x /\ x <= 1000) :
    Fun Try.prog 99 [.box [.i n], .box [.i 0], .box [intsO A]] [.t (.i a), .t (ints W), .own 1000000000, .own 1000000001, .own 1000000002] fun o r => o = [.box [.i n], .box [.i 0], .box [intsO (addL A (tabT n (q1op W a)))]] /\ r = .tup [] := by
  refine q1fw (by simp) ?_
  simp -implicitDefEqProofs only [eR', go_sem, q1ax]
  refine q006.res (q1jq a W n hn hW hWl ha hd) [] rfl Try.call100 ?_ (.inl rfl) ?_
  . simp -implicitDefEqProofs only [aR', go_sem]
  simp -implicitDefEqProofs only [cR', go_sem, intsO]
  have hsl : (tabT n (q1op W a)).length = n := q1qk
  have hal : ∀ i, (adTo A (tabT n (q1op W a)) i).length = n := fun i => by rw [adTo, q1qk, hA]
  refine SemC.loopR (σ := Nat) (fun i => St.of [(4, .own 1000000002), (13, .own 13), (14, .t (.i n)), (15, .t (.i i))] [(1000000000, .box [.i n]), (1000000001, .box [.i 0]), (1000000002, .box [intsO (adTo A (tabT n (q1op W a)) i)]), (13, intsO (tabT n (q1op W a)))]) (fun i => i <= n) (fun i => n - i) 0 (Weak.o _ _ [some 1000000000, some 1000000001, some 1000000002, some 13] ?_ ?_) (by omega) fun i hi R hn' hr he => ?_
  . simp -implicitDefEqProofs only [wR', Nat.reduceBEq, Nat.reduceEqDiff, ↓reduceIte, hsl]
  . refine ⟨⟨_, rfl, .refl _⟩, rfl, ⟨_, rfl, .refl _⟩, rfl, ⟨_, rfl, ?_⟩, rfl, ⟨_, rfl, .refl _⟩, rfl, trivial⟩
    rw [q19p]; exact .refl _
  . rcases Nat.lt_or_ge i n with h9 | h9
    . have hS : (tabT n (q1op W a))[i]? = some (q1op W a i) := q1qj h9
      have hP : (adTo A (tabT n (q1op W a)) i)[i]? = some (A.getD i 0) := by rw [adTo, q1qj (by omega), if_neg (by omega)]
      have hSg : (tabT n (q1op W a)).getD i 0 = q1op W a i := by rw [List.getD_eq_getElem?_getD, hS]; rfl
      have hAi : 0 <= A.getD i 0 /\ A.getD i 0 <= 1000 := by
        obtain ⟨y, hy⟩ : ∃ y, A[i]? = some y := ⟨_, List.getElem?_eq_getElem (by omega)⟩
        rw [List.getD_eq_getElem?_getD, hy]; exact hAb y (List.mem_of_getElem? hy)
      have hSi : 0 <= q1op W a i /\ q1op W a i <= 1000 := by
        rw [q1op]
        split
        . have h1 : 0 <= (a : Int) / (W.length : Int) := Int.ediv_nonneg (by omega) (by omega)
          have h2 : (a : Int) / (W.length : Int) <= a := Int.ediv_le_self _ (by omega)
          omega
        . omega
      have hw : IntKind.i64.wrap (A.getD i 0 + q1op W a i) = A.getD i 0 + q1op W a i := wrap64 (by omega) (by omega)
      have hset := q19o A (tabT n (q1op W a)) i
      rw [hSg] at hset
      simp -implicitDefEqProofs only [eR', go_sem, intsO, hS, hP, hsl, hal, hw, decide_eq_true (show (i : Int) < (n : Int) by omega)]
      refine ⟨by omega, by omega, by omega, by omega, by omega, by omega, by omega, by omega, by omega, ?_⟩
      refine hn' _ (i + 1) (Weak.trans (Weak.close1 1000000002 0 20 rfl rfl (by decide) rfl) (Weak.o _ _ [some 1000000000, some 1000000001, some 1000000002, some 13] ?_ ?_)) (by omega) (by omega)
      . simp -implicitDefEqProofs only [wR', Nat.reduceBEq, Nat.reduceEqDiff, ↓reduceIte, q0lb h9 (by omega)]
      . refine ⟨⟨_, rfl, .refl _⟩, rfl, ⟨_, rfl, .refl _⟩, rfl, ⟨_, rfl, ?_⟩, rfl, ⟨_, rfl, .refl _⟩, rfl, trivial⟩
        rw [← hset, intsO, List.map_set]; exact .refl _
    . simp -implicitDefEqProofs only [eR', go_sem, decide_eq_false (show ¬ (i : Int) < (n : Int) by omega)]
      refine he _ _ ?_
      simp -implicitDefEqProofs only [eR', go_sem]
      rw [show i = A.length by omega, q19n]; rfl
end
section
attribute [-go_sem] q0i5 q0id fldC lenC idxC q0ip
def awL (n : Nat) (hw lw : List Int) : List Int :=
  if lw = [] then addL (List.replicate n 0) (tabT n (q1op hw 24)) else addL (addL (List.replicate n 0) (tabT n (q1op lw 12))) (tabT n (q1op hw 12))
theorem q1eg {k : Nat} (h : 0 < k) (h4 : k <= 4) : 12 % k = 0 /\ 24 % k = 0 := by
  have : k = 1 ∨ k = 2 ∨ k = 3 ∨ k = 4 := by omega
  rcases this with rfl | rfl | rfl | rfl <;> decide
theorem q1oq {W : List Int} {a k : Nat} (ha : a <= 24) : 0 <= q1op W a k /\ q1op W a k <= 24 := by
  rw [q1op]
  split
  . have h1 : 0 <= (a : Int) / (W.length : Int) := Int.ediv_nonneg (by omega) (by omega)
    have h2 : (a : Int) / (W.length : Int) <= a := Int.ediv_le_self _ (by omega)
    omega
  . omega
theorem q1j5 (n : Nat) (highs lows : List Int) (hn : n <= 4) (hh : highs.length = n) (hl : lows.length = n) (h0 : ∀ v ∈ highs, 0 <= v) (hw0 : q1a7 true highs (idsL n) ≠ []) :
    Fun Try.prog 83 [] [.t (.sh 2 [.i 24, ints (idsL n)]), .t (ints highs), .t (ints lows), .t (.i 0)] fun o r => o = [] /\ r = intsO (awL n (q1a7 true highs (idsL n)) (q1a7 false lows (idsL n))) := by
  have hil : (idsL n).length = n := q1qg
  have hH := q1je n highs (by omega) hh h0
  have hL := q1jk n lows (by omega) hl
  have hHl : (q1a7 true highs (idsL n)).length <= 4 := by have := q1a4 true highs (idsL n) (idsL n).length; rw [q1a7]; omega
  have hLl : (q1a7 false lows (idsL n)).length <= 4 := by have := q1a4 false lows (idsL n) (idsL n).length; rw [q1a7]; omega
  have hHp : 0 < (q1a7 true highs (idsL n)).length := List.length_pos_iff.2 hw0
  generalize q1a7 true highs (idsL n) = hw at hH hHl hHp
  generalize q1a7 false lows (idsL n) = lw at hL hLl
  refine q1fv (by simp) ?_
  simp -implicitDefEqProofs only [eR', go_sem, q1aw, hh]
  refine ⟨by omega, by omega, ?_⟩
  refine SemC.loopR (σ := Nat) (fun i => St.of [(1, .t (ints highs)), (2, .t (ints lows)), (10, .own 10), (11, .fn 99 [.own 9, .own 7, .own 10]), (21, .t (.sh 2 [.i 24, ints (idsL n)])), (22, .t (.i 1)), (23, .t (.i i))] [(9, .box [.i n]), (7, .box [.i 0]), (10, .box [intsO (if i = 0 then List.replicate n 0 else awL n hw lw)])]) (fun i => i <= 1) (fun i => 1 - i) 0 (Weak.o _ _ [some 9, some 7, some 10] ?_ ?_) (by omega) fun i hi R hn' hr he => ?_
  . simp -implicitDefEqProofs only [wR', Nat.reduceBEq, Nat.reduceEqDiff, ↓reduceIte]
    exact ⟨rfl, rfl, rfl, rfl⟩
  . refine ⟨⟨_, rfl, .refl _⟩, rfl, ⟨_, rfl, .refl _⟩, rfl, ⟨_, rfl, ?_⟩, rfl, trivial⟩
    rw [if_pos rfl, q0jc, intsO, List.map_replicate]; exact .refl _
  . rcases Nat.eq_zero_or_pos i with h9 | h9
    . subst h9
      simp -implicitDefEqProofs only [eR', go_sem, show decide (((0 : Nat) : Int) < 1) = true from rfl]
      refine ⟨by omega, ?_⟩
      refine q000.res hH [] rfl Try.call101 (fun e R' hR => ?_) (.inl rfl) ?_
      . simp -implicitDefEqProofs only [aR', go_sem]
      simp -implicitDefEqProofs only [cR', go_sem]
      have hns : ∀ X : List Int, (T.tup []).noSh /\ T.noShL [T.box [T.i n], T.box [T.i 0], T.box [intsO X]] := fun X => ⟨trivial, by simp [T.noSh, T.noShL], by simp [T.noSh, T.noShL], ⟨q0fh X, trivial⟩, trivial⟩
      have hz : (List.replicate n (0 : Int)).length = n := by simp
      have hzb : ∀ x ∈ List.replicate n (0 : Int), 0 <= x /\ x <= 1000 := fun x hx => by have := List.eq_of_mem_replicate hx; omega
      rcases Nat.eq_zero_or_pos lw.length with h8 | h8
      . refine q000.res hL [] rfl Try.call102 (fun e R' hR => ?_) (.inl rfl) ?_
        . simp -implicitDefEqProofs only [aR', go_sem]
        simp -implicitDefEqProofs only [cR', go_sem, intsO, h8, decide_eq_true (show (hw.length : Int) > 0 by omega), show decide (((0 : Nat) : Int) > 0) = false from rfl]
        have hA := q1j4 24 hw (List.replicate n 0) n (by omega) hHp (by omega) (by omega) (q1eg hHp hHl).2 hz hzb
        refine q006.ref hA [9, 7, 10] [30] rfl Try.call99 (by simp) ?_ (by simp) ?_ (.inr (hns _)) ?_
        . simp -implicitDefEqProofs only [sR', Nat.reduceEqDiff, ↓reduceIte]
        . simp -implicitDefEqProofs only [aR', go_sem]
        simp -implicitDefEqProofs only [cR', go_sem, intsO]
        refine hn' _ 1 (Weak.o _ _ [some 9, some 7, some 10] ?_ ?_) (by omega) (by omega)
        . simp -implicitDefEqProofs only [wR', Nat.reduceBEq, Nat.reduceEqDiff, ↓reduceIte, show IntKind.i64.wrap (((0 : Nat) : Int) + 1) = ((1 : Nat) : Int) from rfl]
          exact ⟨⟨rfl, rfl, rfl, rfl⟩, .inr (.inl rfl)⟩
        . refine ⟨⟨_, rfl, .refl _⟩, rfl, ⟨_, rfl, .refl _⟩, rfl, ⟨_, rfl, ?_⟩, rfl, trivial⟩
          rw [if_neg (by omega), awL, if_pos (List.eq_nil_of_length_eq_zero h8)]; exact .refl _
      . refine q000.res hL [] rfl Try.call102 (fun e R' hR => ?_) (.inl rfl) ?_
        . simp -implicitDefEqProofs only [aR', go_sem]
        simp -implicitDefEqProofs only [cR', go_sem, intsO, decide_eq_true (show (hw.length : Int) > 0 by omega), decide_eq_true (show (lw.length : Int) > 0 by omega), show IntKind.i64.wrap ((24 : Int).tdiv 2) = 12 from rfl]
        refine ⟨by omega, ?_⟩
        have hA := q1j4 12 lw (List.replicate n 0) n (by omega) h8 (by omega) (by omega) (q1eg h8 hLl).1 hz hzb
        refine q006.ref hA [9, 7, 10] [34] rfl Try.call99 (by simp) ?_ (by simp) ?_ (.inr (hns _)) ?_
        . simp -implicitDefEqProofs only [sR', Nat.reduceEqDiff, ↓reduceIte]
        . simp -implicitDefEqProofs only [aR', go_sem]
        simp -implicitDefEqProofs only [cR', go_sem, intsO, show IntKind.i64.wrap ((24 : Int).tdiv 2) = 12 from rfl, show IntKind.i64.wrap (24 - 12) = 12 from rfl]
        refine ⟨by omega, ?_⟩
        have hz2 : (addL (List.replicate n (0 : Int)) (tabT n (q1op lw ((12 : Nat) : Int)))).length = n := by rw [addL, q1qk, hz]
        have hzb2 : ∀ x ∈ addL (List.replicate n (0 : Int)) (tabT n (q1op lw ((12 : Nat) : Int))), 0 <= x /\ x <= 1000 := fun x hx => by
          obtain ⟨k, hk, rfl⟩ := List.mem_map.1 hx
          have hk : k < n := by simpa using hk
          have h1 : (List.replicate n (0 : Int)).getD k 0 = 0 := by rw [List.getD_eq_getElem?_getD, List.getElem?_replicate, if_pos hk]; rfl
          have h2 : (tabT n (q1op lw ((12 : Nat) : Int))).getD k 0 = q1op lw ((12 : Nat) : Int) k := by rw [List.getD_eq_getElem?_getD, q1qj hk]; rfl
          have := q1oq (W := lw) (a := 12) (k := k) (by omega)
          simp only [h1, h2]; omega
        have hB := q1j4 12 hw _ n (by omega) hHp (by omega) (by omega) (q1eg hHp hHl).1 hz2 hzb2
        simp only [intsO] at hB
        refine q006.ref hB [9, 7, 10] [30] rfl Try.call99 (by simp) ?_ (by simp) ?_ (.inr (hns _)) ?_
        . simp -implicitDefEqProofs only [sR', Nat.reduceEqDiff, ↓reduceIte]
        . simp -implicitDefEqProofs only [aR', go_sem]
        simp -implicitDefEqProofs only [cR', go_sem, intsO]
        refine hn' _ 1 (Weak.o _ _ [some 9, some 7, some 10] ?_ ?_) (by omega) (by omega)
        . simp -implicitDefEqProofs only [wR', Nat.reduceBEq, Nat.reduceEqDiff, ↓reduceIte, show IntKind.i64.wrap (((0 : Nat) : Int) + 1) = ((1 : Nat) : Int) from rfl]
          exact ⟨⟨rfl, rfl, rfl, rfl⟩, .inr (.inl rfl)⟩
        . refine ⟨⟨_, rfl, .refl _⟩, rfl, ⟨_, rfl, .refl _⟩, rfl, ⟨_, rfl, ?_⟩, rfl, trivial⟩
          rw [if_neg (by omega), awL, if_neg (fun e => by rw [e] at h8; simp at h8)]; exact .refl _
    . have h1 : i = 1 := by omega
      subst h1
      simp -implicitDefEqProofs only [eR', go_sem, show decide (((1 : Nat) : Int) < 1) = false from rfl]
      refine he _ _ ?_
      simp -implicitDefEqProofs only [eR', go_sem, intsO]
end
section
attribute [-go_sem] q0i5 q0id fldC lenC idxC q0ip
def q1mq (H L : List Int) : List Int := awL H.length (q1a7 true H (idsL H.length)) (q1a7 false L (idsL H.length))
theorem q1a8 {vals : List Int} {n : Nat} (hv : vals.length = n) (h0 : ∀ v ∈ vals, 0 <= v) : ∀ j, 1 <= j -> j <= n -> 0 <= (q1a3 true vals (idsL n) j).1 /\ (q1a3 true vals (idsL n) j).2 ≠ []
  | 0, h, _ => by omega
  | j + 1, _, hj => by
    have hx : (idsL n)[j]? = some (j : Int) := q1qf (by omega)
    have hg : (idsL n).getD j 0 = (j : Int) := by rw [List.getD_eq_getElem?_getD, hx]; rfl
    obtain ⟨v, hvx⟩ : ∃ v, vals[j]? = some v := ⟨_, List.getElem?_eq_getElem (by omega)⟩
    have hv0 := h0 v (List.mem_of_getElem? hvx)
    have hvg : vals.getD ((idsL n).getD j 0).toNat 0 = v := by rw [hg, Int.toNat_natCast, List.getD_eq_getElem?_getD, hvx]; rfl
    rw [q1a3, hvg, hg, q01x, if_neg (by omega)]
    split
    . exact ⟨hv0, by simp⟩
    . rename_i h1
      have h2 : ¬ (q1a3 true vals (idsL n) j).1 < 0 := fun e => h1 (.inl e)
      split
      . exact ⟨by simp only []; omega, by simp⟩
      . rcases Nat.eq_zero_or_pos j with e | e
        . subst e; exact absurd (show (q1a3 true vals (idsL n) 0).1 < 0 by simp [q1a3]) h2
        . exact q1a8 hv h0 j e (by omega)
theorem q1jn (v a b c : Int) (d : Bool) (lw : Int) (hsv : Pure Try.prog 49 [.i v] (.agg [.i a, .i b, .i c, .i 5, .b d, .i lw])) (holes : List (List Int)) (board : List Int) (hn : holes.length <= 4) (hn1 : 1 <= holes.length) (hv lv : List Int -> Int)
    (hhi : ∀ h ∈ holes, Pure Try.prog 81 [.agg [.i a, .i b, .i c, .i 5, .b d, .i lw], ints h, ints board] (.i (hv h)))
    (hlo : lw ≠ 0 -> ∀ h ∈ holes, Pure Try.prog 82 [.agg [.i a, .i b, .i c, .i 5, .b d, .i lw], ints h, ints board] (.i (lv h))) (hlz : lw = 0 -> ∀ h, lv h = -1) (h0 : ∀ h ∈ holes, 0 <= hv h) :
    Fun Try.prog 58 [] [.t (.i v), .t (rows holes), .t (ints board)] fun o r => o = [] /\ r = intsO (q1mq (holes.map hv) (holes.map lv)) := by
  have hml : (holes.map hv).length = holes.length := by simp
  have hll : (holes.map lv).length = holes.length := by simp
  have hil : (idsL holes.length).length = holes.length := q1qg
  refine q1gd (by simp) ?_
  simp -implicitDefEqProofs only [eR', go_sem, q1bg]
  refine q006.p hsv [] rfl Try.call49 ?_ ?_
  . simp -implicitDefEqProofs only [aR', go_sem]
  simp -implicitDefEqProofs only [eR', go_sem]
  refine ⟨by omega, by omega, by omega, by omega, by omega, by omega, ?_⟩
  refine SemC.loopR (σ := Nat) (fun i => St.of [(2, .t (ints board)), (7, .own 97), (8, .own 98), (9, .own 99), (10, .own 100), (24, .t (rows holes)), (25, .t (.i holes.length)), (26, .t (.i i))] [(97, .box [.i a, .i b, .i c, .i 5, .b d, .i lw]), (98, .arr 1 (((idsL holes.length).take i ++ List.replicate (holes.length - i) 0).map T.i)), (99, .arr 1 (((holes.map hv).take i ++ List.replicate (holes.length - i) 0).map T.i)), (100, .arr 1 (((holes.map lv).take i ++ List.replicate (holes.length - i) 0).map T.i))]) (fun i => i <= holes.length) (fun i => holes.length - i) 0 (Weak.o _ _ [some 7, some 17, some 20, some 23] ?_ ?_) (by omega) fun i hi R hn' hr he => ?_
  . simp -implicitDefEqProofs only [wR', Nat.reduceBEq, Nat.reduceEqDiff, ↓reduceIte]
  . refine ⟨⟨_, rfl, .refl _⟩, rfl, ⟨_, rfl, ?_⟩, rfl, ⟨_, rfl, ?_⟩, rfl, ⟨_, rfl, ?_⟩, rfl, trivial⟩
    all_goals
      simp only [List.take_zero, List.nil_append, Nat.sub_zero, q0jc, List.map_replicate]
      exact .refl _
  . have hfl : ∀ A : List Int, A.length = holes.length -> (A.take i ++ List.replicate (holes.length - i) 0).length = holes.length := fun A hA => by simp [hA]; omega
    rcases Nat.lt_or_ge i holes.length with h9 | h9
    . obtain ⟨h, hx⟩ : ∃ h, holes[i]? = some h := ⟨_, List.getElem?_eq_getElem h9⟩
      have hm := List.mem_of_getElem? hx
      simp -implicitDefEqProofs only [eR', go_sem, hx, hfl _ hil, decide_eq_true (show (i : Int) < (holes.length : Int) by omega)]
      have hI : (idsL holes.length)[i]? = some (i : Int) := q1qf h9
      have hH : (holes.map hv)[i]? = some (hv h) := by rw [List.getElem?_map, hx]; rfl
      have hL : (holes.map lv)[i]? = some (lv h) := by rw [List.getElem?_map, hx]; rfl
      have hc0 := hhi h hm
      refine ⟨by omega, by omega, by omega, by omega, by omega, by omega, ?_⟩
      by_cases hlw : lw = 0
      . have hlvz := hlz hlw h
        rw [hlvz] at hL
        refine q006.p hc0 [] rfl Try.call81 ?_ ?_
        . simp -implicitDefEqProofs only [aR', go_sem]
        simp -implicitDefEqProofs only [eR', go_sem, hfl _ hml, hfl _ hll, show (lw != 0) = false from by rw [hlw]; rfl]
        refine ⟨by omega, by omega, by omega, by omega, by omega, by omega, ?_⟩
        refine hn' _ (i + 1) (Weak.o _ _ [some 97, some 98, some 99, some 100] ?_ ?_) (by omega) (by omega)
        . simp -implicitDefEqProofs only [wR', Nat.reduceBEq, Nat.reduceEqDiff, ↓reduceIte, q0lb h9 (by omega)]
        . rw [← q1ez hI h9, ← q1ez hH h9, ← q1ez hL h9, List.map_set, List.map_set, List.map_set]
          exact ⟨⟨_, rfl, .refl _⟩, rfl, ⟨_, rfl, .refl _⟩, rfl, ⟨_, rfl, .refl _⟩, rfl, ⟨_, rfl, .refl _⟩, rfl, trivial⟩
      . have hc1 := hlo hlw h hm
        refine q006.p hc0 [] rfl Try.call81 ?_ ?_
        . simp -implicitDefEqProofs only [aR', go_sem]
        simp -implicitDefEqProofs only [eR', go_sem, hfl _ hml, hfl _ hll, show (lw != 0) = true from by rw [bne_iff_ne]; exact hlw]
        refine ⟨by omega, by omega, by omega, by omega, by omega, by omega, ?_⟩
        refine q006.p hc1 [] rfl Try.call82 ?_ ?_
        . simp -implicitDefEqProofs only [aR', go_sem]
        simp -implicitDefEqProofs only [eR', go_sem, hfl _ hml, hfl _ hll, List.length_set, List.set_set]
        refine ⟨by omega, by omega, by omega, ?_⟩
        refine hn' _ (i + 1) (Weak.o _ _ [some 97, some 98, some 99, some 100] ?_ ?_) (by omega) (by omega)
        . simp -implicitDefEqProofs only [wR', Nat.reduceBEq, Nat.reduceEqDiff, ↓reduceIte, q0lb h9 (by omega)]
        . rw [← q1ez hI h9, ← q1ez hH h9, ← q1ez hL h9, List.map_set, List.map_set, List.map_set]
          refine ⟨⟨_, rfl, .refl _⟩, rfl, ⟨_, rfl, .refl _⟩, rfl, ⟨_, rfl, .refl _⟩, rfl, ⟨_, rfl, ?_⟩, rfl, trivial⟩
          first | exact .refl _ | (rw [List.set_set]; exact .refl _)
    . simp -implicitDefEqProofs only [eR', go_sem, decide_eq_false (show ¬ (i : Int) < (holes.length : Int) by omega)]
      refine he _ _ ?_
      have e : i = holes.length := by omega
      have ef : ∀ A : List Int, A.length = holes.length -> A.take i ++ List.replicate (holes.length - i) 0 = A := fun A hA => by
        rw [e, Nat.sub_self, List.replicate_zero, List.append_nil, ← hA, List.take_length]
      rw [ef _ hil, ef _ hml, ef _ hll]
      have hb := q1a8 hml (fun x hx => by obtain ⟨h, h1, rfl⟩ := List.mem_map.1 hx; exact h0 h h1) holes.length hn1 (Nat.le_refl _)
      have haw := q1j5 holes.length (holes.map hv) (holes.map lv) hn hml hll (fun x hx => by obtain ⟨h, h1, rfl⟩ := List.mem_map.1 hx; exact h0 h h1) (by rw [q1a7, hil]; exact hb.2)
      simp -implicitDefEqProofs only [eR', go_sem]
      refine q006.res haw [58, 99, 100] rfl Try.call83 ?_ (.inr (q0fh _)) ?_
      . simp -implicitDefEqProofs only [aR', go_sem]
      simp -implicitDefEqProofs only [cR', go_sem]
      rw [q1mq, hml]
end
section
attribute [-go_sem] q0i5 q0id fldC lenC idxC q0ip
theorem q1a6 (hi : Bool) (vals : List Int) (n : Nat) : ∀ j, j <= n -> (∀ w ∈ (q1a3 hi vals (idsL n) j).2, ∃ k : Nat, k < j /\ w = (k : Int)) /\ (q1a3 hi vals (idsL n) j).2.Nodup
  | 0, _ => ⟨fun w h => by simp [q1a3] at h, by simp [q1a3]⟩
  | j + 1, hj => by
    obtain ⟨h1, h2⟩ := q1a6 hi vals n j (by omega)
    have hx : (idsL n)[j]? = some (j : Int) := q1qf (by omega)
    have hg : (idsL n).getD j 0 = (j : Int) := by rw [List.getD_eq_getElem?_getD, hx]; rfl
    rw [q1a3, hg, q01x]
    split
    . exact ⟨fun w hw => by obtain ⟨k, a, b⟩ := h1 w hw; exact ⟨k, by omega, b⟩, h2⟩
    . split
      . exact ⟨fun w hw => ⟨j, by omega, by simpa using hw⟩, by simp⟩
      . split
        . refine ⟨fun w hw => ?_, ?_⟩
          . rcases List.mem_append.1 hw with hw | hw
            . obtain ⟨k, a, b⟩ := h1 w hw; exact ⟨k, by omega, b⟩
            . exact ⟨j, by omega, by simpa using hw⟩
          . rw [List.nodup_append]
            refine ⟨h2, by simp, fun x hx y hy e => ?_⟩
            have hy : y = (j : Int) := by simpa using hy
            obtain ⟨k, a, b⟩ := h1 x hx
            omega
        . exact ⟨fun w hw => by obtain ⟨k, a, b⟩ := h1 w hw; exact ⟨k, by omega, b⟩, h2⟩
def outT (n : Nat) (base : Nat -> Int) (W : List Int) (x : Int) (i : Nat) : List Int := tabT n fun k => base k + if (k : Int) ∈ W.take i then x else 0
theorem q1mk {n : Nat} {base : Nat -> Int} {W : List Int} {x : Int} {i w : Nat} (hx : W[i]? = some (w : Int)) (hnd : W.Nodup) : (outT n base W x i).set w (base w + x) = outT n base W x (i + 1) := by
  refine q1ql ?_ fun j hj => ?_
  . rw [if_pos (by rw [q0uj hx]; simp)]
  . have : ((j : Int) ∈ W.take (i + 1)) ↔ (j : Int) ∈ W.take i := by
      rw [q0uj hx]; simp; omega
    simp only [this]
theorem q1mn {n : Nat} {base : Nat -> Int} {W : List Int} {x : Int} {i w : Nat} (hx : W[i]? = some (w : Int)) (hnd : W.Nodup) (hw : w < n) : (outT n base W x i)[w]? = some (base w) := by
  rw [outT, q1qj hw]
  have : (w : Int) ∉ W.take i := by
    intro h
    have h2 := hnd.sublist (List.take_sublist (i + 1) W)
    rw [q0uj hx, List.nodup_append] at h2
    exact h2.2.2 _ h _ (by simp) rfl
  rw [if_neg this, Int.add_zero]
theorem q1a1 (n : Nat) (hw lw : List Int) : awL n hw lw = outT n (fun k => 0 + if (k : Int) ∈ hw.take hw.length then (if lw = [] then 24 else 12) / (hw.length : Int) else 0) lw ((if lw = [] then 24 else 12) / (lw.length : Int)) lw.length := by
  have hr : (List.replicate n (0 : Int)).length = n := by simp
  have hr0 : ∀ k, k < n -> (List.replicate n (0 : Int)).getD k 0 = 0 := fun k h => by rw [List.getD_eq_getElem?_getD, List.getElem?_replicate, if_pos h]; rfl
  have hg : ∀ (F : Nat -> Int) k, k < n -> (tabT n F).getD k 0 = F k := fun F k h => by rw [List.getD_eq_getElem?_getD, q1qj h]; rfl
  refine List.ext_getElem? fun k => ?_
  by_cases hk : k < n
  . rw [outT, q1qj hk, List.take_length, List.take_length]
    unfold awL
    by_cases hl : lw = []
    . subst hl
      simp only [if_pos, if_true]
      rw [addL, q1qj (by rw [hr]; exact hk), hr0 k hk, hg _ k hk, q1op]; simp
    . rw [if_neg hl, if_neg hl, addL, q1qj (by rw [addL, q1qk, hr]; exact hk), hg _ k hk]
      have : (addL (List.replicate n 0) (tabT n (q1op lw 12))).getD k 0 = q1op lw 12 k := by
        rw [addL, hr, hg _ k hk, hr0 k hk, hg _ k hk, Int.zero_add]
      rw [this, q1op, q1op]
      congr 1
      simp only [Int.zero_add]
      exact Int.add_comm _ _
  . rw [List.getElem?_eq_none (by unfold awL; split <;> simp [addL, q1qk]; all_goals omega), List.getElem?_eq_none (by rw [outT, q1qk]; omega)]
end
section
attribute [-go_sem] q0i5 q0id fldC lenC idxC q0ip
def loOf : Nat -> Nat | 0 => 0 | _ => 2
def hoOf : Nat -> Nat | 0 => 2 | _ => 4
def lwOf : Nat -> Int | 2 => 1 | _ => 0
def hvV (v : Nat) (board h : List Int) : Int := maxV (q1if (loOf v) 2 h board)
def lvV (v : Nat) (board h : List Int) : Int := if v = 2 then lowR (q1if (loOf v) 2 h board) else -1
theorem q1q1 : ∀ v, v <= 2 -> List.take 6 (List.drop (v * 6) [T.i 2, T.i 0, T.i 2, T.i 5, T.b true, T.i 0, T.i 4, T.i 2, T.i 2, T.i 5, T.b true, T.i 0, T.i 4, T.i 2, T.i 2, T.i 5, T.b true, T.i 1, T.i 7, T.i 5, T.i 5, T.i 0, T.b true, T.i 0, T.i 7, T.i 5, T.i 5, T.i 0, T.b true, T.i 1, T.i 7, T.i 5, T.i 5, T.i 0, T.b false, T.i 2, T.i 5, T.i 5, T.i 5, T.i 0, T.b true, T.i 0, T.i 5, T.i 5, T.i 5, T.i 0, T.b false, T.i 3]) = [.i (hoOf v : Nat), .i (loOf v : Nat), .i (2 : Nat), .i 5, .b true, .i (lwOf v)]
  | 0, _ => rfl | 1, _ => rfl | 2, _ => rfl | n + 3, h => by omega
theorem q1kw : ∀ {v : Nat}, v <= 2 -> v ≠ 2 -> lwOf v = 0
  | 0, _, _ => rfl | 1, _, _ => rfl | 2, _, h => absurd rfl h | n + 3, h, _ => by omega
theorem q1ku : ∀ v, loOf v <= 2
  | 0 => by decide | n + 1 => Nat.le_refl 2
theorem q1is : ∀ v, hoOf v <= 4
  | 0 => by decide | n + 1 => Nat.le_refl 4
theorem q1id {lo hi : Nat} {hole board h : List Int} (hhi : hi <= 5) (hc : q1cv (hole ++ board)) (hh : h ∈ q1if lo hi hole board) : q1cv h /\ h.length = 5 := by
  obtain ⟨n, a, b, h1, h2, h3, h4, h5, h6, rfl⟩ := q1ig.1 hh
  have hs : (a ++ b).Sublist (hole ++ board) := h3.append h5
  refine ⟨⟨hc.1.sublist hs, fun x hx => hc.2 x (hs.subset hx)⟩, ?_⟩
  rw [List.length_append]; omega
theorem q1ml (n : Nat) (base : Nat -> Int) (W : List Int) (x : Int) : outT n base W x 0 = tabT n base := by
  refine List.ext_getElem? fun k => ?_
  by_cases h : k < n
  . rw [outT, q1qj h, q1qj h]; simp
  . rw [List.getElem?_eq_none (by rw [outT, q1qk]; omega), List.getElem?_eq_none (by rw [q1qk]; omega)]
theorem q1mm (n : Nat) (W : List Int) (x : Int) : outT n (fun _ => 0) W x 0 = List.replicate n 0 := by
  refine List.ext_getElem? fun k => ?_
  by_cases h : k < n
  . rw [outT, q1qj h, List.getElem?_replicate, if_pos h]; simp
  . rw [List.getElem?_eq_none (by rw [outT, q1qk]; omega), List.getElem?_eq_none (by simp; omega)]
theorem q1pw (v : Nat) (hv3 : v <= 2) (holes : List (List Int)) (board : List Int) (hn : holes.length <= 4) (hn1 : 1 <= holes.length) (hc : ∀ h ∈ holes, q1cv (h ++ board) /\ h.length = hoOf v) (h5 : board.length = 5) :
    Fun Try.prog 59 [] [.t (.i v), .t (rows holes), .t (ints board)] fun o r => o = [] /\ r = intsO (q1mq (holes.map (hvV v board)) (holes.map (lvV v board))) := by
  refine q1hp (by simp) ?_
  simp -implicitDefEqProofs only [eR', go_sem, q1cs]
  have hcut := q1q1 v hv3
  refine q006.res q1pr [] rfl Try.call54 ?_ (.inl rfl) ?_
  . simp -implicitDefEqProofs only [aR', go_sem]
  simp -implicitDefEqProofs only [cR', go_sem, stdT, hcut]
  refine ⟨by omega, by omega, by omega, ?_⟩
  have hml : (holes.map (hvV v board)).length = holes.length := by simp
  have hll : (holes.map (lvV v board)).length = holes.length := by simp
  have hil : (idsL holes.length).length = holes.length := q1qg
  have hlo := q1ku v
  have hho := q1is v
  refine SemC.loopR (σ := Nat) (fun i => St.of [(1, .t (rows holes)), (2, .t (ints board)), (7, .own 97), (8, .own 98), (9, .own 99), (10, .own 100), (11, .t (.i i))] [(97, .box [.i (hoOf v : Nat), .i (loOf v : Nat), .i (2 : Nat), .i 5, .b true, .i (lwOf v)]), (98, .arr 1 (((holes.map (hvV v board)).take i).map T.i)), (99, .arr 1 (((holes.map (lvV v board)).take i).map T.i)), (100, .arr 1 (((idsL holes.length).take i).map T.i))]) (fun i => i <= holes.length) (fun i => holes.length - i) 0 (Weak.of _ _ [some 7, some 28, some 29, some 30] (by simp) (by simp) ?_ ⟨⟨_, rfl, .refl _⟩, rfl, ⟨_, rfl, .refl _⟩, rfl, ⟨_, rfl, .refl _⟩, rfl, ⟨_, rfl, .refl _⟩, rfl, trivial⟩) (by omega) fun i hi R hn' hr he => ?_
  . simp -implicitDefEqProofs only [wR', Nat.reduceBEq, Nat.reduceEqDiff, ↓reduceIte]
  . rcases Nat.lt_or_ge i holes.length with h9 | h9
    . obtain ⟨h, hx⟩ : ∃ h, holes[i]? = some h := ⟨_, List.getElem?_eq_getElem h9⟩
      obtain ⟨hcd, hhl⟩ := hc h (List.mem_of_getElem? hx)
      have hI : (idsL holes.length)[i]? = some (i : Int) := q1qf h9
      have hH : (holes.map (hvV v board))[i]? = some (hvV v board h) := by rw [List.getElem?_map, hx]; rfl
      have hL : (holes.map (lvV v board))[i]? = some (lvV v board h) := by rw [List.getElem?_map, hx]; rfl
      have hhd := q1po (hoOf v) (loOf v) 2 true (lwOf v) h board (by omega) (by omega) hlo (by omega)
      simp only [vGen] at hhd
      have hhc : ∀ x ∈ q1if (loOf v) 2 h board, q1cv x /\ x.length = 5 := fun x hx => q1id (by omega) hcd hx
      have hhn : (q1if (loOf v) 2 h board).length <= 100000 := by
        rw [← q1ii]
        have := q1ij (lo := loOf v) (hole := h) (board := board) (by omega) (by omega) (2 + 1 - loOf v)
        omega
      have hhv : hvV v board h = maxV (q1if (loOf v) 2 h board) := rfl
      have hlv : lvV v board h = if v = 2 then lowR (q1if (loOf v) 2 h board) else -1 := rfl
      generalize hvV v board h = hv at hH hhv
      generalize lvV v board h = lv at hL hlv
      generalize q1if (loOf v) 2 h board = HH at hhd hhc hhn hhv hlv
      have hhigh := q1pp HH hhc hhn
      rw [← hhv] at hhigh
      have htl : ∀ A : List Int, (A.take i).length <= 4 := fun A => by rw [List.length_take]; omega
      have t1 := htl (holes.map (hvV v board))
      have t2 := htl (holes.map (lvV v board))
      have t3 := htl (idsL holes.length)
      simp -implicitDefEqProofs only [eR', go_sem, hx, decide_eq_true (show (i : Int) < (holes.length : Int) by omega)]
      refine ⟨by omega, by omega, by omega, ?_⟩
      refine q000.res hhd [] rfl Try.call84 (fun e R' hR => ?_) (.inl rfl) ?_
      . simp -implicitDefEqProofs only [aR', go_sem]
      simp -implicitDefEqProofs only [cR', go_sem]
      by_cases hv2 : v = 2
      . have hlow : Pure Try.prog 86 [.agg [.i (hoOf v : Nat), .i (loOf v : Nat), .i (2 : Nat), .i 5, .b true, .i (lwOf v)], rows HH] (.tup [.i (lowX HH HH.length), .i (lowT HH HH.length)]) := by subst hv2; exact q1pq HH hhc hhn
        have hcnt : Pure Try.prog 87 [.agg [.i (hoOf v : Nat), .i (loOf v : Nat), .i (2 : Nat), .i 5, .b true, .i (lwOf v)], .i (lowT HH HH.length)] (.b (decide (0 <= lowT HH HH.length /\ lowT HH HH.length <= 228487))) := by subst hv2; exact q1pn _
        rw [if_pos hv2, lowR] at hlv
        generalize lowT HH HH.length = m at hlow hcnt hlv
        generalize lowX HH HH.length = mx at hlow
        refine q006.p hhigh [43] rfl Try.call85 ?_ ?_
        . simp -implicitDefEqProofs only [aR', go_sem]
        simp -implicitDefEqProofs only [eR', go_sem, show (lwOf v != 0) = true from by rw [hv2]; rfl]
        refine q006.p hlow [43] rfl Try.call86 ?_ ?_
        . simp -implicitDefEqProofs only [aR', go_sem]
        simp -implicitDefEqProofs only [eR', go_sem]
        by_cases hP : 0 <= m /\ m <= 228487
        . rw [if_pos hP] at hlv
          subst hlv
          refine q006.p hcnt [] rfl Try.call87 ?_ ?_
          . simp -implicitDefEqProofs only [aR', go_sem]
          simp -implicitDefEqProofs only [eR', go_sem, decide_eq_true hP]
          refine ⟨by omega, by omega, by omega, ?_⟩
          refine hn' _ (i + 1) (Weak.o _ _ [some 97, some 65, some 69, some 73] ?_ ?_) (by omega) (by omega)
          . simp -implicitDefEqProofs only [wR', Nat.reduceBEq, Nat.reduceEqDiff, ↓reduceIte, q0lb h9 (by omega)]
          . rw [q0uj hI, q0uj hH, q0uj hL, List.map_append, List.map_append, List.map_append]
            exact ⟨⟨_, rfl, .refl _⟩, rfl, ⟨_, rfl, .refl _⟩, rfl, ⟨_, rfl, .refl _⟩, rfl, ⟨_, rfl, .refl _⟩, rfl, trivial⟩
        . rw [if_neg hP] at hlv
          subst hlv
          refine q006.p hcnt [] rfl Try.call87 ?_ ?_
          . simp -implicitDefEqProofs only [aR', go_sem]
          simp -implicitDefEqProofs only [eR', go_sem, decide_eq_false hP]
          refine ⟨by omega, by omega, by omega, ?_⟩
          refine hn' _ (i + 1) (Weak.o _ _ [some 97, some 65, some 69, some 73] ?_ ?_) (by omega) (by omega)
          . simp -implicitDefEqProofs only [wR', Nat.reduceBEq, Nat.reduceEqDiff, ↓reduceIte, q0lb h9 (by omega)]
          . rw [q0uj hI, q0uj hH, q0uj hL, List.map_append, List.map_append, List.map_append]
            exact ⟨⟨_, rfl, .refl _⟩, rfl, ⟨_, rfl, .refl _⟩, rfl, ⟨_, rfl, .refl _⟩, rfl, ⟨_, rfl, .refl _⟩, rfl, trivial⟩
      . have hlz := q1kw hv3 hv2
        rw [if_neg hv2] at hlv
        subst hlv
        refine q006.p hhigh [43] rfl Try.call85 ?_ ?_
        . simp -implicitDefEqProofs only [aR', go_sem]
        simp -implicitDefEqProofs only [eR', go_sem, show (lwOf v != 0) = false from by rw [hlz]; rfl]
        refine ⟨by omega, by omega, by omega, ?_⟩
        refine hn' _ (i + 1) (Weak.o _ _ [some 97, some 65, some 69, some 73] ?_ ?_) (by omega) (by omega)
        . simp -implicitDefEqProofs only [wR', Nat.reduceBEq, Nat.reduceEqDiff, ↓reduceIte, q0lb h9 (by omega)]
        . rw [q0uj hI, q0uj hH, q0uj hL, List.map_append, List.map_append, List.map_append]
          exact ⟨⟨_, rfl, .refl _⟩, rfl, ⟨_, rfl, .refl _⟩, rfl, ⟨_, rfl, .refl _⟩, rfl, ⟨_, rfl, .refl _⟩, rfl, trivial⟩
    . simp -implicitDefEqProofs only [eR', go_sem, decide_eq_false (show ¬ (i : Int) < (holes.length : Int) by omega)]
      refine he _ _ ?_
      have e : i = holes.length := by omega
      have ef : ∀ A : List Int, A.length = holes.length -> A.take i = A := fun A hA => by rw [e, ← hA, List.take_length]
      rw [ef _ hil, ef _ hml, ef _ hll]
      have hbH := q1pt true holes.length _ (by omega) hml
      have hbL := q1pt false holes.length _ (by omega) hll
      have hout := q1a1 holes.length (q1a7 true (holes.map (hvV v board)) (idsL holes.length)) (q1a7 false (holes.map (lvV v board)) (idsL holes.length))
      rw [q1mq, hml, hout]
      obtain ⟨hwm, hwd⟩ := q1a6 true (holes.map (hvV v board)) holes.length holes.length (Nat.le_refl _)
      obtain ⟨lwm, lwd⟩ := q1a6 false (holes.map (lvV v board)) holes.length holes.length (Nat.le_refl _)
      have eH : (q1a3 true (holes.map (hvV v board)) (idsL holes.length) holes.length).2 = q1a7 true (holes.map (hvV v board)) (idsL holes.length) := by rw [q1a7, hil]
      have eL : (q1a3 false (holes.map (lvV v board)) (idsL holes.length) holes.length).2 = q1a7 false (holes.map (lvV v board)) (idsL holes.length) := by rw [q1a7, hil]
      have hHl := q1a4 true (holes.map (hvV v board)) (idsL holes.length) holes.length
      have hLl := q1a4 false (holes.map (lvV v board)) (idsL holes.length) holes.length
      rw [eH] at hwm hwd hHl
      rw [eL] at lwm lwd hLl
      generalize q1a7 true (holes.map (hvV v board)) (idsL holes.length) = hw at hbH hout hwm hwd hHl ⊢
      generalize q1a7 false (holes.map (lvV v board)) (idsL holes.length) = lw at hbL hout lwm lwd hLl ⊢
      simp -implicitDefEqProofs only [eR', go_sem]
      refine ⟨by omega, by omega, ?_⟩
      refine q006.res hbH [100, 98] rfl Try.call88 ?_ (.inr (q0fh _)) ?_
      . simp -implicitDefEqProofs only [aR', go_sem]
      simp -implicitDefEqProofs only [cR', go_sem]
      refine q006.res hbL [100, 99] rfl Try.call88 ?_ (.inr (q0fh _)) ?_
      . simp -implicitDefEqProofs only [aR', go_sem]
      simp -implicitDefEqProofs only [cR', go_sem, intsO]
      by_cases h8 : lw = []
      . have hP : (if lw = [] then (24 : Int) else 12) = 24 := by rw [if_pos h8]
        try rw [hP] at hout
        have hqh : IntKind.i64.wrap ((24 : Int).tdiv (hw.length : Int)) = (24 : Int) / (hw.length : Int) := by
          rw [Int.tdiv_eq_ediv_of_nonneg (by omega)]
          have h1 : 0 <= (24 : Int) / (hw.length : Int) := Int.ediv_nonneg (by omega) (by omega)
          have h2 : (24 : Int) / (hw.length : Int) <= 24 := Int.ediv_le_self _ (by omega)
          exact wrap64 (by omega) (by omega)
        have hqb : ∀ k : Nat, 0 <= (0 + if (k : Int) ∈ hw.take hw.length then (24 : Int) / (hw.length : Int) else 0) /\ (0 + if (k : Int) ∈ hw.take hw.length then (24 : Int) / (hw.length : Int) else 0) <= 24 := fun k => by
          have h1 : 0 <= (24 : Int) / (hw.length : Int) := Int.ediv_nonneg (by omega) (by omega)
          have h2 : (24 : Int) / (hw.length : Int) <= 24 := Int.ediv_le_self _ (by omega)
          split <;> omega
        have hz : ¬ ((lw.length : Int) > 0) := by rw [h8]; simp
        simp only [hP]
        refine ⟨fun h => absurd h hz, fun _ => ?_⟩
        refine SemC.loopR (σ := Nat) (fun i => St.of [(18, .own 118), (19, .own 119), (20, .own 120), (21, .t (.i 24)), (22, .t (.i i))] [(118, .arr 1 ((outT holes.length (fun _ => 0) hw ((24 : Int) / (hw.length : Int)) i).map T.i)), (119, .arr 1 (hw.map T.i)), (120, .arr 1 (lw.map T.i))]) (fun i => i <= hw.length) (fun i => hw.length - i) 0 (Weak.o _ _ [some 76, some 79, some 82] ?_ ?_) (by omega) fun i hi R hn' hr he => ?_
        . simp -implicitDefEqProofs only [wR', Nat.reduceBEq, Nat.reduceEqDiff, ↓reduceIte]
        . refine ⟨⟨_, rfl, ?_⟩, rfl, ⟨_, rfl, .refl _⟩, rfl, ⟨_, rfl, .refl _⟩, rfl, trivial⟩
          rw [q1mm, q0jc, List.map_replicate]; exact .refl _
        . rcases Nat.lt_or_ge i hw.length with h9 | h9
          . obtain ⟨x, hx⟩ : ∃ x, hw[i]? = some x := ⟨_, List.getElem?_eq_getElem h9⟩
            obtain ⟨w, hwn, rfl⟩ := hwm x (List.mem_of_getElem? hx)
            have hS := q1mk (n := holes.length) (base := fun _ => (0 : Int)) (x := (24 : Int) / (hw.length : Int)) hx hwd
            have hA := q1mn (n := holes.length) (base := fun _ => (0 : Int)) (x := (24 : Int) / (hw.length : Int)) hx hwd hwn
            simp only [Int.zero_add] at hS
            have hol : (outT holes.length (fun _ => (0 : Int)) hw ((24 : Int) / (hw.length : Int)) i).length = holes.length := q1qk
            simp -implicitDefEqProofs only [eR', go_sem, hx, hol, hqh, decide_eq_true (show (i : Int) < (hw.length : Int) by omega)]
            refine ⟨by omega, by omega, by omega, by omega, by omega, by omega, by omega, ?_⟩
            refine hn' _ (i + 1) (Weak.o _ _ [some 118, some 119, some 120] ?_ ?_) (by omega) (by omega)
            . simp -implicitDefEqProofs only [wR', Nat.reduceBEq, Nat.reduceEqDiff, ↓reduceIte, q0lb h9 (by omega)]
            . refine ⟨⟨_, rfl, ?_⟩, rfl, ⟨_, rfl, .refl _⟩, rfl, ⟨_, rfl, .refl _⟩, rfl, trivial⟩
              rw [← hS, List.map_set]; exact .refl _
          . simp -implicitDefEqProofs only [eR', go_sem, decide_eq_false (show ¬ (i : Int) < (hw.length : Int) by omega)]
            refine he _ _ ?_
            simp -implicitDefEqProofs only [eR', go_sem]
            rw [show i = hw.length by omega]
            generalize hbs : (fun k : Nat => (0 : Int) + if (k : Int) ∈ hw.take hw.length then (24 : Int) / (hw.length : Int) else 0) = base at hqb ⊢
            have hbt : outT holes.length (fun _ => 0) hw ((24 : Int) / (hw.length : Int)) hw.length = tabT holes.length base := by rw [← hbs]; rfl
            rw [hbt]
            have hqb2 : ∀ k, 0 <= base k /\ base k <= 24 := fun k => by rw [← hbs]; exact hqb k
            refine SemC.loopR (σ := Nat) (fun i => St.of [(18, .own 118), (20, .own 120), (21, .t (.i 24)), (23, .t (.i i))] [(118, .arr 1 ((outT holes.length base lw ((24 : Int) / (lw.length : Int)) i).map T.i)), (120, .arr 1 (lw.map T.i))]) (fun i => i <= lw.length) (fun i => lw.length - i) 0 (Weak.o _ _ [some 118, some 120] ?_ ?_) (by omega) fun i hi R hn' hr he => ?_
            . simp -implicitDefEqProofs only [wR', Nat.reduceBEq, Nat.reduceEqDiff, ↓reduceIte]
            . refine ⟨⟨_, rfl, ?_⟩, rfl, ⟨_, rfl, .refl _⟩, rfl, trivial⟩
              rw [q1ml]; exact .refl _
            . rcases Nat.lt_or_ge i lw.length with h9 | h9
              . obtain ⟨x, hx⟩ : ∃ x, lw[i]? = some x := ⟨_, List.getElem?_eq_getElem h9⟩
                obtain ⟨w, lwn, rfl⟩ := lwm x (List.mem_of_getElem? hx)
                have hS := q1mk (n := holes.length) (base := base) (x := (24 : Int) / (lw.length : Int)) hx lwd
                have hA := q1mn (n := holes.length) (base := base) (x := (24 : Int) / (lw.length : Int)) hx lwd lwn
                have hol : (outT holes.length base lw ((24 : Int) / (lw.length : Int)) i).length = holes.length := q1qk
                have h1 : 0 <= (24 : Int) / (lw.length : Int) := Int.ediv_nonneg (by omega) (by omega)
                have h2 : (24 : Int) / (lw.length : Int) <= 24 := Int.ediv_le_self _ (by omega)
                have hql : IntKind.i64.wrap ((24 : Int).tdiv (lw.length : Int)) = (24 : Int) / (lw.length : Int) := by
                  rw [Int.tdiv_eq_ediv_of_nonneg (by omega)]; exact wrap64 (by omega) (by omega)
                have hbw := hqb2 w
                have hadd : IntKind.i64.wrap (base w + (24 : Int) / (lw.length : Int)) = base w + (24 : Int) / (lw.length : Int) := wrap64 (by omega) (by omega)
                simp -implicitDefEqProofs only [eR', go_sem, hx, hol, hA, hql, hadd, decide_eq_true (show (i : Int) < (lw.length : Int) by omega)]
                refine ⟨by omega, by omega, by omega, by omega, by omega, by omega, by omega, by omega, by omega, by omega, by omega, by omega, by omega, ?_⟩
                refine hn' _ (i + 1) (Weak.o _ _ [some 118, some 120] ?_ ?_) (by omega) (by omega)
                . simp -implicitDefEqProofs only [wR', Nat.reduceBEq, Nat.reduceEqDiff, ↓reduceIte, q0lb h9 (by omega)]
                . refine ⟨⟨_, rfl, ?_⟩, rfl, ⟨_, rfl, .refl _⟩, rfl, trivial⟩
                  rw [← hS, List.map_set]; exact .refl _
              . simp -implicitDefEqProofs only [eR', go_sem, decide_eq_false (show ¬ (i : Int) < (lw.length : Int) by omega)]
                refine he _ _ ?_
                simp -implicitDefEqProofs only [eR', go_sem]
                rw [show i = lw.length by omega]
      . have hP : (if lw = [] then (24 : Int) else 12) = 12 := by rw [if_neg h8]
        try rw [hP] at hout
        have hqh : IntKind.i64.wrap ((12 : Int).tdiv (hw.length : Int)) = (12 : Int) / (hw.length : Int) := by
          rw [Int.tdiv_eq_ediv_of_nonneg (by omega)]
          have h1 : 0 <= (12 : Int) / (hw.length : Int) := Int.ediv_nonneg (by omega) (by omega)
          have h2 : (12 : Int) / (hw.length : Int) <= 12 := Int.ediv_le_self _ (by omega)
          exact wrap64 (by omega) (by omega)
        have hqb : ∀ k : Nat, 0 <= (0 + if (k : Int) ∈ hw.take hw.length then (12 : Int) / (hw.length : Int) else 0) /\ (0 + if (k : Int) ∈ hw.take hw.length then (12 : Int) / (hw.length : Int) else 0) <= 12 := fun k => by
          have h1 : 0 <= (12 : Int) / (hw.length : Int) := Int.ediv_nonneg (by omega) (by omega)
          have h2 : (12 : Int) / (hw.length : Int) <= 12 := Int.ediv_le_self _ (by omega)
          split <;> omega
        have hz : (lw.length : Int) > 0 := by have := List.length_pos_iff.2 h8; omega
        simp only [hP]
        refine ⟨fun _ => ?_, fun h => absurd hz h⟩
        refine SemC.loopR (σ := Nat) (fun i => St.of [(18, .own 118), (19, .own 119), (20, .own 120), (21, .t (.i 12)), (22, .t (.i i))] [(118, .arr 1 ((outT holes.length (fun _ => 0) hw ((12 : Int) / (hw.length : Int)) i).map T.i)), (119, .arr 1 (hw.map T.i)), (120, .arr 1 (lw.map T.i))]) (fun i => i <= hw.length) (fun i => hw.length - i) 0 (Weak.o _ _ [some 76, some 79, some 82] ?_ ?_) (by omega) fun i hi R hn' hr he => ?_
        . simp -implicitDefEqProofs only [wR', Nat.reduceBEq, Nat.reduceEqDiff, ↓reduceIte]
        . refine ⟨⟨_, rfl, ?_⟩, rfl, ⟨_, rfl, .refl _⟩, rfl, ⟨_, rfl, .refl _⟩, rfl, trivial⟩
          rw [q1mm, q0jc, List.map_replicate]; exact .refl _
        . rcases Nat.lt_or_ge i hw.length with h9 | h9
          . obtain ⟨x, hx⟩ : ∃ x, hw[i]? = some x := ⟨_, List.getElem?_eq_getElem h9⟩
            obtain ⟨w, hwn, rfl⟩ := hwm x (List.mem_of_getElem? hx)
            have hS := q1mk (n := holes.length) (base := fun _ => (0 : Int)) (x := (12 : Int) / (hw.length : Int)) hx hwd
            have hA := q1mn (n := holes.length) (base := fun _ => (0 : Int)) (x := (12 : Int) / (hw.length : Int)) hx hwd hwn
            simp only [Int.zero_add] at hS
            have hol : (outT holes.length (fun _ => (0 : Int)) hw ((12 : Int) / (hw.length : Int)) i).length = holes.length := q1qk
            simp -implicitDefEqProofs only [eR', go_sem, hx, hol, hqh, decide_eq_true (show (i : Int) < (hw.length : Int) by omega)]
            refine ⟨by omega, by omega, by omega, by omega, by omega, by omega, by omega, ?_⟩
            refine hn' _ (i + 1) (Weak.o _ _ [some 118, some 119, some 120] ?_ ?_) (by omega) (by omega)
            . simp -implicitDefEqProofs only [wR', Nat.reduceBEq, Nat.reduceEqDiff, ↓reduceIte, q0lb h9 (by omega)]
            . refine ⟨⟨_, rfl, ?_⟩, rfl, ⟨_, rfl, .refl _⟩, rfl, ⟨_, rfl, .refl _⟩, rfl, trivial⟩
              rw [← hS, List.map_set]; exact .refl _
          . simp -implicitDefEqProofs only [eR', go_sem, decide_eq_false (show ¬ (i : Int) < (hw.length : Int) by omega)]
            refine he _ _ ?_
            simp -implicitDefEqProofs only [eR', go_sem]
            rw [show i = hw.length by omega]
            generalize hbs : (fun k : Nat => (0 : Int) + if (k : Int) ∈ hw.take hw.length then (12 : Int) / (hw.length : Int) else 0) = base at hqb ⊢
            have hbt : outT holes.length (fun _ => 0) hw ((12 : Int) / (hw.length : Int)) hw.length = tabT holes.length base := by rw [← hbs]; rfl
            rw [hbt]
            have hqb2 : ∀ k, 0 <= base k /\ base k <= 12 := fun k => by rw [← hbs]; exact hqb k
            refine SemC.loopR (σ := Nat) (fun i => St.of [(18, .own 118), (20, .own 120), (21, .t (.i 12)), (23, .t (.i i))] [(118, .arr 1 ((outT holes.length base lw ((12 : Int) / (lw.length : Int)) i).map T.i)), (120, .arr 1 (lw.map T.i))]) (fun i => i <= lw.length) (fun i => lw.length - i) 0 (Weak.o _ _ [some 118, some 120] ?_ ?_) (by omega) fun i hi R hn' hr he => ?_
            . simp -implicitDefEqProofs only [wR', Nat.reduceBEq, Nat.reduceEqDiff, ↓reduceIte]
            . refine ⟨⟨_, rfl, ?_⟩, rfl, ⟨_, rfl, .refl _⟩, rfl, trivial⟩
              rw [q1ml]; exact .refl _
            . rcases Nat.lt_or_ge i lw.length with h9 | h9
              . obtain ⟨x, hx⟩ : ∃ x, lw[i]? = some x := ⟨_, List.getElem?_eq_getElem h9⟩
                obtain ⟨w, lwn, rfl⟩ := lwm x (List.mem_of_getElem? hx)
                have hS := q1mk (n := holes.length) (base := base) (x := (12 : Int) / (lw.length : Int)) hx lwd
                have hA := q1mn (n := holes.length) (base := base) (x := (12 : Int) / (lw.length : Int)) hx lwd lwn
                have hol : (outT holes.length base lw ((12 : Int) / (lw.length : Int)) i).length = holes.length := q1qk
                have h1 : 0 <= (12 : Int) / (lw.length : Int) := Int.ediv_nonneg (by omega) (by omega)
                have h2 : (12 : Int) / (lw.length : Int) <= 12 := Int.ediv_le_self _ (by omega)
                have hql : IntKind.i64.wrap ((12 : Int).tdiv (lw.length : Int)) = (12 : Int) / (lw.length : Int) := by
                  rw [Int.tdiv_eq_ediv_of_nonneg (by omega)]; exact wrap64 (by omega) (by omega)
                have hbw := hqb2 w
                have hadd : IntKind.i64.wrap (base w + (12 : Int) / (lw.length : Int)) = base w + (12 : Int) / (lw.length : Int) := wrap64 (by omega) (by omega)
                simp -implicitDefEqProofs only [eR', go_sem, hx, hol, hA, hql, hadd, decide_eq_true (show (i : Int) < (lw.length : Int) by omega)]
                refine ⟨by omega, by omega, by omega, by omega, by omega, by omega, by omega, by omega, by omega, by omega, by omega, by omega, by omega, ?_⟩
                refine hn' _ (i + 1) (Weak.o _ _ [some 118, some 120] ?_ ?_) (by omega) (by omega)
                . simp -implicitDefEqProofs only [wR', Nat.reduceBEq, Nat.reduceEqDiff, ↓reduceIte, q0lb h9 (by omega)]
                . refine ⟨⟨_, rfl, ?_⟩, rfl, ⟨_, rfl, .refl _⟩, rfl, trivial⟩
                  rw [← hS, List.map_set]; exact .refl _
              . simp -implicitDefEqProofs only [eR', go_sem, decide_eq_false (show ¬ (i : Int) < (lw.length : Int) by omega)]
                refine he _ _ ?_
                simp -implicitDefEqProofs only [eR', go_sem]
                rw [show i = lw.length by omega]
end
section
attribute [-go_sem] q0i5 q0id fldC lenC idxC q0ip
theorem q1iv {board h : List Int} (hc : q1cv (h ++ board)) (h2 : h.length = 2) (h5 : board.length = 5) : hvV 0 board h = valI (h ++ board) := q1it hc h2 h5
theorem q1l7 {H : List (List Int)} {h : List Int} (hh : h ∈ H) : 0 <= maxV H := by
  have := (q1fk (l := H.map fun h => (valI h : Int)) (m := -1)).2 (valI h : Int) (List.mem_map.2 ⟨h, hh, rfl⟩)
  have h2 : (0 : Int) <= (valI h : Int) := by omega
  exact Int.le_trans h2 this
theorem q1iu : ∀ {v : Nat}, v <= 2 -> ∀ {board h : List Int}, h.length = hoOf v -> board.length = 5 -> 0 <= hvV v board h := by
  intro v hv board h hl h5
  have hlo := q1ku v
  have hex : ∃ n, loOf v <= n /\ n <= 2 /\ n <= h.length := ⟨2, hlo, by omega, by
    have : v = 0 ∨ v = 1 ∨ v = 2 := by omega
    rcases this with rfl | rfl | rfl <;> (rw [hl]; decide)⟩
  obtain ⟨n, h1, h2, h3⟩ := hex
  refine q1l7 (h := h.take n ++ board.take (5 - n)) (q1ig.2 ⟨n, h.take n, board.take (5 - n), h1, h2, List.take_sublist _ _, by rw [List.length_take]; omega, List.take_sublist _ _, by rw [List.length_take]; omega, rfl⟩)
def q1o6 (v : Nat) (holes : List (List Int)) (board : List Int) : List Int := q1mq (holes.map (hvV v board)) (holes.map (lvV v board))
theorem q0eu (v : Nat) (hv3 : v <= 2) (holes : List (List Int)) (board : List Int) (hn : holes.length <= 4) (hn1 : 1 <= holes.length) (hc : ∀ h ∈ holes, q1cv (h ++ board) /\ h.length = hoOf v) (h5 : board.length = 5) :
    Fun Try.prog 58 [] [.t (.i v), .t (rows holes), .t (ints board)] fun o r => o = [] /\ r = intsO (q1o6 v holes board) := by
  have : v = 0 ∨ v = 1 ∨ v = 2 := by omega
  rcases this with rfl | rfl | rfl
  . exact q1jn _ 2 0 2 true 0 (q1jr 0 (by omega)) holes board hn hn1 (hvV 0 board) (lvV 0 board)
      (fun h hh => by
        obtain ⟨h1, h2⟩ := hc h hh
        rw [q1iv h1 h2 h5]
        exact q1jc h board h1 h2 h5) (fun h => absurd rfl h) (fun _ h => rfl) (fun h hh => q1iu (by omega) (hc h hh).2 h5)
  . exact q1jn _ 4 2 2 true 0 (q1jr 1 (by omega)) holes board hn hn1 (hvV 1 board) (lvV 1 board)
      (fun h hh => q1jd 0 h board (hc h hh).1 (hc h hh).2 h5) (fun h => absurd rfl h) (fun _ h => rfl) (fun h hh => q1iu (by omega) (hc h hh).2 h5)
  . exact q1jn _ 4 2 2 true 1 (q1jr 2 (by omega)) holes board hn hn1 (hvV 2 board) (lvV 2 board)
      (fun h hh => q1jd 1 h board (hc h hh).1 (hc h hh).2 h5) (fun _ h hh => q1jh h board (hc h hh).1 (hc h hh).2 h5) (fun h => absurd h (by decide)) (fun h hh => q1iu (by omega) (hc h hh).2 h5)
end
section
variable {P : Program} {n : Nat} {S : St} {K : St -> Prop}
theorem Weak.aggT (d : Nat) (l : List T) (h : S.env d = .agg (l.map A.t)) : Weak n S ⟨upd S.env d (.t (.agg l)), S.roots⟩ := by
  intro X w0 O0 a w hs fp g
  refine ⟨hs, fp, { g with env := fun i => ?_ }⟩
  by_cases hi : i = d
  . subst hi
    show Is _ _ _ (upd S.env i _ i) _
    rw [q0x2]
    have := g.env i
    rw [h] at this
    generalize a.tmps.getD i undef = y at this
    cases this with
    | agg hl hr =>
      refine .t (.agg l _ (by simpa using hl) fun j hj => ?_)
      have h2 := hr j (by simpa using hj)
      rw [List.getElem_map] at h2
      cases h2 with
      | t h3 => exact h3
  . show Is _ _ _ (upd S.env d _ i) _
    rw [q0x1 _ _ _ _ hi]; exact g.env i
theorem q006.pureT {d : Nat} {fo : Operand} {ops : List Operand} {f : FuncId} {cap : List A} {args : List T} {l : List T} (hF : Pure P f args (.agg l)) (bor : List Nat) (hfo : fnA (S.ev fo) = some (f, cap)) (hcall : ∀ args w, (callFunc f args).run P w = .ok (.enter f args) w)
    (hargs : vaL S [] bor (args.map A.t) (ops.map S.ev ++ cap)) (hns : (T.agg l).noSh) (hx : absT d 0 (.agg l) = (.agg (l.map A.t), [], 0)) (hk : K { S with env := upd S.env d (.t (.agg l)) }) : q006 P n (some d) fo ops K S := fun o ts h1 h2 h3 X w0 O0 a w hs fp g Q => by
  have h := q006.pure (n := n) (K := fun S' => S' = { S with env := upd S.env d (.agg (l.map A.t)) }) hF bor hfo hcall hargs hns hx rfl o ts h1 h2 h3 X w0 O0 a w hs fp g Q
  refine Go.Oper.wp_mono (fun a' w' ⟨S', hs', fp', g', e⟩ => ?_) h
  subst e
  obtain ⟨hs2, fp2, g2⟩ := Weak.aggT d l (q0x2 _ _ _) _ _ _ _ _ _ _ g'
  rw [q1rd] at g2
  exact ⟨_, hs2, fp2, g2, hk⟩
end
section
attribute [-go_sem] q0i5 q0id fldC lenC idxC q0ip
def q1ec (k : Nat) (holes : List (List Int)) (board dead : List Int) : Prop := 2 <= holes.length /\ holes.length <= 4 /\ 3 <= board.length /\ board.length <= 5 /\ (∀ h ∈ holes, h.length = hoOf k) /\ q1cv ((board ++ dead) ++ holes.flatten)
instance (k : Nat) (holes : List (List Int)) (board dead : List Int) : Decidable (q1ec k holes board dead) := inferInstanceAs (Decidable (_ /\ _ /\ _ /\ _ /\ _ /\ _))
def q1eb (v : Int) (holes : List (List Int)) (board dead : List Int) : Bool := decide (0 <= v /\ v <= 2) && decide (q1ec v.toNat holes board dead)
theorem q1rj : ∀ k, k <= 2 -> varT k = .agg [.i (hoOf k : Nat), .i (loOf k : Nat), .i (2 : Nat), .i 5, .b true, .i (lwOf k)]
  | 0, _ => rfl | 1, _ => rfl | 2, _ => rfl | n + 3, h => by omega
theorem q1fc {L : List (List Int)} {i : Nat} {l : List Int} (h : L[i]? = some l) : (L.take (i + 1)).flatten = (L.take i).flatten ++ l := by rw [q0uj h]; simp
theorem q1f9 (L : List (List Int)) (i : Nat) : (L.take i).flatten.length <= L.flatten.length := by
  have h := congrArg (fun M : List (List Int) => M.flatten.length) (List.take_append_drop i L)
  simp only [List.flatten_append, List.length_append] at h
  omega
theorem q1iz (v : Int) (holes : List (List Int)) (board dead : List Int) (hh : holes.flatten.length <= 2000000) (hhn : holes.length <= 2000000) (hb : board.length <= 2000000) (hd : dead.length <= 2000000) :
    Pure Try.prog 23 [.i v, rows holes, ints board, ints dead] (.b (q1eb v holes board dead)) := by
  refine q1fq (by simp) ?_
  simp -implicitDefEqProofs only [eR', go_sem, q1ar]
  by_cases h1 : 0 <= v /\ v <= 2
  . obtain ⟨k, rfl⟩ : ∃ k : Nat, v = k := ⟨v.toNat, by omega⟩
    have hk : k <= 2 := by omega
    rw [q1eb, decide_eq_true h1, Bool.true_and, Int.toNat_natCast]
    refine q006.p (q0f9 k 0 2) [] rfl Try.call47 ?_ ?_
    . simp -implicitDefEqProofs only [aR', go_sem]
    simp -implicitDefEqProofs only [eR', go_sem, decide_eq_true h1, show (!true) = false from rfl]
    by_cases h2 : 2 <= (holes.length : Int) /\ (holes.length : Int) <= 4
    . refine q006.p (q0f9 holes.length 2 4) [] rfl Try.call47 ?_ ?_
      . simp -implicitDefEqProofs only [aR', go_sem]
      simp -implicitDefEqProofs only [eR', go_sem, decide_eq_true h2, show (!true) = false from rfl]
      by_cases h3 : 3 <= (board.length : Int) /\ (board.length : Int) <= 5
      . refine q006.p (q0f9 board.length 3 5) [] rfl Try.call47 ?_ ?_
        . simp -implicitDefEqProofs only [aR', go_sem]
        simp -implicitDefEqProofs only [eR', go_sem, decide_eq_true h3, show (!true) = false from rfl]
        have hcc := q1os [board, dead] (by simp) (by simp; omega) (by intro h; simp at h; rw [h.1] at h3; simp at h3)
        simp only [List.flatten_cons, List.flatten_nil, List.append_nil] at hcc
        refine q006.res hcc [29] rfl Try.call48 ?_ (.inr (q0fh _)) ?_
        . simp -implicitDefEqProofs only [aR', go_sem]
        simp -implicitDefEqProofs only [cR', go_sem, intsO]
        have hsv := q1jr k hk
        rw [q1rj k hk] at hsv
        refine SemC.loopR (σ := Nat) (fun i => St.of [(0, .t (.i k)), (9, .own 95), (31, .t (rows holes)), (32, .t (.i holes.length)), (33, .t (.i i))] [(95, .arr 1 (((board ++ dead) ++ (holes.take i).flatten).map T.i))]) (fun i => i <= holes.length /\ ∀ h ∈ holes.take i, h.length = hoOf k) (fun i => holes.length - i) 0 (Weak.o _ _ [some 30] ?_ ?_) ⟨by omega, by simp⟩ fun i hi R hn hr he => ?_
        . simp -implicitDefEqProofs only [wR', Nat.reduceBEq, Nat.reduceEqDiff, ↓reduceIte]
        . refine ⟨⟨_, rfl, ?_⟩, rfl, trivial⟩
          simp; exact .refl _
        . obtain ⟨hi, hall⟩ := hi
          rcases Nat.lt_or_ge i holes.length with h9 | h9
          . obtain ⟨h, hx⟩ : ∃ h, holes[i]? = some h := ⟨_, List.getElem?_eq_getElem h9⟩
            have hm := List.mem_of_getElem? hx
            have hfl2 := q1f9 holes (i + 1)
            rw [q1fc hx, List.length_append] at hfl2
            have hxl : ((board ++ dead) ++ (holes.take i).flatten).length <= 8000000 := by rw [List.length_append, List.length_append]; omega
            simp -implicitDefEqProofs only [eR', go_sem, hx, decide_eq_true (show (i : Int) < (holes.length : Int) by omega)]
            refine ⟨by omega, by omega, by omega, ?_⟩
            by_cases hl : h.length = hoOf k
            . refine q006.pureT hsv [] rfl Try.call49 ?_ (by first | trivial | simp [T.noSh, T.noShL, rat]) rfl ?_
              . simp -implicitDefEqProofs only [aR', go_sem]
              simp -implicitDefEqProofs only [eR', go_sem, show (((h.length : Nat) : Int) != ((hoOf k : Nat) : Int)) = false from by rw [hl]; exact bne_self_eq_false _]
              refine ⟨by omega, ?_⟩
              refine hn _ (i + 1) (Weak.o _ _ [some 45] ?_ ?_) ⟨by omega, fun x hx2 => ?_⟩ (by omega)
              . simp -implicitDefEqProofs only [wR', Nat.reduceBEq, Nat.reduceEqDiff, ↓reduceIte, q0lb h9 (by omega)]
              . refine ⟨⟨_, rfl, ?_⟩, rfl, trivial⟩
                rw [q1fc hx]; simp only [List.map_append, List.append_assoc]; exact .refl _
              . rw [q0uj hx] at hx2
                rcases List.mem_append.1 hx2 with h7 | h7
                . exact hall x h7
                . have : x = h := by simpa using h7
                  rw [this]; exact hl
            . refine q006.pureT hsv [] rfl Try.call49 ?_ (by first | trivial | simp [T.noSh, T.noShL, rat]) rfl ?_
              . simp -implicitDefEqProofs only [aR', go_sem]
              simp -implicitDefEqProofs only [eR', go_sem, show (((h.length : Nat) : Int) != ((hoOf k : Nat) : Int)) = true from by rw [bne_iff_ne]; omega]
              refine hr _ ?_
              simp -implicitDefEqProofs only [eR', go_sem, decide_eq_false (show ¬ q1ec k holes board dead from fun hp => hl (hp.2.2.2.2.1 h hm))]
          . simp -implicitDefEqProofs only [eR', go_sem, decide_eq_false (show ¬ (i : Int) < (holes.length : Int) by omega)]
            refine he _ _ ?_
            rw [List.take_of_length_le h9] at hall ⊢
            have hac := q1iw ((board ++ dead) ++ holes.flatten) (by rw [List.length_append, List.length_append]; omega)
            have hpe : areB ((board ++ dead) ++ holes.flatten) = decide (q1ec k holes board dead) := by
              rw [areB, decide_eq_decide]
              exact ⟨fun h => ⟨by omega, by omega, by omega, by omega, hall, h⟩, fun h => h.2.2.2.2.2⟩
            rw [hpe] at hac
            simp -implicitDefEqProofs only [eR', go_sem]
            refine q006.p hac [95] rfl Try.call50 ?_ ?_
            . simp -implicitDefEqProofs only [aR', go_sem]
            simp -implicitDefEqProofs only [eR', go_sem]
      . refine q006.p (q0f9 board.length 3 5) [] rfl Try.call47 ?_ ?_
        . simp -implicitDefEqProofs only [aR', go_sem]
        simp -implicitDefEqProofs only [eR', go_sem, decide_eq_false h3, show (!false) = true from rfl]
        rw [decide_eq_false (show ¬ q1ec k holes board dead from fun hp => h3 ⟨by have := hp.2.2.1; omega, by have := hp.2.2.2.1; omega⟩)]
    . refine q006.p (q0f9 holes.length 2 4) [] rfl Try.call47 ?_ ?_
      . simp -implicitDefEqProofs only [aR', go_sem]
      simp -implicitDefEqProofs only [eR', go_sem, decide_eq_false h2, show (!false) = true from rfl]
      rw [decide_eq_false (show ¬ q1ec k holes board dead from fun hp => h2 ⟨by have := hp.1; omega, by have := hp.2.1; omega⟩)]
  . rw [q1eb, decide_eq_false h1, Bool.false_and]
    refine q006.p (q0f9 v 0 2) [] rfl Try.call47 ?_ ?_
    . simp -implicitDefEqProofs only [aR', go_sem]
    simp -implicitDefEqProofs only [eR', go_sem, decide_eq_false h1, show (!false) = true from rfl]
end
end Go.Ab

/- The cards that are left, and all boards, of the reference; the cards that are left, of the program. -/
namespace Go.Ab
open Go.Proofs
section
attribute [-go_sem] q0i5 q0id fldC lenC idxC q0ip
def q1nk (holes : List (List Int)) (board dead : List Int) : List Int := q1mf ((board ++ dead) ++ holes.flatten)
theorem q1mh {l m : List Int} (h : ∀ x, x ∈ l ↔ x ∈ m) : q1mf l = q1mf m := by
  simp only [q1mf, q1mg, h]
theorem q1nm (holes : List (List Int)) (board dead : List Int) : (q1nk holes board dead).length <= 52 := q1md _ 52
theorem q1cw {l m : List Int} (h : l.Perm m) (hl : q1cv l) : q1cv m := ⟨h.nodup_iff.1 hl.1, fun x hx => hl.2 x (h.mem_iff.2 hx)⟩
theorem q1jp (holes : List (List Int)) (board dead : List Int) (hhn : holes.length <= 4) (hc : q1cv ((board ++ dead) ++ holes.flatten)) (hf : holes.flatten ≠ []) :
    Fun Try.prog 65 [] [.t (rows holes), .t (ints board), .t (ints dead)] fun o r => o = [] /\ r = intsO (q1nk holes board dead) := by
  have hp : ((board ++ dead) ++ holes.flatten).Perm (holes.flatten ++ (board ++ dead)) := List.perm_append_comm
  have hc2 := q1cw hp hc
  have h52 := q1lg (ys := (List.range 52).map fun (k : Nat) => (k : Int)) hc2.1 fun x hx => by
    have := hc2.2 x hx
    exact List.mem_map.2 ⟨x.toNat, by simp; omega, by omega⟩
  simp only [List.length_map, List.length_range, List.length_append] at h52
  have hc1 := q1os holes (by omega) (by omega) hf
  have hcc := q1os [holes.flatten, board, dead] (by simp) (by rw [show [holes.flatten, board, dead].flatten = holes.flatten ++ (board ++ dead) by simp only [List.flatten_cons, List.flatten_nil, List.append_nil], List.length_append, List.length_append]; omega) (by intro h; simp at h; exact hf (by simpa using h.1))
  simp only [List.flatten_cons, List.flatten_nil, List.append_nil] at hcc
  have ho := q1jl (holes.flatten ++ (board ++ dead)) (by rw [List.length_append, List.length_append]; omega) hc2
  have e : q1mf (holes.flatten ++ (board ++ dead)) = q1nk holes board dead := q1mh fun x => hp.mem_iff.symm
  rw [e] at ho
  generalize holes.flatten = F at hc1 hcc ho
  refine q1gf (by simp) ?_
  simp -implicitDefEqProofs only [eR', go_sem, q1bi]
  refine q006.res hc1 [] rfl Try.call48 ?_ (.inl rfl) ?_
  . simp -implicitDefEqProofs only [aR', go_sem]
  simp -implicitDefEqProofs only [cR', go_sem]
  refine q006.res hcc [11] rfl Try.call48 ?_ (.inr (q0fh _)) ?_
  . simp -implicitDefEqProofs only [aR', go_sem]
  simp -implicitDefEqProofs only [cR', go_sem]
  refine q006.res ho [12] rfl Try.call92 ?_ (.inr (q0fh _)) ?_
  . simp -implicitDefEqProofs only [aR', go_sem]
  simp -implicitDefEqProofs only [cR', go_sem]
theorem q1px (holes : List (List Int)) (board dead : List Int) (hh : holes.flatten.length <= 2000000) (hhn : holes.length <= 2000000) (hb : board.length <= 2000000) (hd : dead.length <= 2000000) :
    Fun Try.prog 76 [] [.t (rows holes), .t (ints board), .t (ints dead)] fun o r => o = [] /\ r = intsO (q1nk holes board dead) := by
  refine q1hq (by simp) ?_
  simp -implicitDefEqProofs only [eR', go_sem, q1ct]
  refine q006.res (q0s5 board (by omega)) [] rfl Try.call53 ?_ (.inl rfl) ?_
  . simp -implicitDefEqProofs only [aR', go_sem]
  simp -implicitDefEqProofs only [cR', go_sem, intsO]
  refine ⟨by omega, ?_⟩
  refine SemC.loopR (σ := Nat) (fun i => St.of [(0, .t (rows holes)), (7, .own 95), (8, .t (.i i))] [(95, .arr 1 (((board ++ dead) ++ (holes.take i).flatten).map T.i))]) (fun i => i <= holes.length) (fun i => holes.length - i) 0 (Weak.o _ _ [some 12] ?_ ?_) (by omega) fun i hi R hn hr he => ?_
  . simp -implicitDefEqProofs only [wR', Nat.reduceBEq, Nat.reduceEqDiff, ↓reduceIte]
  . refine ⟨⟨_, rfl, ?_⟩, rfl, trivial⟩
    simp; exact .refl _
  . have hfl := q1f9 holes i
    rcases Nat.lt_or_ge i holes.length with h9 | h9
    . obtain ⟨h, hx⟩ : ∃ h, holes[i]? = some h := ⟨_, List.getElem?_eq_getElem h9⟩
      have hfl2 := q1f9 holes (i + 1)
      rw [q1fc hx, List.length_append] at hfl2
      have hxl : ((board ++ dead) ++ (holes.take i).flatten).length <= 8000000 := by rw [List.length_append, List.length_append]; omega
      simp -implicitDefEqProofs only [eR', go_sem, hx, decide_eq_true (show (i : Int) < (holes.length : Int) by omega)]
      refine ⟨by omega, by omega, by omega, by omega, ?_⟩
      refine hn _ (i + 1) (Weak.o _ _ [some 24] ?_ ?_) (by omega) (by omega)
      . simp -implicitDefEqProofs only [wR', Nat.reduceBEq, Nat.reduceEqDiff, ↓reduceIte, q0lb h9 (by omega)]
      . refine ⟨⟨_, rfl, ?_⟩, rfl, trivial⟩
        rw [q1fc hx]; simp only [List.map_append, List.append_assoc]; exact .refl _
    . simp -implicitDefEqProofs only [eR', go_sem, decide_eq_false (show ¬ (i : Int) < (holes.length : Int) by omega)]
      refine he _ _ ?_
      rw [List.take_of_length_le h9]
      have ho := q1p9 ((board ++ dead) ++ holes.flatten) (by rw [List.length_append, List.length_append]; omega)
      simp -implicitDefEqProofs only [eR', go_sem]
      refine q006.res ho [95] rfl Try.call93 ?_ (.inr (q0fh _)) ?_
      . simp -implicitDefEqProofs only [aR', go_sem]
      simp -implicitDefEqProofs only [cR', go_sem]
      rfl
def q1ak (holes : List (List Int)) (board dead : List Int) : List (List Int) := (choL (q1nk holes board dead) (5 - board.length)).map (board ++ ·)
theorem q1pv (holes : List (List Int)) (board dead : List Int) (hh : holes.flatten.length <= 2000000) (hhn : holes.length <= 2000000) (hb3 : 3 <= board.length) (hb : board.length <= 5) (hd : dead.length <= 2000000) :
    Fun Try.prog 63 [] [.t (rows holes), .t (ints board), .t (ints dead)] fun o r => o = [] /\ r = q0qa (q1ak holes board dead) := by
  have hr := q1px holes board dead hh hhn (by omega) hd
  have h52 := q1nm holes board dead
  have hw : IntKind.i64.wrap (5 - (board.length : Int)) = ((5 - board.length : Nat) : Int) := by rw [wrap64 (by omega) (by omega)]; omega
  have hp : ((q1nk holes board dead).length + 1) ^ (5 - board.length) <= 60000 :=
    Nat.le_trans (Nat.pow_le_pow_left (show (q1nk holes board dead).length + 1 <= 53 by omega) _) (Nat.le_trans (Nat.pow_le_pow_right (by omega) (show 5 - board.length <= 2 by omega)) (by decide))
  have hcc := q1pd (5 - board.length) (q1nk holes board dead) hp (by omega) (by omega)
  have hcn := Nat.le_trans (q1df (q1nk holes board dead) (5 - board.length)) hp
  have hcl : ∀ c ∈ choL (q1nk holes board dead) (5 - board.length), c.length <= 2 := fun c hc => by rw [(q1dd.1 hc).2]; omega
  have hbd : q1ak holes board dead = (choL (q1nk holes board dead) (5 - board.length)).map (board ++ ·) := rfl
  rw [hbd]
  generalize q1nk holes board dead = rs at hr hcc hcn hcl
  generalize choL rs (5 - board.length) = C at hcc hcn hcl
  refine q1ho (by simp) ?_
  simp -implicitDefEqProofs only [eR', go_sem, q1cr]
  refine q006.res hr [] rfl Try.call76 ?_ (.inl rfl) ?_
  . simp -implicitDefEqProofs only [aR', go_sem]
  simp -implicitDefEqProofs only [cR', go_sem, hw]
  refine q006.res hcc [13] rfl Try.call91 ?_ (.inr (q0qb _)) ?_
  . simp -implicitDefEqProofs only [aR', go_sem]
  simp -implicitDefEqProofs only [cR', go_sem]
  refine SemC.loopR (σ := Nat) (fun i => St.of [(1, .t (ints board)), (7, .t (rows C)), (8, .own 98), (9, .t (.i i))] [(98, q0qa ((C.take i).map (board ++ ·)))]) (fun i => i <= C.length) (fun i => C.length - i) 0 (Weak.trans (Weak.share 17 rfl) (Weak.of _ _ [some 18] (by simp) (by simp) ?_ ⟨⟨_, rfl, .refl _⟩, rfl, trivial⟩)) (by omega) fun i hi R hn hr' he => ?_
  . simp -implicitDefEqProofs only [wR', Nat.reduceBEq, Nat.reduceEqDiff, ↓reduceIte, q0rg, q17t]
  . rcases Nat.lt_or_ge i C.length with h9 | h9
    . obtain ⟨c, hx⟩ : ∃ c, C[i]? = some c := ⟨_, List.getElem?_eq_getElem h9⟩
      have hc2 := hcl c (List.mem_of_getElem? hx)
      have hll : ((C.take i).map (board ++ ·)).length <= 100000 := by rw [List.length_map, List.length_take]; omega
      simp -implicitDefEqProofs only [eR', go_sem, decide_eq_true (show (i : Int) < (C.length : Int) by omega), q0qa]
      refine q000.res (q0s5 board (by omega)) [] rfl Try.call53 (fun e R' hR => ?_) (.inl rfl) ?_
      . simp -implicitDefEqProofs only [aR', go_sem]
      simp -implicitDefEqProofs only [cR', go_sem, hx, intsO, ints]
      refine ⟨by omega, by omega, by omega, by omega, by rw [List.length_take]; omega, ?_⟩
      refine hn _ (i + 1) (Weak.o _ _ [some 34] ?_ ?_) (by omega) (by omega)
      . simp -implicitDefEqProofs only [wR', Nat.reduceBEq, Nat.reduceEqDiff, ↓reduceIte, q0lb h9 (by omega)]
      . refine ⟨⟨_, rfl, ?_⟩, rfl, trivial⟩
        rw [q0uj hx]; simp only [q0qa, intsO, List.map_append, List.map_cons, List.map_nil]; exact .refl _
    . simp -implicitDefEqProofs only [eR', go_sem, decide_eq_false (show ¬ (i : Int) < (C.length : Int) by omega)]
      refine he _ _ ?_
      simp -implicitDefEqProofs only [eR', go_sem]
      rw [List.take_of_length_le h9]
end
section
attribute [-go_sem] q0i5 q0id fldC lenC idxC q0ip
theorem q1q0 : ∀ k, k <= 2 -> (match stdT with | .arr _ l => l[k * 6]? | _ => none) = some (.i (hoOf k : Nat))
  | 0, _ => rfl | 1, _ => rfl | 2, _ => rfl | n + 3, h => by omega
theorem q1p0 (v : Int) (holes : List (List Int)) (board dead : List Int) (hh : holes.flatten.length <= 2000000) (hhn : holes.length <= 2000000) (hb : board.length <= 2000000) (hd : dead.length <= 2000000) :
    Pure Try.prog 24 [.i v, rows holes, ints board, ints dead] (.b (q1eb v holes board dead)) := by
  refine q1gu (by simp) ?_
  simp -implicitDefEqProofs only [eR', go_sem, q1bx]
  by_cases h1 : 0 <= v /\ v <= 2
  . obtain ⟨k, rfl⟩ : ∃ k : Nat, v = k := ⟨v.toNat, by omega⟩
    have hk : k <= 2 := by omega
    rw [q1eb, decide_eq_true h1, Bool.true_and, Int.toNat_natCast]
    refine q006.p (q1pu k) [] rfl Try.call51 ?_ ?_
    . simp -implicitDefEqProofs only [aR', go_sem]
    simp -implicitDefEqProofs only [eR', go_sem, decide_eq_true h1, show (!true) = false from rfl]
    by_cases h2 : 2 <= (holes.length : Int) /\ (holes.length : Int) <= 4
    . refine q006.p (q0s4 holes.length 2 4) [] rfl Try.call52 ?_ ?_
      . simp -implicitDefEqProofs only [aR', go_sem]
      simp -implicitDefEqProofs only [eR', go_sem, decide_eq_true h2, show (!true) = false from rfl]
      by_cases h3 : 3 <= (board.length : Int) /\ (board.length : Int) <= 5
      . refine q006.p (q0s4 board.length 3 5) [] rfl Try.call52 ?_ ?_
        . simp -implicitDefEqProofs only [aR', go_sem]
        simp -implicitDefEqProofs only [eR', go_sem, decide_eq_true h3, show (!true) = false from rfl]
        refine q006.res (q0s5 board (by omega)) [] rfl Try.call53 ?_ (.inl rfl) ?_
        . simp -implicitDefEqProofs only [aR', go_sem]
        simp -implicitDefEqProofs only [cR', go_sem, intsO]
        refine ⟨by omega, ?_⟩
        have hsc := q1q0 k hk
        simp only [stdT] at hsc
        refine SemC.loopR (σ := Nat) (fun i => St.of [(0, .t (.i k)), (1, .t (rows holes)), (9, .own 95), (10, .t (.i i))] [(95, .arr 1 (((board ++ dead) ++ (holes.take i).flatten).map T.i))]) (fun i => i <= holes.length /\ ∀ h ∈ holes.take i, h.length = hoOf k) (fun i => holes.length - i) 0 (Weak.o _ _ [some 29] ?_ ?_) ⟨by omega, by simp⟩ fun i hi R hn hr he => ?_
        . simp -implicitDefEqProofs only [wR', Nat.reduceBEq, Nat.reduceEqDiff, ↓reduceIte]
        . refine ⟨⟨_, rfl, ?_⟩, rfl, trivial⟩
          simp; exact .refl _
        . obtain ⟨hi, hall⟩ := hi
          rcases Nat.lt_or_ge i holes.length with h9 | h9
          . obtain ⟨h, hx⟩ : ∃ h, holes[i]? = some h := ⟨_, List.getElem?_eq_getElem h9⟩
            have hm := List.mem_of_getElem? hx
            have hfl2 := q1f9 holes (i + 1)
            rw [q1fc hx, List.length_append] at hfl2
            have hxl : ((board ++ dead) ++ (holes.take i).flatten).length <= 8000000 := by rw [List.length_append, List.length_append]; omega
            simp -implicitDefEqProofs only [eR', go_sem, hx, decide_eq_true (show (i : Int) < (holes.length : Int) by omega)]
            refine ⟨by omega, by omega, by omega, ?_⟩
            by_cases hl : h.length = hoOf k
            . refine q000.res q1pr [] rfl Try.call54 (fun e R' hR => ?_) (.inl rfl) ?_
              . simp -implicitDefEqProofs only [aR', go_sem]
              simp -implicitDefEqProofs only [cR', go_sem, stdT, hsc, show (((h.length : Nat) : Int) != ((hoOf k : Nat) : Int)) = false from by rw [hl]; exact bne_self_eq_false _, hx, ints]
              refine ⟨by omega, by omega, by omega, by omega, by omega, by omega, by omega, ?_⟩
              refine hn _ (i + 1) (Weak.o _ _ [some 52] ?_ ?_) ⟨by omega, fun x hx2 => ?_⟩ (by omega)
              . simp -implicitDefEqProofs only [wR', Nat.reduceBEq, Nat.reduceEqDiff, ↓reduceIte, q0lb h9 (by omega)]
              . refine ⟨⟨_, rfl, ?_⟩, rfl, trivial⟩
                rw [q1fc hx]; simp only [List.map_append, List.append_assoc]; exact .refl _
              . rw [q0uj hx] at hx2
                rcases List.mem_append.1 hx2 with h7 | h7
                . exact hall x h7
                . have : x = h := by simpa using h7
                  rw [this]; exact hl
            . refine q000.res q1pr [] rfl Try.call54 (fun e R' hR => ?_) (.inl rfl) ?_
              . simp -implicitDefEqProofs only [aR', go_sem]
              simp -implicitDefEqProofs only [cR', go_sem, stdT, hsc, show (((h.length : Nat) : Int) != ((hoOf k : Nat) : Int)) = true from by rw [bne_iff_ne]; omega]
              refine ⟨by omega, by omega, by omega, ?_⟩
              refine hr _ ?_
              simp -implicitDefEqProofs only [eR', go_sem, decide_eq_false (show ¬ q1ec k holes board dead from fun hp => hl (hp.2.2.2.2.1 h hm))]
          . simp -implicitDefEqProofs only [eR', go_sem, decide_eq_false (show ¬ (i : Int) < (holes.length : Int) by omega)]
            refine he _ _ ?_
            rw [List.take_of_length_le h9] at hall ⊢
            have hac := q1ox ((board ++ dead) ++ holes.flatten) (by rw [List.length_append, List.length_append]; omega)
            have hpe : areB ((board ++ dead) ++ holes.flatten) = decide (q1ec k holes board dead) := by
              rw [areB, decide_eq_decide]
              exact ⟨fun h => ⟨by omega, by omega, by omega, by omega, hall, h⟩, fun h => h.2.2.2.2.2⟩
            rw [hpe] at hac
            simp -implicitDefEqProofs only [eR', go_sem]
            refine q006.p hac [95] rfl Try.call55 ?_ ?_
            . simp -implicitDefEqProofs only [aR', go_sem]
            simp -implicitDefEqProofs only [eR', go_sem]
      . refine q006.p (q0s4 board.length 3 5) [] rfl Try.call52 ?_ ?_
        . simp -implicitDefEqProofs only [aR', go_sem]
        simp -implicitDefEqProofs only [eR', go_sem, decide_eq_false h3, show (!false) = true from rfl]
        rw [decide_eq_false (show ¬ q1ec k holes board dead from fun hp => h3 ⟨by have := hp.2.2.1; omega, by have := hp.2.2.2.1; omega⟩)]
    . refine q006.p (q0s4 holes.length 2 4) [] rfl Try.call52 ?_ ?_
      . simp -implicitDefEqProofs only [aR', go_sem]
      simp -implicitDefEqProofs only [eR', go_sem, decide_eq_false h2, show (!false) = true from rfl]
      rw [decide_eq_false (show ¬ q1ec k holes board dead from fun hp => h2 ⟨by have := hp.1; omega, by have := hp.2.1; omega⟩)]
  . rw [q1eb, decide_eq_false h1, Bool.false_and]
    refine q006.p (q1pu v) [] rfl Try.call51 ?_ ?_
    . simp -implicitDefEqProofs only [aR', go_sem]
    simp -implicitDefEqProofs only [eR', go_sem, decide_eq_false h1, show (!false) = true from rfl]
end
section
attribute [-go_sem] q0i5 q0id fldC lenC idxC q0ip
theorem q19q (A B : List Int) : (addL A B).length = A.length := q1qk
theorem q19r {A B : List Int} {a b : Int} (hA : ∀ x ∈ A, 0 <= x /\ x <= a) (hB : ∀ x ∈ B, 0 <= x /\ x <= b) (ha : 0 <= a) (hb : 0 <= b) : ∀ x ∈ addL A B, 0 <= x /\ x <= a + b := by
  intro x hx
  obtain ⟨k, hk, rfl⟩ := List.mem_map.1 hx
  have hk : k < A.length := by simpa using hk
  have h1 : 0 <= A.getD k 0 /\ A.getD k 0 <= a := by
    rw [List.getD_eq_getElem?_getD, List.getElem?_eq_getElem hk]; exact hA _ (List.getElem_mem _)
  have h2 : 0 <= B.getD k 0 /\ B.getD k 0 <= b := by
    by_cases h : k < B.length
    . rw [List.getD_eq_getElem?_getD, List.getElem?_eq_getElem h]; exact hB _ (List.getElem_mem _)
    . rw [List.getD_eq_getElem?_getD, List.getElem?_eq_none (by omega)]; exact ⟨by decide, hb⟩
  show 0 <= A.getD k 0 + B.getD k 0 /\ A.getD k 0 + B.getD k 0 <= a + b
  omega
theorem q1a0 (n : Nat) (hw lw : List Int) : (awL n hw lw).length = n := by
  unfold awL; split <;> simp [q19q]
theorem q19z (n : Nat) (hw lw : List Int) : ∀ x ∈ awL n hw lw, 0 <= x /\ x <= 48 := by
  have hz : ∀ x ∈ List.replicate n (0 : Int), 0 <= x /\ x <= 0 := fun x hx => by rw [List.eq_of_mem_replicate hx]; omega
  have hs : ∀ (W : List Int) (a : Nat), a <= 24 -> ∀ x ∈ tabT n (q1op W (a : Int)), 0 <= x /\ x <= 24 := fun W a ha x hx => by
    obtain ⟨k, _, rfl⟩ := List.mem_map.1 hx
    exact q1oq ha
  intro x hx
  unfold awL at hx
  split at hx
  . have := q19r hz (hs hw 24 (by omega)) (by omega) (by omega) x hx; omega
  . have := q19r (q19r hz (hs lw 12 (by omega)) (by omega) (by omega)) (hs hw 12 (by omega)) (by omega) (by omega) x hx; omega
theorem q1ow (v : Nat) (holes : List (List Int)) (board : List Int) : (q1o6 v holes board).length = holes.length := by rw [q1o6, q1mq, q1a0]; simp
theorem q1ps (A B : List Int) (hAB : B.length = A.length) (hn : A.length <= 1000) (hA : ∀ x ∈ A, 0 <= x /\ x <= 1000000000) (hB : ∀ x ∈ B, 0 <= x /\ x <= 1000000000) : Fun Try.prog 66 [] [.t (ints A), .t (ints B)] fun o r => o = [] /\ r = intsO (addL A B) := by
  refine q1hl (by simp) ?_
  simp -implicitDefEqProofs only [eR', go_sem, q1co]
  refine SemC.loopR (σ := Nat) (fun i => St.of [(0, .t (ints A)), (1, .t (ints B)), (5, .own 95), (6, .t (.i i))] [(95, .arr 1 (((addL A B).take i).map T.i))]) (fun i => i <= A.length) (fun i => A.length - i) 0 (Weak.of _ _ [some 7] (by simp) (by simp) ?_ ⟨⟨_, rfl, .refl _⟩, rfl, trivial⟩) (by omega) fun i hi R hn' hr he => ?_
  . simp -implicitDefEqProofs only [wR', Nat.reduceBEq, Nat.reduceEqDiff, ↓reduceIte]
  . rcases Nat.lt_or_ge i A.length with h9 | h9
    . obtain ⟨x, hx⟩ : ∃ x, A[i]? = some x := ⟨_, List.getElem?_eq_getElem h9⟩
      obtain ⟨y, hy⟩ : ∃ y, B[i]? = some y := ⟨_, List.getElem?_eq_getElem (by omega)⟩
      have hx1 := hA x (List.mem_of_getElem? hx)
      have hy1 := hB y (List.mem_of_getElem? hy)
      have hxy : (addL A B)[i]? = some (x + y) := by
        rw [addL, q1qj h9, List.getD_eq_getElem?_getD, List.getD_eq_getElem?_getD, hx, hy]; rfl
      have hw : IntKind.i64.wrap (x + y) = x + y := wrap64 (by omega) (by omega)
      have htl : ((addL A B).take i).length <= 1000 := by rw [List.length_take]; omega
      simp -implicitDefEqProofs only [eR', go_sem, hx, hy, hw, decide_eq_true (show (i : Int) < (A.length : Int) by omega)]
      refine ⟨by omega, by omega, by omega, by omega, by omega, by omega, by omega, ?_⟩
      refine hn' _ (i + 1) (Weak.o _ _ [some 25] ?_ ?_) (by omega) (by omega)
      . simp -implicitDefEqProofs only [wR', Nat.reduceBEq, Nat.reduceEqDiff, ↓reduceIte, q0lb h9 (by omega)]
      . refine ⟨⟨_, rfl, ?_⟩, rfl, trivial⟩
        rw [q0uj hxy, List.map_append]; exact .refl _
    . simp -implicitDefEqProofs only [eR', go_sem, decide_eq_false (show ¬ (i : Int) < (A.length : Int) by omega)]
      refine he _ _ ?_
      simp -implicitDefEqProofs only [eR', go_sem]
      rw [List.take_of_length_le (by rw [q19q]; omega)]; rfl
def q1q5 (v : Nat) (holes B : List (List Int)) : Nat -> List Int
  | 0 => List.replicate holes.length 0
  | i + 1 => addL (q1q5 v holes B i) (q1o6 v holes (B.getD i []))
theorem q1q7 (v : Nat) (holes B : List (List Int)) : ∀ i, (q1q5 v holes B i).length = holes.length
  | 0 => by simp [q1q5]
  | i + 1 => by rw [q1q5, q19q, q1q7 v holes B i]
theorem q1q6 (v : Nat) (holes B : List (List Int)) : ∀ i, ∀ x ∈ q1q5 v holes B i, 0 <= x /\ x <= 48 * (i : Int)
  | 0 => fun x hx => by rw [List.eq_of_mem_replicate hx]; omega
  | i + 1 => fun x hx => by
    have := q19r (q1q6 v holes B i) (b := 48) (by rw [q1o6]; exact q19z _ _ _) (by omega) (by omega) x hx
    omega
theorem q1aj {k : Nat} {holes : List (List Int)} {board dead : List Int} (h : q1ec k holes board dead) {b : List Int} (hb : b ∈ q1ak holes board dead) : b.length = 5 /\ ∀ x ∈ holes, q1cv (x ++ b) /\ x.length = hoOf k := by
  obtain ⟨c, hc, rfl⟩ := List.mem_map.1 hb
  obtain ⟨hs, hl⟩ := q1dd.1 hc
  obtain ⟨_, _, h3, h4, h5, hcd⟩ := h
  refine ⟨by rw [List.length_append]; omega, fun x hx => ⟨⟨?_, fun y hy => ?_⟩, h5 x hx⟩⟩
  . have hrn : (q1nk holes board dead).Nodup := by
      unfold q1nk q1mf q1mg
      refine List.Pairwise.filter _ ?_
      rw [List.pairwise_map]
      exact List.Pairwise.imp (fun h e => h (by omega)) List.nodup_range
    have hcn := hrn.sublist hs
    have hout : ∀ y ∈ c, y ∉ (board ++ dead) ++ holes.flatten := fun y hy => by
      have := hs.subset hy
      unfold q1nk q1mf q1mg at this
      simpa using (List.mem_filter.1 this).2
    obtain ⟨h6, h7, h8⟩ := List.nodup_append.1 hcd.1
    obtain ⟨h9, h10, h11⟩ := List.nodup_append.1 h6
    have hxf : ∀ y ∈ x, y ∈ holes.flatten := fun y hy => List.mem_flatten.2 ⟨x, hx, hy⟩
    have hxs : x.Sublist holes.flatten := List.sublist_flatten_of_mem hx
    refine List.nodup_append.2 ⟨h7.sublist hxs, List.nodup_append.2 ⟨h9, hcn, fun a ha b hb2 e => hout b hb2 (by rw [← e]; simp [ha])⟩, fun a ha b hb2 e => ?_⟩
    subst e
    rcases List.mem_append.1 hb2 with h12 | h12
    . exact h8 a (by simp [h12]) a (hxf a ha) rfl
    . exact hout a h12 (List.mem_append.2 (.inr (hxf a ha)))
  . rcases List.mem_append.1 hy with h6 | h6
    . exact hcd.2 y (List.mem_append.2 (.inr (List.mem_flatten.2 ⟨x, hx, h6⟩)))
    . rcases List.mem_append.1 h6 with h7 | h7
      . exact hcd.2 y (by simp [h7])
      . have := hs.subset h7
        unfold q1nk q1mf q1mg at this
        obtain ⟨j, hj, rfl⟩ := List.mem_map.1 (List.mem_filter.1 this).1
        have : j < 52 := by simpa using hj
        omega
theorem q1al {holes : List (List Int)} {board dead : List Int} (hb3 : 3 <= board.length) : (q1ak holes board dead).length <= 60000 := by
  have h52 := q1nm holes board dead
  rw [q1ak, List.length_map]
  refine Nat.le_trans (q1df _ _) ?_
  exact Nat.le_trans (Nat.pow_le_pow_left (show (q1nk holes board dead).length + 1 <= 53 by omega) _) (Nat.le_trans (Nat.pow_le_pow_right (by omega) (show 5 - board.length <= 2 by omega)) (by decide))
def q1qc (v : Nat) (holes : List (List Int)) (board dead : List Int) : List Int := q1q5 v holes (q1ak holes board dead) (q1ak holes board dead).length
theorem q1py (v : Nat) (hv3 : v <= 2) (holes : List (List Int)) (board dead : List Int) (hp : q1ec v holes board dead) (hh : holes.flatten.length <= 2000000) (hd : dead.length <= 2000000) :
    Fun Try.prog 38 [] [.t (.i v), .t (rows holes), .t (ints board), .t (ints dead)] fun o r => o = [] /\ r = .tup [intsO (q1qc v holes board dead), .i (q1ak holes board dead).length] := by
  have hB := q1pv holes board dead hh (by have := hp.2.1; omega) hp.2.2.1 hp.2.2.2.1 hd
  have hfew := q1al (holes := holes) (dead := dead) hp.2.2.1
  have hok := fun b (hb : b ∈ q1ak holes board dead) => q1aj hp hb
  have hpos := hp.2.1
  have hpos2 := hp.1
  rw [q1qc]
  generalize q1ak holes board dead = BB at hB hfew hok
  refine q1hr (by simp) ?_
  simp -implicitDefEqProofs only [eR', go_sem, q1cu]
  refine q006.res hB [] rfl Try.call63 ?_ (.inl rfl) ?_
  . simp -implicitDefEqProofs only [aR', go_sem]
  simp -implicitDefEqProofs only [cR', go_sem]
  refine ⟨by omega, by omega, ?_⟩
  refine SemC.loopR (σ := Nat) (fun i => St.of [(0, .t (.i v)), (1, .t (rows holes)), (10, .t (rows BB)), (11, .own 95), (12, .t (.i i))] [(95, intsO (q1q5 v holes BB i))]) (fun i => i <= BB.length) (fun i => BB.length - i) 0 (Weak.trans (Weak.share 16 rfl) (Weak.o _ _ [some 19] ?_ ?_)) (by omega) fun i hi R hn' hr he => ?_
  . simp -implicitDefEqProofs only [wR', Nat.reduceBEq, Nat.reduceEqDiff, ↓reduceIte, q0rg, q17t]
  . refine ⟨⟨_, rfl, ?_⟩, rfl, trivial⟩
    rw [q1q5, q0jc, intsO, List.map_replicate]; exact .refl _
  . rcases Nat.lt_or_ge i BB.length with h9 | h9
    . obtain ⟨b, hx⟩ : ∃ b, BB[i]? = some b := ⟨_, List.getElem?_eq_getElem h9⟩
      have hg : BB.getD i [] = b := by rw [List.getD_eq_getElem?_getD, hx]; rfl
      obtain ⟨hb5, hbc⟩ := hok b (List.mem_of_getElem? hx)
      have hparts : Fun Try.prog 59 [] [.t (.i v), .t (rows holes), .t (ints b)] fun o r => o = [] /\ r = intsO (q1o6 v holes b) := q1pw v hv3 holes b (by omega) (by omega) hbc hb5
      have hsb := q1q6 v holes BB i
      have hadd := q1ps (q1q5 v holes BB i) (q1o6 v holes b) (by rw [q1ow, q1q7]) (by rw [q1q7]; omega) (fun x hx => by have := hsb x hx; omega) (fun x hx => by have := q19z _ _ _ x hx; omega)
      have hS : q1q5 v holes BB (i + 1) = addL (q1q5 v holes BB i) (q1o6 v holes b) := by rw [q1q5, hg]
      simp -implicitDefEqProofs only [eR', go_sem, hx, decide_eq_true (show (i : Int) < (BB.length : Int) by omega)]
      refine ⟨by omega, by omega, by omega, ?_⟩
      refine q006.res hparts [] rfl Try.call59 ?_ (.inl rfl) ?_
      . simp -implicitDefEqProofs only [aR', go_sem]
      simp -implicitDefEqProofs only [cR', go_sem]
      refine q006.res hadd [95, 33] rfl Try.call66 ?_ (.inr (q0fh _)) ?_
      . simp -implicitDefEqProofs only [aR', go_sem]
      simp -implicitDefEqProofs only [cR', go_sem]
      refine hn' _ (i + 1) (Weak.of _ _ [some 34] (by simp) (by simp) ?_ ⟨⟨_, rfl, by rw [hS]; exact .refl _⟩, rfl, trivial⟩) (by omega) (by omega)
      simp -implicitDefEqProofs only [wR', Nat.reduceBEq, Nat.reduceEqDiff, ↓reduceIte, q0lb h9 (by omega)]
    . simp -implicitDefEqProofs only [eR', go_sem, decide_eq_false (show ¬ (i : Int) < (BB.length : Int) by omega)]
      refine he _ _ ?_
      have e : i = BB.length := by omega
      subst e
      simp -implicitDefEqProofs only [eR', go_sem, intsO]
end
section
attribute [-go_sem] q0i5 q0id fldC lenC idxC q0ip
theorem q1j6 (holes : List (List Int)) (board dead : List Int) : Fun Try.prog 61 [] [.t (rows holes), .t (ints board), .t (ints dead)] fun o r => o = [] /\ r = .fn 89 [.pin [rows holes] 0, .pin [ints board] 0, .pin [ints dead] 0] := by
  refine q1fx (by simp) ?_
  simp -implicitDefEqProofs only [eR', go_sem, q1az]
  refine ⟨_, Weak.trans (Weak.share 3 rfl) (Weak.trans (Weak.share 4 rfl) (Weak.trans (Weak.share 5 rfl) (Weak.o [(3, .t (.pin [rows holes] 0)), (4, .t (.pin [ints board] 0)), (5, .t (.pin [ints dead] 0))] [] [] ?_ trivial))), ?_⟩
  . simp -implicitDefEqProofs only [wR', Nat.reduceBEq, Nat.reduceEqDiff, ↓reduceIte, q0rg, T.toSh, T.toShL.eq_1, T.toShL.eq_2]
  . simp -implicitDefEqProofs only [eR', go_sem]
theorem q1dh (n k : Nat) (hn : n <= 1000) (hk : k <= 1000) : q19j Try.prog 107 [.pin [.i k] 0, .pin [.i n] 0] ((comb n k 0).map ints) := by
  rcases Nat.eq_zero_or_pos k with e | e
  . subst e
    have : (comb n 0 0).map ints = [ints []] := by cases n <;> rfl
    rw [this]; exact q1dg n hn
  . exact (q1di n k hn hk e).toY
def tlL (board rest : List Int) (C : List (List Int)) : Nat -> List Int
  | 0 => List.replicate (5 - board.length) 0
  | i + 1 => q1dj rest (C.getD i [])
def curL (board rest : List Int) (C : List (List Int)) (i : Nat) : List Int := board ++ tlL board rest C i
def filL (board A B : List Int) (j : Nat) : List Int := board ++ (A.take j ++ B.drop j)
theorem q1eu (board A B : List Int) : filL board A B 0 = board ++ B := by simp [filL]
theorem q1er {board A B : List Int} (h : A.length = B.length) : filL board A B A.length = board ++ A := by
  rw [filL, List.take_of_length_le (Nat.le_refl _), List.drop_eq_nil_of_le (by omega), List.append_nil]
theorem q1es {board A B : List Int} {j : Nat} (h : A.length = B.length) (hj : j <= A.length) : (filL board A B j).length = board.length + A.length := by simp [filL]; omega
theorem q1et {board A B : List Int} {j : Nat} {y : Int} (h : A.length = B.length) (hy : A[j]? = some y) : (filL board A B j).set (board.length + j) y = filL board A B (j + 1) := by
  have hj : j < A.length := (List.getElem?_eq_some_iff.1 hy).1
  have hd : B.drop j = B[j] :: B.drop (j + 1) := List.drop_eq_getElem_cons (by omega)
  have hl : (A.take j).length = j := by rw [List.length_take]; omega
  rw [filL, List.set_append_right _ _ (by omega), show board.length + j - board.length = j by omega, List.set_append_right _ _ (by omega), hl, Nat.sub_self, hd, List.set_cons_zero, filL, q0uj hy]
  simp
theorem q1am (holes : List (List Int)) (board dead : List Int) (k : Nat) (hp : q1ec k holes board dead) (hf : holes.flatten ≠ []) : q19j Try.prog 89 [.pin [rows holes] 0, .pin [ints board] 0, .pin [ints dead] 0] ((q1ak holes board dead).map ints) := by
  have hro := q1jp holes board dead hp.2.1 hp.2.2.2.2.2 hf
  have h52 := q1nm holes board dead
  have hbd : q1ak holes board dead = (comb (q1nk holes board dead).length (5 - board.length) 0).map fun c => board ++ q1dj (q1nk holes board dead) c := by
    rw [q1ak, ← q1db, List.map_map]; rfl
  rw [hbd]
  generalize q1nk holes board dead = rs at hro h52
  obtain ⟨_, _, hb3, hb5, _, _⟩ := hp
  have hw : IntKind.i64.wrap (5 - (board.length : Int)) = ((5 - board.length : Nat) : Int) := by rw [wrap64 (by omega) (by omega)]; omega
  have hit := q1dh rs.length (5 - board.length) (by omega) (by omega)
  refine q19j.of (n := 47) (c := q1ay) Try.func89 rfl rfl rfl (H := ⟨[], [9]⟩) (by kernel_rfl) (by kernel_rfl) (by decide) (by simp) fun l J hJ => ?_
  show q19l _ 47 J True _ _ (St.of [(0, A.v (.func (.yield l) #[] #[])), (1, .t (.pin [rows holes] 0)), (2, .t (.pin [ints board] 0)), (3, .t (.pin [ints dead] 0))] []) _
  unfold q1ay
  refine q19l.seq (q19l.of hJ ?_)
  simp -implicitDefEqProofs only [eR', go_sem]
  refine q19l.seq (q19l.of hJ ?_)
  simp -implicitDefEqProofs only [eR', go_sem]
  refine q006.res hro [] rfl Try.call65 ?_ (.inl rfl) ?_
  . simp -implicitDefEqProofs only [aR', go_sem]
  simp -implicitDefEqProofs only [cR', go_sem]
  refine q19l.seq (q19l.of hJ ?_)
  simp -implicitDefEqProofs only [eR', go_sem]
  refine ⟨by decide, ?_⟩
  refine q19l.seq (q19l.of hJ ?_)
  have hz5 : made [T.i 0] 5 = (List.replicate 5 (0 : Int)).map T.i := by rw [q0jc, List.map_replicate]
  simp -implicitDefEqProofs only [eR', go_sem, hz5]
  refine ⟨by omega, by omega, ?_⟩
  refine q19l.seq (q19l.of hJ ?_)
  simp -implicitDefEqProofs only [eR', go_sem, intsO, hw]
  refine q006.res (q1j7 rs.length (5 - board.length : Nat)) [] rfl Try.call90 ?_ (.inl rfl) ?_
  . simp -implicitDefEqProofs only [aR', go_sem]
  simp -implicitDefEqProofs only [cR', go_sem]
  refine q19l.block ?_
  generalize hC : comb rs.length (5 - board.length) 0 = C at hit ⊢
  have hCl : ∀ c ∈ C, c.length = 5 - board.length /\ ∀ x ∈ c, 0 <= x /\ x < rs.length := fun c hc => ⟨q1e1 _ _ _ c (hC ▸ hc), q1e3 (hC ▸ hc)⟩
  obtain ⟨mk, hmk⟩ : ∃ mk : Nat -> St, mk = (fun (i : Nat) => St.of [(2, .t (.pin [ints board] 0)), (4, .own 94), (5, .own 95), (6, .own 96), (23, .t (.fn 107 [.pin [.i (5 - board.length : Nat)] 0, .pin [.i rs.length] 0]))] [(96, .box [intsO (curL board rs C i)]), (94, .box [.v (.func (.yield l) #[] #[])]), (95, .box [intsO rs])]) := ⟨_, rfl⟩
  have hms : ∀ i, mk i = St.of [(2, .t (.pin [ints board] 0)), (4, .own 94), (5, .own 95), (6, .own 96), (23, .t (.fn 107 [.pin [.i (5 - board.length : Nat)] 0, .pin [.i rs.length] 0]))] [(96, .box [intsO (curL board rs C i)]), (94, .box [.v (.func (.yield l) #[] #[])]), (95, .box [intsO rs])] := fun i => by rw [hmk]
  refine q19l.range hJ Try.call107 hit mk (fun i => some i) [96] [94, 95] (fun i => [.box [intsO (curL board rs C i)]]) (fun i => [(2, .t (.pin [ints board] 0)), (4, .t (.pin [.v (.func (.yield l) #[] #[])] 0)), (5, .t (.pin [ints rs] 0)), (6, .own 1000000000)]) ?_ rfl ?_ (by simp) (by simp) (fun i hi => ?_) (by decide) (fun i hi s hs => ?_) (fun i hi => ?_) ?_
  . rw [hms]
    refine Weak.trans (Weak.close1 6 0 15 rfl rfl (by decide) rfl) (Weak.trans (Weak.close1 5 0 18 rfl rfl (by decide) rfl) (Weak.o _ _ [some 6, some 4, some 5] ?_ ?_))
    . simp -implicitDefEqProofs only [wR', Nat.reduceBEq, Nat.reduceEqDiff, ↓reduceIte]
    . refine ⟨⟨_, rfl, ?_⟩, rfl, ⟨_, rfl, .refl _⟩, rfl, ⟨_, rfl, .refl _⟩, rfl, trivial⟩
      simp only [curL, tlL, intsO, List.map_append, List.map_replicate, List.drop_replicate, List.length_map]
      have hd5 : List.drop board.length [T.i 0, T.i 0, T.i 0, T.i 0, T.i 0] = List.replicate (5 - board.length) (T.i 0) := by
        show List.drop board.length (List.replicate 5 (T.i 0)) = _
        rw [List.drop_replicate]
      rw [hd5]; exact .refl _
  . rw [hms]; rfl
  . rw [hms]; exact ⟨rfl, trivial⟩
  . rw [hms]
    simp only [List.mem_cons, List.not_mem_nil, or_false] at hs
    rcases hs with rfl | rfl | rfl | rfl
    all_goals
      refine ⟨by simp, ?_⟩
      simp -implicitDefEqProofs only [aR', go_sem, T.toSh, T.toShL, q0fi]
      done
  . rw [List.length_map] at hi
    obtain ⟨c, hx⟩ : ∃ c, C[i]? = some c := ⟨_, List.getElem?_eq_getElem hi⟩
    obtain ⟨hcl, hcr⟩ := hCl c (List.mem_of_getElem? hx)
    have hg : C.getD i [] = c := by rw [List.getD_eq_getElem?_getD, hx]; rfl
    have hI : (List.map ints C)[i] = ints c := by
      have : (List.map ints C)[i]? = some (ints c) := by rw [List.getElem?_map, hx]; rfl
      exact (List.getElem?_eq_some_iff.1 this).2
    rw [hI]
    have hnext : curL board rs C (i + 1) = board ++ q1dj rs c := by rw [curL, tlL, hg]
    have hAl : (q1dj rs c).length = 5 - board.length := by simp [q1dj, hcl]
    have hBl : (tlL board rs C i).length = 5 - board.length := by
      cases i with
      | zero => simp [tlL]
      | succ i =>
        have h2 : C[i]? = some (C.getD i []) := by rw [List.getD_eq_getElem?_getD, List.getElem?_eq_getElem (by omega)]; rfl
        rw [tlL]
        simp only [q1dj, List.length_map]
        exact (hCl _ (List.mem_of_getElem? h2)).1
    have hAB : (q1dj rs c).length = (tlL board rs C i).length := by omega
    have hcur : curL board rs C i = board ++ tlL board rs C i := rfl
    rw [hcur]
    generalize tlL board rs C i = tl at hBl hAB
    simp -implicitDefEqProofs only [eR', go_sem]
    refine q19l.block (q19l.seq (q19l.of hJ ?_))
    simp -implicitDefEqProofs only [eR', go_sem]
    refine SemC.loopR (σ := Nat) (fun j => St.of [(2, .t (.pin [ints board] 0)), (4, .t (.pin [.v (.func (.yield l) #[] #[])] 0)), (5, .t (.pin [ints rs] 0)), (6, .own 1000000000), (25, .t (ints c)), (26, .t (.i c.length)), (27, .t (.i j))] [(1000000000, .box [intsO (filL board (q1dj rs c) tl j)])]) (fun j => j <= c.length) (fun j => c.length - j) 0 (Weak.of _ _ [some 1000000000] (by simp) (by simp) ?_ ⟨⟨_, rfl, by rw [q1eu]; exact .refl _⟩, rfl, trivial⟩) (by omega) fun j hj R hn' hr he => ?_
    . simp -implicitDefEqProofs only [wR', Nat.reduceBEq, Nat.reduceEqDiff, ↓reduceIte]
    . rcases Nat.lt_or_ge j c.length with h9 | h9
      . obtain ⟨x, hxc⟩ : ∃ x, c[j]? = some x := ⟨_, List.getElem?_eq_getElem h9⟩
        obtain ⟨hx0, hx1⟩ := hcr x (List.mem_of_getElem? hxc)
        obtain ⟨m, rfl⟩ : ∃ m : Nat, x = m := ⟨x.toNat, by omega⟩
        obtain ⟨y, hy⟩ : ∃ y, rs[m]? = some y := ⟨_, List.getElem?_eq_getElem (by omega)⟩
        have hyc : (q1dj rs c)[j]? = some y := by rw [q1dj, List.getElem?_map, hxc]; simp [hy]
        have hset := q1et (board := board) hAB hyc
        have hfl := q1es (board := board) (j := j) hAB (by omega)
        have hadd : IntKind.i64.wrap ((board.length : Int) + (j : Int)) = ((board.length + j : Nat) : Int) := by rw [wrap64 (by omega) (by omega)]; omega
        simp -implicitDefEqProofs only [eR', go_sem, hxc, decide_eq_true (show (j : Int) < (c.length : Int) by omega)]
        refine ⟨by omega, by omega, by omega, ?_⟩
        refine ⟨_, Weak.open 1000000000 0 501 rfl rfl rfl (by decide) rfl, ?_⟩
        simp -implicitDefEqProofs only [eR', go_sem, hadd, hy, hfl, intsO, show List.lookup 0 [((0 : Nat), (501 : Nat))] = some 501 from rfl]
        refine ⟨by omega, by omega, by omega, by omega, by omega, by omega, ?_⟩
        refine hn' _ (j + 1) (Weak.trans (Weak.close1 1000000000 0 501 rfl rfl (by decide) rfl) (Weak.o _ _ [some 1000000000] ?_ ?_)) (by omega) (by omega)
        . simp -implicitDefEqProofs only [wR', Nat.reduceBEq, Nat.reduceEqDiff, ↓reduceIte, q0lb h9 (by omega)]
        . refine ⟨⟨_, rfl, ?_⟩, rfl, trivial⟩
          rw [← hset, intsO, List.map_set]; exact .refl _
      . simp -implicitDefEqProofs only [eR', go_sem, decide_eq_false (show ¬ (j : Int) < (c.length : Int) by omega)]
        refine he _ _ ?_
        have ej : j = (q1dj rs c).length := by omega
        rw [ej, q1er hAB]
        refine q19l.seq (q19l.yreg hJ (pre := [.o (.load1 43 (sl 4)), .o (.load1 44 (sl 6))]) (post := [.o (.un 46 .not (sl 45))]) ?_)
        simp -implicitDefEqProofs only [eR', go_sem, intsO]
        have hys : (List.map ints (List.map (fun c => board ++ q1dj rs c) (comb rs.length (5 - board.length) 0)))[i]? = some (ints (board ++ q1dj rs c)) := by
          rw [hC, List.getElem?_map, List.getElem?_map, hx]; rfl
        refine ⟨44, .arr 1 ((board ++ q1dj rs c).map T.i), i, rfl, rfl, rfl, q0fh _, rfl, ?_, by decide, fun b => ?_⟩
        . rw [hys]; exact congrArg some (q0fi _).symm
        . have hsame : setS (mk i) [96] [T.box [T.arr 1 ((board ++ q1dj rs c).map T.i)]] = mk (i + 1) := by
            simp only [hms, setS, updS, rootOf, St.of, q0kh, q1rd, hnext, intsO]
          refine q19l.weaken hJ (Weak.close1 1000000000 0 44 rfl rfl (by decide) rfl) ?_
          cases b with
          | true =>
            refine q19l.cond (b := false) rfl (fun h => by cases h) (fun _ => q19l.of hJ ?_)
            refine ⟨⟨⟨q0fh _, trivial⟩, trivial⟩, rfl, ?_⟩
            show Weak 47 (setS (mk i) [96] [T.box [T.arr 1 ((board ++ q1dj rs c).map T.i)]]) (mk (i + 1))
            rw [hsame]; exact Weak.refl _ _
          | false =>
            refine q19l.cond (b := true) rfl (fun _ => q19l.of hJ ?_) (fun h => by cases h)
            exact ⟨⟨⟨q0fh _, trivial⟩, trivial⟩, .inr rfl⟩
  . exact Or.inl (by rw [List.length_map])
end

def q1bf : CC :=
 (.seq (.reg [.o (.box 4 (sl 0)),.o (.box 5 (sl 1)),.o (.move 8 (cv (.slice none 0 0))),.o (.move 9 (ci 0))])
 ((.seq (.reg [l1 15 5,.o (.lenS 16 (sl 15)),.o (.make 17 [.v (.int .i64 0)] 8 (sl 16) (sl 16)),.o (.alloc 10 [.v (.slice none 0 0)]),.o (.store 1 (sl 10) (sl 17))])
 ((.seq (.reg [.o (.alloc 11 [.v (.int .i64 0)])])
 ((.seq (.seq (.reg [l1 18 5,mv 19 2,mv 20 3,.o (.call (some 21) (cf 61) [(sl 18), (sl 19), (sl 20)])])
 ((.block 0 (.rng (sl 21) [22] (.reg [mv 12 22])
 (.block 1 (.seq (.reg [l1 23 11,.o (.bin 24 .add (sl 23) (ci 1)),.o (.store 1 (sl 11) (sl 24))])
 ((.seq (.reg [l1 25 4,l1 26 5,mv 27 12,.o (.call (some 28) (cf 58) [(sl 25), (sl 26), (sl 27)]),.o (.lenS 29 (sl 28)),.o (.move 30 (ci 0))])
 ((.block 2 (.loop (.seq (.reg [.o (.bin 31 .lss (sl 30) (sl 29))])
 ((.seq (.cond (sl 31) .skip
 (.exit 2))
 ((.seq (.block 3 (.seq (.reg [mv 32 30,ix 33 28 30,l1 34 33,mv 13 32,mv 14 34])
 ((.reg [l1 35 10,mv 36 13,ix 37 35 36,l1 38 37,mv 39 14,.o (.bin 40 .add (sl 38) (sl 39)),ix 41 35 36,.o (.store 1 (sl 41) (sl 40))]))))
 ((.reg [.o (.bin 42 .add (sl 30) (ci 1)),mv 30 42]))))))))))))))))))
 ((.seq (.weak (.draw [] [kr (l1 43 10),kr (l1 44 11),kr (mv 8 43),kr (mv 9 44)]))
 (.ret))))))))))
theorem q1gc {rin args Q} (ha : args.length <= 45) (h : fW 45 q1bf [.tmp 8, .tmp 9] rin args Q) : Fun Try.prog 40 rin args Q :=
 Fun.of (H := ⟨[], [11]⟩) Try.func40 rfl rfl rfl (by kernel_rfl) ha (by decide) h

section
attribute [-go_sem] q0i5 q0id fldC lenC idxC q0ip
theorem q1rc (ff : Nat -> Root) (x y a b : Root) : upd (upd (upd (upd ff 97 x) 96 y) 97 b) 96 a = upd (upd ff 97 b) 96 a := by
  funext r
  simp only [upd]
  by_cases h1 : r = 96 <;> by_cases h2 : r = 97 <;> simp [h1, h2]
theorem q1jm (v : Nat) (hv3 : v <= 2) (holes : List (List Int)) (board dead : List Int) (hp : q1ec v holes board dead) (hf : holes.flatten ≠ []) :
    Fun Try.prog 40 [] [.t (.i v), .t (rows holes), .t (ints board), .t (ints dead)] fun o r => o = [] /\ r = .tup [intsO (q1qc v holes board dead), .i (q1ak holes board dead).length] := by
  have hit := q1am holes board dead v hp hf
  have hfew := q1al (holes := holes) (dead := dead) hp.2.2.1
  have hok := fun b (hb : b ∈ q1ak holes board dead) => q1aj hp hb
  have hpos := hp.2.1
  have hpos2 := hp.1
  rw [q1qc]
  generalize q1ak holes board dead = BB at hit hfew hok
  refine q1gc (by simp) ?_
  simp -implicitDefEqProofs only [eR', go_sem, q1bf]
  refine ⟨by omega, by omega, ?_⟩
  refine q006.res (q1j6 holes board dead) [] rfl Try.call61 ?_ (.inl rfl) ?_
  . simp -implicitDefEqProofs only [aR', go_sem]
  simp -implicitDefEqProofs only [cR', go_sem]
  refine SemC.rangeY Try.call89 hit (fun i => St.of [(4, .own 94), (5, .own 95), (10, .own 96), (11, .own 97), (21, .t (.fn 89 [.pin [rows holes] 0, .pin [ints board] 0, .pin [ints dead] 0]))] [(96, .box [intsO (q1q5 v holes BB i)]), (97, .box [.i i]), (94, .box [.i v]), (95, .box [rows holes])]) (fun i => True) trivial [96, 97] [94, 95] (fun i => [.box [intsO (q1q5 v holes BB i)], .box [.i i]]) (fun i => [(4, .t (.pin [.i v] 0)), (5, .t (.pin [rows holes] 0)), (10, .own 1000000000), (11, .own 1000000001)]) (Weak.o _ _ [some 10, some 11, some 4, some 5] ?_ ?_) rfl (by simp) (by simp) (fun i hi => ⟨rfl, rfl, trivial⟩) (by decide) (fun i hi s hs => ?_) (fun i hi _ => ?_) ?_
  . simp -implicitDefEqProofs only [wR', Nat.reduceBEq, Nat.reduceEqDiff, ↓reduceIte]
  . refine ⟨⟨_, rfl, ?_⟩, rfl, ⟨_, rfl, .refl _⟩, rfl, ⟨_, rfl, .refl _⟩, rfl, ⟨_, rfl, .refl _⟩, rfl, trivial⟩
    rw [q1q5, q0jc, intsO, List.map_replicate]; exact .refl _
  . simp only [List.mem_cons, List.not_mem_nil, or_false] at hs
    rcases hs with rfl | rfl | rfl | rfl
    all_goals
      refine ⟨by simp, ?_⟩
      simp -implicitDefEqProofs only [aR', go_sem, T.toSh, T.toShL]
  . rw [List.length_map] at hi
    obtain ⟨b, hx⟩ : ∃ b, BB[i]? = some b := ⟨_, List.getElem?_eq_getElem hi⟩
    have hg : BB.getD i [] = b := by rw [List.getD_eq_getElem?_getD, hx]; rfl
    obtain ⟨hb5, hbc⟩ := hok b (List.mem_of_getElem? hx)
    have hI : (List.map ints BB)[i] = ints b := by
      have : (List.map ints BB)[i]? = some (ints b) := by rw [List.getElem?_map, hx]; rfl
      exact (List.getElem?_eq_some_iff.1 this).2
    rw [hI]
    have hparts := q0eu v hv3 holes b (by omega) (by omega) hbc hb5
    have hS : q1q5 v holes BB (i + 1) = addL (q1q5 v holes BB i) (q1o6 v holes b) := by rw [q1q5, hg]
    have hsb := q1q6 v holes BB i
    have hsl := q1q7 v holes BB i
    have hpl := q1ow v holes b
    have hpb : ∀ x ∈ q1o6 v holes b, 0 <= x /\ x <= 48 := q19z _ _ _
    generalize q1q5 v holes BB i = S0 at hS hsb hsl
    generalize q1o6 v holes b = D at hparts hS hpl hpb
    simp -implicitDefEqProofs only [eR', go_sem, q0lb hi (by omega)]
    refine q006.res hparts [] rfl Try.call58 ?_ (.inl rfl) ?_
    . simp -implicitDefEqProofs only [aR', go_sem]
    simp -implicitDefEqProofs only [cR', go_sem, intsO]
    refine SemC.loopR (σ := Nat) (fun j => St.of [(10, .own 1000000000), (11, .own 1000000001), (28, .own 128), (29, .t (.i D.length)), (30, .t (.i j))] [(1000000000, .box [intsO (adTo S0 D j)]), (1000000001, .box [.i (i + 1 : Nat)]), (128, .arr 1 (D.map T.i))]) (fun j => j <= D.length) (fun j => D.length - j) 0 (Weak.o _ _ [some 1000000000, some 1000000001, some 28] ?_ ?_) (by omega) fun j hj R hn' hr he => ?_
    . simp -implicitDefEqProofs only [wR', Nat.reduceBEq, Nat.reduceEqDiff, ↓reduceIte]
    . refine ⟨⟨_, rfl, by rw [q19p]; exact .refl _⟩, rfl, ⟨_, rfl, .refl _⟩, rfl, ⟨_, rfl, .refl _⟩, rfl, trivial⟩
    . rcases Nat.lt_or_ge j D.length with h9 | h9
      . obtain ⟨y, hy⟩ : ∃ y, D[j]? = some y := ⟨_, List.getElem?_eq_getElem h9⟩
        have hyb := hpb y (List.mem_of_getElem? hy)
        have hyg : D.getD j 0 = y := by rw [List.getD_eq_getElem?_getD, hy]; rfl
        have hset := q19o S0 D j
        rw [hyg] at hset
        have hP : (adTo S0 D j)[j]? = some (S0.getD j 0) := by rw [adTo, q1qj (by omega), if_neg (by omega)]
        have hal : (adTo S0 D j).length = holes.length := by rw [adTo, q1qk, hsl]
        have hSb : 0 <= S0.getD j 0 /\ S0.getD j 0 <= 48 * (i : Int) := by
          obtain ⟨z, hz⟩ : ∃ z, S0[j]? = some z := ⟨_, List.getElem?_eq_getElem (by omega)⟩
          rw [List.getD_eq_getElem?_getD, hz]; exact hsb z (List.mem_of_getElem? hz)
        have hw : IntKind.i64.wrap (S0.getD j 0 + y) = S0.getD j 0 + y := wrap64 (by omega) (by omega)
        simp -implicitDefEqProofs only [eR', go_sem, intsO, hy, hP, hal, hw, decide_eq_true (show (j : Int) < (D.length : Int) by omega)]
        refine ⟨by omega, by omega, by omega, by omega, by omega, by omega, by omega, by omega, by omega, ?_⟩
        refine hn' _ (j + 1) (Weak.trans (Weak.close1 1000000000 0 35 rfl rfl (by decide) rfl) (Weak.o _ _ [some 1000000000, some 1000000001, some 128] ?_ ?_)) (by omega) (by omega)
        . simp -implicitDefEqProofs only [wR', Nat.reduceBEq, Nat.reduceEqDiff, ↓reduceIte, q0lb h9 (by omega)]
        . refine ⟨⟨_, rfl, ?_⟩, rfl, ⟨_, rfl, .refl _⟩, rfl, ⟨_, rfl, .refl _⟩, rfl, trivial⟩
          rw [← hset, intsO, List.map_set]; exact .refl _
      . simp -implicitDefEqProofs only [eR', go_sem, decide_eq_false (show ¬ (j : Int) < (D.length : Int) by omega)]
        refine he _ _ ?_
        rw [show j = S0.length by omega, q19n, ← hS]
        refine ⟨⟨⟨q0fh _, trivial⟩, by simp [T.noSh, T.noShL], trivial⟩, trivial, ?_⟩
        simp only [setS, updS, rootOf, q1rc]
        rfl
  . rw [List.length_map]
    simp -implicitDefEqProofs only [eR', go_sem]
    refine ⟨_, Weak.open 96 0 501 rfl rfl rfl (by decide) rfl, ?_⟩
    simp -implicitDefEqProofs only [eR', go_sem, intsO, show List.lookup 0 [((0 : Nat), (501 : Nat))] = some 501 from rfl]
end

def mx0 (l : List Int) : Int := l.foldl max 0
def half (l : List Int) : List Int := l.map fun x => x / 2
def hvd : Nat -> List Int -> List Int
  | 0, l => l
  | f + 1, l => if mx0 l <= 1000000000 then l else hvd f (half l)

def W (f : Nat) : Int := ((2 ^ (29 + f) : Nat) : Int)
def hw (l : List Int) : List Int × Int := if 1 <= l.length /\ l.length <= 4 /\ ∀ x ∈ l, 0 <= x then (hvd 34 l, 0) else ([], 2)

theorem q1qt (a b : Nat) : ((a : Int).tmod (b : Int)) = ((a % b : Nat) : Int) := by
  rw [Int.tmod_eq_emod_of_nonneg (by omega)]; rfl

theorem q1p5 : ∀ (b a : Nat), a < 9223372036854775808 -> b < 9223372036854775808 -> Pure Try.prog 67 [.i a, .i b] (.i (Nat.gcd a b)) := by
  intro b
  induction b using Nat.strongRecOn with
  | _ b ih =>
    intro a ha hb
    refine q1gy (by simp) ?_
    simp -implicitDefEqProofs only [eR', go_sem, q1c1]
    refine ⟨fun h => ?_, fun h => ?_⟩
    . have : b = 0 := by simpa using h
      subst this
      simp
    . have h0 : b ≠ 0 := by simpa using h
      refine ⟨by omega, ?_⟩
      rw [q1qt]
      have hlt : a % b < b := Nat.mod_lt _ (by omega)
      refine q006.p (ih (a % b) hlt b hb (by omega)) [] rfl Try.call67 ?_ ?_
      . simp -implicitDefEqProofs only [aR', go_sem]
      simp -implicitDefEqProofs only [eR', go_sem]
      rw [Nat.gcd_comm a b, Nat.gcd_rec b a, Nat.gcd_comm]

theorem q1j9 (a b : Nat) (ha : a < 9223372036854775808) (hb : b < 9223372036854775808) : Pure Try.prog 70 [.i a, .i b] (.i (Nat.gcd a b)) := by
  refine q1g1 (by simp) ?_
  simp -implicitDefEqProofs only [eR', go_sem, q1b3]
  refine SemC.loopR (σ := Nat × Nat) (fun s => St.of [(0, .t (.i s.1)), (1, .t (.i s.2))] []) (fun s => s.1 < 9223372036854775808 /\ s.2 < 9223372036854775808 /\ Nat.gcd s.1 s.2 = Nat.gcd a b) (fun s => s.2) (a, b) (Weak.o _ [] [] ?_ trivial) ⟨ha, hb, rfl⟩ fun s hI R hn hr he => ?_
  . simp -implicitDefEqProofs only [ints, rows, wkR, Nat.reduceEqDiff, ↓reduceIte]
  . obtain ⟨x, y⟩ := s
    obtain ⟨hx, hy, hg⟩ := hI
    (try simp only [] at hx hy hg)
    simp -implicitDefEqProofs only [eR', go_sem]
    refine ⟨fun h => ⟨by omega, ?_⟩, fun h => he _ _ ?_⟩
    . have hlt : x % y < y := Nat.mod_lt _ (by omega)
      refine hn _ (y, x % y) (Weak.o _ [] [] ?_ trivial) ⟨hy, by simp only []; omega, ?_⟩ hlt
      . simp -implicitDefEqProofs only [ints, rows, wkR, Nat.reduceEqDiff, ↓reduceIte, q1qt]
      . simp only []
        rw [← hg, Nat.gcd_comm x y, Nat.gcd_rec y x, Nat.gcd_comm]
    . simp -implicitDefEqProofs only [eR', go_sem]
      have : y = 0 := by omega
      subst this
      simp only [Nat.gcd_zero_right] at hg
      rw [hg]

def gcdI (n d : Int) : Nat := Nat.gcd n.natAbs d.natAbs
def q1jw (r : Int × Int) : Bool := decide (-1000000000 <= r.1 /\ r.1 <= 1000000000) && decide (1 <= r.2 /\ r.2 <= 1000000000) && decide (gcdI r.1 r.2 = 1)

theorem q1p4 (n : Int) (h0 : -9223372036854775808 < n) (h1 : n < 9223372036854775808) : Pure Try.prog 68 [.i n] (.i n.natAbs) := by
  refine q1gx (by simp) ?_
  simp -implicitDefEqProofs only [eR', go_sem, q1c0]
  rw [wrap64 (by omega) (by omega)]
  congr 1; congr 1; omega
theorem q1j2 (n : Int) (h0 : -9223372036854775808 < n) (h1 : n < 9223372036854775808) : Pure Try.prog 71 [.i n] (.i n.natAbs) := by
  refine q1ft (by simp) ?_
  simp -implicitDefEqProofs only [eR', go_sem, q1au]
  rw [wrap64 (by omega) (by omega)]
  refine ⟨fun h => ?_, fun h => ?_⟩ <;> (congr 1; congr 1; omega)

theorem q1p3 (a b : Int) (a0 : 0 <= a) (a1 : a < 9223372036854775808) (b0 : 0 <= b) (b1 : b < 9223372036854775808) : Pure Try.prog 67 [.i a, .i b] (.i (gcdI a b)) := by
  have h := q1p5 b.natAbs a.natAbs (by omega) (by omega)
  rw [show ((a.natAbs : Nat) : Int) = a by omega, show ((b.natAbs : Nat) : Int) = b by omega] at h
  exact h
theorem q1ja (a b : Int) (a0 : 0 <= a) (a1 : a < 9223372036854775808) (b0 : 0 <= b) (b1 : b < 9223372036854775808) : Pure Try.prog 70 [.i a, .i b] (.i (gcdI a b)) := by
  have h := q1j9 a.natAbs b.natAbs (by omega) (by omega)
  rw [show ((a.natAbs : Nat) : Int) = a by omega, show ((b.natAbs : Nat) : Int) = b by omega] at h
  exact h
theorem q1hs (n d : Int) : gcdI n.natAbs d = gcdI n d := by simp [gcdI]
theorem q1ht (n d : Int) (h : 0 < d) : 0 < gcdI n d := Nat.gcd_pos_of_pos_right _ (by omega)

def redR (n d : Int) : (Int × Int) × Int :=
  if q1jw (n.tdiv (gcdI n d), d.tdiv (gcdI n d)) then ((n.tdiv (gcdI n d), d.tdiv (gcdI n d)), 0) else ((0, 0), 3)
def redT (x : (Int × Int) × Int) : T := .tup [rat x.1, .i x.2]
theorem q1qq {n : Int} {g : Nat} (h0 : -9223372036854775808 < n) (h1 : n < 9223372036854775808) : IntKind.i64.wrap (n.tdiv (g : Int)) = n.tdiv (g : Int) := by
  have h2 : (n.tdiv (g : Int)).natAbs <= n.natAbs := by
    rw [Int.natAbs_tdiv]; exact Nat.div_le_self _ _
  exact wrap64 (by omega) (by omega)
theorem q1p2 (r : Int × Int) : Pure Try.prog 69 [rat r] (.b (q1jw r)) := by
  obtain ⟨n, d⟩ := r
  refine q1gw (by simp) ?_
  simp -implicitDefEqProofs only [eR', go_sem, q1bz]
  refine q004.pure (q0s4 n (-1000000000) 1000000000) [] rfl Try.call52 (fun e R' hR => ?_) (by first | trivial | simp [T.noSh, T.noShL, rat]) (fun _ => rfl) ?_
  . simp -implicitDefEqProofs only [aR', go_sem]
  simp -implicitDefEqProofs only [eR', go_sem]
  refine ⟨fun h1 h2 => ?_, fun h1 => ?_⟩
  . refine q004.pure (q0s4 d 1 1000000000) [] rfl Try.call52 (fun e R' hR => ?_) (by first | trivial | simp [T.noSh, T.noShL, rat]) (fun _ => rfl) ?_
    . simp -implicitDefEqProofs only [aR', go_sem]
    simp -implicitDefEqProofs only [eR', go_sem]
    refine ⟨fun h3 h4 => ?_, fun h3 => ?_⟩
    . refine q004.pure (q1p4 n (by omega) (by omega)) [] rfl Try.call68 (fun e R' hR => ?_) (by first | trivial | simp [T.noSh, T.noShL, rat]) (fun _ => rfl) ?_
      . simp -implicitDefEqProofs only [aR', go_sem]
      simp -implicitDefEqProofs only [eR', go_sem]
      refine q004.pure (q1p3 n.natAbs d (by omega) (by omega) (by omega) (by omega)) [] rfl Try.call67 (fun e R' hR => ?_) (by first | trivial | simp [T.noSh, T.noShL, rat]) (fun _ => rfl) ?_
      . simp -implicitDefEqProofs only [aR', go_sem]
      simp -implicitDefEqProofs only [eR', go_sem, q1hs]
      rw [q1jw, decide_eq_true ⟨h1, h2⟩, decide_eq_true ⟨h3, h4⟩]
      by_cases h : gcdI n d = 1 <;> simp [h]
      omega
    . rw [q1jw, decide_eq_false (p := 1 <= d /\ d <= 1000000000) (by omega)]; simp
  . rw [q1jw, decide_eq_false (p := -1000000000 <= n /\ n <= 1000000000) (by omega)]; simp

theorem q1j1 (r : Int × Int) : Pure Try.prog 56 [rat r] (.b (q1jw r)) := by
  obtain ⟨n, d⟩ := r
  refine q1fs (by simp) ?_
  simp -implicitDefEqProofs only [eR', go_sem, q1at]
  refine q004.pure (q0f9 n (-1000000000) 1000000000) [] rfl Try.call47 (fun e R' hR => ?_) (by first | trivial | simp [T.noSh, T.noShL, rat]) (fun _ => rfl) ?_
  . simp -implicitDefEqProofs only [aR', go_sem]
  simp -implicitDefEqProofs only [eR', go_sem]
  refine ⟨fun h1 h2 => ?_, fun h1 => ?_⟩
  . refine q004.pure (q0f9 d 1 1000000000) [] rfl Try.call47 (fun e R' hR => ?_) (by first | trivial | simp [T.noSh, T.noShL, rat]) (fun _ => rfl) ?_
    . simp -implicitDefEqProofs only [aR', go_sem]
    simp -implicitDefEqProofs only [eR', go_sem]
    refine ⟨fun h3 h4 => ?_, fun h3 => ?_⟩
    . refine q004.pure (q1j2 n (by omega) (by omega)) [] rfl Try.call71 (fun e R' hR => ?_) (by first | trivial | simp [T.noSh, T.noShL, rat]) (fun _ => rfl) ?_
      . simp -implicitDefEqProofs only [aR', go_sem]
      simp -implicitDefEqProofs only [eR', go_sem]
      refine q004.pure (q1ja n.natAbs d (by omega) (by omega) (by omega) (by omega)) [] rfl Try.call70 (fun e R' hR => ?_) (by first | trivial | simp [T.noSh, T.noShL, rat]) (fun _ => rfl) ?_
      . simp -implicitDefEqProofs only [aR', go_sem]
      simp -implicitDefEqProofs only [eR', go_sem, q1hs]
      rw [q1jw, decide_eq_true ⟨h1, h2⟩, decide_eq_true ⟨h3, h4⟩]
      by_cases h : gcdI n d = 1 <;> simp [h]
      omega
    . rw [q1jw, decide_eq_false (p := 1 <= d /\ d <= 1000000000) (by omega)]; simp
  . rw [q1jw, decide_eq_false (p := -1000000000 <= n /\ n <= 1000000000) (by omega)]; simp

theorem q1p7 (n d : Int) (n0 : -9223372036854775808 < n) (n1 : n < 9223372036854775808) (d0 : 0 < d) (d1 : d < 9223372036854775808) : Fun Try.prog 39 [] [.t (.i n), .t (.i d)] fun o r => o = [] /\ r = redT (redR n d) := by
  refine q1h0 (by simp) ?_
  simp -implicitDefEqProofs only [eR', go_sem, q1c3]
  refine q006.p (q1p4 n n0 n1) [] rfl Try.call68 ?_ ?_
  . simp -implicitDefEqProofs only [aR', go_sem]
  simp -implicitDefEqProofs only [eR', go_sem]
  refine q006.p (q1p3 n.natAbs d (by omega) (by omega) (by omega) d1) [] rfl Try.call67 ?_ ?_
  . simp -implicitDefEqProofs only [aR', go_sem]
  simp -implicitDefEqProofs only [eR', go_sem, q1hs]
  have hg := q1ht n d d0
  refine ⟨by omega, by omega, ?_⟩
  rw [q1qq n0 n1, q1qq (by omega) d1]
  refine q006.p (q1p2 (n.tdiv (gcdI n d), d.tdiv (gcdI n d))) [] rfl Try.call69 ?_ ?_
  . simp -implicitDefEqProofs only [aR', go_sem]
  simp -implicitDefEqProofs only [eR', go_sem]
  rw [redR]
  refine ⟨fun h => ?_, fun h => ?_⟩
  . rw [if_neg (by simpa using h)]; rfl
  . rw [if_pos (by simpa using h)]; rfl

theorem q1jo (n d : Int) (n0 : -9223372036854775808 < n) (n1 : n < 9223372036854775808) (d0 : 0 < d) (d1 : d < 9223372036854775808) : Fun Try.prog 41 [] [.t (.i n), .t (.i d)] fun o r => o = [] /\ r = redT (redR n d) := by
  refine q1ge (by simp) ?_
  simp -implicitDefEqProofs only [eR', go_sem, q1bh]
  refine q006.p (q1j2 n n0 n1) [] rfl Try.call71 ?_ ?_
  . simp -implicitDefEqProofs only [aR', go_sem]
  simp -implicitDefEqProofs only [eR', go_sem]
  refine q006.p (q1ja n.natAbs d (by omega) (by omega) (by omega) d1) [] rfl Try.call70 ?_ ?_
  . simp -implicitDefEqProofs only [aR', go_sem]
  simp -implicitDefEqProofs only [eR', go_sem, q1hs]
  have hg := q1ht n d d0
  refine ⟨by omega, by omega, ?_⟩
  rw [q1qq n0 n1, q1qq (by omega) d1]
  refine q006.p (q1j1 (n.tdiv (gcdI n d), d.tdiv (gcdI n d))) [] rfl Try.call56 ?_ ?_
  . simp -implicitDefEqProofs only [aR', go_sem]
  simp -implicitDefEqProofs only [eR', go_sem]
  rw [redR]
  refine ⟨fun h => ?_, fun h => ?_⟩
  . rw [if_neg (by simpa using h)]; rfl
  . rw [if_pos (by simpa using h)]; rfl

section
attribute [-go_sem] q0i5 q0id fldC lenC idxC q0ip
def q1en (N : Nat) (s : Int) : Int × Int := (redR s (24 * (N : Int))).1
def eqT (v : Int) (holes : List (List Int)) (board dead : List Int) : T :=
  if q1eb v holes board dead = false then .tup [.v (.slice none 0 0), .i 1]
  else if (q1ak holes board dead).length = 0 then .tup [.v (.slice none 0 0), .i 2]
  else .tup [q0p1 ((q1qc v.toNat holes board dead).map (q1en (q1ak holes board dead).length)), .i 0]
theorem q1oz (v : Int) (holes : List (List Int)) (board dead : List Int) (hh : holes.flatten.length <= 2000000) (hhn : holes.length <= 2000000) (hb : board.length <= 2000000) (hd : dead.length <= 2000000) :
    Fun Try.prog 7 [] [.t (.i v), .t (rows holes), .t (ints board), .t (ints dead)] fun o r => o = [] /\ r = eqT v holes board dead := by
  refine q1gt (by simp) ?_
  simp -implicitDefEqProofs only [eR', go_sem, q1bw]
  have hdl := q1p0 v holes board dead hh hhn hb hd
  unfold eqT
  cases hdb : q1eb v holes board dead with
  | false =>
    rw [hdb] at hdl
    refine q006.p hdl [] rfl Try.call24 ?_ ?_
    . simp -implicitDefEqProofs only [aR', go_sem]
    simp -implicitDefEqProofs only [eR', go_sem, show (!false) = true from rfl]
  | true =>
    rw [hdb] at hdl
    refine q006.p hdl [] rfl Try.call24 ?_ ?_
    . simp -implicitDefEqProofs only [aR', go_sem]
    simp -implicitDefEqProofs only [eR', go_sem, show (!true) = false from rfl]
    rw [q1eb, Bool.and_eq_true, decide_eq_true_eq, decide_eq_true_eq] at hdb
    obtain ⟨hv, hp⟩ := hdb
    obtain ⟨k, rfl⟩ : ∃ k : Nat, v = k := ⟨v.toNat, by omega⟩
    rw [Int.toNat_natCast] at hp ⊢
    have hsm := q1py k (by omega) holes board dead hp hh hd
    have hfew := q1al (holes := holes) (dead := dead) hp.2.2.1
    have hsb := q1q6 k holes (q1ak holes board dead) (q1ak holes board dead).length
    have hsl := q1q7 k holes (q1ak holes board dead) (q1ak holes board dead).length
    change ∀ x ∈ q1qc k holes board dead, _ at hsb
    change (q1qc k holes board dead).length = _ at hsl
    have hn4 := hp.2.1
    generalize q1qc k holes board dead = SS at hsm hsb hsl
    generalize (q1ak holes board dead).length = N at hsm hsb hfew
    refine q006.res hsm [] rfl Try.call38 ?_ (.inl rfl) ?_
    . simp -implicitDefEqProofs only [aR', go_sem]
    simp -implicitDefEqProofs only [cR', go_sem]
    rcases Nat.eq_zero_or_pos N with h0 | h0
    . subst h0
      refine ⟨fun _ => ?_, fun h => by simp at h⟩
      rw [if_pos rfl]
    . refine ⟨fun h => by simp at h; omega, fun _ => ?_⟩
      rw [if_neg (by omega)]
      have hmul : IntKind.i64.wrap (24 * (N : Int)) = 24 * (N : Int) := wrap64 (by omega) (by omega)
      refine SemC.loopR (σ := Nat) (fun i => St.of [(10, .own 90), (11, .t (.i N)), (12, .own 92), (13, .t (.i i))] [(90, intsO SS), (92, q0p1 ((SS.take i).map (q1en N)))]) (fun i => i <= SS.length) (fun i => SS.length - i) 0 (Weak.o _ _ [some 27, some 32] ?_ ?_) (by omega) fun i hi R hn' hr he => ?_
      . simp -implicitDefEqProofs only [wR', Nat.reduceBEq, Nat.reduceEqDiff, ↓reduceIte]
      . exact ⟨⟨_, rfl, .refl _⟩, rfl, ⟨_, rfl, .refl _⟩, rfl, trivial⟩
      . rcases Nat.lt_or_ge i SS.length with h9 | h9
        . obtain ⟨x, hx⟩ : ∃ x, SS[i]? = some x := ⟨_, List.getElem?_eq_getElem h9⟩
          have hxb := hsb x (List.mem_of_getElem? hx)
          have hred := q1p7 x (24 * (N : Int)) (by omega) (by omega) (by omega) (by omega)
          have hcl : (ratC ((SS.take i).map (q1en N))).length <= 100 := by
            rw [q0p0, List.length_map, List.length_take]; omega
          simp -implicitDefEqProofs only [eR', go_sem, intsO, hx, hmul, decide_eq_true (show (i : Int) < (SS.length : Int) by omega)]
          refine ⟨by omega, by omega, by omega, ?_⟩
          refine q006.res hred [] rfl Try.call39 ?_ (.inl rfl) ?_
          . simp -implicitDefEqProofs only [aR', go_sem]
          simp -implicitDefEqProofs only [cR', go_sem, redT, q0p1]
          refine ⟨by omega, ?_⟩
          refine hn' _ (i + 1) (Weak.of _ _ [some 90, some 52] (by simp) (by simp) ?_ ⟨⟨_, rfl, .refl _⟩, rfl, ⟨_, rfl, by rw [q0uj hx, List.map_append, q0p1, q1n8]; exact .refl _⟩, rfl, trivial⟩) (by omega) (by omega)
          simp -implicitDefEqProofs only [wR', Nat.reduceBEq, Nat.reduceEqDiff, ↓reduceIte, q0lb h9 (by omega)]
        . simp -implicitDefEqProofs only [eR', go_sem, intsO, decide_eq_false (show ¬ (i : Int) < (SS.length : Int) by omega)]
          refine he _ _ ?_
          rw [List.take_of_length_le h9]
          simp -implicitDefEqProofs only [eR', go_sem]
end

theorem q1km (a b : Int × Int) : Pure Try.prog 42 [rat a, rat b] (.b (decide (a = b))) := by
  obtain ⟨an, ad⟩ := a
  obtain ⟨bn, bd⟩ := b
  refine q1gm (by simp) ?_
  simp -implicitDefEqProofs only [eR', go_sem, q1bp]
  refine ⟨fun h => ?_, fun h => ⟨fun h' => ?_, fun h' => ?_⟩⟩
  . have : an ≠ bn := by simpa using h
    simp [this]
  . have : ad ≠ bd := by simpa using h'
    simp [this]
  . have e1 : an = bn := by simpa using h
    have e2 : ad = bd := by simpa using h'
    simp [e1, e2]

def q1nn (l : List (Int × Int)) (i : Nat) : List (Int × Int) := l.take i ++ List.replicate (l.length - i) (0, 0)
theorem q1np (l : List (Int × Int)) (i : Nat) (h : i <= l.length) : (q1nn l i).length = l.length := by simp [q1nn]; omega
theorem q1no (l : List (Int × Int)) : q1nn l l.length = l := by simp [q1nn]
theorem q1nd : ∀ (n : Nat), made [T.v (.int .i64 0), T.v (.int .i64 0)] n = ratC (List.replicate n (0, 0)) := by
  intro n
  refine List.ext_getElem? fun i => ?_
  have e : made [T.v (.int .i64 0), T.v (.int .i64 0)] n = (List.range (n * 2)).map fun i => [T.v (.int .i64 0), T.v (.int .i64 0)].getD (i % 2) .any := rfl
  rw [e]
  by_cases hi : i < n * 2
  . rw [List.getElem?_map, List.getElem?_range hi]
    have h2 : i / 2 < n := by omega
    have hx : (List.replicate n ((0 : Int), (0 : Int)))[i / 2]? = some (0, 0) := by rw [List.getElem?_replicate, if_pos h2]
    rcases Nat.mod_two_eq_zero_or_one i with h | h
    . have := q1nb hx
      rw [show i / 2 * 2 = i by omega] at this
      rw [this, Option.map_some, h]; rfl
    . have := q1nc hx
      rw [show i / 2 * 2 + 1 = i by omega] at this
      rw [this, Option.map_some, h]; rfl
  . rw [List.getElem?_eq_none (by simpa using hi), List.getElem?_eq_none (by rw [q0p0]; simpa using hi)]
theorem q1ne {l : List (Int × Int)} {i : Nat} (r : Int × Int) (h : i < l.length) : (ratC l).take (i * 2) ++ [T.i r.1, T.i r.2] ++ (ratC l).drop (i * 2 + 2) = ratC (l.set i r) := by
  rw [show i * 2 + 2 = (i + 1) * 2 by omega, q1ng, q1na, ← show ratC [r] = [T.i r.1, T.i r.2] from rfl, ← q1n8, ← q1n8]
  congr 1
  rw [List.set_eq_take_append_cons_drop, if_pos h]; simp
theorem q1nq {l : List (Int × Int)} {i : Nat} {x : Int × Int} (h : l[i]? = some x) : (q1nn l i).set i x = q1nn l (i + 1) := by
  obtain ⟨hi, rfl⟩ := List.getElem?_eq_some_iff.1 h
  rw [q1nn, q1nn, List.set_append_right _ _ (by simp; omega), List.take_succ_eq_append_getElem hi]
  have e : i - (l.take i).length = 0 := by simp; omega
  have e2 : l.length - i = (l.length - (i + 1)) + 1 := by omega
  rw [e, e2, List.replicate_succ, List.set_cons_zero]
  simp only [List.append_assoc, List.cons_append, List.nil_append]

theorem q1kl (a b : List (Int × Int)) (ha : a.length <= 1000000000000) (hb : b.length <= 1000000000000) : Pure Try.prog 11 [rats a, rats b] (.b (decide (a = b))) := by
  refine q1gn (by simp) ?_
  simp -implicitDefEqProofs only [eR', go_sem, q1bq]
  refine ⟨fun h => ?_, fun h => ?_⟩
  . have : a ≠ b := by rintro rfl; simp at h
    simp [this]
  . have hab : a.length = b.length := by simp at h; omega
    refine SemC.loopR (σ := Nat) (fun i => St.of [(0, .t (rats a)), (1, .t (rats b)), (5, .t (.i i))] []) (fun i => i <= a.length /\ ∀ j, j < i -> a[j]? = b[j]?) (fun i => a.length - i) 0 (Weak.o _ [] [] ?_ trivial) ⟨by simp, fun j hj => by omega⟩ fun i hI R hn hr he => ?_
    . simp -implicitDefEqProofs only [ints, rows, wkR, Nat.reduceEqDiff, ↓reduceIte, rats]
    . simp -implicitDefEqProofs only [eR', go_sem]
      refine ⟨fun h => ⟨by omega, by rw [q0p0]; omega, by rw [q0p0]; omega, by omega, by rw [q0p0]; omega, by rw [q0p0]; omega, ?_⟩, fun h => he _ _ ?_⟩
      . obtain ⟨x, hx⟩ : ∃ x, a[i]? = some x := ⟨_, List.getElem?_eq_getElem (by omega)⟩
        obtain ⟨y, hy⟩ : ∃ y, b[i]? = some y := ⟨_, List.getElem?_eq_getElem (by omega)⟩
        rw [q1n9 hx, q1n9 hy]
        refine q004.pure (q1km x y) [] rfl Try.call42 (fun e R' hR => ?_) (by first | trivial | simp [T.noSh, T.noShL, rat]) (fun _ => rfl) ?_
        . simp -implicitDefEqProofs only [aR', go_sem]
        simp -implicitDefEqProofs only [eR', go_sem]
        refine ⟨fun h1 => hr _ ?_, fun h1 => hn _ (i + 1) (Weak.o _ [] [] ?_ trivial) ⟨by omega, fun j hj => ?_⟩ (by omega)⟩
        . simp -implicitDefEqProofs only [eR', go_sem]
          have : a ≠ b := by rintro rfl; rw [hx] at hy; cases hy; simp at h1
          simp [this]
        . simp -implicitDefEqProofs only [ints, rows, wkR, Nat.reduceEqDiff, ↓reduceIte, rats, q0lb (by omega : i < a.length) ha]
        . rcases Nat.lt_or_ge j i with h | h
          . exact hI.2 j h
          . have : j = i := by omega
            subst this
            rw [hx, hy]; simpa using h1
      . simp -implicitDefEqProofs only [eR', go_sem]
        have : a = b := by
          refine List.ext_getElem? fun j => ?_
          rcases Nat.lt_or_ge j i with h | h
          . exact hI.2 j h
          . rw [List.getElem?_eq_none (by omega), List.getElem?_eq_none (by omega)]
        simp [this]

section
attribute [-go_sem] q0i5 q0id fldC lenC idxC q0ip
theorem q1ed {k : Nat} {holes : List (List Int)} {board dead : List Int} (h : q1ec k holes board dead) : holes.flatten ≠ [] := by
  obtain ⟨h1, h2, h3, h4, h5, hcd⟩ := h
  match holes, h1, h5 with
  | x :: l, _, h5 =>
    have hx := h5 x (by simp)
    have : 2 <= hoOf k := by unfold hoOf; split <;> omega
    match x, hx with
    | a :: x', _ => simp
    | [], hx => simp at hx; omega
  | [], h1, _ => exact absurd h1 (by simp)
theorem q1iy (v : Int) (holes : List (List Int)) (board dead : List Int) (hh : holes.flatten.length <= 2000000) (hhn : holes.length <= 2000000) (hb : board.length <= 2000000) (hd : dead.length <= 2000000) :
    Fun Try.prog 10 [] [.t (.i v), .t (rows holes), .t (ints board), .t (ints dead)] fun o r => o = [] /\ r = eqT v holes board dead := by
  refine q1fp (by simp) ?_
  simp -implicitDefEqProofs only [eR', go_sem, q1aq]
  have hdl := q1iz v holes board dead hh hhn hb hd
  unfold eqT
  cases hdb : q1eb v holes board dead with
  | false =>
    rw [hdb] at hdl
    refine q006.p hdl [] rfl Try.call23 ?_ ?_
    . simp -implicitDefEqProofs only [aR', go_sem]
    simp -implicitDefEqProofs only [eR', go_sem, show (!false) = true from rfl]
  | true =>
    rw [hdb] at hdl
    refine q006.p hdl [] rfl Try.call23 ?_ ?_
    . simp -implicitDefEqProofs only [aR', go_sem]
    simp -implicitDefEqProofs only [eR', go_sem, show (!true) = false from rfl]
    rw [q1eb, Bool.and_eq_true, decide_eq_true_eq, decide_eq_true_eq] at hdb
    obtain ⟨hv, hp⟩ := hdb
    obtain ⟨k, rfl⟩ : ∃ k : Nat, v = k := ⟨v.toNat, by omega⟩
    rw [Int.toNat_natCast] at hp ⊢
    have hsm := q1jm k (by omega) holes board dead hp (q1ed hp)
    have hfew := q1al (holes := holes) (dead := dead) hp.2.2.1
    have hsb := q1q6 k holes (q1ak holes board dead) (q1ak holes board dead).length
    have hsl := q1q7 k holes (q1ak holes board dead) (q1ak holes board dead).length
    change ∀ x ∈ q1qc k holes board dead, _ at hsb
    change (q1qc k holes board dead).length = _ at hsl
    have hn4 := hp.2.1
    generalize q1qc k holes board dead = SS at hsm hsb hsl
    generalize (q1ak holes board dead).length = N at hsm hsb hfew
    refine q006.res hsm [] rfl Try.call40 ?_ (.inl rfl) ?_
    . simp -implicitDefEqProofs only [aR', go_sem]
    simp -implicitDefEqProofs only [cR', go_sem, intsO]
    rcases Nat.eq_zero_or_pos N with h0 | h0
    . subst h0
      refine ⟨fun _ => ?_, fun h => by simp at h⟩
      rw [if_pos rfl]
    . refine ⟨fun h => by simp at h; omega, fun _ => ?_⟩
      rw [if_neg (by omega)]
      have hmul : IntKind.i64.wrap (24 * (N : Int)) = 24 * (N : Int) := wrap64 (by omega) (by omega)
      have hml : (SS.map (q1en N)).length = holes.length := by rw [List.length_map, hsl]
      refine ⟨by omega, by omega, ?_⟩
      refine SemC.loopR (σ := Nat) (fun i => St.of [(11, .t (.i N)), (12, .own 83), (34, .own 76), (35, .t (.i SS.length)), (36, .t (.i i))] [(76, intsO SS), (83, .arr 2 (ratC (q1nn (SS.map (q1en N)) i)))]) (fun i => i <= SS.length) (fun i => SS.length - i) 0 (Weak.o _ _ [some 26, some 33] ?_ ?_) (by omega) fun i hi R hn' hr he => ?_
      . simp -implicitDefEqProofs only [wR', Nat.reduceBEq, Nat.reduceEqDiff, ↓reduceIte]
      . exact ⟨⟨_, rfl, .refl _⟩, rfl, ⟨_, rfl, by rw [q1nd, ← hml]; simp only [q1nn, List.take_zero, List.nil_append, Nat.sub_zero]; exact .refl _⟩, rfl, trivial⟩
      . have hrl := q1np (SS.map (q1en N)) i (by omega)
        rcases Nat.lt_or_ge i SS.length with h9 | h9
        . obtain ⟨x, hx⟩ : ∃ x, SS[i]? = some x := ⟨_, List.getElem?_eq_getElem h9⟩
          have hxb := hsb x (List.mem_of_getElem? hx)
          have hred := q1jo x (24 * (N : Int)) (by omega) (by omega) (by omega) (by omega)
          simp -implicitDefEqProofs only [eR', go_sem, intsO, hx, hmul, decide_eq_true (show (i : Int) < (SS.length : Int) by omega)]
          refine ⟨by omega, by omega, by omega, ?_⟩
          refine q006.res hred [] rfl Try.call41 ?_ (.inl rfl) ?_
          . simp -implicitDefEqProofs only [aR', go_sem]
          simp -implicitDefEqProofs only [cR', go_sem, redT, q0p1]
          refine ⟨by omega, by rw [q0p0]; omega, by rw [q0p0]; omega, ?_⟩
          refine hn' _ (i + 1) (Weak.o _ _ [some 76, some 83] ?_ ?_) (by omega) (by omega)
          . simp -implicitDefEqProofs only [wR', Nat.reduceBEq, Nat.reduceEqDiff, ↓reduceIte, q0lb h9 (by omega)]
          . refine ⟨⟨_, rfl, .refl _⟩, rfl, ⟨_, rfl, ?_⟩, rfl, trivial⟩
            have hxr : (SS.map (q1en N))[i]? = some (q1en N x) := by rw [List.getElem?_map, hx]; rfl
            (try simp only [List.cons_append, List.nil_append, List.append_assoc])
            have := q1ne (l := q1nn (SS.map (q1en N)) i) (i := i) (q1en N x) (by omega)
            simp only [List.append_assoc, List.cons_append, List.nil_append] at this
            rw [q1nq hxr] at this
            rw [← this]; exact .refl _
        . simp -implicitDefEqProofs only [eR', go_sem, intsO, decide_eq_false (show ¬ (i : Int) < (SS.length : Int) by omega)]
          refine he _ _ ?_
          rw [show i = (SS.map (q1en N)).length by omega, q1no]
          simp -implicitDefEqProofs only [eR', go_sem, q0p1]
end
def q1eo (v : Int) (holes : List (List Int)) (board dead : List Int) : List (Int × Int) × Int :=
  if q1eb v holes board dead = false then ([], 1)
  else if (q1ak holes board dead).length = 0 then ([], 2)
  else ((q1qc v.toNat holes board dead).map (q1en (q1ak holes board dead).length), 0)
def eqO (x : List (Int × Int) × Int) : T := .tup [q0p1 x.1, .i x.2]
theorem Fun.eqO_nil {P : Program} {f : FuncId} {rin : List T} {args : List A} {x : List (Int × Int) × Int} {y : T} (h : Fun P f rin args fun o r => o = [] /\ r = y) (hy : Le y (eqO x)) : Fun P f rin args fun o r => o = [] /\ r = eqO x :=
  h.le fun o r h1 => ⟨eqO x, by rw [h1.2]; exact hy, h1.1, rfl⟩
theorem q1eq (v : Int) (holes : List (List Int)) (board dead : List Int) : Le (eqT v holes board dead) (eqO (q1eo v holes board dead)) := by
  unfold eqT q1eo
  by_cases h1 : q1eb v holes board dead = false
  . rw [if_pos h1, if_pos h1]; exact .tup2 (.nilArr 2) (.refl _)
  . rw [if_neg h1, if_neg h1]
    by_cases h2 : (q1ak holes board dead).length = 0
    . rw [if_pos h2, if_pos h2]; exact .tup2 (.nilArr 2) (.refl _)
    . rw [if_neg h2, if_neg h2]; exact .refl _
theorem q1em (x : List (Int × Int) × Int) : (eqO x).noSh := ⟨q1nh _, trivial, trivial⟩
theorem q1ep (v : Int) (holes : List (List Int)) (board dead : List Int) : (q1eo v holes board dead).1.length <= 4 := by
  unfold q1eo
  split
  . simp
  . split
    . simp
    . rename_i h1 h2
      have h1 : q1eb v holes board dead = true := by simpa using h1
      rw [q1eb, Bool.and_eq_true, decide_eq_true_eq, decide_eq_true_eq] at h1
      have := h1.2.2.1
      simp only [List.length_map]
      rw [q1qc, q1q7]; exact this
theorem q1ix (v : Int) (holes : List (List Int)) (board dead : List Int) (hh : holes.flatten.length <= 2000000) (hhn : holes.length <= 2000000) (hb : board.length <= 2000000) (hd : dead.length <= 2000000) :
    Fun Try.prog 10 [] [.t (.i v), .t (rows holes), .t (ints board), .t (ints dead)] fun o r => o = [] /\ r = eqO (q1eo v holes board dead) :=
  (q1iy v holes board dead hh hhn hb hd).eqO_nil (q1eq _ _ _ _)
theorem q1oy (v : Int) (holes : List (List Int)) (board dead : List Int) (hh : holes.flatten.length <= 2000000) (hhn : holes.length <= 2000000) (hb : board.length <= 2000000) (hd : dead.length <= 2000000) :
    Fun Try.prog 7 [] [.t (.i v), .t (rows holes), .t (ints board), .t (ints dead)] fun o r => o = [] /\ r = eqO (q1eo v holes board dead) :=
  (q1oz v holes board dead hh hhn hb hd).eqO_nil (q1eq _ _ _ _)

def tot : List (List Int) -> Nat
  | [] => 0
  | r :: m => r.length + tot m
def q13p : List (List Int) -> Int -> List (List Int)
  | [], _ => []
  | r :: m, k => marks r.length k :: q13p m (k + r.length)
theorem q13r : ∀ (m : List (List Int)) (k : Int), (q13p m k).length = m.length
  | [], _ => rfl
  | r :: m, k => by simp [q13p, q13r m]
theorem q140 : ∀ (m m' : List (List Int)), tot (m ++ m') = tot m + tot m'
  | [], m' => by simp [tot]
  | r :: m, m' => by simp [tot, q140 m]; omega
theorem q13q : ∀ (m m' : List (List Int)) (k : Int), q13p (m ++ m') k = q13p m k ++ q13p m' (k + tot m)
  | [], m', k => by simp [q13p, tot]
  | r :: m, m', k => by simp only [List.cons_append, q13p, q13q m, tot]; rw [show k + (r.length : Int) + (tot m : Int) = k + ((r.length + tot m : Nat) : Int) by omega]
theorem q13i (m : List (List Int)) (k : Int) (hm : m.length <= 1000000000000) (ht : tot m <= 100000000000) (h0 : 0 <= k) (h1 : k <= 100000000000) :
    Fun Try.prog 14 [q0qa m] [.own 1000000000, .t (.i k)] fun o r => o = [q0qa (q13p m k)] /\ r = .i (k + tot m) := by
  refine q13a (by simp) ?_
  simp -implicitDefEqProofs only [eR', go_sem, q132, q0qa]
  refine SemC.loopR (σ := Nat) (fun i => St.of [(0, .own 1000000000), (1, .t (.i (k + tot (m.take i)))), (5, .t (.i i))] [(1000000000, .arr 1 ((q13p (m.take i) k ++ m.drop i).map intsO))]) (fun i => i <= m.length) (fun i => m.length - i) 0 (Weak.o _ _ [some 1000000000] ?_ ?_) (by simp) fun i hI R hn hr he => ?_
  . simp -implicitDefEqProofs only [wR', Nat.reduceBEq, Nat.reduceEqDiff, ↓reduceIte, List.take_zero, tot, Int.add_zero]
  . exact ⟨⟨_, rfl, .refl _⟩, rfl, trivial⟩
  . have hlen : (q13p (m.take i) k ++ m.drop i).length = m.length := by simp [q13r]; omega
    simp -implicitDefEqProofs only [eR', go_sem, hlen, intsO]
    refine ⟨fun h => ⟨by omega, by omega, by omega, fun r hrow => ?_⟩, fun h => he _ _ ?_⟩
    . have hi : i < m.length := by omega
      have hr0 : m[i]? = some r := by
        rw [List.getElem?_append_right (by rw [q13r, List.length_take]; omega), q13r, List.length_take, show i - min i m.length = 0 by omega, List.getElem?_drop] at hrow
        simpa using hrow
      have htk : tot (m.take i) + r.length <= tot m := by
        have e := q140 (m.take (i + 1)) (m.drop (i + 1))
        rw [List.take_append_drop, q0uj hr0, q140] at e
        simp only [tot] at e; omega
      have e1 : k + (tot (m.take (i + 1)) : Int) = k + (tot (m.take i) : Int) + (r.length : Int) := by
        rw [q0uj hr0, q140]; simp only [tot]; omega
      refine q006.ref (q13j r (k + tot (m.take i)) (by omega) (by omega) (by omega)) [15] [] rfl Try.call15 (by simp) ?_ (by simp) ?_ (.inl rfl) ?_
      . simp -implicitDefEqProofs only [sR', Nat.reduceEqDiff, ↓reduceIte]
      . simp -implicitDefEqProofs only [aR', go_sem]
      simp -implicitDefEqProofs only [cR', go_sem, intsO]
      refine hn _ (i + 1) (Weak.trans (Weak.join2 Try.prog q0wk (sl 14) (sl 15) rfl rfl rfl rfl (by decide) ?_) (Weak.o _ _ [some 1000000000] ?_ ?_)) (by omega) (by omega)
      . rw [List.length_set, List.length_map, hlen]; omega
      . simp -implicitDefEqProofs only [wR', Nat.reduceBEq, Nat.reduceEqDiff, ↓reduceIte, e1, q0lb (by omega : i < m.length) hm]
      . refine ⟨⟨_, rfl, ?_⟩, rfl, trivial⟩
        rw [q0t9, List.set_set, q0uj hr0, q13q]
        simp only [q13p, List.append_assoc, List.cons_append, List.nil_append]
        rw [List.drop_eq_getElem_cons hi, List.map_append, List.set_append_right _ _ (by rw [List.length_map, q13r, List.length_take]; omega), List.length_map, q13r, List.length_take, show i - min i m.length = 0 by omega, List.map_append]
        exact .refl _
    . simp -implicitDefEqProofs only [eR', go_sem]
      have : i = m.length := by omega
      subst this
      simp [q0qa]

theorem q02v : ∀ {m : List (List Int)} {left : Int}, 0 <= left -> 0 <= q02t m left -> (tot m : Int) <= left
  | [], left, _, _ => by simp [tot]; assumption
  | x :: m, left, h0, h => by
    simp only [q02t] at h
    split at h
    . omega
    . have := q02v (by omega) h
      simp only [tot]; omega
theorem q02s {m : List (List Int)} {left : Int} (h0 : 0 <= left) (h : 0 <= q02q m left) : (tot m : Int) <= left := by
  simp only [q02q] at h
  split at h
  . omega
  . have := q02v (by omega) h; omega

def neg (l : List Int) : List Int := l.map fun x => -x

def without (m : List (List Int)) (r c : Nat) : List (List Int) := (m.eraseIdx r).map fun l => l.eraseIdx c

def parts (full : Nat -> List Int) (cur : List Int) (n i : Nat) : List (List Int) := (List.range n).map fun j => if j < i then full j else if j = i then cur else []

def ones (r : List Int) : List (Int × Int) := r.map fun x => (x, 1)

def q1l0 : Nat -> Int -> List (Int × Int)
  | 0, _ => []
  | n + 1, k => (k, k + 1) :: q1l0 n (k + 2)
theorem q1l1 : ∀ (n : Nat) (k : Int), (q1l0 n k).length = n
  | 0, _ => rfl
  | n + 1, k => by simp [q1l0, q1l1 n]
theorem q1l2 : ∀ (n : Nat) (k : Int), q1l0 (n + 1) k = q1l0 n k ++ [(k + 2 * n, k + 2 * n + 1)]
  | 0, k => by simp [q1l0]
  | n + 1, k => by
    rw [q1l0, q1l2 n (k + 2), q1l0]
    have : k + 2 + 2 * (n : Int) = k + 2 * ((n + 1 : Nat) : Int) := by omega
    rw [this]; rfl
def q1ip : List (Int × Int) -> Int -> Int
  | [], k => k
  | x :: l, k => if x.1 = k then (if x.2 = k + 1 then q1ip l (k + 2) else -1) else -1
theorem q1iq : ∀ (n : Nat) (k : Int), q1ip (q1l0 n k) k = k + 2 * n
  | 0, k => by simp [q1l0, q1ip]
  | n + 1, k => by simp [q1l0, q1ip, q1iq n (k + 2)]; omega
def q1mz (l : List (Int × Int)) (k : Int) (i : Nat) : List (Int × Int) := q1l0 i k ++ l.drop i
theorem q1n0 (l : List (Int × Int)) (k : Int) (i : Nat) (h : i <= l.length) : (q1mz l k i).length = l.length := by simp [q1mz, q1l1]; omega
theorem q1n1 {l : List (Int × Int)} {i : Nat} (k : Int) (h : i < l.length) : (q1mz l k i).set i (k + 2 * i, k + 2 * i + 1) = q1mz l k (i + 1) := by
  rw [q1mz, q1mz, q1l2, List.drop_eq_getElem_cons h, List.set_append_right _ _ (by rw [q1l1]; omega), q1l1, Nat.sub_self]
  simp only [List.set_cons_zero, List.append_assoc, List.cons_append, List.nil_append]
theorem q1nf {l : List (Int × Int)} {i : Nat} (a b : Int) (h : i < l.length) : ((ratC l).set (i * 2) (T.i a)).set (i * 2 + 1) (T.i b) = ratC (l.set i (a, b)) := by
  have h0 : i * 2 < (ratC l).length := by rw [q0p0]; omega
  have h1 : i * 2 + 1 < (ratC l).length := by rw [q0p0]; omega
  rw [← q1ne (a, b) h]
  refine List.ext_getElem? fun j => ?_
  rw [List.getElem?_set, List.getElem?_set, List.length_set]
  by_cases e1 : i * 2 + 1 = j
  . subst e1
    rw [if_pos rfl, if_pos h1, List.append_assoc, List.getElem?_append_right (by rw [List.length_take]; omega), List.length_take, Nat.min_eq_left (by omega)]
    have : i * 2 + 1 - i * 2 = 1 := by omega
    rw [this]; rfl
  . rw [if_neg e1]
    by_cases e0 : i * 2 = j
    . subst e0
      rw [if_pos rfl, if_pos h0, List.append_assoc, List.getElem?_append_right (by rw [List.length_take]; omega), List.length_take, Nat.min_eq_left (by omega), Nat.sub_self]; rfl
    . rw [if_neg e0]
      rcases Nat.lt_or_ge j (i * 2) with hj | hj
      . rw [List.append_assoc, List.getElem?_append_left (by rw [List.length_take]; omega), List.getElem?_take, if_pos hj]
      . rw [List.getElem?_append_right (by simp; omega), List.getElem?_drop]
        congr 1; simp; omega

theorem q1ko (l : List (Int × Int)) (k : Int) (hl : l.length <= 100000000000) (h0 : 0 <= k) (h1 : k <= 1000000000000) :
    Fun Try.prog 16 [q0p1 l] [.own 1000000000, .t (.i k)] fun o r => o = [q0p1 (q1l0 l.length k)] /\ r = .i (k + 2 * l.length) := by
  refine q1gp (by simp) ?_
  simp -implicitDefEqProofs only [eR', go_sem, q1bs, q0p1]
  refine SemC.loopR (σ := Nat) (fun i => St.of [(0, .own 1000000000), (1, .t (.i (k + 2 * i))), (5, .t (.i i))] [(1000000000, .arr 2 (ratC (q1mz l k i)))]) (fun i => i <= l.length) (fun i => l.length - i) 0 (Weak.o _ _ [some 1000000000] ?_ ?_) (by simp) fun i hI R hn hr he => ?_
  . simp -implicitDefEqProofs only [wR', Nat.reduceBEq, Nat.reduceEqDiff, ↓reduceIte, Int.mul_zero]
  . exact ⟨⟨_, rfl, by simp only [q1mz, q1l0, List.drop_zero, List.nil_append]; exact .refl _⟩, rfl, trivial⟩
  . have hlen := q1n0 l k i hI
    have hrl : (ratC (q1mz l k i)).length = l.length * 2 := by rw [q0p0, hlen]
    simp -implicitDefEqProofs only [eR', go_sem, hrl, hlen]
    refine ⟨fun h => ⟨by omega, by omega, ?_⟩, fun h => he _ _ ?_⟩
    . have hil : i < l.length := by omega
      have w1 : IntKind.i64.wrap (k + 2 * (i : Int) + 1) = k + 2 * i + 1 := wrap64 (by omega) (by omega)
      have w2 : IntKind.i64.wrap (k + 2 * (i : Int) + 1 + 1) = k + 2 * ((i + 1 : Nat) : Int) := by rw [wrap64 (by omega) (by omega)]; omega
      refine ⟨by omega, by omega, by omega, by omega, hn _ (i + 1) (Weak.o _ _ [some 1000000000] ?_ ?_) (by omega) (by omega)⟩
      . simp -implicitDefEqProofs only [wR', Nat.reduceBEq, Nat.reduceEqDiff, ↓reduceIte, w1, w2, q0lb (by omega : i < l.length) (by omega)]
      . refine ⟨⟨_, rfl, ?_⟩, rfl, trivial⟩
        rw [w1, q1nf _ _ (by omega), q1n1 k hil]
        exact .refl _
    . simp -implicitDefEqProofs only [eR', go_sem]
      have : i = l.length := by omega
      subst this
      rw [q1mz, List.drop_of_length_le (Nat.le_refl _), List.append_nil]; exact ⟨rfl, rfl⟩

theorem q1kn (l : List (Int × Int)) (k : Int) (hl : l.length <= 100000000000) (h0 : 0 <= k) (h1 : k <= 1000000000000) :
    Pure Try.prog 17 [rats l, .i k] (.i (q1ip l k)) := by
  refine q1go (by simp) ?_
  simp -implicitDefEqProofs only [eR', go_sem, q1br]
  refine SemC.loopR (σ := Nat) (fun i => St.of [(0, .t (rats l)), (1, .t (.i (k + 2 * i))), (5, .t (.i i))] []) (fun i => i <= l.length /\ q1ip (l.drop i) (k + 2 * i) = q1ip l k) (fun i => l.length - i) 0 (Weak.o _ [] [] ?_ trivial) (by simp) fun i hI R hn hr he => ?_
  . simp -implicitDefEqProofs only [ints, rows, wkR, Nat.reduceEqDiff, ↓reduceIte, rats, Int.mul_zero]
  . simp -implicitDefEqProofs only [eR', go_sem]
    have hd := hI.2
    refine ⟨fun h => ⟨by omega, by rw [q0p0]; omega, ?_⟩, fun h => he _ _ ?_⟩
    . have hil : i < l.length := by omega
      obtain ⟨x, hx⟩ : ∃ x, l[i]? = some x := ⟨_, List.getElem?_eq_getElem hil⟩
      rw [q08a hx, q1ip] at hd
      have w1 : IntKind.i64.wrap (k + 2 * (i : Int) + 1) = k + 2 * i + 1 := wrap64 (by omega) (by omega)
      have w2 : IntKind.i64.wrap (k + 2 * (i : Int) + 1 + 1) = k + 2 * ((i + 1 : Nat) : Int) := by rw [wrap64 (by omega) (by omega)]; omega
      simp -implicitDefEqProofs only [eR', go_sem, q1nb hx, q1nc hx, w1, w2]
      refine ⟨by rw [q0p0]; omega, fun h1 => hr _ ?_, fun h1 => ⟨by omega, by rw [q0p0]; omega, by rw [q0p0]; omega, fun h2 => hr _ ?_, fun h2 => hn _ (i + 1) (Weak.o _ [] [] ?_ trivial) ⟨by omega, ?_⟩ (by omega)⟩⟩
      . simp -implicitDefEqProofs only [eR', go_sem]
        rw [if_neg (by simpa using h1)] at hd
        rw [hd]
      . simp -implicitDefEqProofs only [eR', go_sem]
        rw [if_pos (by simpa using h1), if_neg (by simpa using h2)] at hd
        rw [hd]
      . simp -implicitDefEqProofs only [ints, rows, wkR, Nat.reduceEqDiff, ↓reduceIte, rats, w1, w2, q0lb (by omega : i < l.length) (by omega)]
      . rw [if_pos (by simpa using h1), if_pos (by simpa using h2)] at hd
        rw [← hd]; congr 1; omega
    . simp -implicitDefEqProofs only [eR', go_sem]
      rw [List.drop_of_length_le (by omega), q1ip] at hd
      rw [hd]

theorem q1ao : ∀ (m : List (List Int)) {left : Int}, 0 <= left -> q02t m left <= left
  | [], left, h => by simp [q02t]
  | r :: m, left, h => by
    rw [q02t]
    split
    . omega
    . have := q1ao m (left := left - r.length) (by omega); omega
theorem q1an {m : List (List Int)} {left : Int} (h : 0 <= left) : q02q m left <= left := by
  rw [q02q]; split
  . omega
  . have := q1ao m (left := left - m.length) (by omega); omega

theorem q1fd : ∀ m : List (List Int), m.flatten.length = tot m
  | [] => rfl
  | r :: m => by rw [List.flatten_cons, List.length_append, q1fd m, tot]

theorem q1kk (v : Int)  (m : List (List Int)) (hm : (m.length : Int) <= 9223372036854775807) (hmr : ∀ r ∈ m, (r.length : Int) <= 9223372036854775807) (b : List Int) (hb : (b.length : Int) <= 9223372036854775807) (d : List Int) (hd : (d.length : Int) <= 9223372036854775807) : Pure Try.prog 3 [.i v, rows m, ints b, ints d] (.b true) := by
  refine q1gl (by simp) ?_
  simp -implicitDefEqProofs only [eR', go_sem, q1bo]
  refine ⟨fun _ => trivial, fun hb2 => ?_⟩
  refine ⟨fun _ => trivial, fun hb3 => ?_⟩
  refine q006.p (q0hl m 1048576 hm hmr (by omega) (by omega)) [] rfl Try.call6 ?_ ?_
  . simp -implicitDefEqProofs only [aR', go_sem]
  simp -implicitDefEqProofs only [eR', go_sem]
  refine ⟨fun _ => trivial, fun hb1 => ?_⟩
  obtain ⟨hm1, hmr1⟩ := q02r (m := m) (left := 1048576) (by omega) (by omega)
  have hmt := q02s (m := m) (left := 1048576) (by omega) (by omega)
  have hmb := q1an (m := m) (left := 1048576) (by omega)
  have hm2 : (m.length : Int) <= 1000000000000 := by omega
  have hmr2 : ∀ r ∈ m, (r.length : Int) <= 1000000000000 := fun r h => by have := hmr1 r h; omega
  have hmr3 : ∀ r ∈ m, r.length <= 1000000000000 := fun r h => by have := hmr1 r h; omega
  have hfl := q1fd m
  have hf01 := (q1ep v m b d)
  refine q006.res (q0hr m hm2 hmr2) [] rfl Try.call8 ?_ (.inl rfl) ?_
  . simp -implicitDefEqProofs only [aR', go_sem]
  simp -implicitDefEqProofs only [cR', go_sem]
  refine q006.res (q0hs b (by omega)) [] rfl Try.call9 ?_ (.inl rfl) ?_
  . simp -implicitDefEqProofs only [aR', go_sem]
  simp -implicitDefEqProofs only [cR', go_sem]
  refine q006.res (q0hs d (by omega)) [] rfl Try.call9 ?_ (.inl rfl) ?_
  . simp -implicitDefEqProofs only [aR', go_sem]
  simp -implicitDefEqProofs only [cR', go_sem]
  refine q006.res (q1oy v m b d (by omega) (by omega) (by omega) (by omega)) [36, 38, 40] rfl Try.call7 ?_ (.inr (q1em _)) ?_
  . simp -implicitDefEqProofs only [aR', go_sem]
  simp -implicitDefEqProofs only [cR', go_sem, eqO, not_true_eq_false, decide_false]
  refine q006.res (q0hr m hm2 hmr2) [] rfl Try.call8 ?_ (.inl rfl) ?_
  . simp -implicitDefEqProofs only [aR', go_sem]
  simp -implicitDefEqProofs only [cR', go_sem]
  refine q006.res (q0hs b (by omega)) [] rfl Try.call9 ?_ (.inl rfl) ?_
  . simp -implicitDefEqProofs only [aR', go_sem]
  simp -implicitDefEqProofs only [cR', go_sem]
  refine q006.res (q0hs d (by omega)) [] rfl Try.call9 ?_ (.inl rfl) ?_
  . simp -implicitDefEqProofs only [aR', go_sem]
  simp -implicitDefEqProofs only [cR', go_sem]
  refine q006.res (q1ix v m b d (by omega) (by omega) (by omega) (by omega)) [45, 47, 49] rfl Try.call10 ?_ (.inr (q1em _)) ?_
  . simp -implicitDefEqProofs only [aR', go_sem]
  simp -implicitDefEqProofs only [cR', go_sem, eqO, not_true_eq_false, decide_false]
  refine q006.p (q1kl (q1eo v m b d).1 (q1eo v m b d).1 (by omega) (by omega)) [55, 41] rfl Try.call11 ?_ ?_
  . simp -implicitDefEqProofs only [aR', go_sem]
  simp -implicitDefEqProofs only [eR', go_sem]
  refine q006.res (q0hr m hm2 hmr2) [] rfl Try.call8 ?_ (.inl rfl) ?_
  . simp -implicitDefEqProofs only [aR', go_sem]
  simp -implicitDefEqProofs only [cR', go_sem]
  refine q006.p (q0hf m m (by omega) (by omega) hmr3 hmr3) [45, 69] rfl Try.call12 ?_ ?_
  . simp -implicitDefEqProofs only [aR', go_sem]
  simp -implicitDefEqProofs only [eR', go_sem]
  refine q006.res (q0hs b (by omega)) [] rfl Try.call9 ?_ (.inl rfl) ?_
  . simp -implicitDefEqProofs only [aR', go_sem]
  simp -implicitDefEqProofs only [cR', go_sem]
  refine q006.p (q0hg b b (by omega) (by omega)) [47, 74] rfl Try.call13 ?_ ?_
  . simp -implicitDefEqProofs only [aR', go_sem]
  simp -implicitDefEqProofs only [eR', go_sem]
  refine q006.res (q0hs d (by omega)) [] rfl Try.call9 ?_ (.inl rfl) ?_
  . simp -implicitDefEqProofs only [aR', go_sem]
  simp -implicitDefEqProofs only [cR', go_sem]
  refine q006.p (q0hg d d (by omega) (by omega)) [49, 79] rfl Try.call13 ?_ ?_
  . simp -implicitDefEqProofs only [aR', go_sem]
  simp -implicitDefEqProofs only [eR', go_sem]
  refine q006.ref (q13i m 1 (by omega) (by omega) (by omega) (by omega)) [45] [] rfl Try.call14 (by simp) ?_ (by simp) ?_ (.inl rfl) ?_
  . simp -implicitDefEqProofs only [sR', Nat.reduceEqDiff, ↓reduceIte]
  . simp -implicitDefEqProofs only [aR', go_sem]
  simp -implicitDefEqProofs only [cR', go_sem]
  refine q006.ref (q13j b (1 + tot m) (by omega) (by omega) (by omega)) [47] [] rfl Try.call15 (by simp) ?_ (by simp) ?_ (.inl rfl) ?_
  . simp -implicitDefEqProofs only [sR', Nat.reduceEqDiff, ↓reduceIte]
  . simp -implicitDefEqProofs only [aR', go_sem]
  simp -implicitDefEqProofs only [cR', go_sem]
  refine q006.ref (q13j d ((1 + tot m) + b.length) (by omega) (by omega) (by omega)) [49] [] rfl Try.call15 (by simp) ?_ (by simp) ?_ (.inl rfl) ?_
  . simp -implicitDefEqProofs only [sR', Nat.reduceEqDiff, ↓reduceIte]
  . simp -implicitDefEqProofs only [aR', go_sem]
  simp -implicitDefEqProofs only [cR', go_sem]
  refine ⟨fun _ => ?_, fun h => absurd h (by omega)⟩
  refine q006.p (q1kl (q1eo v m b d).1 (q1eo v m b d).1 (by omega) (by omega)) [55, 41] rfl Try.call11 ?_ ?_
  . simp -implicitDefEqProofs only [aR', go_sem]
  simp -implicitDefEqProofs only [eR', go_sem]
  refine q006.ref (q1ko (q1eo v m b d).1 1 (by omega) (by omega) (by omega)) [55] [] rfl Try.call16 (by simp) ?_ (by simp) ?_ (.inl rfl) ?_
  . simp -implicitDefEqProofs only [sR', Nat.reduceEqDiff, ↓reduceIte]
  . simp -implicitDefEqProofs only [aR', go_sem]
  simp -implicitDefEqProofs only [cR', go_sem]
  have hheld0 := q1iq (q1eo v m b d).1.length 1
  refine q006.p (q1kn (q1l0 (q1eo v m b d).1.length 1) 1 (by rw [q1l1]; omega) (by omega) (by omega)) [55] rfl Try.call17 ?_ ?_
  . simp -implicitDefEqProofs only [aR', go_sem]
  simp -implicitDefEqProofs only [eR', go_sem, hheld0]
  refine ⟨fun h => absurd h (by omega), fun _ => ?_⟩
  refine q006.res (q0hr m hm2 hmr2) [] rfl Try.call8 ?_ (.inl rfl) ?_
  . simp -implicitDefEqProofs only [aR', go_sem]
  simp -implicitDefEqProofs only [cR', go_sem]
  refine q006.res (q0hs b (by omega)) [] rfl Try.call9 ?_ (.inl rfl) ?_
  . simp -implicitDefEqProofs only [aR', go_sem]
  simp -implicitDefEqProofs only [cR', go_sem]
  refine q006.res (q0hs d (by omega)) [] rfl Try.call9 ?_ (.inl rfl) ?_
  . simp -implicitDefEqProofs only [aR', go_sem]
  simp -implicitDefEqProofs only [cR', go_sem]
  refine q006.res (q1ix v m b d (by omega) (by omega) (by omega) (by omega)) [118, 120, 122] rfl Try.call10 ?_ (.inr (q1em _)) ?_
  . simp -implicitDefEqProofs only [aR', go_sem]
  simp -implicitDefEqProofs only [cR', go_sem, eqO, not_true_eq_false, decide_false]
  refine q006.p (q1kl (q1eo v m b d).1 (q1eo v m b d).1 (by omega) (by omega)) [123, 41] rfl Try.call11 ?_ ?_
  . simp -implicitDefEqProofs only [aR', go_sem]
  simp -implicitDefEqProofs only [eR', go_sem]
  refine q006.p (q1kn (q1l0 (q1eo v m b d).1.length 1) 1 (by rw [q1l1]; omega) (by omega) (by omega)) [55] rfl Try.call17 ?_ ?_
  . simp -implicitDefEqProofs only [aR', go_sem]
  simp -implicitDefEqProofs only [eR', go_sem, hheld0]
  exact ⟨fun h => absurd h (by omega), fun _ => trivial⟩
end Go.Ab

namespace Go.Proofs.Ytjeefbiiagflhaa
open Go.ChangeShapes Go.WideShapes Go.ChangeAt Go.RowKit Go.Ab

namespace fnExactEquitiesOf
theorem said : ∀ xs, wtL [(.int .i64), q0wm, (.sl 1 (.int .i64)), (.sl 1 (.int .i64))] xs -> Pure Try.prog 3 xs (.b true)
  | [x0, x1, x2, x3], h => by
    obtain ⟨v, rfl, _⟩ := q0xt h.1
    obtain ⟨m, rfl, hm, hmr⟩ := q0xw h.2.1
    obtain ⟨b, rfl, hb, _⟩ := q0xu h.2.2.1
    obtain ⟨d, rfl, hd, _⟩ := q0xu h.2.2.2.1
    exact q1kk v  m (by omega) (fun r h => by have := (hmr r h).1; omega) b (by omega) d (by omega)
  | [], h => h.elim
  | [_], h => h.2.elim
  | [_, _], h => h.2.2.elim
  | [_, _, _], h => h.2.2.2.elim
  | _ :: _ :: _ :: _ :: _ :: _, h => h.2.2.2.2.elim

set_option maxRecDepth 100000 in
theorem lifted (os : Os) (started : os.Started) (H : Type) (enc : TypeId × Value -> H) :
    ReturnsInHanded {} Try.checked os 3 .any (Rows.fnExactEquitiesOfSpec.pre6 enc Try.prog Try.f3 Rows.fnExactEquitiesOfRow.domain false) (Rows.fnExactEquitiesOfSpec.post enc Try.prog Try.f3 false true false false) := by
  refine returnsInHanded_of_change (C := Try.checked) (by kernel_rfl) started (by kernel_rfl) Try.func3
    (ChangeSpec.witness6 (enc := enc) (C := Try.checked) false ⟨#[], #[.int .i64 0, .slice none 0 0, .slice none 0 0, .slice none 0 0], []⟩ 8 (by kernel_rfl) (by kernel_rfl) (by kernel_rfl) (by kernel_rfl)) ?_
  intro W base args ds gs before hval hW _ _
  refine q0hc (tys := [(.int .i64), q0wm, (.sl 1 (.int .i64)), (.sl 1 (.int .i64))]) (by kernel_rfl) (by kernel_rfl) rfl (by kernel_rfl) rfl (fun ds h => ?_) said W base args ds gs before hval hW
  match ds, h with
  | [d0, d1, d2, d3], _ => rfl

theorem andT {a b : Bool} (ha : a = true) (hb : b = true) : (a && b) = true := by rw [ha, hb]; rfl
theorem q0g8 : ((Rows.fnExactEquitiesOfRow.wf (OpenSpec.ofChange Rows.fnExactEquitiesOfSpec))) = true := by kernel_rfl
theorem q0g9 : (laidOutB Try.prog) = true := Try.laidOutT
theorem q0gk : (mapsRowed Try.prog) = true := Try.mapsRowedT
theorem q0gv : (Try.f3.params.all (Try.prog.readableRec ·)) = true := by kernel_rfl
theorem q0gy : (namedTie Try.prog Rows.fnExactEquitiesOfRow.named Rows.fnExactEquitiesOfSpec.vars) = true := by kernel_rfl
theorem q0gz : ((Rows.fnExactEquitiesOfRow.stops == [])) = true := by kernel_rfl
theorem q0h0 : ((Try.prog.stops == [])) = true := by kernel_rfl
theorem q0h1 : ((Rows.fnExactEquitiesOfRow.knobs == [])) = true := by kernel_rfl
theorem q0h2 : ((Try.prog.stopKnobs == [])) = true := by kernel_rfl
theorem q0h3 : ((Rows.fnExactEquitiesOfRow.inPlace == Try.prog.inPlace 3)) = true := by kernel_rfl
theorem q0ga : ((Rows.fnExactEquitiesOfRow.unfollowed == Try.prog.unfollowed 3)) = true := by kernel_rfl
theorem q0gb : ((Rows.fnExactEquitiesOfRow.recurses == Try.prog.recurses 3)) = true := by kernel_rfl
theorem q0gc : ((Rows.fnExactEquitiesOfRow.named == Try.prog.varsNamed 3)) = true := by kernel_rfl
theorem q0gd : ((Rows.fnExactEquitiesOfRow.maps == (Try.f3.params.toList ++ Rows.fnExactEquitiesOfSpec.plain.varTypes Try.prog).any (Try.prog.mapsRec ·))) = true := by kernel_rfl
theorem q0ge : ((Rows.fnExactEquitiesOfRow.ifaces == (Try.f3.params.toList ++ Rows.fnExactEquitiesOfSpec.plain.varTypes Try.prog).any (Try.prog.ifacesRec ·))) = true := by kernel_rfl
theorem q0gf : ((Rows.fnExactEquitiesOfRow.mapsOut == Try.prog.mapsAmong Try.f3.resultTypes.toList)) = true := by kernel_rfl
theorem q0gg : ((Rows.fnExactEquitiesOfRow.loops == (Try.f3.params.toList ++ Rows.fnExactEquitiesOfSpec.plain.varTypes Try.prog).any (Try.prog.loopsFrom ·))) = true := by kernel_rfl
theorem q0gh : ((Rows.fnExactEquitiesOfRow.wideKeys == (Try.f3.params.toList ++ Rows.fnExactEquitiesOfSpec.plain.varTypes Try.prog ++ Try.f3.resultTypes.toList).any (Try.prog.wideKeysFrom ·))) = true := by kernel_rfl
theorem q0gi : (Rows.fnExactEquitiesOfSpec.vars.all (Try.prog.varReadable ·)) = true := by kernel_rfl
theorem q0gj : (Try.f3.resultTypes.all (fun t => Try.prog.readableRec t && decide (t < Try.prog.types.size))) = true := by kernel_rfl
theorem q0gl : ((Rows.fnExactEquitiesOfRow.ifacesOut == Try.f3.resultTypes.toList.any (Try.prog.ifacesRec ·))) = true := by kernel_rfl
theorem q0gm : ((Rows.fnExactEquitiesOfRow.loopsOut == Try.f3.resultTypes.toList.any (Try.prog.loopsFrom ·))) = true := by kernel_rfl
theorem q0gn : ((Rows.fnExactEquitiesOfRow.plainKeys == Try.prog.plainKeys)) = true := by kernel_rfl
theorem q0go : (Rows.fnExactEquitiesOfRow.shortTexts.isNone) = true := by kernel_rfl
theorem q0gp : (Try.prog.stopsHeard) = true := Try.heardT
theorem q0gq : (Try.prog.mayEnter) = true := Try.mayEnterT
theorem q0gr : ((Rows.fnExactEquitiesOfRow.lifted == Try.prog.liftsFinal)) = true := (by rw [Try.liftsF]; rfl)
theorem q0gs : ((Try.prog.make == some Rows.fnExactEquitiesOfRow.make)) = true := (by rw [Try.makeC]; rfl)
theorem q0gt : ((Rows.fnExactEquitiesOfRow.kinds == (if Rows.fnExactEquitiesOfRow.domain.isEmpty then [] else Try.f3.params.toList.map fun t => match Try.prog.underlying t with | some (.int k) => some k | _ => none))) = true := by kernel_rfl
theorem q0gu : ((Rows.fnExactEquitiesOfRow.pinned == Rows.fnExactEquitiesOfRow.pinnedBy)) = true := by kernel_rfl
theorem q0gw : ((Rows.fnExactEquitiesOfRow.veiled == (Try.f3.params.toList ++ Rows.fnExactEquitiesOfSpec.plain.varTypes Try.prog ++ Try.f3.resultTypes.toList).any (Try.prog.veiledRec ·))) = true := by kernel_rfl
theorem q0gx : (Rows.fnExactEquitiesOfRow.veiledFits Try.prog Try.f3.params.toList (Try.f3.params.toList ++ Rows.fnExactEquitiesOfSpec.plain.varTypes Try.prog ++ Try.f3.resultTypes.toList)) = true := by kernel_rfl
set_option maxRecDepth 100000 in
theorem joined : joinedFacts Try.prog 3 Try.f3 Rows.fnExactEquitiesOfSpec Rows.fnExactEquitiesOfRow = true := by
  unfold joinedFacts
  exact andT (andT (andT (andT (andT (andT (andT (andT (andT (andT (andT (andT (andT (andT (andT (andT (andT (andT (andT (andT (andT (andT (andT (andT (andT (andT (andT (andT (andT (andT (andT (q0g8) q0g9) q0gk) q0gv) q0gy) q0gz) q0h0) q0h1) q0h2) q0h3) q0ga) q0gb) q0gc) q0gd) q0ge) q0gf) q0gg) q0gh) q0gi) q0gj) q0gl) q0gm) q0gn) q0go) q0gp) q0gq) q0gr) q0gs) q0gt) q0gu) q0gw) q0gx
theorem over : Rows.fnExactEquitiesOfRow.holds Try.pinned (OpenSpec.ofChange Rows.fnExactEquitiesOfSpec) :=
  OpenClaim.holds_of_wide 3 Try.f3 rfl rfl rfl rfl rfl rfl rfl ⟨rfl, rfl, rfl, rfl, rfl⟩ rfl rfl rfl rfl rfl (by kernel_rfl) Try.func3 joined
    (of_decide_eq_true (by kernel_rfl)) (by unfold Func.isWrapper; first | (rw [if_pos (by decide +kernel)]; kernel_rfl) | (rw [if_neg (by decide +kernel)]; exact ⟨rfl, rfl⟩))
    (fun os started H enc _ => lifted os started H enc)
end fnExactEquitiesOf

theorem fnExactEquitiesOf_holds : Rows.FnExactEquitiesOfSaid := fnExactEquitiesOf.over
#print axioms fnExactEquitiesOf_holds
end Go.Proofs.Ytjeefbiiagflhaa
